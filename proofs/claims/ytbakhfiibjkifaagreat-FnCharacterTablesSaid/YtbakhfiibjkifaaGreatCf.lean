/- Texts joined: Cs3 Cs4 Cs5. -/
import Derived.Test.YtbakhfiibjkifaaGreatCe
set_option linter.all false
/- The reference's kernels and common spaces. -/
namespace Go.Proofs.YtbakhfiibjkifaaGreat
open Go.RowKit
set_option maxRecDepth 1000000
theorem c2B{a:AV}{xs:List Int}{p:Nat}(ha:isL a xs)(hx:xs.length≤a0G)(hp:p<xs.length)(h1:atI xs p≠0)(h2: ∀j,j<p→atI xs j=0):a0d Tryz.prog 165 [a] (i64 (p:Int)):=by
 have hx':xs.length≤4294967296:=hx
 refine a0e (fn:=Tryz.f165) (code:=a0b Tryz.f165) Tryz.func165 rfl (by kernel_rfl) (rfl) ?_
 intro sl hs
 have s0:sl 0=a:=hs 0
 dsimp only[Tryz.f165,a0b,Option.getD]
 refine Yae ?_
 refine a0f (fun i st=>st.sl 0=a∧st.sl 3=i64 (i:Int)) p ?_ ?_ ?_
 ·refine Yaf ?_
  rfl
 ·rintro i sl ro gn hi ⟨s0,s3⟩
  dsimp only at s0 s3
  have hi':(i:Int)<(p:Nat):=by omega
  have hil:i<xs.length:=by omega
  have hil':(i:Int)<xs.length:=by omega
  have h0:=h2 i hi
  simp(disch:=first|assumption|omega) only[go_sem,s0,s3,hil',eq_true h0]
  exact a0w (by omega)
 ·rintro sl ro gn ⟨s0,s3⟩
  dsimp only at s0 s3
  have hi': ¬((p:Nat):Int)<(p:Nat):=by omega
  have hil':(p:Int)<xs.length:=by omega
  simp(disch:=first|assumption|omega) only[go_sem,s0,s3,hil',eq_false h1]
  exact Yaa
theorem c0N{a:AV}(ha:a2t a []):a0d Tryz.prog 147 [a] (.row []):=by
 have c1:=b0B ha (by simp[a0G]) (fun i hi=>by simp at hi)
 rw[show rws (fun x=>a0H (row ([]:List (List Int)) x)) ([]:List (List Int)).length=[]from rfl]at c1
 have h0: ¬(0:Int)<((0:Nat):Int):=by omega
 have h1:(0:Int)≤((0:Nat):Int):=by omega
 have h2:((0:Nat):Int)≤((0:Nat):Int):=by omega
 refine a0e (fn:=Tryz.f147) (code:=a0b Tryz.f147) Tryz.func147 rfl (by kernel_rfl) (a1i _ rfl) ?_
 intro sl hs
 have s0:sl 0=a:=hs 0
 dsimp only[Tryz.f147,a0b,Option.getD]
 refine Yae ?_
 refine a0c _ c1 PUt rfl rfl ?_
 simp(disch:=first|assumption|omega) only[go_sem,a0i]
 refine a0f (fun z st=>st.sl 3= .ref 8208 1 [] 0 0∧st.ro 8208 1=some (.row [])∧st.sl 4=i64 ((0:Nat):Int)∧st.sl 5=i64 ((0:Nat):Int)) 0 ?_ ?_ ?_
 ·refine Yaf ?_
  repeat' first|rfl|apply And.intro
 ·rintro z sl ro gn hz ⟨s3,r8208,s4,s5⟩
  dsimp only at s3 r8208 s4 s5
  have hz':(z:Int)<(0:Nat):=by omega
  omega
 ·rintro sl ro gn ⟨s3,r8208,s4,s5⟩
  dsimp only at s3 r8208 s4 s5
  have hz': ¬((0:Nat):Int)<(0:Nat):=by omega
  simp(disch:=first|assumption|omega) only[go_sem,s3,r8208,s4,h0,undef,a3p,Option.map_none,Option.map_some]
  simp only[zr,a1Z,a1H,a2g,zes,zhk, ↓za, ↓reduceIte,r8208]
theorem c2g{G:Nat→Nat→Int}{n k r:Nat}(h:Piv n k r G)(hr:r≤n){i:Nat}(hi:i<r):fsr G k i<k∧G i (fsr G k i)≠0∧ ∀j,j<fsr G k i→G i j=0:=by
 have h1:=c3n h hi hr
 obtain⟨f1,f2,f3,f4⟩:=a3T (fun j=>!decide (G i j=0)) 0 k
 unfold fsr at h1 ⊢
 refine⟨h1,?_,fun j hj=>?_⟩
 ·have:=f4 (by omega)
  simpa using this
 ·have:=f3 j (Nat.zero_le _) hj
  simpa using this
theorem b5d(M:Nat→Nat→Int)(n m:Nat):a2o M n m=a0I (a1r M n m):=(a4Z M n m).symm
theorem b4y{a:AV}{m n:Nat}{M:Nat→Nat→Int}(ha:a2t a (a1r M m n))(h0:0<m)(hm:m≤65536)(hn0:0<n)(hn:n≤65536)(hM:a1G M):
  a0d Tryz.prog 150 [a] (a2o (gj (frc (fsr (gj m M n).1 n) (gj m M n).2.1 n).length (krM (gj m M n).1 (fsr (gj m M n).1 n) (gj m M n).2.1 n) n).1 (krN (gj m M n).1 (gj m M n).2.1 n) n):=by
 have hml:(a1r M m n).length=m:=a0x _ _ _
 have hr0:=a0m ha (k:=0) (by omega)
 have lr0:(row (a1r M m n) 0).length=n:=a1t h0
 have cb:=b2m ha h0 hm hn hM
 have hp:=a6E (n:=m) hM n
 have hrm:=(a3o (n:=m) hM n).2.1
 have hR:=(a3o (n:=m) hM n).1
 unfold krN
 generalize (gj m M n).1=R at*
 generalize (gj m M n).2.1=r at*
 have hf: ∀i,i<r→fsr R n i<n∧R i (fsr R n i)≠0∧ ∀j,j<fsr R n i→R i j=0:=fun i hi=>c2g hp hrm hi
 have hrn:=hp.le
 generalize fsr R n=p at*
 have hrr:a0j (rws (fun i=>AV.row (rws (fun j=>i64 (R i j)) n)) r)=true:=a1h R r n
 refine a0e (fn:=Tryz.f150) (code:=a0b Tryz.f150) Tryz.func150 rfl (by kernel_rfl) (a1h _ _ _) ?_
 intro sl hs
 have s0:sl 0=a:=hs 0
 dsimp only[Tryz.f150,a0b,Option.getD]
 refine Yae ?_
 refine a0A _ cb PUt rfl ?_
 simp(maxSteps:=10000000) (disch:=first|assumption|omega) only[go_sem,Int.reduceToNat,s0,a0i,zfe,lr0,a0B hr0]
 refine a0r (by kernel_rfl) ?_
 refine Yae ?_
 refine a0f (fun i st=>st.sl 3= .ref 8208 1 [] 0 r∧st.ro 8208 1=some (a2o R r n)∧st.sl 4=i64 (n:Nat)∧st.sl 5= .ref 12288 (st.gn 12288) [] 0 i∧st.ro 12288 (st.gn 12288)=some (.row (rws (fun i=>i64 (p i:Nat)) i))∧st.sl 6= .ref 12304 (st.gn 12304) [] 0 0∧st.ro 12304 (st.gn 12304)=some (.row [])∧st.sl 7=i64 (i:Int)) r ?_ ?_ ?_
 ·refine Yaf ?_
  repeat' first|rfl|apply And.intro
 ·rintro i sl ro gn hi ⟨s3,r8208,s4,s5,r12288,s6,r12304,s7⟩
  dsimp only at s3 r8208 s4 s5 r12288 s6 r12304 s7
  have hi':(i:Int)<(r:Nat):=by omega
  have hi2:i+1≤4294967296:=by omega
  obtain⟨q1,q2,q3⟩:=hf i hi
  have er: ∀j,j<n→atI (rws (fun j=>R i j) n) j=R i j:=fun j hj=>a0P _ hj
  have cf:=c2B (a0n (rws (fun j=>R i j) n)) (by rw[zfe];unfold a0G;omega) (p:=p i) (by rw[zfe];exact q1) (by rw[er _ q1];exact q2) (fun j hj=>by rw[er _ (by omega)];exact q3 j hj)
  have hX:(a1r R r n)[i]?=some (rws (fun j=>R i j) n):=a0l _ _ _ hi
  simp(disch:=first|assumption|omega) only[go_sem,s3,r8208,s5,s7,hi',hi,a0l,zfe]
  refine a0z _ cf (.cons (a4L (X:=a1r R r n) (by first|(rw[←b5d];exact r8208)|(simp only[↓za, ↓reduceIte,Nat.reduceEqDiff,zb,reduceCtorEq];rw[←b5d];exact r8208)) hX (by rw[zfe]) (by decide)) .nil) rfl rfl rfl ?_
  simp(disch:=first|assumption|omega) only[go_sem,s3,r8208,s4,r12288,s6,r12304,s7,hi2]
  exact a0w (by omega)
 ·rintro sl ro gn ⟨s3,r8208,s4,s5,r12288,s6,r12304,s7⟩
  dsimp only at s3 r8208 s4 s5 r12288 s6 r12304 s7
  have hi': ¬((r:Nat):Int)<(r:Nat):=by omega
  simp(disch:=first|assumption|omega) only[go_sem,s3,r8208,s7,hi']
  refine a0f (fun k st=>st.sl 3= .ref 8208 1 [] 0 r∧st.ro 8208 1=some (a2o R r n)∧st.sl 4=i64 (n:Nat)∧st.sl 5= .ref 12288 (st.gn 12288) [] 0 r∧st.ro 12288 (st.gn 12288)=some (.row (rws (fun i=>i64 (p i:Nat)) r))∧st.sl 6= .ref 12304 (st.gn 12304) [] 0 (frc p r k).length∧st.ro 12304 (st.gn 12304)=some (.row ((frc p r k).map fun c=> .row (rws (fun j=>i64 (kvc R p c r j)) n)))∧st.sl 8=i64 (k:Int)) n ?_ ?_ ?_
  ·simp only[↓za, ↓reduceIte,Nat.reduceEqDiff,zb,s3,r8208,s4,s5,r12288,s6,r12304]
   repeat' first|rfl|apply And.intro
  ·rintro k sl ro gn hk ⟨s3,r8208,s4,s5,r12288,s6,r12304,s8⟩
   dsimp only at s3 r8208 s4 s5 r12288 s6 r12304 s8
   have hk':(k:Int)<(n:Nat):=by omega
   have hfl:=b0O p r k
   have hfl2:(frc p r k).length+1≤4294967296:=by omega
   have ch:=c88 (n:=(k:Int)) (a0n (rws (fun i=>((p i:Nat):Int)) r)) (by rw[zfe];unfold a0G;omega)
   have hiff:decide (0≤ix (rws (fun i=>((p i:Nat):Int)) r) k 0)=isP p r k:=by
    cases h:isP p r k with
    |true=>
     obtain⟨i,hi,e⟩:=a9Z.1 h
     exact decide_eq_true ((b8T (fun i=>((p i:Nat):Int)) r k).2 ⟨i,hi,by omega⟩)
    |false=>
     refine decide_eq_false fun h2=>?_
     obtain⟨i,hi,e⟩:=(b8T (fun i=>((p i:Nat):Int)) r k).1 h2
     have:isP p r k=true:=a9Z.2 ⟨i,hi,by omega⟩
     rw[h]at this;cases this
   rw[hiff]at ch
   refine Yft ?_
   refine a0z _ ch (.cons (a0q (xs:=rws (fun i=>((p i:Nat):Int)) r) (by rw[r12288,a0H,a0y]) (zfe _ _).symm (by decide)) (.cons (a1f _ _ _ (by decide)) .nil)) rfl rfl rfl ?_
   cases hk2:isP p r k with
   |true=>
    have e:frc p r (k+1)=frc p r k:=by show frc p r k++(if isP p r k=true then []else [k])=_;rw[if_pos hk2,List.append_nil]
    refine Yft ?_
    rw[e]
    exact⟨rfl,rfl,a0w (by omega)⟩
   |false=>
    have e:frc p r (k+1)=frc p r k++ [k]:=by show frc p r k++(if isP p r k=true then []else [k])=_;rw[hk2];rfl
    have hm':(n:Int)≤((4294967296:Nat):Int):=by omega
    simp(disch:=first|assumption|omega) only[go_sem,s4,s8,b0i,Int.natCast_nonneg,Int.le_refl,List.getD_cons_zero,a5o,hm',hk]
    refine a0f (fun i st=>st.sl 3= .ref 8208 1 [] 0 r∧st.ro 8208 1=some (a2o R r n)∧st.sl 4=i64 (n:Nat)∧st.sl 5= .ref 12288 (st.gn 12288) [] 0 r∧st.ro 12288 (st.gn 12288)=some (.row (rws (fun i=>i64 (p i:Nat)) r))∧st.sl 6= .ref 12304 (st.gn 12304) [] 0 (frc p r k).length∧st.ro 12304 (st.gn 12304)=some (.row ((frc p r k).map fun c=> .row (rws (fun j=>i64 (kvc R p c r j)) n)))∧st.sl 8=i64 (k:Int)∧st.sl 9= .ref 49168 (st.gn 49168) [] 0 n∧st.ro 49168 (st.gn 49168)=some (.row (rws (fun j=>i64 (kvc R p k i j)) n))∧st.sl 10=i64 (i:Int)) r ?_ ?_ ?_
    ·simp only[↓za, ↓reduceIte,Nat.reduceEqDiff,zb,s3,r8208,s4,s5,r12288,s6,r12304,s8]
     refine⟨congrArg some (congrArg AV.row ?_),rfl⟩
     rw[a0X]
     refine a0g fun j _=>?_
     show _=i64 (if j=k then 1 else 0)
     split<;>rfl
    ·rintro i sl ro gn hi ⟨s3,r8208,s4,s5,r12288,s6,r12304,s8,s9,r49168,s10⟩
     dsimp only at s3 r8208 s4 s5 r12288 s6 r12304 s8 s9 r49168 s10
     have hi':(i:Int)<(r:Nat):=by omega
     obtain⟨q1,q2,q3⟩:=hf i hi
     have q1':p i+1≤n:=q1
     have nR:=hR i k
     unfold num at nR
     simp(disch:=first|assumption|omega) only[go_sem,s3,r8208,s5,r12288,s8,s9,s10,hi',hi,a0l,hk]
     refine a0A _ (a8s (x:=0-R i k) (by omega) (by omega)) PUt rfl ?_
     simp(disch:=first|assumption|omega) only[go_sem,r49168,q1,q1',zfe]
     refine a0r (by kernel_rfl) ?_
     simp(disch:=first|assumption|omega) only[go_sem,s3,r8208,s4,s5,r12288,s6,r12304,s8,s9,s10]
     refine⟨congrArg some (congrArg AV.row ?_),a0w (by omega)⟩
     rw[a0X]
     refine a0g fun j _=>?_
     show _=i64 (if j=p i then(0-R i k) % 55441 else kvc R p k i j)
     split<;>rfl
    ·rintro sl ro gn ⟨s3,r8208,s4,s5,r12288,s6,r12304,s8,s9,r49168,s10⟩
     dsimp only at s3 r8208 s4 s5 r12288 s6 r12304 s8 s9 r49168 s10
     have hi': ¬((r:Nat):Int)<(r:Nat):=by omega
     simp(disch:=first|assumption|omega) only[go_sem,s3,r8208,s4,s5,r12288,s6,r12304,s8,s9,r49168,s10,hi',zfe,hfl2]
     rw[e]
     refine⟨by rw[List.length_append];rfl,?_,a0w (by omega)⟩
     rw[List.take_of_length_le (by rw[List.length_map];exact Nat.le_refl _),List.map_append]
     rfl
  ·rintro sl ro gn ⟨s3,r8208,s4,s5,r12288,s6,r12304,s8⟩
   dsimp only at s3 r8208 s4 s5 r12288 s6 r12304 s8
   have hk': ¬((n:Nat):Int)<(n:Nat):=by omega
   have hnf:=b0O p r n
   have eK:AV.row ((frc p r n).map fun c=>AV.row (rws (fun j=>i64 (kvc R p c r j)) n))=a2o (krM R p r n) (frc p r n).length n:=by
    refine congrArg AV.row ?_
    apply List.ext_getElem?
    intro x
    by_cases hx:x<(frc p r n).length
    ·rw[a0l _ _ _ hx,List.getElem?_map,List.getElem?_eq_getElem hx]
     unfold krM
     rw[List.getD_eq_getElem?_getD,List.getElem?_eq_getElem hx]
     rfl
    ·rw[List.getElem?_eq_none (by rw[List.length_map];omega),List.getElem?_eq_none (by rw[zfe];omega)]
   rw[eK]at r12304
   have hKn:=c0w R p r n
   generalize krM R p r n=K at*
   generalize (frc p r n).length=nf at*
   have hgk:=(a3o (n:=nf) hKn n).2.1
   have co2:a0d Tryz.prog 71 [a2x (a1r (gj nf K n).1 (gj nf K n).2.1 n)] (a2o (gj nf K n).1 (gj nf K n).2.1 n):=by
    have c1:=b0B (a1g (gj nf K n).1 (gj nf K n).2.1 n) (by rw[a0x];unfold a0G;omega) (fun i hi=>by rw[a0x]at hi;rw[a1t hi];unfold a0G;omega)
    rw[a3v]at c1
    exact c1
   have cb2:a0d Tryz.prog 147 [a2x (a1r K nf n)] (a2o (gj nf K n).1 (gj nf K n).2.1 n):=by
    by_cases h9:nf=0
    ·subst h9
     have e0:(gj 0 K n).2.1=0:=by omega
     rw[e0]
     exact c0N (a1g K 0 n)
    ·exact b2m (a1g K nf n) (by omega) (by omega) hn hKn
   simp(disch:=first|assumption|omega) only[go_sem,s4,s6,s8,hk']
   refine a0z _ cb2 (.cons (a3c (by first|exact r12304|(simp only[↓za, ↓reduceIte,Nat.reduceEqDiff,zb,reduceCtorEq];exact r12304)) (by decide)) .nil) rfl rfl (a2a _ _ _) ?_
   refine Yfb ?_
   refine a0z _ co2 (.cons (a3c Ur (by decide)) .nil) rfl rfl (a2a _ _ _) ?_
   refine Yfb ?_
   exact Yaa
def krA(n:Nat)(q:(Nat→Nat→Int)×Nat):AV:=a2o (gj (frc (fsr (gj q.2 q.1 n).1 n) (gj q.2 q.1 n).2.1 n).length (krM (gj q.2 q.1 n).1 (fsr (gj q.2 q.1 n).1 n) (gj q.2 q.1 n).2.1 n) n).1 (krN (gj q.2 q.1 n).1 (gj q.2 q.1 n).2.1 n) n
def cmA(n:Nat)(q:(Nat→Nat→Int)×Nat):AV:=if q.2=0 then a2o unM n n else krA n q
theorem b6h(n:Nat)(q:(Nat→Nat→Int)×Nat):a0C (cmA n q)=true:=by
 unfold cmA krA
 split<;>exact a1h _ _ _
theorem b9W{a b:AV}{K n:Nat}{T:Nat→Nat→Nat→Int}{vs:List Int}(ha:a0F a (rws (fun k=>a1r (T k) n n) K))(hb:isL b vs)(hK:0<K)(hv:K≤vs.length)(hKm:K≤1000)(h0:0<n)(hn:n≤1000)(hT: ∀k,a1G (T k))(nv:a2s vs):
  a0d Tryz.prog 124 [a,b] (cmA n (cmn n (fun k=>lsM (T k) (atI vs k)) K)):=by
 have hl:(rws (fun k=>a1r (T k) n n) K).length=K:=zfe _ _
 have nL: ∀k,a1G (lsM (T k) (atI vs k)):=fun k=>a3C (hT k) _
 refine a0e (fn:=Tryz.f124) (code:=a0b Tryz.f124) Tryz.func124 rfl (by kernel_rfl) (b6h _ _) ?_
 intro sl hs
 have s0:sl 0=a:=hs 0
 have s1:sl 1=b:=hs 1
 dsimp only[Tryz.f124,a0b,Option.getD]
 simp(disch:=first|assumption|omega) only[go_sem]
 refine a0f (fun k st=>st.sl 0=a∧st.sl 1=b∧st.sl 6=i64 (k:Int)∧(((st.sl 5= .ref 8192 (st.gn 8192) [] 0 (cmn n (fun k=>lsM (T k) (atI vs k)) k).2∧st.ro 8192 (st.gn 8192)=some (a2o (cmn n (fun k=>lsM (T k) (atI vs k)) k).1 (cmn n (fun k=>lsM (T k) (atI vs k)) k).2 n))∨(st.sl 5= .ref 24752 (st.gn 24752) [] 0 (cmn n (fun k=>lsM (T k) (atI vs k)) k).2∧st.ro 24752 (st.gn 24752)=some (a2o (cmn n (fun k=>lsM (T k) (atI vs k)) k).1 (cmn n (fun k=>lsM (T k) (atI vs k)) k).2 n))))) K ?_ ?_ ?_
 ·refine Yac ?_
  exact⟨rfl,.inl ⟨rfl,rfl⟩⟩
 ·rintro k sl ro gn hk ⟨s0,s1,s6,q⟩
  dsimp only at s0 s1 s6
  have hk':(k:Int)<(K:Nat):=by omega
  dsimp only at q
  have hm:=a0o ha (k:=k) (by rw[hl];exact hk)
  have em:mat (rws (fun k=>a1r (T k) n n) K) k=a1r (T k) n n:=by unfold mat;rw[List.getD_eq_getElem?_getD,a0l _ _ _ hk];rfl
  rw[em]at hm
  have c1:k<vs.length:=by omega
  have cl:=c3w (v:=atI vs k) hm (by omega) (hT k) (nv k)
  have hr:=b1z (n:=n) nL k
  have hrn:(cmn n (fun k=>lsM (T k) (atI vs k)) k).2+n≤4294967296:=by omega
  have hA1:=a8A (f:=fun i=>rws (fun j=>i64 (lsM (T k) (atI vs k) i j)) n) h0
  have hA2:=a9t (f:=fun i=>rws (fun j=>i64 (lsM (T k) (atI vs k) i j)) n) (n:=n)
  rcases q with⟨p5,pr⟩|⟨p5,pr⟩
  ·have hnr1:a0j (rws (fun i=>AV.row (rws (fun j=>i64 ((cmn n (fun k=>lsM (T k) (atI vs k)) k).1 i j)) n)) (cmn n (fun k=>lsM (T k) (atI vs k)) k).2)=true:=a1h _ _ _
   have hnr2:a0j (rws (fun i=>AV.row (rws (fun j=>i64 (lsM (T k) (atI vs k) i j)) n)) n)=true:=a1h _ _ _
   refine Yey ?_
   refine a0A _ cl PUt rfl ?_
   refine Ydi ?_
   rw[a5M]
   refine a1V _ (b2m (a1g (stk (cmn n (fun k=>lsM (T k) (atI vs k)) k).2 (cmn n (fun k=>lsM (T k) (atI vs k)) k).1 (lsM (T k) (atI vs k))) ((cmn n (fun k=>lsM (T k) (atI vs k)) k).2+n) n) (by omega) (by omega) (by omega) (a3E (a2v nL k) (nL k))) (.cons (a3c Ur (by decide)) .nil) rfl (a2a _ _ _) ?_
   have hnr3:a0j (rws (fun i=>AV.row (rws (fun j=>i64 (stk (cmn n (fun k=>lsM (T k) (atI vs k)) k).2 (cmn n (fun k=>lsM (T k) (atI vs k)) k).1 (lsM (T k) (atI vs k)) i j)) n)) ((cmn n (fun k=>lsM (T k) (atI vs k)) k).2+n))=true:=a1h _ _ _
   refine Ygq ?_
   refine a0r (by kernel_rfl) ?_
   simp(disch:=first|assumption|omega) only[go_sem,s0,s1,s6]
   exact⟨a0w (by omega),.inr ⟨rfl,rfl⟩⟩
  ·have hnr1:a0j (rws (fun i=>AV.row (rws (fun j=>i64 ((cmn n (fun k=>lsM (T k) (atI vs k)) k).1 i j)) n)) (cmn n (fun k=>lsM (T k) (atI vs k)) k).2)=true:=a1h _ _ _
   have hnr2:a0j (rws (fun i=>AV.row (rws (fun j=>i64 (lsM (T k) (atI vs k) i j)) n)) n)=true:=a1h _ _ _
   refine Yey ?_
   refine a0A _ cl PUt rfl ?_
   refine Ydi ?_
   rw[a5M]
   refine a1V _ (b2m (a1g (stk (cmn n (fun k=>lsM (T k) (atI vs k)) k).2 (cmn n (fun k=>lsM (T k) (atI vs k)) k).1 (lsM (T k) (atI vs k))) ((cmn n (fun k=>lsM (T k) (atI vs k)) k).2+n) n) (by omega) (by omega) (by omega) (a3E (a2v nL k) (nL k))) (.cons (a3c Ur (by decide)) .nil) rfl (a2a _ _ _) ?_
   have hnr3:a0j (rws (fun i=>AV.row (rws (fun j=>i64 (stk (cmn n (fun k=>lsM (T k) (atI vs k)) k).2 (cmn n (fun k=>lsM (T k) (atI vs k)) k).1 (lsM (T k) (atI vs k)) i j)) n)) ((cmn n (fun k=>lsM (T k) (atI vs k)) k).2+n))=true:=a1h _ _ _
   refine Ygq ?_
   refine a0r (by kernel_rfl) ?_
   simp(disch:=first|assumption|omega) only[go_sem,s0,s1,s6]
   exact⟨a0w (by omega),.inr ⟨rfl,rfl⟩⟩
 ·rintro sl ro gn ⟨s0,s1,s6,q⟩
  dsimp only at s0 s1 s6
  have hk': ¬((K:Nat):Int)<(K:Nat):=by omega
  dsimp only at q
  have hm:=a0o ha (k:=0) (by rw[hl];exact hK)
  have em:mat (rws (fun k=>a1r (T k) n n) K) 0=a1r (T 0) n n:=by unfold mat;rw[List.getD_eq_getElem?_getD,a0l _ _ _ hK];rfl
  rw[em]at hm
  have lm:(a1r (T 0) n n).length=n:=a0x _ _ _
  rcases q with⟨p5,pr⟩|⟨p5,pr⟩
  ·by_cases hz:(cmn n (fun k=>lsM (T k) (atI vs k)) K).2=0
   ·have hz':(((cmn n (fun k=>lsM (T k) (atI vs k)) K).2:Nat):Int)=0:=by omega
    have e:cmA n (cmn n (fun k=>lsM (T k) (atI vs k)) K)=a2o unM n n:=by unfold cmA;rw[if_pos hz]
    rw[e]
    refine Ydo ?_
    refine a0c _ (c2D (n:=n) (by unfold a0G;omega)) PUt rfl rfl ?_
    refine Ycp ?_
    exact Yaa
   ·have hz': ¬(((cmn n (fun k=>lsM (T k) (atI vs k)) K).2:Nat):Int)=0:=by omega
    have e:cmA n (cmn n (fun k=>lsM (T k) (atI vs k)) K)=krA n (cmn n (fun k=>lsM (T k) (atI vs k)) K):=by unfold cmA;rw[if_neg hz]
    rw[e]
    unfold krA
    have hcl:=b1z (n:=n) nL K
    have hcn:=a2v (n:=n) nL K
    generalize (cmn n (fun k=>lsM (T k) (atI vs k)) K).1=M at*
    generalize (cmn n (fun k=>lsM (T k) (atI vs k)) K).2=m at*
    refine Yfu ?_
    refine a0z _ (b4y (a1g M m n) (by omega) (by omega) h0 (by omega) hcn) (.cons (a3c (by first|exact pr|(simp only[↓za, ↓reduceIte,Nat.reduceEqDiff,zb,reduceCtorEq];exact pr)) (by decide)) .nil) rfl rfl (a2a _ _ _) ?_
    refine Ycp ?_
    exact Yaa
  ·by_cases hz:(cmn n (fun k=>lsM (T k) (atI vs k)) K).2=0
   ·have hz':(((cmn n (fun k=>lsM (T k) (atI vs k)) K).2:Nat):Int)=0:=by omega
    have e:cmA n (cmn n (fun k=>lsM (T k) (atI vs k)) K)=a2o unM n n:=by unfold cmA;rw[if_pos hz]
    rw[e]
    refine Ydo ?_
    refine a0c _ (c2D (n:=n) (by unfold a0G;omega)) PUt rfl rfl ?_
    refine Ycp ?_
    exact Yaa
   ·have hz': ¬(((cmn n (fun k=>lsM (T k) (atI vs k)) K).2:Nat):Int)=0:=by omega
    have e:cmA n (cmn n (fun k=>lsM (T k) (atI vs k)) K)=krA n (cmn n (fun k=>lsM (T k) (atI vs k)) K):=by unfold cmA;rw[if_neg hz]
    rw[e]
    unfold krA
    have hcl:=b1z (n:=n) nL K
    have hcn:=a2v (n:=n) nL K
    generalize (cmn n (fun k=>lsM (T k) (atI vs k)) K).1=M at*
    generalize (cmn n (fun k=>lsM (T k) (atI vs k)) K).2=m at*
    refine Yfu ?_
    refine a0z _ (b4y (a1g M m n) (by omega) (by omega) h0 (by omega) hcn) (.cons (a3c (by first|exact pr|(simp only[↓za, ↓reduceIte,Nat.reduceEqDiff,zb,reduceCtorEq];exact pr)) (by decide)) .nil) rfl rfl (a2a _ _ _) ?_
    refine Ycp ?_
    exact Yaa
theorem c2a{c a:AV}{T:List (List (List Int))}{xs:List Int}(hc:a0F c T)(hT:a1e T)(ha:isL a xs)(hl:xs.length=T.length)(nx:a2s xs){t:Bool}(ht:t=true↔chP T xs):
  a0d Tryz.prog 57 [.agg [c],a] (bo t):=by
 obtain⟨t1,t16,hcu⟩:=id hT
 have cn:=c4l ha (by rw[hl];unfold a0G;omega) (t:=true) ⟨fun _ k hk=>by have:=nx k;unfold num at this;omega,fun _=>rfl⟩
 have hl':(xs.length:Int)=T.length:=by omega
 have hx0:0<xs.length:=by omega
 refine a0e (fn:=Tryz.f57) (code:=a0b Tryz.f57) Tryz.func57 rfl (by kernel_rfl) (rfl) ?_
 intro sl hs
 have s0:sl 0= .agg [c]:=hs 0
 have s1:sl 1=a:=hs 1
 by_cases h1:atI xs 0=1
 ·dsimp only[Tryz.f57,a0b,Option.getD]
  refine Ycm ?_
  refine a0c _ cn PUt rfl rfl ?_
  simp(maxSteps:=10000000) (disch:=first|assumption|omega) only[go_sem,s1,a4K ha hx0,eq_true h1]
  refine a0f (fun i st=>st.sl 1=a∧st.sl 2= .ptr 4096 1 [] 0∧st.ro 4096 1=some (.bx [c])∧st.sl 5=i64 (T.length:Nat)∧st.sl 6=i64 (i:Int)∧(∀i',i'<i→ ∀j,j<T.length→b8Q T xs i' j)) T.length ?_ ?_ ?_
  ·refine Yac ?_
   exact⟨rfl,fun i' h=>absurd h (Nat.not_lt_zero _)⟩
  ·rintro i sl ro gn hi ⟨s1,s2,r4096,s5,s6,q⟩
   dsimp only at s1 s2 r4096 s5 s6
   have hi':(i:Int)<(T.length:Nat):=by omega
   have hm:=a0o hc hi
   have lm:(mat T i).length=T.length:=(hcu i hi).1
   have hxi:i<xs.length:=by omega
   simp(maxSteps:=10000000) (disch:=first|assumption|omega) only[go_sem,s5,s6,hi']
   refine a0f (fun j st=>st.sl 1=a∧st.sl 2= .ptr 4096 1 [] 0∧st.ro 4096 1=some (.bx [c])∧st.sl 5=i64 (T.length:Nat)∧st.sl 6=i64 (i:Int)∧st.sl 7=i64 (j:Int)∧(∀j',j'<j→b8Q T xs i j')) T.length ?_ ?_ ?_
   ·simp only[↓za, ↓reduceIte,Nat.reduceEqDiff,zb,s1,s2,r4096,s5,s6]
    exact⟨rfl,fun j' h=>absurd h (Nat.not_lt_zero _)⟩
   ·rintro j sl ro gn hj ⟨s1,s2,r4096,s5,s6,s7,q2⟩
    dsimp only at s1 s2 r4096 s5 s6 s7
    have hj':(j:Int)<(T.length:Nat):=by omega
    have hjm:j<(mat T i).length:=by omega
    have hr:=a0m hm hjm
    have lr:(row (mat T i) j).length=T.length:=((hcu i hi).2 j hj).1
    have hxj:j<xs.length:=by omega
    have cd:=c102 hr ha (by rw[lr];unfold a0G;omega) (by omega) (b1G hT i j) nx
    rw[lr]at cd
    have ni:=nx i
    have nj:=nx j
    unfold num at ni nj
    have hmul:=a6N ni.1 (show atI xs i≤55440 by omega) nj.1 (show atI xs j≤55440 by omega)
    have htm:Int.tmod (atI xs i*atI xs j) 55441=atI xs i*atI xs j % 55441:=Int.tmod_eq_emod_of_nonneg (by omega)
    by_cases he:atI xs i*atI xs j % 55441=sm (fun k=>at3 T i j k*atI xs k) T.length % 55441
    ·refine Ybx ?_
     refine a0A _ cd PUt rfl ?_
     simp(maxSteps:=10000000) (disch:=first|assumption|omega) only[go_sem,eq_true he]
     refine a0r (by kernel_rfl) ?_
     refine Ycv ?_
     refine⟨a0w (by omega),fun j' hj'=>?_⟩
     rcases Nat.lt_or_eq_of_le (Nat.le_of_lt_succ hj')with h|h
     ·exact q2 j' h
     ·rw[h];exact he.symm
    ·have ht':t=false:=by
      cases t with
      |false=>rfl
      |true=>exact absurd ((ht.1 rfl).1 i hi j hj).symm he
     subst ht'
     refine Ybx ?_
     refine a0A _ cd PUt rfl ?_
     simp(maxSteps:=10000000) (disch:=first|assumption|omega) only[go_sem,eq_false he]
     refine a0r (by kernel_rfl) ?_
     refine Ycv ?_
     exact Yaa
   ·rintro sl ro gn ⟨s1,s2,r4096,s5,s6,s7,q2⟩
    dsimp only at s1 s2 r4096 s5 s6 s7
    have hj': ¬((T.length:Nat):Int)<(T.length:Nat):=by omega
    simp(maxSteps:=10000000) (disch:=first|assumption|omega) only[go_sem,s1,s2,r4096,s5,s6,s7,hj']
    refine⟨a0w (by omega),fun i' hi'=>?_⟩
    rcases Nat.lt_or_eq_of_le (Nat.le_of_lt_succ hi')with h|h
    ·exact q i' h
    ·rw[h];exact q2
  ·rintro sl ro gn ⟨s1,s2,r4096,s5,s6,q⟩
   dsimp only at s1 s2 r4096 s5 s6
   have hi': ¬((T.length:Nat):Int)<(T.length:Nat):=by omega
   have ht':t=true:=ht.2 ⟨q,h1⟩
   simp(maxSteps:=10000000) (disch:=first|assumption|omega) only[go_sem,s5,s6,hi']
   exact Yag
 ·have ht':t=false:=by
   cases t with
   |false=>rfl
   |true=>exact absurd (ht.1 rfl).2 h1
  subst ht'
  dsimp only[Tryz.f57,a0b,Option.getD]
  refine Ycm ?_
  refine a0c _ cn PUt rfl rfl ?_
  simp(maxSteps:=10000000) (disch:=first|assumption|omega) only[go_sem,s1,a4K ha hx0,eq_false h1]
  exact Yaa
theorem a6X: ∀ {cs:List AV} {T:List (List (List Int))} (k:Nat),a6k cs T→a6k (cs.take k) (T.take k)
 |_,_,0,_=>by rw[List.take_zero,List.take_zero];trivial
 | [],[],k+1,_=>by rw[List.take_nil,List.take_nil];trivial
 |a::bs,x::xs,k+1,h=>⟨h.1,a6X k h.2⟩
theorem c1h{c:AV}{T:List (List (List Int))}(hc:a0F c T)(hT:a1e T){k:Nat}(hk:k≤T.length): ∃c',a0F c' (rws (fun i=>a1r (a1R T i) T.length T.length) k)∧
  ∀ {ro:Ro} {a1:Nat} {a2:Bool} {a3:List Value} {e:Nat} {a5:List (Nat×Nat)} {a6:Option IntKind} {a7 a8:Bool} {a9 a10:Option (Nat×Nat)},a3U (some ⟨a1,a2,a3,some e,a5,a6,a7,a8,a9,a10⟩) ro c none (some (.sc (.int .i64 (k:Int))))=some ⟨c',none,[],[]⟩:=by
 rcases hc with⟨cs,rfl,h⟩|⟨h,rfl⟩
 ·have hl:=a6H h
  refine⟨.imm (cs.take k),.inl ⟨_,rfl,?_⟩,fun {ro a1 a2 a3 e a5 a6 a7 a8 a9 a10}=>?_⟩
  ·have e:rws (fun i=>a1r (a1R T i) T.length T.length) k=T.take k:=by
    apply List.ext_getElem?
    intro i
    rw[List.getElem?_take]
    split
    ·rename_i hi
     have hin:i<T.length:=by omega
     rw[a0l _ _ _ hi,List.getElem?_eq_getElem hin, ←a6g hT hin]
     unfold mat
     rw[List.getD_eq_getElem?_getD,List.getElem?_eq_getElem hin]
     rfl
    ·rename_i hi
     exact List.getElem?_eq_none (by rw[zfe];omega)
   rw[e]
   exact a6X k h
  ·have h1:(0:Int)≤(k:Nat):=by omega
   have h2:((k:Nat):Int)≤cs.length:=by omega
   simp only[a3U,a3k,Option.isSome_some,if_true,Int.le_refl,h1,h2,and_self,Int.sub_zero,Int.toNat_natCast,Int.toNat_zero,List.drop_zero]
 ·have:=hT.1
  subst h
  simp at this
theorem b9D(n:Nat)(q:(Nat→Nat→Int)×Nat): ∃rows,cmA n q= .row rows∧rows.length=cmQ n q:=by
 unfold cmA cmQ
 split
 ·exact⟨_,rfl,zfe _ _⟩
 ·exact⟨_,rfl,zfe _ _⟩
def gpr(T:List (List (List Int)))(m:Nat)(x vs:List Int):List (List Int):=vs.flatMap fun v=>if okS T (x++ [v])=true then grw (vlS T) (okS T) (chB T) m (x++ [v])else []
theorem b2o{T:List (List (List Int))}{m u:Nat}{x vs:List Int}{v:Int}(hu:vs[u]?=some v):gpr T m x (vs.take (u+1))=gpr T m x (vs.take u)++(if okS T (x++ [v])=true then grw (vlS T) (okS T) (chB T) m (x++ [v])else []):=by
 unfold gpr
 rw[List.take_add_one,hu,List.flatMap_append]
 simp
theorem c2X(T:List (List (List Int)))(m u:Nat)(x vs:List Int):(gpr T m x (vs.take u)).length≤(gpr T m x vs).length:=by
 have h:=List.take_append_drop u vs
 conv=>rhs;rw[←h]
 unfold gpr
 rw[List.flatMap_append,List.length_append]
 omega
theorem c0X(T:List (List (List Int)))(m:Nat)(x:List Int):grw (vlS T) (okS T) (chB T) (m+1) x=gpr T m x (vlS T x.length):=rfl
theorem a1N{ro:Ro}{gn:Nat→Nat}{s g S G:Nat}{v:AV}(hg:g≤gn s)(hG:gn S<G):upr ro S G v s g=ro s g:=if_neg fun h=>by
 obtain⟨e1,e2⟩:=h
 subst e1
 omega
theorem b5O{ro:Ro}{s g S G:Nat}{v:AV}(h: ¬(s=S∧g=G)):upr ro S G v s g=ro s g:=if_neg h
theorem a2l{gn gn':Nat→Nat}{S v:Nat}(h: ∀s,gn s≤gn' s)(hv:gn S≤v): ∀s,gn s≤upg gn' S v s:=fun s=>by
 unfold upg
 split
 ·rename_i e;rw[e];exact hv
 ·exact h s
structure GrI(c:AV)(T:List (List (List Int)))(sx gx gL gb gv:Nat)(x:List Int)(L:List (List Int))(ro0:Ro)(gn0:Nat→Nat)(t3:AV)(ro:Ro)(gn:Nat→Nat):Prop where
 box:ro 4096 gb=some (.bx [c])
 gbl:gb≤gn 4096
 vals:ro 8192 gv=some (a0I (rws (vlS T) T.length))
 xx:ro sx gx=some (a0H x)
 lst: ∃g,t3= .ref 28720 g [] 0 L.length∧ro 28720 g=some (a0I L)∧(g=gL∨gn0 28720<g)∧g≤gn 28720
 fr: ∀s g,g≤gn0 s→ ¬(s=28720∧g=gL)→ ¬(s=sx∧g=gx)→ro s g=ro0 s g
 mono: ∀s,gn0 s≤gn s
theorem GrI.ext{c:AV}{T:List (List (List Int))}{sx gx gL gb gv:Nat}{x:List Int}{L:List (List Int)}{ro0:Ro}{gn0:Nat→Nat}{t3:AV}{ro ro1:Ro}{gn gn1:Nat→Nat}(G:GrI c T sx gx gL gb gv x L ro0 gn0 t3 ro gn)
  (hv:gv≤gn0 8192) (hx:gx≤gn0 sx) (h: ∀s g,g≤gn s→ro1 s g=ro s g) (hm: ∀s,gn s≤gn1 s):GrI c T sx gx gL gb gv x L ro0 gn0 t3 ro1 gn1:=by
 obtain⟨g,l1,l2,l3,l4⟩:=G.lst
 exact⟨(h _ _ G.gbl).trans G.box,Nat.le_trans G.gbl (hm _),(h _ _ (Nat.le_trans hv (G.mono _))).trans G.vals,(h _ _ (Nat.le_trans hx (G.mono _))).trans G.xx,⟨g,l1,(h _ _ l4).trans l2,l3,Nat.le_trans l4 (hm _)⟩,
  fun s g h1 h2 h3=>(h s g (Nat.le_trans h1 (G.mono _))).trans (G.fr s g h1 h2 h3),fun s=>Nat.le_trans (G.mono s) (hm s)⟩
theorem GrI.call{c:AV}{T:List (List (List Int))}{sx gx gL gb gv g3 gz:Nat}{x:List Int}{L L':List (List Int)}{ro0:Ro}{gn0:Nat→Nat}{t3 t3':AV}{ro ro1:Ro}{gn gn1:Nat→Nat}(G:GrI c T sx gx gL gb gv x L ro0 gn0 t3 ro gn)
  (hv:gv≤gn0 8192) (hx:gx≤gn0 sx) (hs:sx=28704∨sx=40976) (hg3:g3=gL∨gn0 28720<g3) (hz:gn0 40976<gz)
  (h: ∀s g,g≤gn s→ ¬(s=28720∧g=g3)→ ¬(s=40976∧g=gz)→ro1 s g=ro s g) (hm: ∀s,gn s≤gn1 s)
  (hl: ∃g,t3'= .ref 28720 g [] 0 L'.length∧ro1 28720 g=some (a0I L')∧(g=g3∨gn 28720<g)∧g≤gn1 28720):GrI c T sx gx gL gb gv x L' ro0 gn0 t3' ro1 gn1:=by
 obtain⟨g,l1,l2,l3,l4⟩:=hl
 refine⟨(h _ _ G.gbl (by omega) (by omega)).trans G.box,Nat.le_trans G.gbl (hm _),(h _ _ (Nat.le_trans hv (G.mono _)) (by omega) (by omega)).trans G.vals,(h _ _ (Nat.le_trans hx (G.mono _)) (by omega) fun e=>?_).trans G.xx,⟨g,l1,l2,?_,l4⟩,
  fun s g h1 h2 h3=>(h s g (Nat.le_trans h1 (G.mono _)) (fun e=>?_) (fun e=>?_)).trans (G.fr s g h1 h2 h3),fun s=>Nat.le_trans (G.mono s) (hm s)⟩
 ·obtain⟨e1,e2⟩:=e
  rw[e1]at hx
  omega
 ·have:=G.mono 28720
  omega
 ·obtain⟨e1,e2⟩:=e
  subst e1
  omega
 ·obtain⟨e1,e2⟩:=e
  subst e1
  omega
def b6O(c:AV)(T:List (List (List Int)))(m:Nat):Prop:= ∀(ro:Ro) (gn:Nat→Nat) (x:List Int) (L:List (List Int)) (sx gx gL gv:Nat),x.length+m=T.length→a2s x→L.length+(grw (vlS T) (okS T) (chB T) m x).length≤65536→
  ro 8192 gv=some (a0I (rws (vlS T) T.length))→ro sx gx=some (a0H x)→ro 28720 gL=some (a0I L)→(sx=28704∨sx=40976)→gv≤gn 8192→gx≤gn sx→gL≤gn 28720→
  InS Tryz.prog 93 [.agg [c],.ref 8192 gv [] 0 T.length,.ref sx gx [] 0 x.length,.ref 28720 gL [] 0 L.length] ro gn (fun r ro' gn'=>
   (∃g,r= .ref 28720 g [] 0 (L++grw (vlS T) (okS T) (chB T) m x).length∧ro' 28720 g=some (a0I (L++grw (vlS T) (okS T) (chB T) m x))∧(g=gL∨gn 28720<g)∧g≤gn' 28720)∧
   (∀s g,g≤gn s→ ¬(s=28720∧g=gL)→ ¬(s=sx∧g=gx)→ro' s g=ro s g)∧ ∀s,gn s≤gn' s)
set_option maxHeartbeats 4000000 in
theorem b7l{c:AV}{T:List (List (List Int))}(hc:a0F c T)(hT:a1e T):b6O c T 0:=by
 intro ro gn x L sx gx gL gv hm nx hB rv rx rL hsx gv1 gx1 gL1
 have hxl:x.length=T.length:=by omega
 have hxl':(x.length:Int)=T.length:=by omega
 have c08:=c2a hc hT (a0n x) hxl nx (a3B T x)
 refine a1U (fn:=Tryz.f93) (code:=a0b Tryz.f93) Tryz.func93 rfl (by kernel_rfl) ?_
 intro sl hs
 have s0:sl 0= .agg [c]:=hs 0
 have s1:sl 1= .ref 8192 gv [] 0 T.length:=hs 1
 have s2:sl 2= .ref sx gx [] 0 x.length:=hs 2
 have s3:sl 3= .ref 28720 gL [] 0 L.length:=hs 3
 have qx: ∀S,S≠28704→S≠40976→(sx=S)=False:=fun S h1 h2=>eq_false fun e=>by omega
 have qx': ∀S,S≠28704→S≠40976→(S=sx)=False:=fun S h1 h2=>eq_false fun e=>by omega
 dsimp only[Tryz.f93,a0b,Option.getD]
 simp(maxSteps:=10000000) (disch:=first|assumption|omega) only[go_sem,s0,s2,a1l,a3i,a0v hc,qx,rx,eq_true hxl']
 refine a0z _ c08 (.cons (a1E (.cons (a4A hc (by decide)) .nil)) (.cons (a0q (xs:=x) (by simp(disch:=omega) only[↓za, ↓reduceIte,zb,qx];exact rx) rfl (by decide)) .nil)) rfl rfl rfl ?_
 have hg0:grw (vlS T) (okS T) (chB T) 0 x=if chB T x=true then [x]else []:=rfl
 rw[hg0]at hB ⊢
 cases hb:chB T x with
 |true=>
  rw[hb,if_pos rfl]at hB
  simp only[List.length_singleton]at hB
  have hL1:L.length+1≤4294967296:=by omega
  have hLt:(L.map a0H).take L.length=L.map a0H:=List.take_of_length_le (by rw[List.length_map];exact Nat.le_refl _)
  simp(maxSteps:=10000000) (disch:=first|assumption|omega) only[go_sem,s2,s3,qx,qx',rx,rL,List.length_map,hL1,hLt]
  refine a0Y (.ref 28720 (gn 28720+1) [] 0 (L.length+1)) Ur ⟨⟨gn 28720+1,by rw[List.length_append];rfl,?_,.inr (Nat.lt_succ_self _),Ur⟩,fun s g h1 h2 h3=>?_,?_⟩
  ·rw[a3J]
   show some (AV.row _)=some (AV.row ((L++ [x]).map a0H))
   rw[List.map_append]
   rfl
  ·rw[a1N h1 (by omega),b5O h2,a1N h1 (by omega),a1N h1 (by omega),b5O h3,a1N h1 (by omega)]
  ·exact a2l (a2l (a2l (fun _=>Nat.le_refl _) (by omega)) (by omega)) (by omega)
 |false=>
  simp(maxSteps:=10000000) (disch:=first|assumption|omega) only[go_sem,s3]
  refine a0Y (.ref 28720 gL [] 0 L.length) Ur ⟨⟨gL,?_,?_,.inl rfl,Ue gL1⟩,fun s g h1 h2 h3=>?_,?_⟩
  ·simp
  ·rw[a1Y (by decide)]
   exact rL
  ·rw[a1N h1 (by omega)]
  ·exact a2l (fun _=>Nat.le_refl _) (by omega)
set_option maxHeartbeats 4000000 in
theorem b6I{c:AV}{T:List (List (List Int))}(hc:a0F c T)(hT:a1e T){m:Nat}(ih:b6O c T m):b6O c T (m+1):=by
 intro ro0 gn0 x L sx gx gL gv hm nx hB rv rx rL hsx gv1 gx1 gL1
 have hxl': ¬(x.length:Int)=T.length:=by omega
 refine a1U (fn:=Tryz.f93) (code:=a0b Tryz.f93) Tryz.func93 rfl (by kernel_rfl) ?_
 intro sl hs
 have s0:sl 0= .agg [c]:=hs 0
 have s1:sl 1= .ref 8192 gv [] 0 T.length:=hs 1
 have s2:sl 2= .ref sx gx [] 0 x.length:=hs 2
 have s3:sl 3= .ref 28720 gL [] 0 L.length:=hs 3
 have qx: ∀S,S≠28704→S≠40976→(sx=S)=False:=fun S h1 h2=>eq_false fun e=>by omega
 have qx': ∀S,S≠28704→S≠40976→(S=sx)=False:=fun S h1 h2=>eq_false fun e=>by omega
 dsimp only[Tryz.f93,a0b,Option.getD]
 simp(maxSteps:=10000000) (disch:=first|assumption|omega) only[go_sem,s0,s2,a1l,a3i,a0v hc,qx,rx,eq_false hxl']
 have hgr:=c0X T m x
 rw[hgr]at hB ⊢
 clear hgr
 refine a0f (fun i st=>st.sl 1= .ref 8192 gv [] 0 T.length∧st.sl 2= .ref sx gx [] 0 x.length∧st.sl 4= .ptr 4096 (gn0 4096+1) [] 0∧st.sl 9=i64 (x.length:Nat)∧st.sl 10=i64 (i:Int)∧(GrI c T sx gx gL (gn0 4096+1) gv x (L++gpr T m x ((vlS T x.length).take i)) ro0 gn0 (st.sl 3) st.ro st.gn)) ((vlS T x.length).length) ?_ ?_ ?_
 ·refine Ygj ?_
  refine⟨rfl,⟨a3J,Ur,by rw[a1Y (by decide)];exact rv,by rw[a1Y (by omega)];exact rx,⟨gL,?_,?_,.inl rfl,Ue gL1⟩,fun s g h1 h2 h3=>a1N h1 (by omega),a2l (fun _=>Nat.le_refl _) (by omega)⟩⟩
  ·simp[gpr]
  ·rw[a1Y (by decide),rL]
   simp[gpr]
 ·rintro i sl ro gn hi ⟨s1,s2,s4,s9,s10,G⟩
  dsimp only at s1 s2 s4 s9 s10
  have hi':(i:Int)<((vlS T x.length).length:Nat):=by omega
  dsimp only at G
  obtain⟨v,hv⟩: ∃v,(vlS T x.length)[i]?=some v:=⟨_,List.getElem?_eq_getElem hi⟩
  have hvm:v∈vlS T x.length:=List.mem_of_getElem? hv
  have nv:num v:=by have:=a6h.1 hvm;unfold num;omega
  have hvl:=a7Y (hpp (hes T.length (a1R T x.length) (T.length-2)) T.length) 55441
  have hvl':(vlS T x.length).length≤55441:=hvl
  have hb:=c2X T m (i+1) x (vlS T x.length)
  rw[b2o hv,List.length_append]at hb
  have eL:L++gpr T m x ((vlS T x.length).take (i+1))=(L++gpr T m x ((vlS T x.length).take i))++(if okS T (x++ [v])=true then grw (vlS T) (okS T) (chB T) m (x++ [v])else []):=by rw[b2o hv,List.append_assoc]
  rw[eL]
  have hLi:(L++gpr T m x ((vlS T x.length).take i)).length=L.length+(gpr T m x ((vlS T x.length).take i)).length:=List.length_append
  generalize L++gpr T m x ((vlS T x.length).take i)=Li at*
  generalize (gpr T m x ((vlS T x.length).take i)).length=li at*
  have hzl:(x++ [v]).length=x.length+1:=by rw[List.length_append];rfl
  have nz:a2s (x++ [v]):=a8a nx nv
  have hxn:x.length<T.length:=by omega
  have hvg:((rws (vlS T) T.length).map a0H)[x.length]?=some (.row ((vlS T x.length).map i64)):=by rw[List.getElem?_map,a0l _ _ _ hxn];rfl
  have hvr:((vlS T x.length).map i64)[i]?=some (i64 v):=by rw[List.getElem?_map,hv];rfl
  have hrl:(rws (vlS T) T.length).length=T.length:=zfe _ _
  obtain⟨c',hc',hsl⟩:=c1h hc hT (k:=x.length+1) (by omega)
  obtain⟨rows,hrw,hrn⟩:=b9D T.length (cmS T (x++ [v]))
  have cc:=b9W (T:=a1R T) (vs:=x++ [v]) hc' (a0n (x++ [v])) (Nat.succ_pos _) (by omega) (by have:=hT.2.1;omega) hT.1 (by have:=hT.2.1;omega) (fun k=>a1Q hT k) nz
  have ecm:cmn T.length (fun k=>lsM (a1R T k) (atI (x++ [v]) k)) (x.length+1)=cmS T (x++ [v]):=by unfold cmS;rw[hzl]
  rw[ecm]at cc
  have hnI:noI (cmA T.length (cmS T (x++ [v])))=true:=by unfold cmA krA;split<;>exact a2a _ _ _
  have hiP:a4a (cmA T.length (cmS T (x++ [v])))=true:=by unfold cmA krA;split<;>rfl
  rw[hrw]at cc hnI hiP
  obtain⟨g3,h3,hL3,hg3,hg3'⟩:=G.lst
  have hbox:=G.box
  have hvals:=G.vals
  have hxx:=G.xx
  have hM9:=G.mono
  have hi2:(i:Int)<(vlS T x.length).length:=by omega
  have hx2:x.length+1≤4294967296:=by have:=hT.2.1;omega
  have hxt:(x.map i64).take x.length=x.map i64:=List.take_of_length_le (by rw[List.length_map];exact Nat.le_refl _)
  simp(maxSteps:=10000000) (disch:=first|assumption|omega) only[go_sem,s1,s2,s9,s10,hi',hvals,hvg,List.length_map,hxn]
  refine a1V _ (c2j (a0n x) (by have:=hT.2.1;unfold a0G;omega)) (.cons (a0q hxx rfl (by decide)) .nil) rfl (a1j _) ?_
  have hsh:shO (b0G (ro sx gx))=true:=by
   rw[hxx]
   exact nrf x
  simp(maxSteps:=10000000) (disch:=first|assumption|omega) only[go_sem,s1,s9,s10,hvals,hvg,hvr,List.length_map,hi,hxn,a0i,hxt,hx2,hsh]
  refine a0r (by rcases hsx with e|e<;>rw[e]<;>kernel_rfl) ?_
  have hsl':= @hsl
  have hx3:((x.length:Nat):Int)+1=((x.length+1:Nat):Int):=by omega
  simp(maxSteps:=10000000) (disch:=first|assumption|omega) only[go_sem,s4,hbox,hsl',Option.map_some,Option.map_none]
  refine a0z _ cc (.cons (a4A hc' (by decide)) (.cons (a0q (xs:=x++ [v]) (by rw[a3J];exact congrArg some (by show AV.row _=AV.row _;rw[List.map_append];rfl)) hzl.symm (by decide)) .nil)) rfl hiP hnI ?_
  by_cases hok:okS T (x++ [v])=true
  ·have hpos:(0:Int)<rows.length:=by
    have:=of_decide_eq_true hok
    unfold cmR at this
    omega
   rw[if_pos hok]at hb ⊢
   have I:=fun(ro:Ro) (gn:Nat→Nat) (gx:Nat)=>ih ro gn (x++ [v]) Li 40976 gx g3 gv (by omega) nz (by omega)
   simp only[hzl]at I
   simp(maxSteps:=10000000) (disch:=first|assumption|omega) only[go_sem,s1,s4,a0i,hpos,h3,hbox]
   refine a0p rfl (I _ _ _ ?_ ?_ ?_ (.inr trivial) ?_ ?_ ?_) ?_
   ·exact Ue hvals
   ·simp only[↓za, ↓reduceIte,Nat.reduceEqDiff,zb];exact congrArg some (by show AV.row _=AV.row _;rw[List.map_append];rfl)
   ·exact Ue hL3
   ·simp only[↓za, ↓reduceIte,Nat.reduceEqDiff];have:=hM9 8192;omega
   ·exact Ur
   ·exact Ue hg3'
   rintro r ro' gn' ⟨⟨g',rfl,hro',hg',hgl'⟩,hfr',hM9'⟩
   simp(maxSteps:=10000000) (disch:=first|assumption|omega) only[go_sem,s1,s2,s4,s9,s10]
   refine⟨a0w (by omega),GrI.call (G.ext gv1 gx1 (fun s g h1=>?_) ?_) gv1 gx1 hsx hg3 (gz:=gn 40976+1+1) ?_ hfr' hM9' ⟨g',rfl,hro',hg',hgl'⟩⟩
   ·dsimp only
    rw[a1N h1 (by omega),a1N h1 (by omega),a1N h1 (by omega),a1N h1 (by omega),a1N h1 (by omega)]
   ·dsimp only
    exact a2l (a2l (a2l (a2l (fun _=>Nat.le_refl _) (by omega)) (by omega)) (by omega)) (by omega)
   ·have:=hM9 40976
    omega
  ·have hpos: ¬(0:Int)<rows.length:=by
    intro h
    refine hok (decide_eq_true ?_)
    unfold cmR
    omega
   rw[if_neg hok]at hb ⊢
   rw[List.append_nil]
   simp(maxSteps:=10000000) (disch:=first|assumption|omega) only[go_sem,s1,s2,s4,s9,s10,a0i,hpos]
   refine⟨a0w (by omega),G.ext gv1 gx1 (fun s g h1=>?_) ?_⟩
   ·rw[a1N h1 (by omega),a1N h1 (by omega),a1N h1 (by omega),a1N h1 (by omega),a1N h1 (by omega)]
   ·exact a2l (a2l (a2l (a2l (fun _=>Nat.le_refl _) (by omega)) (by omega)) (by omega)) (by omega)
 ·rintro sl ro gn ⟨s1,s2,s4,s9,s10,G⟩
  dsimp only at s1 s2 s4 s9 s10
  have hi': ¬(((vlS T x.length).length:Nat):Int)<((vlS T x.length).length:Nat):=by omega
  dsimp only at G
  rw[List.take_length]at G
  obtain⟨g3,h3,hL3,hg3,hg3'⟩:=G.lst
  have hvals:=G.vals
  have hxn:x.length<T.length:=by omega
  have hvg:((rws (vlS T) T.length).map a0H)[x.length]?=some (.row ((vlS T x.length).map i64)):=by rw[List.getElem?_map,a0l _ _ _ hxn];rfl
  have hrl:(rws (vlS T) T.length).length=T.length:=zfe _ _
  have hvl:=a7Y (hpp (hes T.length (a1R T x.length) (T.length-2)) T.length) 55441
  have hi2: ¬((vlS T x.length).length:Int)<(vlS T x.length).length:=by omega
  simp(maxSteps:=10000000) (disch:=first|assumption|omega) only[go_sem,s1,s9,s10,hi',hvals,hvg,List.length_map,hxn,h3]
  refine a0Y (.ref 28720 g3 [] 0 (L++gpr T m x (vlS T x.length)).length) Ur ⟨⟨g3,rfl,hL3,hg3,hg3'⟩,G.fr,G.mono⟩
theorem b8B{c:AV}{T:List (List (List Int))}(hc:a0F c T)(hT:a1e T): ∀m,b6O c T m
 |0=>b7l hc hT
 |m+1=>b6I hc hT (b8B hc hT m)
theorem c1X{c:AV}{T:List (List (List Int))}(hc:a0F c T)(hT:a1e T):a0d Tryz.prog 47 [.agg [c]] (a0I (c0E T)):=by
 obtain⟨t1,t16,hcu⟩:=id hT
 have hfew:(c0E T).length≤T.length:=by rw[←a7H hT];exact b0m hT
 refine a0e (fn:=Tryz.f47) (code:=a0b Tryz.f47) Tryz.func47 rfl (by kernel_rfl) (a2m _) ?_
 intro sl hs
 have s0:sl 0= .agg [c]:=hs 0
 dsimp only[Tryz.f47,a0b,Option.getD]
 refine Yan ?_
 refine a0f (fun i st=>st.sl 1= .ptr 4096 1 [] 0∧st.ro 4096 1=some (.bx [c])∧st.sl 3= .ref 8192 (st.gn 8192) [] 0 i∧st.ro 8192 (st.gn 8192)=some (.row (rws (fun k=>a0H (vlS T k)) i))∧st.sl 4=i64 (i:Int)) T.length ?_ ?_ ?_
 ·refine Yaf ?_
  repeat' first|rfl|apply And.intro
 ·rintro i sl ro gn hi ⟨s1,r4096,s3,r8192,s4⟩
  dsimp only at s1 r4096 s3 r8192 s4
  have hi':(i:Int)<(T.length:Nat):=by omega
  have hi2:i+1≤4294967296:=by omega
  have hm:=a0o hc hi
  rw[a6g hT hi]at hm
  have cv:a0d Tryz.prog 92 [atA c i] (a0H (vlS T i)):=c5l hm (by omega) (by omega) (a1Q hT i)
  simp(disch:=first|assumption|omega) only[go_sem,s1,r4096,s3,s4,hi',a0v hc]
  refine a0c _ cv PUt rfl rfl ?_
  simp(disch:=first|assumption|omega) only[go_sem,s1,r4096,r8192,s4,a0i,List.length_map,hi2]
  exact a0w (by omega)
 ·rintro sl ro gn ⟨s1,r4096,s3,r8192,s4⟩
  dsimp only at s1 r4096 s3 r8192 s4
  have hi': ¬((T.length:Nat):Int)<(T.length:Nat):=by omega
  simp(disch:=first|assumption|omega) only[go_sem,s1,r4096,s3,s4,hi',a0v hc]
  refine a0p rfl (b8B hc hT T.length _ _ [] [] 28704 _ _ _ (by simp) (fun j=>by rw[a2c (by simp)];unfold num;decide) ?_ ?_ ?_ ?_ (.inl rfl) ?_ ?_ ?_) ?_
  ·show 0+(c0E T).length≤65536
   omega
  ·refine Ybp ?_
   rw[r8192,a0I,a0y]
  ·simp only[↓za, ↓reduceIte,Nat.reduceEqDiff,zb];rfl
  ·simp only[↓za, ↓reduceIte,zb];rfl
  ·exact Ur
  ·exact Ur
  ·exact Ur
  rintro r ro' gn' ⟨⟨g',rfl,hro', -, -⟩, -, -⟩
  rw[List.nil_append]at hro' ⊢
  simp(disch:=first|assumption|omega) only[go_sem]
  simp only[zr,a1Z,a1H,a2g,zes,zhk, ↓za, ↓reduceIte,hro',a0I]
  rfl
theorem c5o{T:List (List (List Int))}(h:RF T=none):F2 T=none:=by
 cases h1:F1 T with
 |some l=>rw[RF1 h1]at h;cases h
 |none=>
  cases h2:F2 T with
  |some l=>rw[RF2 h1 h2]at h;cases h
  |none=>rfl
noncomputable def dd(T:List (List (List Int)))(j:Nat):Nat:=(dlT T j).toNat
theorem b2X{T:List (List (List Int))}(h:a2j T){j:Nat}(hj:j<T.length):dlT T j=(dd T j:Nat)∧dd T j<T.length:=by
 obtain⟨m,h1,h2⟩:=b9Z (c5o h.2) hj
 have e:dd T j=m:=by unfold dd;rw[h1];exact Int.toNat_natCast m
 rw[e]
 exact⟨h1,h2⟩
noncomputable def cdg(T:List (List (List Int)))(x:List Int):Int:=sm (fun j=>atI x j*atI x (dd T j)) T.length % 55441
theorem a4U{T:List (List (List Int))}(h:a2j T):rws (fun i=>i64 (dlT T i)) T.length=(rws (fun i=>((dd T i:Nat):Int)) T.length).map i64:=by
 rw[a0y]
 exact a0g fun i hi=>by rw[(b2X h hi).1]
theorem b3t{c:AV}{T:List (List (List Int))}(ha:a0F c T)(hc:a1e T):a0d Tryz.prog 60 [.agg [c]] (.row (rws (fun i=>i64 (dlT T i)) T.length)):=by
 obtain⟨h1,h2,h3⟩:=id hc
 refine a0e (fn:=Tryz.f60) (code:=a0b Tryz.f60) Tryz.func60 rfl (by kernel_rfl) (a1i _ (a1a _ _ fun _=>rfl)) ?_
 intro sl hs
 have s0:sl 0= .agg [c]:=hs 0
 dsimp only[Tryz.f60,a0b,Option.getD]
 refine Yan ?_
 refine a0f (fun i st=>st.sl 1= .ptr 4096 1 [] 0∧st.ro 4096 1=some (.bx [c])∧st.sl 4=i64 (i:Int)∧st.sl 3= .ref 8192 (st.gn 8192) [] 0 i∧st.ro 8192 (st.gn 8192)=some (.row (rws (fun i=>i64 (dlT T i)) i))) T.length ?_ ?_ ?_
 ·refine Yaf ?_
  repeat' first|rfl|apply And.intro
 ·rintro i sl ro gn hi ⟨s1,r4096,s4,s3,r8192⟩
  dsimp only at s1 r4096 s4 s3 r8192
  have hi':(i:Int)<(T.length:Nat):=by omega
  have hi2:i+1≤4294967296:=by omega
  simp(disch:=first|assumption|omega) only[go_sem,s1,r4096,s4,s3,hi',a0v ha]
  refine a0c _ (c150 ha hc hi) PUt rfl rfl ?_
  simp(disch:=first|assumption|omega) only[go_sem,s1,r4096,s4,r8192,hi2]
  exact a0w (by omega)
 ·rintro sl ro gn ⟨s1,r4096,s4,s3,r8192⟩
  dsimp only at s1 r4096 s4 s3 r8192
  have hi': ¬((T.length:Nat):Int)<(T.length:Nat):=by omega
  simp(disch:=first|assumption|omega) only[go_sem,s1,r4096,s4,s3,hi',a0v ha]
  exact Yak
theorem a9o{b:Nat}{gn:Nat→Nat}{v x:Value}:a2k b gn (.tup [.sc v,.sc x])=⟨.tup [.sc v,.sc x],none,[],[]⟩:=nr _
theorem a7D(X:List Int)(v:Value):a0C (.tup [a0H X,.sc v])=true:=by
 have h:=a1b X
 show (a0C (a0H X)&&(a0C (.sc v)&&true))=true
 rw[h];rfl
end Go.Proofs.YtbakhfiibjkifaaGreat
