/- Texts joined: Cs3 Cs4 Cs5. -/
import Derived.Test.YtbakhfiibjkifaaGreatCe
set_option linter.all false
/- The reference's kernels and common spaces. -/
namespace Go.Proofs.YtbakhfiibjkifaaGreat
open Go.RowKit
set_option maxRecDepth 1000000
theorem cFirst{a:AV}{xs:List Int}{p:Nat}(ha:isL a xs)(hx:xs.length≤maxN)(hp:p<xs.length)(h1:atI xs p≠0)(h2: ∀j,j<p→atI xs j=0):CallOK Tryz.prog 165 [a] (i64 (p:Int)):=by
 have hx':xs.length≤4294967296:=hx
 refine call_of (fn:=Tryz.f165) (code:=bodyOf Tryz.f165) Tryz.func165 rfl (by kernel_rfl) (rfl) ?_
 intro sl hs
 have s0:sl 0=a:=hs 0
 dsimp only[Tryz.f165,bodyOf,Option.getD]
 refine Yac ?_
 refine WK_for (fun i st=>st.sl 0=a∧st.sl 3=i64 (i:Int)) p ?_ ?_ ?_
 ·refine Yad ?_
  rfl
 ·rintro i sl ro gn hi ⟨s0,s3⟩
  dsimp only at s0 s3
  have hi':(i:Int)<(p:Nat):=by omega
  have hil:i<xs.length:=by omega
  have hil':(i:Int)<xs.length:=by omega
  have h0:=h2 i hi
  simp(disch:=first|assumption|omega) only[go_sem, ↓reduceIte,Nat.reduceEqDiff,zc,s0,s3,hi',hi,hil',eq_true h0]
  exact i64c (by omega)
 ·rintro sl ro gn ⟨s0,s3⟩
  dsimp only at s0 s3
  have hi': ¬((p:Nat):Int)<(p:Nat):=by omega
  have hil':(p:Int)<xs.length:=by omega
  simp(disch:=first|assumption|omega) only[go_sem, ↓reduceIte,Nat.reduceEqDiff,zc,s0,s3,hi',hil',eq_false h1]
  exact Yaa
theorem cBasis0{a:AV}(ha:isLL a []):CallOK Tryz.prog 147 [a] (.row []):=by
 have c1:=cOwn2 ha (by simp[maxN]) (fun i hi=>by simp at hi)
 rw[show rws (fun x=>rowL (row ([]:List (List Int)) x)) ([]:List (List Int)).length=[]from rfl]at c1
 have h0: ¬(0:Int)<((0:Nat):Int):=by omega
 have h1:(0:Int)≤((0:Nat):Int):=by omega
 have h2:((0:Nat):Int)≤((0:Nat):Int):=by omega
 refine call_of (fn:=Tryz.f147) (code:=bodyOf Tryz.f147) Tryz.func147 rfl (by kernel_rfl) (noRef_row _ rfl) ?_
 intro sl hs
 have s0:sl 0=a:=hs 0
 dsimp only[Tryz.f147,bodyOf,Option.getD]
 refine Yac ?_
 refine CLL_pure _ c1 PUt rfl rfl ?_
 simp(disch:=first|assumption|omega) only[go_sem, ↓reduceIte,Nat.reduceEqDiff,zc,s0,impE_row]
 refine WK_for (fun z st=>st.sl 3= .ref 8208 1 [] 0 0∧st.ro 8208 1=some (.row [])∧st.sl 4=i64 ((0:Nat):Int)∧st.sl 5=i64 ((0:Nat):Int)) 0 ?_ ?_ ?_
 ·refine Yad ?_
  repeat' first|rfl|apply And.intro
 ·rintro z sl ro gn hz ⟨s3,r8208,s4,s5⟩
  dsimp only at s3 r8208 s4 s5
  have hz':(z:Int)<(0:Nat):=by omega
  omega
 ·rintro sl ro gn ⟨s3,r8208,s4,s5⟩
  dsimp only at s3 r8208 s4 s5
  have hz': ¬((0:Nat):Int)<(0:Nat):=by omega
  simp(disch:=first|assumption|omega) only[go_sem, ↓reduceIte,Nat.reduceEqDiff,zc,s3,r8208,s4,s5,hz',h0,undef,kSlice_hi,Option.map_none,Option.map_some]
  simp only[zr,zb,retR,resL,outT,outL,zes,zez,oneV,zcp,zed,zfi,Ro.dl,St.ev,zhk, ↓za, ↓reduceIte,Nat.reduceEqDiff,Nat.reduceAdd,Nat.reduceLeDiff,r8208,List.take_zero]
theorem fsr_ok{G:Nat→Nat→Int}{n k r:Nat}(h:Piv n k r G)(hr:r≤n){i:Nat}(hi:i<r):fsr G k i<k∧G i (fsr G k i)≠0∧ ∀j,j<fsr G k i→G i j=0:=by
 have h1:=fsr_lt h hi hr
 obtain⟨f1,f2,f3,f4⟩:=fst0_spec (fun j=>!decide (G i j=0)) 0 k
 unfold fsr at h1 ⊢
 refine⟨h1,?_,fun j hj=>?_⟩
 ·have:=f4 (by omega)
  simpa using this
 ·have:=f3 j (Nat.zero_le _) hj
  simpa using this
theorem matA_LL(M:Nat→Nat→Int)(n m:Nat):matA M n m=rowLL (matL M n m):=(rowLL_mat M n m).symm
theorem cKernel{a:AV}{m n:Nat}{M:Nat→Nat→Int}(ha:isLL a (matL M m n))(h0:0<m)(hm:m≤65536)(hn0:0<n)(hn:n≤65536)(hM:numM M):
  CallOK Tryz.prog 150 [a] (matA (gj (frc (fsr (gj m M n).1 n) (gj m M n).2.1 n).length (krM (gj m M n).1 (fsr (gj m M n).1 n) (gj m M n).2.1 n) n).1 (krN (gj m M n).1 (gj m M n).2.1 n) n):=by
 have hml:(matL M m n).length=m:=matL_len2 _ _ _
 have hr0:=isLL_row ha (k:=0) (by omega)
 have lr0:(row (matL M m n) 0).length=n:=matL_row2 h0
 have cb:=cBasis ha h0 hm hn hM
 have hp:=gj_piv (n:=m) hM n
 have hrm:=(gj_ok (n:=m) hM n).2.1
 have hR:=(gj_ok (n:=m) hM n).1
 unfold krN
 generalize (gj m M n).1=R at*
 generalize (gj m M n).2.1=r at*
 have hf: ∀i,i<r→fsr R n i<n∧R i (fsr R n i)≠0∧ ∀j,j<fsr R n i→R i j=0:=fun i hi=>fsr_ok hp hrm hi
 have hrn:=hp.le
 generalize fsr R n=p at*
 have hrr:noRefL (rws (fun i=>AV.row (rws (fun j=>i64 (R i j)) n)) r)=true:=noRef_mat R r n
 refine call_of (fn:=Tryz.f150) (code:=bodyOf Tryz.f150) Tryz.func150 rfl (by kernel_rfl) (noRef_mat _ _ _) ?_
 intro sl hs
 have s0:sl 0=a:=hs 0
 dsimp only[Tryz.f150,bodyOf,Option.getD]
 refine Yac ?_
 refine CLLD_pure _ cb PUt rfl ?_
 simp(maxSteps:=10000000) (disch:=first|assumption|omega) only[go_sem, ↓reduceIte,Nat.reduceEqDiff,zc,Int.reduceToNat,s0,impE_row,zfe,hml,isLL_len ha,lr0,isL_len hr0]
 refine FIN_of (by kernel_rfl) ?_
 refine Yac ?_
 refine WK_for (fun i st=>st.sl 3= .ref 8208 1 [] 0 r∧st.ro 8208 1=some (matA R r n)∧st.sl 4=i64 (n:Nat)∧st.sl 5= .ref 12288 (st.gn 12288) [] 0 i∧st.ro 12288 (st.gn 12288)=some (.row (rws (fun i=>i64 (p i:Nat)) i))∧st.sl 6= .ref 12304 (st.gn 12304) [] 0 0∧st.ro 12304 (st.gn 12304)=some (.row [])∧st.sl 7=i64 (i:Int)) r ?_ ?_ ?_
 ·refine Yad ?_
  repeat' first|rfl|apply And.intro
 ·rintro i sl ro gn hi ⟨s3,r8208,s4,s5,r12288,s6,r12304,s7⟩
  dsimp only at s3 r8208 s4 s5 r12288 s6 r12304 s7
  have hi':(i:Int)<(r:Nat):=by omega
  have hi2:i+1≤4294967296:=by omega
  obtain⟨q1,q2,q3⟩:=hf i hi
  have er: ∀j,j<n→atI (rws (fun j=>R i j) n) j=R i j:=fun j hj=>atI_rws _ hj
  have cf:=cFirst (isL_imm (rws (fun j=>R i j) n)) (by rw[zfe];unfold maxN;omega) (p:=p i) (by rw[zfe];exact q1) (by rw[er _ q1];exact q2) (fun j hj=>by rw[er _ (by omega)];exact q3 j hj)
  have hX:(matL R r n)[i]?=some (rws (fun j=>R i j) n):=rws_get _ _ _ hi
  simp(disch:=first|assumption|omega) only[go_sem, ↓reduceIte,Nat.reduceEqDiff,zc,s3,r8208,s4,s5,r12288,s6,r12304,s7,hi',hi,rws_get,zfe]
  refine CLL_q _ cf (.cons (exq_rowX (X:=matL R r n) (by first|(rw[←matA_LL];exact r8208)|(simp only[↓za, ↓reduceIte,Nat.reduceEqDiff,zb,reduceCtorEq];rw[←matA_LL];exact r8208)) hX (by rw[zfe]) (by decide)) .nil) rfl rfl rfl ?_
  simp(disch:=first|assumption|omega) only[go_sem, ↓reduceIte,Nat.reduceEqDiff,Nat.reduceAdd,Nat.reduceMul,zc,s3,r8208,s4,s5,r12288,s6,r12304,s7,hi',hi,hi2]
  exact i64c (by omega)
 ·rintro sl ro gn ⟨s3,r8208,s4,s5,r12288,s6,r12304,s7⟩
  dsimp only at s3 r8208 s4 s5 r12288 s6 r12304 s7
  have hi': ¬((r:Nat):Int)<(r:Nat):=by omega
  simp(disch:=first|assumption|omega) only[go_sem, ↓reduceIte,Nat.reduceEqDiff,zc,s3,r8208,s4,s5,r12288,s6,r12304,s7,hi']
  refine WK_for (fun k st=>st.sl 3= .ref 8208 1 [] 0 r∧st.ro 8208 1=some (matA R r n)∧st.sl 4=i64 (n:Nat)∧st.sl 5= .ref 12288 (st.gn 12288) [] 0 r∧st.ro 12288 (st.gn 12288)=some (.row (rws (fun i=>i64 (p i:Nat)) r))∧st.sl 6= .ref 12304 (st.gn 12304) [] 0 (frc p r k).length∧st.ro 12304 (st.gn 12304)=some (.row ((frc p r k).map fun c=> .row (rws (fun j=>i64 (kvc R p c r j)) n)))∧st.sl 8=i64 (k:Int)) n ?_ ?_ ?_
  ·simp only[↓za, ↓reduceIte,Nat.reduceEqDiff,zb,reduceCtorEq,rws_zero,s3,r8208,s4,s5,r12288,s6,r12304,s7,hi']
   repeat' first|rfl|apply And.intro
  ·rintro k sl ro gn hk ⟨s3,r8208,s4,s5,r12288,s6,r12304,s8⟩
   dsimp only at s3 r8208 s4 s5 r12288 s6 r12304 s8
   have hk':(k:Int)<(n:Nat):=by omega
   have hfl:=frc_len p r k
   have hfl2:(frc p r k).length+1≤4294967296:=by omega
   have ch:=c88 (n:=(k:Int)) (isL_imm (rws (fun i=>((p i:Nat):Int)) r)) (by rw[zfe];unfold maxN;omega)
   have hiff:decide (0≤ix (rws (fun i=>((p i:Nat):Int)) r) k 0)=isP p r k:=by
    cases h:isP p r k with
    |true=>
     obtain⟨i,hi,e⟩:=isP_iff.1 h
     exact decide_eq_true ((ix_has (fun i=>((p i:Nat):Int)) r k).2 ⟨i,hi,by omega⟩)
    |false=>
     refine decide_eq_false fun h2=>?_
     obtain⟨i,hi,e⟩:=(ix_has (fun i=>((p i:Nat):Int)) r k).1 h2
     have:isP p r k=true:=isP_iff.2 ⟨i,hi,by omega⟩
     rw[h]at this;cases this
   rw[hiff]at ch
   refine Yff ?_
   refine CLL_q _ ch (.cons (exq_refL (xs:=rws (fun i=>((p i:Nat):Int)) r) (by rw[r12288,rowL,rws_map]) (zfe _ _).symm (by decide)) (.cons (exq_sc _ _ _ (by decide)) .nil)) rfl rfl rfl ?_
   cases hk2:isP p r k with
   |true=>
    have e:frc p r (k+1)=frc p r k:=by show frc p r k++(if isP p r k=true then []else [k])=_;rw[if_pos hk2,List.append_nil]
    refine Yff ?_
    rw[e]
    exact⟨rfl,rfl,i64c (by omega)⟩
   |false=>
    have e:frc p r (k+1)=frc p r k++ [k]:=by show frc p r k++(if isP p r k=true then []else [k])=_;rw[hk2];rfl
    have hm':(n:Int)≤((4294967296:Nat):Int):=by omega
    simp(disch:=first|assumption|omega) only[go_sem, ↓reduceIte,Nat.reduceEqDiff,Nat.reduceAdd,Nat.reduceMul,zc,s3,r8208,s4,s5,r12288,s6,r12304,s8,hk',hk,kMake,Int.natCast_nonneg,Int.le_refl,List.getD_cons_zero,rep_rws,hm',hk]
    refine WK_for (fun i st=>st.sl 3= .ref 8208 1 [] 0 r∧st.ro 8208 1=some (matA R r n)∧st.sl 4=i64 (n:Nat)∧st.sl 5= .ref 12288 (st.gn 12288) [] 0 r∧st.ro 12288 (st.gn 12288)=some (.row (rws (fun i=>i64 (p i:Nat)) r))∧st.sl 6= .ref 12304 (st.gn 12304) [] 0 (frc p r k).length∧st.ro 12304 (st.gn 12304)=some (.row ((frc p r k).map fun c=> .row (rws (fun j=>i64 (kvc R p c r j)) n)))∧st.sl 8=i64 (k:Int)∧st.sl 9= .ref 49168 (st.gn 49168) [] 0 n∧st.ro 49168 (st.gn 49168)=some (.row (rws (fun j=>i64 (kvc R p k i j)) n))∧st.sl 10=i64 (i:Int)) r ?_ ?_ ?_
    ·simp only[↓za, ↓reduceIte,Nat.reduceEqDiff,zb,reduceCtorEq,rws_zero,s3,r8208,s4,s5,r12288,s6,r12304,s8,hk',hk]
     refine⟨congrArg some (congrArg AV.row ?_),rfl⟩
     rw[rws_set]
     refine rws_congr fun j _=>?_
     show _=i64 (if j=k then 1 else 0)
     split<;>rfl
    ·rintro i sl ro gn hi ⟨s3,r8208,s4,s5,r12288,s6,r12304,s8,s9,r49168,s10⟩
     dsimp only at s3 r8208 s4 s5 r12288 s6 r12304 s8 s9 r49168 s10
     have hi':(i:Int)<(r:Nat):=by omega
     obtain⟨q1,q2,q3⟩:=hf i hi
     have q1':p i+1≤n:=q1
     have nR:=hR i k
     unfold num at nR
     simp(disch:=first|assumption|omega) only[go_sem, ↓reduceIte,Nat.reduceEqDiff,zc,s3,r8208,s4,s5,r12288,s6,r12304,s8,s9,r49168,s10,hi',hi,rws_get,hk,q1,q1']
     refine CLLD_pure _ (cModS (x:=0-R i k) (by omega) (by omega)) PUt rfl ?_
     simp(disch:=first|assumption|omega) only[go_sem, ↓reduceIte,Nat.reduceEqDiff,zc,s3,r8208,s4,s5,r12288,s6,r12304,s8,s9,r49168,s10,hi',hi,q1,q1',zfe]
     refine FIN_of (by kernel_rfl) ?_
     simp(disch:=first|assumption|omega) only[go_sem, ↓reduceIte,Nat.reduceEqDiff,zc,s3,r8208,s4,s5,r12288,s6,r12304,s8,s9,r49168,s10,hi',hi]
     refine⟨congrArg some (congrArg AV.row ?_),i64c (by omega)⟩
     rw[rws_set]
     refine rws_congr fun j _=>?_
     show _=i64 (if j=p i then(0-R i k) % 55441 else kvc R p k i j)
     split<;>rfl
    ·rintro sl ro gn ⟨s3,r8208,s4,s5,r12288,s6,r12304,s8,s9,r49168,s10⟩
     dsimp only at s3 r8208 s4 s5 r12288 s6 r12304 s8 s9 r49168 s10
     have hi': ¬((r:Nat):Int)<(r:Nat):=by omega
     simp(disch:=first|assumption|omega) only[go_sem, ↓reduceIte,Nat.reduceEqDiff,Nat.reduceAdd,Nat.reduceMul,zc,s3,r8208,s4,s5,r12288,s6,r12304,s8,s9,r49168,s10,hi',zfe,hfl2]
     rw[e]
     refine⟨by rw[List.length_append];rfl,?_,i64c (by omega)⟩
     rw[List.take_of_length_le (by rw[List.length_map];exact Nat.le_refl _),List.map_append]
     rfl
  ·rintro sl ro gn ⟨s3,r8208,s4,s5,r12288,s6,r12304,s8⟩
   dsimp only at s3 r8208 s4 s5 r12288 s6 r12304 s8
   have hk': ¬((n:Nat):Int)<(n:Nat):=by omega
   have hnf:=frc_len p r n
   have eK:AV.row ((frc p r n).map fun c=>AV.row (rws (fun j=>i64 (kvc R p c r j)) n))=matA (krM R p r n) (frc p r n).length n:=by
    refine congrArg AV.row ?_
    apply List.ext_getElem?
    intro x
    by_cases hx:x<(frc p r n).length
    ·rw[rws_get _ _ _ hx,List.getElem?_map,List.getElem?_eq_getElem hx]
     unfold krM
     rw[List.getD_eq_getElem?_getD,List.getElem?_eq_getElem hx]
     rfl
    ·rw[List.getElem?_eq_none (by rw[List.length_map];omega),List.getElem?_eq_none (by rw[zfe];omega)]
   rw[eK]at r12304
   have hKn:=krM_num R p r n
   generalize krM R p r n=K at*
   generalize (frc p r n).length=nf at*
   have hgk:=(gj_ok (n:=nf) hKn n).2.1
   have co2:CallOK Tryz.prog 71 [immLL (matL (gj nf K n).1 (gj nf K n).2.1 n)] (matA (gj nf K n).1 (gj nf K n).2.1 n):=by
    have c1:=cOwn2 (isLL_mat (gj nf K n).1 (gj nf K n).2.1 n) (by rw[matL_len2];unfold maxN;omega) (fun i hi=>by rw[matL_len2]at hi;rw[matL_row2 hi];unfold maxN;omega)
    rw[rowLL_matLs]at c1
    exact c1
   have cb2:CallOK Tryz.prog 147 [immLL (matL K nf n)] (matA (gj nf K n).1 (gj nf K n).2.1 n):=by
    by_cases h9:nf=0
    ·subst h9
     have e0:(gj 0 K n).2.1=0:=by omega
     rw[e0]
     exact cBasis0 (isLL_mat K 0 n)
    ·exact cBasis (isLL_mat K nf n) (by omega) (by omega) hn hKn
   simp(disch:=first|assumption|omega) only[go_sem, ↓reduceIte,Nat.reduceEqDiff,zc,s3,r8208,s4,s5,r12288,s6,r12304,s8,hk']
   refine CLL_q _ cb2 (.cons (exq_mat (by first|exact r12304|(simp only[↓za, ↓reduceIte,Nat.reduceEqDiff,zb,reduceCtorEq];exact r12304)) (by decide)) .nil) rfl rfl (noI_mat _ _ _) ?_
   refine Yeo ?_
   refine CLL_q _ co2 (.cons (exq_mat Ur (by decide)) .nil) rfl rfl (noI_mat _ _ _) ?_
   refine Yeo ?_
   exact Yaa
def krA(n:Nat)(q:(Nat→Nat→Int)×Nat):AV:=matA (gj (frc (fsr (gj q.2 q.1 n).1 n) (gj q.2 q.1 n).2.1 n).length (krM (gj q.2 q.1 n).1 (fsr (gj q.2 q.1 n).1 n) (gj q.2 q.1 n).2.1 n) n).1 (krN (gj q.2 q.1 n).1 (gj q.2 q.1 n).2.1 n) n
def cmA(n:Nat)(q:(Nat→Nat→Int)×Nat):AV:=if q.2=0 then matA unM n n else krA n q
theorem noRef_cmA(n:Nat)(q:(Nat→Nat→Int)×Nat):noRef (cmA n q)=true:=by
 unfold cmA krA
 split<;>exact noRef_mat _ _ _
theorem cCommon{a b:AV}{K n:Nat}{T:Nat→Nat→Nat→Int}{vs:List Int}(ha:isLLL a (rws (fun k=>matL (T k) n n) K))(hb:isL b vs)(hK:0<K)(hv:K≤vs.length)(hKm:K≤1000)(h0:0<n)(hn:n≤1000)(hT: ∀k,numM (T k))(nv:numL vs):
  CallOK Tryz.prog 124 [a,b] (cmA n (cmn n (fun k=>lsM (T k) (atI vs k)) K)):=by
 have hl:(rws (fun k=>matL (T k) n n) K).length=K:=zfe _ _
 have nL: ∀k,numM (lsM (T k) (atI vs k)):=fun k=>num_lsM (hT k) _
 refine call_of (fn:=Tryz.f124) (code:=bodyOf Tryz.f124) Tryz.func124 rfl (by kernel_rfl) (noRef_cmA _ _) ?_
 intro sl hs
 have s0:sl 0=a:=hs 0
 have s1:sl 1=b:=hs 1
 dsimp only[Tryz.f124,bodyOf,Option.getD]
 simp(disch:=first|assumption|omega) only[go_sem, ↓reduceIte,Nat.reduceEqDiff,zc,s0,s1,hl]
 refine WK_for (fun k st=>st.sl 0=a∧st.sl 1=b∧st.sl 6=i64 (k:Int)∧(((st.sl 5= .ref 8192 (st.gn 8192) [] 0 (cmn n (fun k=>lsM (T k) (atI vs k)) k).2∧st.ro 8192 (st.gn 8192)=some (matA (cmn n (fun k=>lsM (T k) (atI vs k)) k).1 (cmn n (fun k=>lsM (T k) (atI vs k)) k).2 n))∨(st.sl 5= .ref 24752 (st.gn 24752) [] 0 (cmn n (fun k=>lsM (T k) (atI vs k)) k).2∧st.ro 24752 (st.gn 24752)=some (matA (cmn n (fun k=>lsM (T k) (atI vs k)) k).1 (cmn n (fun k=>lsM (T k) (atI vs k)) k).2 n))))) K ?_ ?_ ?_
 ·refine Yae ?_
  exact⟨rfl,.inl ⟨rfl,rfl⟩⟩
 ·rintro k sl ro gn hk ⟨s0,s1,s6,q⟩
  dsimp only at s0 s1 s6
  have hk':(k:Int)<(K:Nat):=by omega
  dsimp only at q
  have hm:=isLLL_mat ha (k:=k) (by rw[hl];exact hk)
  have em:mat (rws (fun k=>matL (T k) n n) K) k=matL (T k) n n:=by unfold mat;rw[List.getD_eq_getElem?_getD,rws_get _ _ _ hk];rfl
  rw[em]at hm
  have c1:k<vs.length:=by omega
  have cl:=cLessS (v:=atI vs k) hm (by omega) (hT k) (nv k)
  have hr:=cmn_le (n:=n) nL k
  have hrn:(cmn n (fun k=>lsM (T k) (atI vs k)) k).2+n≤4294967296:=by omega
  have hA1:=rows_all1 (f:=fun i=>rws (fun j=>i64 (lsM (T k) (atI vs k) i j)) n) h0
  have hA2:=rows_all2 (f:=fun i=>rws (fun j=>i64 (lsM (T k) (atI vs k) i j)) n) (n:=n)
  rcases q with⟨p5,pr⟩|⟨p5,pr⟩
  ·have hnr1:noRefL (rws (fun i=>AV.row (rws (fun j=>i64 ((cmn n (fun k=>lsM (T k) (atI vs k)) k).1 i j)) n)) (cmn n (fun k=>lsM (T k) (atI vs k)) k).2)=true:=noRef_mat _ _ _
   have hnr2:noRefL (rws (fun i=>AV.row (rws (fun j=>i64 (lsM (T k) (atI vs k) i j)) n)) n)=true:=noRef_mat _ _ _
   refine Yej ?_
   refine CLLD_pure _ cl PUt rfl ?_
   refine Ycx ?_
   rw[stk_rows]
   refine CLLD_q _ (cBasis (isLL_mat (stk (cmn n (fun k=>lsM (T k) (atI vs k)) k).2 (cmn n (fun k=>lsM (T k) (atI vs k)) k).1 (lsM (T k) (atI vs k))) ((cmn n (fun k=>lsM (T k) (atI vs k)) k).2+n) n) (by omega) (by omega) (by omega) (num_stk (num_cmn nL k) (nL k))) (.cons (exq_mat Ur (by decide)) .nil) rfl (noI_mat _ _ _) ?_
   have hnr3:noRefL (rws (fun i=>AV.row (rws (fun j=>i64 (stk (cmn n (fun k=>lsM (T k) (atI vs k)) k).2 (cmn n (fun k=>lsM (T k) (atI vs k)) k).1 (lsM (T k) (atI vs k)) i j)) n)) ((cmn n (fun k=>lsM (T k) (atI vs k)) k).2+n))=true:=noRef_mat _ _ _
   refine Yfy ?_
   refine FIN_of (by kernel_rfl) ?_
   simp(disch:=first|assumption|omega) only[go_sem, ↓reduceIte,Nat.reduceEqDiff,zc,s0,s1,s6,hk',hk]
   exact⟨i64c (by omega),.inr ⟨rfl,rfl⟩⟩
  ·have hnr1:noRefL (rws (fun i=>AV.row (rws (fun j=>i64 ((cmn n (fun k=>lsM (T k) (atI vs k)) k).1 i j)) n)) (cmn n (fun k=>lsM (T k) (atI vs k)) k).2)=true:=noRef_mat _ _ _
   have hnr2:noRefL (rws (fun i=>AV.row (rws (fun j=>i64 (lsM (T k) (atI vs k) i j)) n)) n)=true:=noRef_mat _ _ _
   refine Yej ?_
   refine CLLD_pure _ cl PUt rfl ?_
   refine Ycx ?_
   rw[stk_rows]
   refine CLLD_q _ (cBasis (isLL_mat (stk (cmn n (fun k=>lsM (T k) (atI vs k)) k).2 (cmn n (fun k=>lsM (T k) (atI vs k)) k).1 (lsM (T k) (atI vs k))) ((cmn n (fun k=>lsM (T k) (atI vs k)) k).2+n) n) (by omega) (by omega) (by omega) (num_stk (num_cmn nL k) (nL k))) (.cons (exq_mat Ur (by decide)) .nil) rfl (noI_mat _ _ _) ?_
   have hnr3:noRefL (rws (fun i=>AV.row (rws (fun j=>i64 (stk (cmn n (fun k=>lsM (T k) (atI vs k)) k).2 (cmn n (fun k=>lsM (T k) (atI vs k)) k).1 (lsM (T k) (atI vs k)) i j)) n)) ((cmn n (fun k=>lsM (T k) (atI vs k)) k).2+n))=true:=noRef_mat _ _ _
   refine Yfy ?_
   refine FIN_of (by kernel_rfl) ?_
   simp(disch:=first|assumption|omega) only[go_sem, ↓reduceIte,Nat.reduceEqDiff,zc,s0,s1,s6,hk',hk]
   exact⟨i64c (by omega),.inr ⟨rfl,rfl⟩⟩
 ·rintro sl ro gn ⟨s0,s1,s6,q⟩
  dsimp only at s0 s1 s6
  have hk': ¬((K:Nat):Int)<(K:Nat):=by omega
  dsimp only at q
  have hm:=isLLL_mat ha (k:=0) (by rw[hl];exact hK)
  have em:mat (rws (fun k=>matL (T k) n n) K) 0=matL (T 0) n n:=by unfold mat;rw[List.getD_eq_getElem?_getD,rws_get _ _ _ hK];rfl
  rw[em]at hm
  have lm:(matL (T 0) n n).length=n:=matL_len2 _ _ _
  rcases q with⟨p5,pr⟩|⟨p5,pr⟩
  ·by_cases hz:(cmn n (fun k=>lsM (T k) (atI vs k)) K).2=0
   ·have hz':(((cmn n (fun k=>lsM (T k) (atI vs k)) K).2:Nat):Int)=0:=by omega
    have e:cmA n (cmn n (fun k=>lsM (T k) (atI vs k)) K)=matA unM n n:=by unfold cmA;rw[if_pos hz]
    rw[e]
    refine Yde ?_
    refine CLL_pure _ (cUnit (n:=n) (by unfold maxN;omega)) PUt rfl rfl ?_
    refine Ych ?_
    exact Yaa
   ·have hz': ¬(((cmn n (fun k=>lsM (T k) (atI vs k)) K).2:Nat):Int)=0:=by omega
    have e:cmA n (cmn n (fun k=>lsM (T k) (atI vs k)) K)=krA n (cmn n (fun k=>lsM (T k) (atI vs k)) K):=by unfold cmA;rw[if_neg hz]
    rw[e]
    unfold krA
    have hcl:=cmn_le (n:=n) nL K
    have hcn:=num_cmn (n:=n) nL K
    generalize (cmn n (fun k=>lsM (T k) (atI vs k)) K).1=M at*
    generalize (cmn n (fun k=>lsM (T k) (atI vs k)) K).2=m at*
    refine Yfg ?_
    refine CLL_q _ (cKernel (isLL_mat M m n) (by omega) (by omega) h0 (by omega) hcn) (.cons (exq_mat (by first|exact pr|(simp only[↓za, ↓reduceIte,Nat.reduceEqDiff,zb,reduceCtorEq];exact pr)) (by decide)) .nil) rfl rfl (noI_mat _ _ _) ?_
    refine Ych ?_
    exact Yaa
  ·by_cases hz:(cmn n (fun k=>lsM (T k) (atI vs k)) K).2=0
   ·have hz':(((cmn n (fun k=>lsM (T k) (atI vs k)) K).2:Nat):Int)=0:=by omega
    have e:cmA n (cmn n (fun k=>lsM (T k) (atI vs k)) K)=matA unM n n:=by unfold cmA;rw[if_pos hz]
    rw[e]
    refine Yde ?_
    refine CLL_pure _ (cUnit (n:=n) (by unfold maxN;omega)) PUt rfl rfl ?_
    refine Ych ?_
    exact Yaa
   ·have hz': ¬(((cmn n (fun k=>lsM (T k) (atI vs k)) K).2:Nat):Int)=0:=by omega
    have e:cmA n (cmn n (fun k=>lsM (T k) (atI vs k)) K)=krA n (cmn n (fun k=>lsM (T k) (atI vs k)) K):=by unfold cmA;rw[if_neg hz]
    rw[e]
    unfold krA
    have hcl:=cmn_le (n:=n) nL K
    have hcn:=num_cmn (n:=n) nL K
    generalize (cmn n (fun k=>lsM (T k) (atI vs k)) K).1=M at*
    generalize (cmn n (fun k=>lsM (T k) (atI vs k)) K).2=m at*
    refine Yfg ?_
    refine CLL_q _ (cKernel (isLL_mat M m n) (by omega) (by omega) h0 (by omega) hcn) (.cons (exq_mat (by first|exact pr|(simp only[↓za, ↓reduceIte,Nat.reduceEqDiff,zb,reduceCtorEq];exact pr)) (by decide)) .nil) rfl rfl (noI_mat _ _ _) ?_
    refine Ych ?_
    exact Yaa
theorem cIs08{c a:AV}{T:List (List (List Int))}{xs:List Int}(hc:isLLL c T)(hT:CubeP T)(ha:isL a xs)(hl:xs.length=T.length)(nx:numL xs){t:Bool}(ht:t=true↔chP T xs):
  CallOK Tryz.prog 57 [.agg [c],a] (bo t):=by
 obtain⟨t1,t16,hcu⟩:=id hT
 have cn:=c123 ha (by rw[hl];unfold maxN;omega) (t:=true) ⟨fun _ k hk=>by have:=nx k;unfold num at this;omega,fun _=>rfl⟩
 have hl':(xs.length:Int)=T.length:=by omega
 have hx0:0<xs.length:=by omega
 refine call_of (fn:=Tryz.f57) (code:=bodyOf Tryz.f57) Tryz.func57 rfl (by kernel_rfl) (rfl) ?_
 intro sl hs
 have s0:sl 0= .agg [c]:=hs 0
 have s1:sl 1=a:=hs 1
 by_cases h1:atI xs 0=1
 ·dsimp only[Tryz.f57,bodyOf,Option.getD]
  refine Yce ?_
  refine CLL_pure _ cn PUt rfl rfl ?_
  simp(maxSteps:=10000000) (disch:=first|assumption|omega) only[go_sem, ↓reduceIte,Nat.reduceEqDiff,reduceCtorEq,Nat.reduceAdd,Nat.reduceMul,Nat.reduceLeDiff,zc,Int.reduceToNat,s0,s1,isL_idx0 ha hx0,eq_true h1]
  refine WK_for (fun i st=>st.sl 1=a∧st.sl 2= .ptr 4096 1 [] 0∧st.ro 4096 1=some (.bx [c])∧st.sl 5=i64 (T.length:Nat)∧st.sl 6=i64 (i:Int)∧(∀i',i'<i→ ∀j,j<T.length→chE1 T xs i' j)) T.length ?_ ?_ ?_
  ·refine Yae ?_
   exact⟨rfl,fun i' h=>absurd h (Nat.not_lt_zero _)⟩
  ·rintro i sl ro gn hi ⟨s1,s2,r4096,s5,s6,q⟩
   dsimp only at s1 s2 r4096 s5 s6
   have hi':(i:Int)<(T.length:Nat):=by omega
   have hm:=isLLL_mat hc hi
   have lm:(mat T i).length=T.length:=(hcu i hi).1
   have hxi:i<xs.length:=by omega
   simp(maxSteps:=10000000) (disch:=first|assumption|omega) only[go_sem, ↓reduceIte,Nat.reduceEqDiff,reduceCtorEq,Nat.reduceAdd,Nat.reduceMul,Nat.reduceLeDiff,zc,Int.reduceToNat,s1,s2,r4096,s5,s6,hi',hi]
   refine WK_for (fun j st=>st.sl 1=a∧st.sl 2= .ptr 4096 1 [] 0∧st.ro 4096 1=some (.bx [c])∧st.sl 5=i64 (T.length:Nat)∧st.sl 6=i64 (i:Int)∧st.sl 7=i64 (j:Int)∧(∀j',j'<j→chE1 T xs i j')) T.length ?_ ?_ ?_
   ·simp only[↓za, ↓reduceIte,Nat.reduceEqDiff,zb,reduceCtorEq,rws_zero,s1,s2,r4096,s5,s6,hi',hi]
    exact⟨rfl,fun j' h=>absurd h (Nat.not_lt_zero _)⟩
   ·rintro j sl ro gn hj ⟨s1,s2,r4096,s5,s6,s7,q2⟩
    dsimp only at s1 s2 r4096 s5 s6 s7
    have hj':(j:Int)<(T.length:Nat):=by omega
    have hjm:j<(mat T i).length:=by omega
    have hr:=isLL_row hm hjm
    have lr:(row (mat T i) j).length=T.length:=((hcu i hi).2 j hj).1
    have hxj:j<xs.length:=by omega
    have cd:=c102 hr ha (by rw[lr];unfold maxN;omega) (by omega) (numL_row hT i j) nx
    rw[lr]at cd
    have ni:=nx i
    have nj:=nx j
    unfold num at ni nj
    have hmul:=mulB ni.1 (show atI xs i≤55440 by omega) nj.1 (show atI xs j≤55440 by omega)
    have htm:Int.tmod (atI xs i*atI xs j) 55441=atI xs i*atI xs j % 55441:=Int.tmod_eq_emod_of_nonneg (by omega)
    by_cases he:atI xs i*atI xs j % 55441=sm (fun k=>at3 T i j k*atI xs k) T.length % 55441
    ·refine Ybp ?_
     refine CLLD_pure _ cd PUt rfl ?_
     simp(maxSteps:=10000000) (disch:=first|assumption|omega) only[go_sem, ↓reduceIte,Nat.reduceEqDiff,reduceCtorEq,Nat.reduceAdd,Nat.reduceMul,Nat.reduceLeDiff,zc,Int.reduceToNat,s1,s2,r4096,s5,s6,s7,hj',hj,eq_true he]
     refine FIN_of (by kernel_rfl) ?_
     refine Ycn ?_
     refine⟨i64c (by omega),fun j' hj'=>?_⟩
     rcases Nat.lt_or_eq_of_le (Nat.le_of_lt_succ hj')with h|h
     ·exact q2 j' h
     ·rw[h];exact he.symm
    ·have ht':t=false:=by
      cases t with
      |false=>rfl
      |true=>exact absurd ((ht.1 rfl).1 i hi j hj).symm he
     subst ht'
     refine Ybp ?_
     refine CLLD_pure _ cd PUt rfl ?_
     simp(maxSteps:=10000000) (disch:=first|assumption|omega) only[go_sem, ↓reduceIte,Nat.reduceEqDiff,reduceCtorEq,Nat.reduceAdd,Nat.reduceMul,Nat.reduceLeDiff,zc,Int.reduceToNat,s1,s2,r4096,s5,s6,s7,hj',hj,eq_false he]
     refine FIN_of (by kernel_rfl) ?_
     refine Ycn ?_
     exact Yaa
   ·rintro sl ro gn ⟨s1,s2,r4096,s5,s6,s7,q2⟩
    dsimp only at s1 s2 r4096 s5 s6 s7
    have hj': ¬((T.length:Nat):Int)<(T.length:Nat):=by omega
    simp(maxSteps:=10000000) (disch:=first|assumption|omega) only[go_sem, ↓reduceIte,Nat.reduceEqDiff,reduceCtorEq,Nat.reduceAdd,Nat.reduceMul,Nat.reduceLeDiff,zc,Int.reduceToNat,s1,s2,r4096,s5,s6,s7,hj']
    refine⟨i64c (by omega),fun i' hi'=>?_⟩
    rcases Nat.lt_or_eq_of_le (Nat.le_of_lt_succ hi')with h|h
    ·exact q i' h
    ·rw[h];exact q2
  ·rintro sl ro gn ⟨s1,s2,r4096,s5,s6,q⟩
   dsimp only at s1 s2 r4096 s5 s6
   have hi': ¬((T.length:Nat):Int)<(T.length:Nat):=by omega
   have ht':t=true:=ht.2 ⟨q,h1⟩
   simp(maxSteps:=10000000) (disch:=first|assumption|omega) only[go_sem, ↓reduceIte,Nat.reduceEqDiff,reduceCtorEq,Nat.reduceAdd,Nat.reduceMul,Nat.reduceLeDiff,zc,Int.reduceToNat,s1,s2,r4096,s5,s6,hi']
   exact Yaf
 ·have ht':t=false:=by
   cases t with
   |false=>rfl
   |true=>exact absurd (ht.1 rfl).2 h1
  subst ht'
  dsimp only[Tryz.f57,bodyOf,Option.getD]
  refine Yce ?_
  refine CLL_pure _ cn PUt rfl rfl ?_
  simp(maxSteps:=10000000) (disch:=first|assumption|omega) only[go_sem, ↓reduceIte,Nat.reduceEqDiff,reduceCtorEq,Nat.reduceAdd,Nat.reduceMul,Nat.reduceLeDiff,zc,Int.reduceToNat,s0,s1,isL_idx0 ha hx0,eq_false h1]
  exact Yaa
theorem isLLs_take: ∀ {cs:List AV} {T:List (List (List Int))} (k:Nat),isLLs cs T→isLLs (cs.take k) (T.take k)
 |_,_,0,_=>by rw[List.take_zero,List.take_zero];trivial
 | [],[],k+1,_=>by rw[List.take_nil,List.take_nil];trivial
 |a::bs,x::xs,k+1,h=>⟨h.1,isLLs_take k h.2⟩
theorem slice_L{c:AV}{T:List (List (List Int))}(hc:isLLL c T)(hT:CubeP T){k:Nat}(hk:k≤T.length): ∃c',isLLL c' (rws (fun i=>matL (ringM T i) T.length T.length) k)∧
  ∀ {ro:Ro} {a1:Nat} {a2:Bool} {a3:List Value} {e:Nat} {a5:List (Nat×Nat)} {a6:Option IntKind} {a7 a8:Bool} {a9 a10:Option (Nat×Nat)},kSlice (some ⟨a1,a2,a3,some e,a5,a6,a7,a8,a9,a10⟩) ro c none (some (.sc (.int .i64 (k:Int))))=some ⟨c',none,[],[]⟩:=by
 rcases hc with⟨cs,rfl,h⟩|⟨h,rfl⟩
 ·have hl:=isLLs_len h
  refine⟨.imm (cs.take k),.inl ⟨_,rfl,?_⟩,fun {ro a1 a2 a3 e a5 a6 a7 a8 a9 a10}=>?_⟩
  ·have e:rws (fun i=>matL (ringM T i) T.length T.length) k=T.take k:=by
    apply List.ext_getElem?
    intro i
    rw[List.getElem?_take]
    split
    ·rename_i hi
     have hin:i<T.length:=by omega
     rw[rws_get _ _ _ hi,List.getElem?_eq_getElem hin, ←ringM_mat hT hin]
     unfold mat
     rw[List.getD_eq_getElem?_getD,List.getElem?_eq_getElem hin]
     rfl
    ·rename_i hi
     exact List.getElem?_eq_none (by rw[zfe];omega)
   rw[e]
   exact isLLs_take k h
  ·have h1:(0:Int)≤(k:Nat):=by omega
   have h2:((k:Nat):Int)≤cs.length:=by omega
   simp only[kSlice,evInt,Option.isSome_some,if_true,Int.le_refl,h1,h2,and_self,Int.sub_zero,Int.toNat_natCast,Int.toNat_zero,List.drop_zero]
 ·have:=hT.1
  subst h
  simp at this
theorem cmA_row(n:Nat)(q:(Nat→Nat→Int)×Nat): ∃rows,cmA n q= .row rows∧rows.length=cmQ n q:=by
 unfold cmA cmQ
 split
 ·exact⟨_,rfl,zfe _ _⟩
 ·exact⟨_,rfl,zfe _ _⟩
def gpr(T:List (List (List Int)))(m:Nat)(x vs:List Int):List (List Int):=vs.flatMap fun v=>if okS T (x++ [v])=true then grw (vlS T) (okS T) (chB T) m (x++ [v])else []
theorem gpr_take{T:List (List (List Int))}{m u:Nat}{x vs:List Int}{v:Int}(hu:vs[u]?=some v):gpr T m x (vs.take (u+1))=gpr T m x (vs.take u)++(if okS T (x++ [v])=true then grw (vlS T) (okS T) (chB T) m (x++ [v])else []):=by
 unfold gpr
 rw[List.take_add_one,hu,List.flatMap_append]
 simp
theorem gpr_le(T:List (List (List Int)))(m u:Nat)(x vs:List Int):(gpr T m x (vs.take u)).length≤(gpr T m x vs).length:=by
 have h:=List.take_append_drop u vs
 conv=>rhs;rw[←h]
 unfold gpr
 rw[List.flatMap_append,List.length_append]
 omega
theorem gpr_all(T:List (List (List Int)))(m:Nat)(x:List Int):grw (vlS T) (okS T) (chB T) (m+1) x=gpr T m x (vlS T x.length):=rfl
theorem upr_new{ro:Ro}{gn:Nat→Nat}{s g S G:Nat}{v:AV}(hg:g≤gn s)(hG:gn S<G):upr ro S G v s g=ro s g:=if_neg fun h=>by
 obtain⟨e1,e2⟩:=h
 subst e1
 omega
theorem upr_nex{ro:Ro}{s g S G:Nat}{v:AV}(h: ¬(s=S∧g=G)):upr ro S G v s g=ro s g:=if_neg h
theorem mono_up{gn gn':Nat→Nat}{S v:Nat}(h: ∀s,gn s≤gn' s)(hv:gn S≤v): ∀s,gn s≤upg gn' S v s:=fun s=>by
 unfold upg
 split
 ·rename_i e;rw[e];exact hv
 ·exact h s
structure GrI(c:AV)(T:List (List (List Int)))(sx gx gL gb gv:Nat)(x:List Int)(L:List (List Int))(ro0:Ro)(gn0:Nat→Nat)(t3:AV)(ro:Ro)(gn:Nat→Nat):Prop where
 box:ro 4096 gb=some (.bx [c])
 gbl:gb≤gn 4096
 vals:ro 8192 gv=some (rowLL (rws (vlS T) T.length))
 xx:ro sx gx=some (rowL x)
 lst: ∃g,t3= .ref 28720 g [] 0 L.length∧ro 28720 g=some (rowLL L)∧(g=gL∨gn0 28720<g)∧g≤gn 28720
 fr: ∀s g,g≤gn0 s→ ¬(s=28720∧g=gL)→ ¬(s=sx∧g=gx)→ro s g=ro0 s g
 mono: ∀s,gn0 s≤gn s
theorem GrI.ext{c:AV}{T:List (List (List Int))}{sx gx gL gb gv:Nat}{x:List Int}{L:List (List Int)}{ro0:Ro}{gn0:Nat→Nat}{t3:AV}{ro ro1:Ro}{gn gn1:Nat→Nat}(G:GrI c T sx gx gL gb gv x L ro0 gn0 t3 ro gn)
  (hv:gv≤gn0 8192) (hx:gx≤gn0 sx) (h: ∀s g,g≤gn s→ro1 s g=ro s g) (hm: ∀s,gn s≤gn1 s):GrI c T sx gx gL gb gv x L ro0 gn0 t3 ro1 gn1:=by
 obtain⟨g,l1,l2,l3,l4⟩:=G.lst
 exact⟨(h _ _ G.gbl).trans G.box,Nat.le_trans G.gbl (hm _),(h _ _ (Nat.le_trans hv (G.mono _))).trans G.vals,(h _ _ (Nat.le_trans hx (G.mono _))).trans G.xx,⟨g,l1,(h _ _ l4).trans l2,l3,Nat.le_trans l4 (hm _)⟩,
  fun s g h1 h2 h3=>(h s g (Nat.le_trans h1 (G.mono _))).trans (G.fr s g h1 h2 h3),fun s=>Nat.le_trans (G.mono s) (hm s)⟩
theorem GrI.call{c:AV}{T:List (List (List Int))}{sx gx gL gb gv g3 gz:Nat}{x:List Int}{L L':List (List Int)}{ro0:Ro}{gn0:Nat→Nat}{t3 t3':AV}{ro ro1:Ro}{gn gn1:Nat→Nat}(G:GrI c T sx gx gL gb gv x L ro0 gn0 t3 ro gn)
  (hv:gv≤gn0 8192) (hx:gx≤gn0 sx) (hs:sx=28704∨sx=40976) (hg3:g3=gL∨gn0 28720<g3) (hz:gn0 40976<gz)
  (h: ∀s g,g≤gn s→ ¬(s=28720∧g=g3)→ ¬(s=40976∧g=gz)→ro1 s g=ro s g) (hm: ∀s,gn s≤gn1 s)
  (hl: ∃g,t3'= .ref 28720 g [] 0 L'.length∧ro1 28720 g=some (rowLL L')∧(g=g3∨gn 28720<g)∧g≤gn1 28720):GrI c T sx gx gL gb gv x L' ro0 gn0 t3' ro1 gn1:=by
 obtain⟨g,l1,l2,l3,l4⟩:=hl
 refine⟨(h _ _ G.gbl (by omega) (by omega)).trans G.box,Nat.le_trans G.gbl (hm _),(h _ _ (Nat.le_trans hv (G.mono _)) (by omega) (by omega)).trans G.vals,(h _ _ (Nat.le_trans hx (G.mono _)) (by omega) fun e=>?_).trans G.xx,⟨g,l1,l2,?_,l4⟩,
  fun s g h1 h2 h3=>(h s g (Nat.le_trans h1 (G.mono _)) (fun e=>?_) (fun e=>?_)).trans (G.fr s g h1 h2 h3),fun s=>Nat.le_trans (G.mono s) (hm s)⟩
 ·obtain⟨e1,e2⟩:=e
  rw[e1]at hx
  omega
 ·have:=G.mono 28720
  omega
 ·obtain⟨e1,e2⟩:=e
  subst e1
  omega
 ·obtain⟨e1,e2⟩:=e
  subst e1
  omega
def GrowS(c:AV)(T:List (List (List Int)))(m:Nat):Prop:= ∀(ro:Ro) (gn:Nat→Nat) (x:List Int) (L:List (List Int)) (sx gx gL gv:Nat),x.length+m=T.length→numL x→L.length+(grw (vlS T) (okS T) (chB T) m x).length≤65536→
  ro 8192 gv=some (rowLL (rws (vlS T) T.length))→ro sx gx=some (rowL x)→ro 28720 gL=some (rowLL L)→(sx=28704∨sx=40976)→gv≤gn 8192→gx≤gn sx→gL≤gn 28720→
  InS Tryz.prog 93 [.agg [c],.ref 8192 gv [] 0 T.length,.ref sx gx [] 0 x.length,.ref 28720 gL [] 0 L.length] ro gn (fun r ro' gn'=>
   (∃g,r= .ref 28720 g [] 0 (L++grw (vlS T) (okS T) (chB T) m x).length∧ro' 28720 g=some (rowLL (L++grw (vlS T) (okS T) (chB T) m x))∧(g=gL∨gn 28720<g)∧g≤gn' 28720)∧
   (∀s g,g≤gn s→ ¬(s=28720∧g=gL)→ ¬(s=sx∧g=gx)→ro' s g=ro s g)∧ ∀s,gn s≤gn' s)
set_option maxHeartbeats 4000000 in
theorem growBase{c:AV}{T:List (List (List Int))}(hc:isLLL c T)(hT:CubeP T):GrowS c T 0:=by
 intro ro gn x L sx gx gL gv hm nx hB rv rx rL hsx gv1 gx1 gL1
 have hxl:x.length=T.length:=by omega
 have hxl':(x.length:Int)=T.length:=by omega
 have c08:=cIs08 hc hT (isL_imm x) hxl nx (chB_iff T x)
 refine in_ofS (fn:=Tryz.f93) (code:=bodyOf Tryz.f93) Tryz.func93 rfl (by kernel_rfl) ?_
 intro sl hs
 have s0:sl 0= .agg [c]:=hs 0
 have s1:sl 1= .ref 8192 gv [] 0 T.length:=hs 1
 have s2:sl 2= .ref sx gx [] 0 x.length:=hs 2
 have s3:sl 3= .ref 28720 gL [] 0 L.length:=hs 3
 have qx: ∀S,S≠28704→S≠40976→(sx=S)=False:=fun S h1 h2=>eq_false fun e=>by omega
 have qx': ∀S,S≠28704→S≠40976→(S=sx)=False:=fun S h1 h2=>eq_false fun e=>by omega
 dsimp only[Tryz.f93,bodyOf,Option.getD]
 simp(maxSteps:=10000000) (disch:=first|assumption|omega) only[go_sem, ↓reduceIte,Nat.reduceEqDiff,reduceCtorEq,Nat.reduceAdd,Nat.reduceMul,Nat.reduceLeDiff,zc,Int.reduceToNat,s0,s1,s2,s3,ti33,ti31,isLLL_len hc,qx,rx,eq_true hxl']
 refine CLL_q _ c08 (.cons (exq_agg (.cons (exq_LLL hc (by decide)) .nil)) (.cons (exq_refL (xs:=x) (by simp(disch:=omega) only[↓za, ↓reduceIte,Nat.reduceEqDiff,zb,reduceCtorEq,qx];exact rx) rfl (by decide)) .nil)) rfl rfl rfl ?_
 have hg0:grw (vlS T) (okS T) (chB T) 0 x=if chB T x=true then [x]else []:=rfl
 rw[hg0]at hB ⊢
 cases hb:chB T x with
 |true=>
  rw[hb,if_pos rfl]at hB
  simp only[List.length_singleton]at hB
  have hL1:L.length+1≤4294967296:=by omega
  have hLt:(L.map rowL).take L.length=L.map rowL:=List.take_of_length_le (by rw[List.length_map];exact Nat.le_refl _)
  simp(maxSteps:=10000000) (disch:=first|assumption|omega) only[go_sem, ↓reduceIte,Nat.reduceEqDiff,reduceCtorEq,Nat.reduceAdd,Nat.reduceMul,Nat.reduceLeDiff,zc,Int.reduceToNat,s0,s1,s2,s3,qx,qx',rx,rL,List.length_map,hL1,hLt]
  refine RETS_1 (.ref 28720 (gn 28720+1) [] 0 (L.length+1)) Ur ⟨⟨gn 28720+1,by rw[List.length_append];rfl,?_,.inr (Nat.lt_succ_self _),Ur⟩,fun s g h1 h2 h3=>?_,?_⟩
  ·rw[upr_eq]
   show some (AV.row _)=some (AV.row ((L++ [x]).map rowL))
   rw[List.map_append]
   rfl
  ·rw[upr_new h1 (by omega),upr_nex h2,upr_new h1 (by omega),upr_new h1 (by omega),upr_nex h3,upr_new h1 (by omega)]
  ·exact mono_up (mono_up (mono_up (fun _=>Nat.le_refl _) (by omega)) (by omega)) (by omega)
 |false=>
  simp(maxSteps:=10000000) (disch:=first|assumption|omega) only[go_sem, ↓reduceIte,Nat.reduceEqDiff,reduceCtorEq,Nat.reduceAdd,Nat.reduceMul,Nat.reduceLeDiff,zc,Int.reduceToNat,s0,s1,s2,s3,qx,qx',rx,rL]
  refine RETS_1 (.ref 28720 gL [] 0 L.length) Ur ⟨⟨gL,?_,?_,.inl rfl,Ue gL1⟩,fun s g h1 h2 h3=>?_,?_⟩
  ·simp
  ·rw[upr_ne (by decide)]
   exact rL
  ·rw[upr_new h1 (by omega)]
  ·exact mono_up (fun _=>Nat.le_refl _) (by omega)
set_option maxHeartbeats 4000000 in
theorem growStep{c:AV}{T:List (List (List Int))}(hc:isLLL c T)(hT:CubeP T){m:Nat}(ih:GrowS c T m):GrowS c T (m+1):=by
 intro ro0 gn0 x L sx gx gL gv hm nx hB rv rx rL hsx gv1 gx1 gL1
 have hxl': ¬(x.length:Int)=T.length:=by omega
 refine in_ofS (fn:=Tryz.f93) (code:=bodyOf Tryz.f93) Tryz.func93 rfl (by kernel_rfl) ?_
 intro sl hs
 have s0:sl 0= .agg [c]:=hs 0
 have s1:sl 1= .ref 8192 gv [] 0 T.length:=hs 1
 have s2:sl 2= .ref sx gx [] 0 x.length:=hs 2
 have s3:sl 3= .ref 28720 gL [] 0 L.length:=hs 3
 have qx: ∀S,S≠28704→S≠40976→(sx=S)=False:=fun S h1 h2=>eq_false fun e=>by omega
 have qx': ∀S,S≠28704→S≠40976→(S=sx)=False:=fun S h1 h2=>eq_false fun e=>by omega
 dsimp only[Tryz.f93,bodyOf,Option.getD]
 simp(maxSteps:=10000000) (disch:=first|assumption|omega) only[go_sem, ↓reduceIte,Nat.reduceEqDiff,reduceCtorEq,Nat.reduceAdd,Nat.reduceMul,Nat.reduceLeDiff,zc,Int.reduceToNat,s0,s1,s2,s3,ti33,ti31,isLLL_len hc,qx,rx,eq_false hxl']
 have hgr:=gpr_all T m x
 rw[hgr]at hB ⊢
 clear hgr
 refine WK_for (fun i st=>st.sl 1= .ref 8192 gv [] 0 T.length∧st.sl 2= .ref sx gx [] 0 x.length∧st.sl 4= .ptr 4096 (gn0 4096+1) [] 0∧st.sl 9=i64 (x.length:Nat)∧st.sl 10=i64 (i:Int)∧(GrI c T sx gx gL (gn0 4096+1) gv x (L++gpr T m x ((vlS T x.length).take i)) ro0 gn0 (st.sl 3) st.ro st.gn)) ((vlS T x.length).length) ?_ ?_ ?_
 ·simp only[↓za, ↓reduceIte,Nat.reduceEqDiff,zb,reduceCtorEq,rws_zero,s0,s1,s2,s3]
  refine⟨rfl,⟨upr_eq,Ur,by rw[upr_ne (by decide)];exact rv,by rw[upr_ne (by omega)];exact rx,⟨gL,?_,?_,.inl rfl,Ue gL1⟩,fun s g h1 h2 h3=>upr_new h1 (by omega),mono_up (fun _=>Nat.le_refl _) (by omega)⟩⟩
  ·simp[gpr]
  ·rw[upr_ne (by decide),rL]
   simp[gpr]
 ·rintro i sl ro gn hi ⟨s1,s2,s4,s9,s10,G⟩
  dsimp only at s1 s2 s4 s9 s10
  have hi':(i:Int)<((vlS T x.length).length:Nat):=by omega
  dsimp only at G
  obtain⟨v,hv⟩: ∃v,(vlS T x.length)[i]?=some v:=⟨_,List.getElem?_eq_getElem hi⟩
  have hvm:v∈vlS T x.length:=List.mem_of_getElem? hv
  have nv:num v:=by have:=evS_mem.1 hvm;unfold num;omega
  have hvl:=evS_len (hpp (hes T.length (ringM T x.length) (T.length-2)) T.length) 55441
  have hvl':(vlS T x.length).length≤55441:=hvl
  have hb:=gpr_le T m (i+1) x (vlS T x.length)
  rw[gpr_take hv,List.length_append]at hb
  have eL:L++gpr T m x ((vlS T x.length).take (i+1))=(L++gpr T m x ((vlS T x.length).take i))++(if okS T (x++ [v])=true then grw (vlS T) (okS T) (chB T) m (x++ [v])else []):=by rw[gpr_take hv,List.append_assoc]
  rw[eL]
  have hLi:(L++gpr T m x ((vlS T x.length).take i)).length=L.length+(gpr T m x ((vlS T x.length).take i)).length:=List.length_append
  generalize L++gpr T m x ((vlS T x.length).take i)=Li at*
  generalize (gpr T m x ((vlS T x.length).take i)).length=li at*
  have hzl:(x++ [v]).length=x.length+1:=by rw[List.length_append];rfl
  have nz:numL (x++ [v]):=numL_app nx nv
  have hxn:x.length<T.length:=by omega
  have hvg:((rws (vlS T) T.length).map rowL)[x.length]?=some (.row ((vlS T x.length).map i64)):=by rw[List.getElem?_map,rws_get _ _ _ hxn];rfl
  have hvr:((vlS T x.length).map i64)[i]?=some (i64 v):=by rw[List.getElem?_map,hv];rfl
  have hrl:(rws (vlS T) T.length).length=T.length:=zfe _ _
  obtain⟨c',hc',hsl⟩:=slice_L hc hT (k:=x.length+1) (by omega)
  obtain⟨rows,hrw,hrn⟩:=cmA_row T.length (cmS T (x++ [v]))
  have cc:=cCommon (T:=ringM T) (vs:=x++ [v]) hc' (isL_imm (x++ [v])) (Nat.succ_pos _) (by omega) (by have:=hT.2.1;omega) hT.1 (by have:=hT.2.1;omega) (fun k=>ringM_num hT k) nz
  have ecm:cmn T.length (fun k=>lsM (ringM T k) (atI (x++ [v]) k)) (x.length+1)=cmS T (x++ [v]):=by unfold cmS;rw[hzl]
  rw[ecm]at cc
  have hnI:noI (cmA T.length (cmS T (x++ [v])))=true:=by unfold cmA krA;split<;>exact noI_mat _ _ _
  have hiP:impOK (cmA T.length (cmS T (x++ [v])))=true:=by unfold cmA krA;split<;>rfl
  rw[hrw]at cc hnI hiP
  obtain⟨g3,h3,hL3,hg3,hg3'⟩:=G.lst
  have hbox:=G.box
  have hvals:=G.vals
  have hxx:=G.xx
  have hM9:=G.mono
  have hi2:(i:Int)<(vlS T x.length).length:=by omega
  have hx2:x.length+1≤4294967296:=by have:=hT.2.1;omega
  have hxt:(x.map i64).take x.length=x.map i64:=List.take_of_length_le (by rw[List.length_map];exact Nat.le_refl _)
  simp(maxSteps:=10000000) (disch:=first|assumption|omega) only[go_sem, ↓reduceIte,Nat.reduceEqDiff,reduceCtorEq,Nat.reduceAdd,Nat.reduceMul,Nat.reduceLeDiff,zc,Int.reduceToNat,s1,s2,s4,s9,s10,hi',hi,hvals,hvg,hvr,List.length_map,hrl,hi2,hi,hxn]
  refine CLLD_q _ (cOwn (isL_imm x) (by have:=hT.2.1;unfold maxN;omega)) (.cons (exq_refL hxx rfl (by decide)) .nil) rfl (noI_rowL _) ?_
  have hsh:shO (blkO (ro sx gx))=true:=by
   rw[hxx]
   exact nrf x
  simp(maxSteps:=10000000) (disch:=first|assumption|omega) only[go_sem, ↓reduceIte,Nat.reduceEqDiff,reduceCtorEq,Nat.reduceAdd,Nat.reduceMul,Nat.reduceLeDiff,zc,Int.reduceToNat,s1,s2,s4,s9,s10,hi',hi,hvals,hvg,hvr,List.length_map,hrl,hi2,hi,hxn,impE_row,hxt,hx2,hsh]
  refine FIN_of (by rcases hsx with e|e<;>rw[e]<;>kernel_rfl) ?_
  have hsl':= @hsl
  have hx3:((x.length:Nat):Int)+1=((x.length+1:Nat):Int):=by omega
  simp(maxSteps:=10000000) (disch:=first|assumption|omega) only[go_sem, ↓reduceIte,Nat.reduceEqDiff,reduceCtorEq,Nat.reduceAdd,Nat.reduceMul,Nat.reduceLeDiff,zc,Int.reduceToNat,s1,s2,s4,s9,s10,hi',hi,hbox,hsl',List.length_map,hx3,Option.map_some,Option.map_none]
  refine CLL_q _ cc (.cons (exq_LLL hc' (by decide)) (.cons (exq_refL (xs:=x++ [v]) (by rw[upr_eq];exact congrArg some (by show AV.row _=AV.row _;rw[List.map_append];rfl)) hzl.symm (by decide)) .nil)) rfl hiP hnI ?_
  by_cases hok:okS T (x++ [v])=true
  ·have hpos:(0:Int)<rows.length:=by
    have:=of_decide_eq_true hok
    unfold cmR at this
    omega
   rw[if_pos hok]at hb ⊢
   have I:=fun(ro:Ro) (gn:Nat→Nat) (gx:Nat)=>ih ro gn (x++ [v]) Li 40976 gx g3 gv (by omega) nz (by omega)
   simp only[hzl]at I
   simp(maxSteps:=10000000) (disch:=first|assumption|omega) only[go_sem, ↓reduceIte,Nat.reduceEqDiff,reduceCtorEq,Nat.reduceAdd,Nat.reduceMul,Nat.reduceLeDiff,zc,Int.reduceToNat,s1,s2,s4,s9,s10,hi',hi,impE_row,hpos,h3,hbox]
   refine CLL_inS rfl (I _ _ _ ?_ ?_ ?_ (.inr trivial) ?_ ?_ ?_) ?_
   ·exact Ue hvals
   ·simp only[↓za, ↓reduceIte,Nat.reduceEqDiff,zb,reduceCtorEq];exact congrArg some (by show AV.row _=AV.row _;rw[List.map_append];rfl)
   ·exact Ue hL3
   ·simp only[↓za, ↓reduceIte,Nat.reduceEqDiff,zb,reduceCtorEq];have:=hM9 8192;omega
   ·exact Ur
   ·exact Ue hg3'
   rintro r ro' gn' ⟨⟨g',rfl,hro',hg',hgl'⟩,hfr',hM9'⟩
   simp(maxSteps:=10000000) (disch:=first|assumption|omega) only[go_sem, ↓reduceIte,Nat.reduceEqDiff,reduceCtorEq,Nat.reduceAdd,Nat.reduceMul,Nat.reduceLeDiff,zc,Int.reduceToNat,s1,s2,s4,s9,s10,hi',hi]
   refine⟨i64c (by omega),GrI.call (G.ext gv1 gx1 (fun s g h1=>?_) ?_) gv1 gx1 hsx hg3 (gz:=gn 40976+1+1) ?_ hfr' hM9' ⟨g',rfl,hro',hg',hgl'⟩⟩
   ·dsimp only
    rw[upr_new h1 (by omega),upr_new h1 (by omega),upr_new h1 (by omega),upr_new h1 (by omega),upr_new h1 (by omega)]
   ·dsimp only
    exact mono_up (mono_up (mono_up (mono_up (fun _=>Nat.le_refl _) (by omega)) (by omega)) (by omega)) (by omega)
   ·have:=hM9 40976
    omega
  ·have hpos: ¬(0:Int)<rows.length:=by
    intro h
    refine hok (decide_eq_true ?_)
    unfold cmR
    omega
   rw[if_neg hok]at hb ⊢
   rw[List.append_nil]
   simp(maxSteps:=10000000) (disch:=first|assumption|omega) only[go_sem, ↓reduceIte,Nat.reduceEqDiff,reduceCtorEq,Nat.reduceAdd,Nat.reduceMul,Nat.reduceLeDiff,zc,Int.reduceToNat,s1,s2,s4,s9,s10,hi',hi,impE_row,hpos]
   refine⟨i64c (by omega),G.ext gv1 gx1 (fun s g h1=>?_) ?_⟩
   ·rw[upr_new h1 (by omega),upr_new h1 (by omega),upr_new h1 (by omega),upr_new h1 (by omega),upr_new h1 (by omega)]
   ·exact mono_up (mono_up (mono_up (mono_up (fun _=>Nat.le_refl _) (by omega)) (by omega)) (by omega)) (by omega)
 ·rintro sl ro gn ⟨s1,s2,s4,s9,s10,G⟩
  dsimp only at s1 s2 s4 s9 s10
  have hi': ¬(((vlS T x.length).length:Nat):Int)<((vlS T x.length).length:Nat):=by omega
  dsimp only at G
  rw[List.take_length]at G
  obtain⟨g3,h3,hL3,hg3,hg3'⟩:=G.lst
  have hvals:=G.vals
  have hxn:x.length<T.length:=by omega
  have hvg:((rws (vlS T) T.length).map rowL)[x.length]?=some (.row ((vlS T x.length).map i64)):=by rw[List.getElem?_map,rws_get _ _ _ hxn];rfl
  have hrl:(rws (vlS T) T.length).length=T.length:=zfe _ _
  have hvl:=evS_len (hpp (hes T.length (ringM T x.length) (T.length-2)) T.length) 55441
  have hi2: ¬((vlS T x.length).length:Int)<(vlS T x.length).length:=by omega
  simp(maxSteps:=10000000) (disch:=first|assumption|omega) only[go_sem, ↓reduceIte,Nat.reduceEqDiff,reduceCtorEq,Nat.reduceAdd,Nat.reduceMul,Nat.reduceLeDiff,zc,Int.reduceToNat,s1,s2,s4,s9,s10,hi',hvals,hvg,List.length_map,hrl,hi2,hxn,h3]
  refine RETS_1 (.ref 28720 g3 [] 0 (L++gpr T m x (vlS T x.length)).length) Ur ⟨⟨g3,rfl,hL3,hg3,hg3'⟩,G.fr,G.mono⟩
theorem inGrow{c:AV}{T:List (List (List Int))}(hc:isLLL c T)(hT:CubeP T): ∀m,GrowS c T m
 |0=>growBase hc hT
 |m+1=>growStep hc hT (inGrow hc hT m)
theorem cAllS{c:AV}{T:List (List (List Int))}(hc:isLLL c T)(hT:CubeP T):CallOK Tryz.prog 47 [.agg [c]] (rowLL (chsS T)):=by
 obtain⟨t1,t16,hcu⟩:=id hT
 have hfew:(chsS T).length≤T.length:=by rw[←chs_same hT];exact chs_few hT
 refine call_of (fn:=Tryz.f47) (code:=bodyOf Tryz.f47) Tryz.func47 rfl (by kernel_rfl) (noRef_rowLL _) ?_
 intro sl hs
 have s0:sl 0= .agg [c]:=hs 0
 dsimp only[Tryz.f47,bodyOf,Option.getD]
 refine Yag ?_
 refine WK_for (fun i st=>st.sl 1= .ptr 4096 1 [] 0∧st.ro 4096 1=some (.bx [c])∧st.sl 3= .ref 8192 (st.gn 8192) [] 0 i∧st.ro 8192 (st.gn 8192)=some (.row (rws (fun k=>rowL (vlS T k)) i))∧st.sl 4=i64 (i:Int)) T.length ?_ ?_ ?_
 ·refine Yad ?_
  repeat' first|rfl|apply And.intro
 ·rintro i sl ro gn hi ⟨s1,r4096,s3,r8192,s4⟩
  dsimp only at s1 r4096 s3 r8192 s4
  have hi':(i:Int)<(T.length:Nat):=by omega
  have hi2:i+1≤4294967296:=by omega
  have hm:=isLLL_mat hc hi
  rw[ringM_mat hT hi]at hm
  have cv:CallOK Tryz.prog 92 [atA c i] (rowL (vlS T i)):=cValS hm (by omega) (by omega) (ringM_num hT i)
  simp(disch:=first|assumption|omega) only[go_sem, ↓reduceIte,Nat.reduceEqDiff,zc,s1,r4096,s3,r8192,s4,hi',hi,isLLL_len hc]
  refine CLL_pure _ cv PUt rfl rfl ?_
  simp(disch:=first|assumption|omega) only[go_sem, ↓reduceIte,Nat.reduceEqDiff,Nat.reduceAdd,Nat.reduceMul,zc,s1,r4096,s3,r8192,s4,hi',hi,impE_row,List.length_map,hi2]
  exact i64c (by omega)
 ·rintro sl ro gn ⟨s1,r4096,s3,r8192,s4⟩
  dsimp only at s1 r4096 s3 r8192 s4
  have hi': ¬((T.length:Nat):Int)<(T.length:Nat):=by omega
  simp(disch:=first|assumption|omega) only[go_sem, ↓reduceIte,Nat.reduceEqDiff,Nat.reduceAdd,Nat.reduceMul,zc,s1,r4096,s3,r8192,s4,hi',isLLL_len hc]
  refine CLL_inS rfl (inGrow hc hT T.length _ _ [] [] 28704 _ _ _ (by simp) (fun j=>by rw[atI_out (by simp)];unfold num;decide) ?_ ?_ ?_ ?_ (.inl rfl) ?_ ?_ ?_) ?_
  ·show 0+(chsS T).length≤65536
   omega
  ·refine Ybg ?_
   rw[r8192,rowLL,rws_map]
  ·simp only[↓za, ↓reduceIte,Nat.reduceEqDiff,zb,reduceCtorEq];rfl
  ·simp only[↓za, ↓reduceIte,Nat.reduceEqDiff,zb,reduceCtorEq];rfl
  ·exact Ur
  ·exact Ur
  ·exact Ur
  rintro r ro' gn' ⟨⟨g',rfl,hro', -, -⟩, -, -⟩
  rw[List.nil_append]at hro' ⊢
  simp(disch:=first|assumption|omega) only[go_sem, ↓reduceIte,Nat.reduceEqDiff,zc,s1,r4096,s3,r8192,s4,hi']
  simp only[zr,zb,retR,resL,outT,outL,zes,zez,oneV,zcp,zed,zfi,Ro.dl,St.ev,zhk, ↓za, ↓reduceIte,Nat.reduceEqDiff,Nat.reduceAdd,Nat.reduceLeDiff,hro',rowLL]
  rfl
theorem RF_F2{T:List (List (List Int))}(h:RF T=none):F2 T=none:=by
 cases h1:F1 T with
 |some l=>rw[RF1 h1]at h;cases h
 |none=>
  cases h2:F2 T with
  |some l=>rw[RF2 h1 h2]at h;cases h
  |none=>rfl
noncomputable def dd(T:List (List (List Int)))(j:Nat):Nat:=(dlT T j).toNat
theorem dd_ok{T:List (List (List Int))}(h:RngP T){j:Nat}(hj:j<T.length):dlT T j=(dd T j:Nat)∧dd T j<T.length:=by
 obtain⟨m,h1,h2⟩:=dl_ok (RF_F2 h.2) hj
 have e:dd T j=m:=by unfold dd;rw[h1];exact Int.toNat_natCast m
 rw[e]
 exact⟨h1,h2⟩
noncomputable def cdg(T:List (List (List Int)))(x:List Int):Int:=sm (fun j=>atI x j*atI x (dd T j)) T.length % 55441
theorem duals_nat{T:List (List (List Int))}(h:RngP T):rws (fun i=>i64 (dlT T i)) T.length=(rws (fun i=>((dd T i:Nat):Int)) T.length).map i64:=by
 rw[rws_map]
 exact rws_congr fun i hi=>by rw[(dd_ok h hi).1]
theorem cDualsS{c:AV}{T:List (List (List Int))}(ha:isLLL c T)(hc:CubeP T):CallOK Tryz.prog 60 [.agg [c]] (.row (rws (fun i=>i64 (dlT T i)) T.length)):=by
 obtain⟨h1,h2,h3⟩:=id hc
 refine call_of (fn:=Tryz.f60) (code:=bodyOf Tryz.f60) Tryz.func60 rfl (by kernel_rfl) (noRef_row _ (noRefL_rws _ _ fun _=>rfl)) ?_
 intro sl hs
 have s0:sl 0= .agg [c]:=hs 0
 dsimp only[Tryz.f60,bodyOf,Option.getD]
 refine Yag ?_
 refine WK_for (fun i st=>st.sl 1= .ptr 4096 1 [] 0∧st.ro 4096 1=some (.bx [c])∧st.sl 4=i64 (i:Int)∧st.sl 3= .ref 8192 (st.gn 8192) [] 0 i∧st.ro 8192 (st.gn 8192)=some (.row (rws (fun i=>i64 (dlT T i)) i))) T.length ?_ ?_ ?_
 ·refine Yad ?_
  repeat' first|rfl|apply And.intro
 ·rintro i sl ro gn hi ⟨s1,r4096,s4,s3,r8192⟩
  dsimp only at s1 r4096 s4 s3 r8192
  have hi':(i:Int)<(T.length:Nat):=by omega
  have hi2:i+1≤4294967296:=by omega
  simp(disch:=first|assumption|omega) only[go_sem, ↓reduceIte,Nat.reduceEqDiff,zc,s1,r4096,s4,s3,r8192,hi',hi,isLLL_len ha]
  refine CLL_pure _ (c150 ha hc hi) PUt rfl rfl ?_
  simp(disch:=first|assumption|omega) only[go_sem, ↓reduceIte,Nat.reduceEqDiff,Nat.reduceAdd,Nat.reduceMul,zc,s1,r4096,s4,s3,r8192,hi',hi,hi2]
  exact i64c (by omega)
 ·rintro sl ro gn ⟨s1,r4096,s4,s3,r8192⟩
  dsimp only at s1 r4096 s4 s3 r8192
  have hi': ¬((T.length:Nat):Int)<(T.length:Nat):=by omega
  simp(disch:=first|assumption|omega) only[go_sem, ↓reduceIte,Nat.reduceEqDiff,zc,s1,r4096,s4,s3,r8192,hi',isLLL_len ha]
  exact Yai
theorem imp_tN{b:Nat}{gn:Nat→Nat}{v x:Value}:impE b gn (.tup [.sc v,.sc x])=⟨.tup [.sc v,.sc x],none,[],[]⟩:=nr _
theorem noRef_tL(X:List Int)(v:Value):noRef (.tup [rowL X,.sc v])=true:=by
 have h:=noRef_rowL X
 show (noRef (rowL X)&&(noRef (.sc v)&&true))=true
 rw[h];rfl
theorem ch_get{T:List (List (List Int))}{i:Nat}(hT:CubeP T)(hi:i<(chsI T).length): ∃x,(chsI T)[i]?=some x∧x.length=T.length∧numL x:=by
 have h:=(chsI_iff hT).1 (List.getElem_mem hi)
 exact⟨_,List.getElem?_eq_getElem hi,h.1,h.2.1⟩
end Go.Proofs.YtbakhfiibjkifaaGreat
