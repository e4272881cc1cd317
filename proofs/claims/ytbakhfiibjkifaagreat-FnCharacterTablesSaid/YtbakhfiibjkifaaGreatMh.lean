/- Texts joined: D7 D8 D9 D10 E1 E2 F0 F1 F2 F3 F4 F5 Fz. -/
import Derived.Test.YtbakhfiibjkifaaGreatMc
import Derived.Test.YtbakhfiibjkifaaGreatMd
set_option linter.all false
/- Cubes; the numbers N (reference). -/
namespace Go.Proofs.YtbakhfiibjkifaaGreat
open Go.RowKit
abbrev a0t(F:Nat→Nat→Nat→Int)(n:Nat):AV:= .row (rws (fun i=> .row (rws (fun j=> .row (rws (fun k=>i64 (F i j k)) n)) n)) n)
def a0Z(F:Nat→Nat→Nat→Int)(i j k:Nat)(v:Int):Nat→Nat→Nat→Int:=fun x y z=>if x=i∧y=j∧z=k then v else F x y z
theorem a0J(F:Nat→Nat→Nat→Int)(n:Nat):a0C (a0t F n)=true:=a1i _ (a1a _ _ fun _=>a1i _ (a1a _ _ fun _=>a1i _ (a1a _ _ fun _=>rfl)))
theorem a2q(F:Nat→Nat→Nat→Int)(n:Nat):noI (a0t F n)=true:=a2K _ (a1K _ (fun _=>a2K _ (a1K _ (fun _=>a2K _ (a1K _ (fun _=>rfl) _)) _)) _)
theorem a0M{ro:Ro}{s g i j n:Nat}{F:Nat→Nat→Nat→Int}(h:ro s g=some (a0t F n))(hi:i<n)(hj:j<n):ro.cells s g [i,j]=some (rws (fun k=>i64 (F i j k)) n):=by
 unfold Ro.cells Ro.at
 simp only[h,ath,a0l _ _ _ hi,a0l _ _ _ hj]
theorem a1x{ro:Ro}{s g i j n:Nat}{F:Nat→Nat→Nat→Int}(h:ro s g=some (a0t F n))(hi:i<n)(hj:j<n):a1L ro s g [i,j]=false:=by
 unfold a1L Ro.at
 simp only[h,ath,a0l _ _ _ hi,a0l _ _ _ hj]
theorem a1m{ro:Ro}{s g i j k n:Nat}{F:Nat→Nat→Nat→Int}{v:Int}(h:ro s g=some (a0t F n))(hi:i<n)(hj:j<n)(hk:k<n):ro.wr ⟨s,g,[i,j],k,[i64 v]⟩=upr ro s g (a0t (a0Z F i j k v) n):=by
 unfold Ro.wr
 simp only[h,a3H,a0l _ _ _ hi,a0l _ _ _ hj,setL]
 rw[a0X,a0X,a0X]
 refine congrArg (upr ro s g) (congrArg AV.row (a0g fun x hx=>?_))
 by_cases hxi:x=i
 ·subst hxi
  rw[if_pos rfl]
  refine congrArg AV.row (a0g fun y hy=>?_)
  by_cases hyj:y=j
  ·subst hyj
   rw[if_pos rfl]
   refine congrArg AV.row (a0g fun z hz=>?_)
   by_cases hzk:z=k
   ·subst hzk;rw[if_pos rfl];simp[a0Z]
   ·rw[if_neg hzk];simp[a0Z,hzk]
  ·rw[if_neg hyj]
   refine congrArg AV.row (a0g fun z hz=>?_)
   simp[a0Z,hyj]
 ·rw[if_neg hxi]
  refine congrArg AV.row (a0g fun y hy=>congrArg AV.row (a0g fun z hz=>?_))
  simp[a0Z,hxi]
theorem a1I{F G:Nat→Nat→Nat→Int}{n:Nat}(h: ∀x y z,x<n→y<n→z<n→F x y z=G x y z):a0t F n=a0t G n:=
 congrArg AV.row (a0g fun x hx=>congrArg AV.row (a0g fun y hy=>congrArg AV.row (a0g fun z hz=>by rw[h x y z hx hy hz])))
set_option maxRecDepth 1000000 in
theorem c3V{n:Nat}(hn:n≤a0G):a0d Tryz.prog 168 [i64 n] (a0t (fun _ _ _=>0) n):=by
 have e0:a0t (fun _ _ _=>0) n= .row (rws (fun _=> .row (rws (fun _=> .row (List.replicate n (i64 0))) n)) n):=by simp only[a0t,a5o]
 refine a0e (fn:=Tryz.f168) (code:=a0b Tryz.f168) Tryz.func168 rfl (by kernel_rfl) (a0J _ _) ?_
 rw[e0]
 intro sl hs
 have s0:sl 0=i64 n:=hs 0
 have hn':n≤4294967296:=hn
 have hm':(n:Int)≤((4294967296:Nat):Int):=by omega
 simp only[Tryz.f168,a0b,Option.getD,go_sem,a6O,a3i]
 refine a0f (fun i st=>st.sl 0=i64 n∧st.sl 4=i64 (i:Int)∧st.sl 3= .ref 8192 (st.gn 8192) [] 0 i∧st.ro 8192 (st.gn 8192)=some (.row (rws (fun _=> .row (rws (fun _=> .row (List.replicate n (i64 0))) n)) i))) n ?_ ?_ ?_
 ·simp only[↓za, ↓reduceIte,Nat.reduceEqDiff,zb,reduceCtorEq,s0,a1v]
  rfl
 ·rintro i sl ro gn hi ⟨s0,s4,s3,r3⟩
  dsimp only at s0 s4 s3 r3
  have hi':(i:Int)<n:=by omega
  have hi2:i+1≤4294967296:=by omega
  simp(disch:=first|omega|assumption) only[go_sem,ti2,a6O,a4D,s0,s4,hi']
  refine a0f (fun j st=>st.sl 0=i64 n∧st.sl 4=i64 (i:Int)∧st.sl 3= .ref 8192 (st.gn 8192) [] 0 i∧st.ro 8192 (st.gn 8192)=some (.row (rws (fun _=> .row (rws (fun _=> .row (List.replicate n (i64 0))) n)) i))∧
   st.sl 6=i64 (j:Int)∧st.sl 5= .ref 24576 (st.gn 24576) [] 0 j∧st.ro 24576 (st.gn 24576)=some (.row (rws (fun _=> .row (List.replicate n (i64 0))) j))) n ?_ ?_ ?_
  ·simp only[↓za, ↓reduceIte,Nat.reduceEqDiff,zb,reduceCtorEq,s0,s4,s3,r3,a1v]
   rfl
  ·rintro j sl ro gn hj ⟨s0,s4,s3,r3,s6,s5,r5⟩
   dsimp only at s0 s4 s3 r3 s6 s5 r5
   have hj':(j:Int)<n:=by omega
   have hj2:j+1≤4294967296:=by omega
   simp(disch:=first|omega|assumption) only[go_sem,ti2,a6O,a4D,s0,s4,s3,r3,s6,s5,r5,hj',hj2,b0i,Int.natCast_nonneg,Int.le_refl,Int.toNat_natCast,hm',List.length_replicate,List.getD_cons_zero]
   exact a0w (by omega)
  ·rintro sl ro gn ⟨s0,s4,s3,r3,s6,s5,r5⟩
   dsimp only at s0 s4 s3 r3 s6 s5 r5
   have hj': ¬(n:Int)<n:=by omega
   simp(disch:=first|omega|assumption) only[go_sem,ti2,a6O,a3i,s0,s4,s3,r3,s6,s5,r5,hj',hi2]
   exact a0w (by omega)
 ·rintro sl ro gn ⟨s0,s4,s3,r3⟩
  dsimp only at s0 s4 s3 r3
  have hi': ¬(n:Int)<n:=by omega
  simp only[go_sem,ti2,s0,s4,s3,hi']
  exact Yeo
def pgF(F:Nat→Nat→Nat→Int)(i j k:Nat):Nat→Nat→Nat→Int:=fun x y z=>if x<i∨(x=i∧(y<j∨(y=j∧z<k)))then F x y z else 0
theorem b4B(F:Nat→Nat→Nat→Int)(i j k n:Nat):a0t (a0Z (pgF F i j k) i j k (F i j k)) n=a0t (pgF F i j (k+1)) n:=by
 refine a1I fun x y z _ _ _=>?_
 unfold a0Z
 by_cases h:x=i∧y=j∧z=k
 ·rw[if_pos h]
  obtain⟨rfl,rfl,rfl⟩:=h
  unfold pgF
  rw[if_pos (by omega)]
 ·rw[if_neg h]
  have e:(x<i∨(x=i∧(y<j∨(y=j∧z<k))))↔(x<i∨(x=i∧(y<j∨(y=j∧z<k+1)))):=by omega
  simp only[pgF,e]
section
variable (S:List (List Int))(n:Nat)
def inv0(l:Nat):Int:=pw (atI (row S 0) l) 55439*pw (whl S n) 55439 % 55441
def both(i j l:Nat):Int:=atI (row S i) l*atI (row S j) l % 55441*inv0 S n l % 55441
def nmE(cj:List Int)(i j k:Nat):Int:=sm (fun l=>atI (rws (both S n i j) n) l*atI (row S (atI cj k).toNat) l) n % 55441
end
theorem a4N(b:Nat)(gn:Nat→Nat)(xs:List AV):a2k b gn (.agg [.row xs])=⟨.agg [.ref b (gn b+1) [] 0 xs.length],none,[],[(b,.row xs)]⟩:=nr _
set_option maxRecDepth 1000000 in
theorem c103{n:Nat}(h0:0<n)(hn:n≤a0G):a0d Tryz.prog 109 [i64 n] (.agg [a0t (fun _ _ _=>0) n]):=by
 refine a0e (fn:=Tryz.f109) (code:=a0b Tryz.f109) Tryz.func109 rfl (by kernel_rfl) (by have:=a0J (fun _ _ _=>0) n;simp only[a0C,a0j,Bool.and_true]at this ⊢;exact this) ?_
 intro sl hs
 have s0:sl 0=i64 n:=hs 0
 have hn':n≤4294967296:=hn
 have c126':=c4r hn hn
 simp only[a0I,a0H,a0y]at c126'
 simp only[Tryz.f109,a0b,Option.getD,go_sem,a1l,s0,List.map_nil]
 refine a0f (fun i st=>st.sl 0=i64 n∧st.sl 2= .ptr 4096 1 [] 0∧st.ro 4096 1=some (.bx [a1q])∧st.sl 3= .ptr 8208 1 [] 0∧st.sl 5=i64 n∧st.sl 6=i64 (i:Int)∧((i=0∧st.ro 8208 1=some (.bx [a1q]))∨
  (0<i∧st.ro 8208 1=some (.bx [.ref 20576 (st.gn 20576) [] 0 i])∧st.ro 20576 (st.gn 20576)=some (.row (rws (fun _=> .row (rws (fun _=> .row (rws (fun _=>i64 0) n)) n)) i))))) n ?_ ?_ ?_
 ·refine Ygg ?_
  exact⟨rfl,.inl trivial⟩
 ·rintro i sl ro gn hi ⟨s0,s2,r2,s3,s5,s6,r3⟩
  dsimp only at s0 s2 r2 s3 s5 s6 r3
  have hi':(i:Int)<n:=by omega
  have hi2:i+1≤4294967296:=by omega
  rcases r3 with⟨hi0,q3⟩|⟨hi0,q3,q4⟩
  ·simp only[go_sem,ti3,a3i,a1l,s0,s3,s5,s6,q3,hi']
   refine a0A _ c126' rfl rfl ?_
   simp only[go_sem,a6O,a3i,a1l,s3,q3,a0i,a0Q,a0W]
   refine a0r (by kernel_rfl) ?_
   refine Ydz ?_
   refine⟨a0w (by omega),.inr ⟨by omega,?_⟩⟩
   subst hi0
   exact⟨rfl,rfl⟩
  ·refine Yfn ?_
   refine a0A _ c126' rfl rfl ?_
   simp only[go_sem,a6O,a3i,a1l,s3,q3,q4,a0i,a0Q,a0W,hi2]
   refine a0r (by kernel_rfl) ?_
   refine Ydz ?_
   exact⟨a0w (by omega),.inr trivial⟩
 ·rintro sl ro gn ⟨s0,s2,r2,s3,s5,s6,r3⟩
  dsimp only at s0 s2 r2 s3 s5 s6 r3
  rcases r3 with⟨hi0,q3⟩|⟨hi0,q3,q4⟩
  ·omega
  ·have hi': ¬(n:Int)<n:=by omega
   refine Yfn ?_
   exact Ydr
set_option maxRecDepth 1000000 in
theorem c149{x lo hi:Int}:a0d Tryz.prog 128 [i64 x,.iptr [i64 lo],.iptr [i64 hi]] (bo (!decide (lo≤x∧x≤hi))):=by
 refine a0e (fn:=Tryz.f128) (code:=a0b Tryz.f128) Tryz.func128 rfl (by kernel_rfl) rfl ?_
 intro sl hs
 have s0:sl 0=i64 x:=hs 0
 have s1:sl 1= .iptr [i64 lo]:=hs 1
 have s2:sl 2= .iptr [i64 hi]:=hs 2
 simp only[Tryz.f128,a0b,Option.getD,go_sem,ti2,s0,s1,s2]
 refine a0c _ c40 rfl rfl rfl ?_
 simp only[go_sem]
 exact Yaa
def b2M(xs:List Int)(lo hi:Int):Bool:=!decide (0≤ixp (fun x=>!decide (lo≤x∧x≤hi)) xs 0)
theorem a7S{xs:List Int}{lo hi:Int}:b2M xs lo hi=true↔ ∀k,k<xs.length→lo≤atI xs k∧atI xs k≤hi:=by
 unfold b2M
 rw[Bool.not_eq_true',decide_eq_false_iff_not,c0M]
 constructor
 ·intro h k hk
  by_cases h2:lo≤atI xs k∧atI xs k≤hi
  ·exact h2
  ·exact absurd ⟨k,hk,by simp[h2]⟩ h
 ·rintro h ⟨k,hk,h2⟩
  simp[h k hk]at h2
set_option maxRecDepth 1000000 in
theorem c129{a:AV}{xs:List Int}{lo hi:Int}(ha:isL a xs)(hx:xs.length≤a0G):a0d Tryz.prog 101 [a,i64 lo,i64 hi] (bo (b2M xs lo hi)):=by
 refine a0e (fn:=Tryz.f101) (code:=a0b Tryz.f101) Tryz.func101 rfl (by kernel_rfl) rfl ?_
 intro sl hs
 have s0:sl 0=a:=hs 0
 have s1:sl 1=i64 lo:=hs 1
 have s2:sl 2=i64 hi:=hs 2
 simp only[Tryz.f101,a0b,Option.getD,go_sem,s0,s1,s2]
 refine a7Q _ (c95 (g:=128) (caps:=[.iptr [i64 lo],.iptr [i64 hi]]) ha hx rfl rfl fun x=>c149) ?_ rfl rfl rfl ?_
 ·unfold a3g
  rw[if_neg (by simp[a0Q,a0W])]
  show [ex _ 8 a,AV.fn 128 [ex _ 7 _,ex _ 7 _]]=_
  rw[b4m _ ha]
  simp only[ex,zef, ↓za, ↓reduceIte,Nat.reduceEqDiff,zb,zei,List.drop_zero,List.map_cons,List.map_nil]
 ·simp only[go_sem]
  simp only[zr,a1Z,a1H,a2g,zes,zez,a1O,zhk, ↓za, ↓reduceIte,b2M]
set_option maxRecDepth 1000000 in
theorem c128{a:AV}{xs:List Int}{n:Nat}(ha:isL a xs)(hx:xs.length≤a0G):a0d Tryz.prog 115 [a,.iptr [i64 n]] (bo (!(decide (xs.length=n)&&b2M xs 0 1000))):=by
 refine a0e (fn:=Tryz.f115) (code:=a0b Tryz.f115) Tryz.func115 rfl (by kernel_rfl) rfl ?_
 intro sl hs
 have s0:sl 0=a:=hs 0
 have s1:sl 1= .iptr [i64 n]:=hs 1
 by_cases h:xs.length=n
 ·have h':(xs.length:Int)=n:=by omega
  simp only[Tryz.f115,a0b,Option.getD,go_sem,ti3,a4D,s0,s1,a0B ha,eq_true h']
  refine a0c _ (c129 ha hx) (by simp only[a0Q,a1J ha,a0W,Bool.and_self]) rfl rfl ?_
  simp only[go_sem]
  simp only[zr,a1Z,a1H,a2g,zes,zez,a1O,zhk, ↓za, ↓reduceIte,decide_eq_true h,Bool.true_and]
 ·have h': ¬(xs.length:Int)=n:=by omega
  simp only[Tryz.f115,a0b,Option.getD,go_sem,ti3,a4D,s0,s1,a0B ha,eq_false h']
  simp only[zr,a1Z,a1H,a2g,zes,zez,a1O,zhk, ↓za, ↓reduceIte,decide_eq_false h,Bool.false_and,Bool.not_false]
set_option maxRecDepth 1000000 in
theorem c3U{a:AV}{xss:List (List Int)}{g:Nat}{caps:List AV}{p:Nat→Bool}(ha:a2t a xss)(hx:xss.length≤a0G)(hi:XX.isIn g=false)(hcp:a0Q caps=true)(hc: ∀k,k<xss.length→a0d Tryz.prog g (atA a k::caps) (bo (p k))){z:Int}(hz1:(∀k,k<xss.length→p k=false)→z= -1)(hz2: ∀k,k<xss.length→p k=true→(∀j,j<k→p j=false)→z=k):
  a0d Tryz.prog 108 [a,.fn g caps] (i64 z):=by
 refine a0e (fn:=Tryz.f108) (code:=a0b Tryz.f108) Tryz.func108 rfl (by kernel_rfl) rfl ?_
 intro sl hs
 have s0:sl 0=a:=hs 0
 have s1:sl 1= .fn g caps:=hs 1
 have hx':xss.length≤4294967296:=hx
 simp only[Tryz.f108,a0b,Option.getD,go_sem,a6O,s0,a0R ha]
 refine a0f (fun k st=>st.sl 0=a∧st.sl 1= .fn g caps∧st.sl 7=i64 (xss.length:Int)∧st.sl 8=i64 (k:Int)∧ ∀j,j<k→p j=false) xss.length ?_ ?_ ?_
 ·refine Yds ?_
  exact⟨rfl,fun j hj=>absurd hj (Nat.not_lt_zero _)⟩
 ·rintro k sl ro gn hk ⟨s0,s1,s7,s8,hp⟩
  dsimp only at s0 s1 s7 s8
  have hk':(k:Int)<xss.length:=by omega
  simp only[go_sem,ti3,a6O,a4D,s0,s1,s7,s8,a0S ha hk,hk']
  refine a0c _ (hc k hk) (by simp only[a0Q,a1J (a0m ha hk),hcp,Bool.and_self]) hi rfl ?_
  cases hpx:p k with
  |true=>
   simp only[go_sem]
   refine Yab ?_
   exact(hz2 k hk hpx hp).symm
  |false=>
   simp(disch:=first|omega|assumption) only[go_sem,ti3,s0,s1,s7,s8]
   refine⟨a0w (by omega),fun j hj=>?_⟩
   rcases Nat.lt_or_ge j k with h|h
   ·exact hp j h
   ·have:j=k:=by omega
    subst this;exact hpx
 ·rintro sl ro gn ⟨s0,s1,s7,s8,hp⟩
  dsimp only at s0 s1 s7 s8
  have hk': ¬(xss.length:Int)<xss.length:=by omega
  simp only[go_sem,ti3,s7,s8,hk']
  refine Yab ?_
  exact(hz1 hp).symm
set_option maxRecDepth 1000000 in
theorem c127{a:AV}{xss:List (List Int)}{g:Nat}{caps:List AV}{p:Nat→Bool}(ha:a2t a xss)(hx:xss.length≤a0G)(hi:XX.isIn g=false)(hcp:a0Q caps=true)(hc: ∀k,k<xss.length→a0d Tryz.prog g (atA a k::caps) (bo (p k))){t:Bool}(ht:t=true↔ ∃k,k<xss.length∧p k=true):
  a0d Tryz.prog 73 [a,.fn g caps] (bo t):=by
 refine a0e (fn:=Tryz.f73) (code:=a0b Tryz.f73) Tryz.func73 rfl (by kernel_rfl) rfl ?_
 intro sl hs
 have s0:sl 0=a:=hs 0
 have s1:sl 1= .fn g caps:=hs 1
 simp only[Tryz.f73,a0b,Option.getD,go_sem,s0,s1]
 by_cases h: ∃k,k<xss.length∧p k=true
 ·have: ∃m:Nat,m<xss.length∧p m=true∧ ∀j,j<m→p j=false:=by
   obtain⟨m,h1,h2⟩:=h
   induction m using Nat.strongRecOn with
   |ind m ih=>
    by_cases h3: ∃j,j<m∧p j=true
    ·obtain⟨j,h4,h5⟩:=h3;exact ih j h4 (by omega) h5
    ·refine⟨m,h1,h2,fun j hj=>?_⟩
     cases he:p j with
     |false=>rfl
     |true=>exact absurd ⟨j,hj,he⟩ h3
  obtain⟨m,h1,h2,h3⟩:=this
  have ht':t=true:=ht.2 h
  refine a0c _ (c3U (z:=(m:Int)) ha hx hi hcp hc (fun h4=>by rw[h4 m h1]at h2;cases h2) (fun k hk hpk hj=>?_)) (by simp only[a0Q,a3m ha,a0W,hcp,Bool.and_self]) rfl rfl ?_
  ·rcases Nat.lt_trichotomy m k with h4|h4|h4
   ·rw[hj m h4]at h2;cases h2
   ·rw[h4]
   ·rw[h3 k h4]at hpk;cases hpk
  ·have hge: ¬((m:Int)<0):=by omega
   simp only[go_sem,ti3,hge]
   exact Yag
 ·have ht':t=false:=by
   cases h2:t with
   |false=>rfl
   |true=>exact absurd (ht.1 h2) h
  refine a0c _ (c3U (z:= -1) ha hx hi hcp hc (fun _=>rfl) (fun k hk hpk hj=>absurd ⟨k,hk,hpk⟩ h)) (by simp only[a0Q,a3m ha,a0W,hcp,Bool.and_self]) rfl rfl ?_
  have hlt:(-1:Int)<0:=by decide
  simp only[go_sem,ti3,hlt]
  exact Yag
abbrev b2Q(F:Nat→Nat→Nat→Int)(n:Nat):AV:= .imm (rws (fun i=> .imm (rws (fun j=> .imm (rws (fun k=>i64 (F i j k)) n)) n)) n)
def c1i(F:Nat→Nat→Nat→Int)(n i:Nat):List (List Int):=rws (fun j=>rws (fun k=>F i j k) n) n
theorem b2C(F:Nat→Nat→Nat→Int)(n i:Nat):a2t (.imm (rws (fun j=> .imm (rws (fun k=>i64 (F i j k)) n)) n)) (c1i F n i):=by
 have:(AV.imm (rws (fun j=> .imm (rws (fun k=>i64 (F i j k)) n)) n))=a2x (c1i F n i):=by simp only[a2x,a3q,c1i,a0y]
 rw[this];exact a1d _
def a3K(F:Nat→Nat→Nat→Int)(n:Nat):Prop:= ∀i,i<n→ ∀j,j<n→ ∀k,k<n→0≤F i j k∧F i j k≤1000
section
variable (S:List (List Int))(n:Nat)
def iv(l:Nat):Int:=qt 1 (atI (row S 0) l)
def fuT(i j c l:Nat):Int:=atI (row S i) l*atI (row S j) l % 55441*atI (row S c) l % 55441*iv S l % 55441
def fuE(cj:List Int)(i j k:Nat):Int:=qt (sm (fuT S i j (atI cj k).toNat) n % 55441) (whl S n)
end
def MM(a b:Int):Prop:=a % 55441=b % 55441
theorem MM.mod(a:Int):MM (a % 55441) a:=Int.emod_emod_of_dvd _ (by decide:(55441:Int)∣55441)
theorem MM.mul{a b c d:Int}(h1:MM a b)(h2:MM c d):MM (a*c) (b*d):=by
 unfold MM at*
 rw[Int.mul_emod,h1,h2, ←Int.mul_emod]
theorem MM.rfl{a:Int}:MM a a:=Eq.refl _
theorem MM.trans{a b c:Int}(h1:MM a b)(h2:MM b c):MM a c:=Eq.trans h1 h2
theorem MM.symm{a b:Int}(h:MM a b):MM b a:=Eq.symm h
theorem a1P{f g:Nat→Int}: ∀ {n:Nat},(∀l,l<n→MM (f l) (g l))→MM (sm f n) (sm g n)
 |0,_=>MM.rfl
 |n+1,h=>by
  have ih:=a1P (n:=n) fun l hl=>h l (by omega)
  have hn:=h n (by omega)
  unfold MM at*
  simp only[sm]
  rw[Int.add_emod,ih,hn, ←Int.add_emod]
theorem a5b(f:Nat→Int)(w:Int): ∀n:Nat,sm f n*w=sm (fun l=>f l*w) n
 |0=>by simp[sm]
 |n+1=>by simp only[sm,Int.add_mul,a5b f w n]
theorem b9I{ro:Ro}{s g n:Nat}{F:Nat→Nat→Nat→Int}(h:ro s g=some (a0t F n))(k:Nat):ex ro (k+4) (.ref s g [] 0 n)=b2Q F n:=by
 show (match ro.cells s g []with|some cs=>AV.imm (((cs.drop 0).take n).map (ex ro (k+3)))|none=> .dead)=_
 rw[zef,h]
 simp only[zeh,List.drop_zero,zff,a0y,b2Q]
 refine congrArg AV.imm (a0g fun x _=>?_)
 show AV.imm ((rws (fun j=>AV.row (rws (fun k=>i64 (F x j k)) n)) n).map (ex ro (k+2)))=_
 rw[a0y]
 refine congrArg AV.imm (a0g fun y _=>?_)
 show AV.imm ((rws (fun k=>i64 (F x y k)) n).map (ex ro (k+1)))=_
 rw[a0y]
 rfl
theorem b2F(x:AV)(h:a0C x=true):a0C (.agg [x])=true:=by simp only[a0C,a0j,h,Bool.and_true]
theorem a9r(b:Nat)(gn:Nat→Nat)(xs:List AV)(v:Value):a2k b gn (.tup [.agg [.row xs],.sc v])=⟨.tup [.agg [.ref b (gn b+1) [] 0 xs.length],.sc v],none,[],[(b,.row xs)]⟩:=nr _
set_option maxRecDepth 1000000 in
theorem c147{a:Int}:a0d Tryz.prog 114 [i64 a] (bo (decide (0≤a∧a≤55440))):=by
 refine a0e (fn:=Tryz.f114) (code:=a0b Tryz.f114) Tryz.func114 rfl (by kernel_rfl) rfl ?_
 intro sl hs
 have s0:sl 0=i64 a:=hs 0
 simp only[Tryz.f114,a0b,Option.getD,go_sem,s0]
 refine a0c _ c38 rfl rfl rfl ?_
 simp only[go_sem]
 exact Yaa
def NL(xs:List Int):Prop:= ∀j,j<xs.length→0≤atI xs j∧atI xs j≤55440
theorem a2O{xs:List Int}(h:NL xs):a2s xs:=by
 intro j
 rcases Nat.lt_or_ge j xs.length with hj|hj
 ·have:=h j hj;exact⟨this.1,by omega⟩
 ·rw[a2c hj];exact⟨by decide,by decide⟩
set_option maxRecDepth 1000000 in
theorem c4l{a:AV}{xs:List Int}(ha:isL a xs)(hx:xs.length≤a0G){t:Bool}(ht:t=true↔NL xs):a0d Tryz.prog 81 [a] (bo t):=by
 refine a0e (fn:=Tryz.f81) (code:=a0b Tryz.f81) Tryz.func81 rfl (by kernel_rfl) rfl ?_
 intro sl hs
 have s0:sl 0=a:=hs 0
 have hx':xs.length≤4294967296:=hx
 simp only[Tryz.f81,a0b,Option.getD,go_sem]
 refine a0f (fun k st=>st.sl 0=a∧st.sl 3=i64 (k:Int)∧ ∀j,j<k→0≤atI xs j∧atI xs j≤55440) xs.length ?_ ?_ ?_
 ·refine Ygg ?_
  exact⟨rfl,fun j hj=>absurd hj (Nat.not_lt_zero _)⟩
 ·rintro k sl ro gn hk ⟨s0,s3,hp⟩
  dsimp only at s0 s3
  have hk':(k:Int)<xs.length:=by omega
  have c:=c147 (a:=atI xs k)
  simp only[go_sem,ti2,ti3,a4D,s0,s3,a0B ha,a0s ha hk,hk']
  by_cases hb:0≤atI xs k∧atI xs k≤55440
  ·rw[decide_eq_true hb]at c
   refine a0c _ c rfl rfl rfl ?_
   simp(disch:=first|omega|assumption) only[go_sem,ti3,s0,s3]
   refine⟨a0w (by omega),fun j hj=>?_⟩
   rcases Nat.lt_or_ge j k with h|h
   ·exact hp j h
   ·have:j=k:=by omega
    subst this;exact hb
  ·rw[decide_eq_false hb]at c
   refine a0c _ c rfl rfl rfl ?_
   simp only[go_sem]
   refine Yab ?_
   cases t with
   |false=>rfl
   |true=>exact absurd (ht.1 rfl k hk) hb
 ·rintro sl ro gn ⟨s0,s3,hp⟩
  dsimp only at s0 s3
  have hk': ¬(xs.length:Int)<xs.length:=by omega
  simp only[go_sem,ti3,a4D,s0,s3,a0B ha,hk']
  refine Yab ?_
  exact(ht.2 hp).symm
def gsT(S:List (List Int))(t:List Int)(l:Nat):Int:=atI (row S 0) l*atI (row S 0) l % 55441*atI t l % 55441
def ShpP(S:List (List Int))(T:List Int):Prop:=1≤T.length∧T.length≤16∧S.length=T.length∧NL T∧ ∀i,i<T.length→(row S i).length=T.length∧NL (row S i)
theorem a0N{t:Bool}{p:Prop}(h:t=true↔p)(hn: ¬p):false=t:=by
 cases t with
 |false=>rfl
 |true=>exact absurd (h.1 rfl) hn
def a6k:List AV→List (List (List Int))→Prop
 | [],[]=>True
 |a::bs,x::xs=>a2t a x∧a6k bs xs
 |_,_=>False
def a0F(a:AV)(T:List (List (List Int))):Prop:=(∃cs,a= .imm cs∧a6k cs T)∨(T=[]∧a=a1q)
def mat(T:List (List (List Int)))(i:Nat):List (List Int):=T.getD i []
abbrev at3(T:List (List (List Int)))(i j k:Nat):Int:=atI (row (mat T i) j) k
theorem a6H: ∀ {cs:List AV} {T:List (List (List Int))},a6k cs T→cs.length=T.length
 | [],[],_=>rfl
 |a::bs,x::xs,h=>by simp only[List.length_cons];rw[a6H h.2]
 | [],_::_,h=>h.elim
 |_::_,[],h=>h.elim
theorem a6D: ∀ {cs:List AV} {T:List (List (List Int))} {k:Nat},a6k cs T→k<T.length→ ∃c,cs[k]?=some c∧a2t c (T.getD k [])
 |a::bs,x::xs,0,h,_=>⟨a,rfl,h.1⟩
 |a::bs,x::xs,k+1,h,hk=>by
  obtain⟨c,h1,h2⟩:=a6D (k:=k) h.2 (by simpa using hk)
  exact⟨c,by simpa using h1,by simpa using h2⟩
 | [],[],k,_,hk=>by simp at hk
 | [],_::_,_,h,_=>h.elim
 |_::_,[],_,h,_=>h.elim
theorem a7p: ∀ {cs:List AV} {T:List (List (List Int))},a6k cs T→a0Q cs=true
 | [],[],_=>rfl
 |a::bs,x::xs,h=>by simp[a0Q,a3m h.1,a7p h.2]
 | [],_::_,h=>h.elim
 |_::_,[],h=>h.elim
theorem a5v{a:AV}{T:List (List (List Int))}(h:a0F a T):a0W a=true:=by
 rcases h with⟨cs,rfl,h⟩|⟨_,rfl⟩
 ·simp[a0W,a7p h]
 ·rfl
theorem b0R{a:AV}{T:List (List (List Int))}(h:a0F a T):zdy a=[]:=by
 rcases h with⟨cs,rfl,h⟩|⟨_,rfl⟩<;>rfl
theorem a9M{a:AV}{T:List (List (List Int))}(ro:Ro)(h:a0F a T):a1n ro a=true:=by
 rcases h with⟨cs,rfl,h⟩|⟨_,rfl⟩<;>rfl
theorem b2J{a:AV}{T:List (List (List Int))}(s g:Nat)(p:List Nat)(h:a0F a T):lift s g p a=a:=by
 rcases h with⟨cs,rfl,h⟩|⟨_,rfl⟩<;>rfl
theorem a0v{a:AV}{T:List (List (List Int))}(h:a0F a T){ro:Ro}{a1:Nat}{a2:Bool}{a3:List Value}{e:Nat}{a5:List (Nat×Nat)}{a6:Option IntKind}{a7 a8:Bool}{a9 a10:Option (Nat×Nat)}:a5x (some ⟨a1,a2,a3,some e,a5,a6,a7,a8,a9,a10⟩) ro a=some ⟨i64 T.length,none,[],[]⟩:=by
 rcases h with⟨cs,rfl,h⟩|⟨rfl,rfl⟩
 ·simp[a5x,a6H h]
 ·rfl
theorem a2N{a:AV}{T:List (List (List Int))}(h:a0F a T){k:Nat}(hk:k<T.length){ro:Ro}{a1:Nat}{a2:Bool}{a3:List Value}{e:Nat}{a5:List (Nat×Nat)}{a6:Option IntKind}{a7 a8:Bool}{a9 a10:Option (Nat×Nat)}:a5J (some ⟨a1,a2,a3,some e,a5,a6,a7,a8,a9,a10⟩) ro a (i64 (k:Int))=some ⟨.iptr [atA a k],none,[],[]⟩:=by
 rcases h with⟨cs,rfl,h⟩|⟨rfl,rfl⟩
 ·obtain⟨c,h1,h2⟩:=a6D h hk
  simp[a5J,h1,atA]
 ·simp at hk
theorem a0o{a:AV}{T:List (List (List Int))}(h:a0F a T){k:Nat}(hk:k<T.length):a2t (atA a k) (mat T k):=by
 rcases h with⟨cs,rfl,h⟩|⟨rfl,rfl⟩
 ·obtain⟨c,h1,h2⟩:=a6D h hk
  simpa [atA,h1,mat]using h2
 ·simp at hk
theorem b6k{a:AV}{S:List (List Int)}(ro:Ro)(k:Nat)(h:a2t a S):ex ro (k+3) a=a:=by
 rcases h with⟨cs,rfl,h⟩|⟨_,rfl⟩
 ·show AV.imm (cs.map (ex ro (k+2)))=_
  have: ∀ {cs:List AV} {xss:List (List Int)},b6z cs xss→cs.map (ex ro (k+2))=cs:=by
   intro cs
   induction cs with
   |nil=>intros;rfl
   |cons c cs ih=>
    intro xss h
    cases xss with
    |nil=>exact h.elim
    |cons x xss=>rw[List.map_cons,b4Z ro k h.1,ih h.2]
  rw[this h]
 ·rfl
theorem b7J{a:AV}{T:List (List (List Int))}(ro:Ro)(k:Nat)(h:a0F a T):ex ro (k+4) a=a:=by
 rcases h with⟨cs,rfl,h⟩|⟨_,rfl⟩
 ·show AV.imm (cs.map (ex ro (k+3)))=_
  have: ∀ {cs:List AV} {xss:List (List (List Int))},a6k cs xss→cs.map (ex ro (k+3))=cs:=by
   intro cs
   induction cs with
   |nil=>intros;rfl
   |cons c cs ih=>
    intro xss h
    cases xss with
    |nil=>exact h.elim
    |cons x xss=>rw[List.map_cons,b6k ro k h.1,ih h.2]
  rw[this h]
 ·rfl
theorem b1n: ∀ {cs:List AV} {T:List (List (List Int))},a6k cs T→a0j cs=true
 | [],[],_=>rfl
 |a::cs,x::xs,h=>by
  have h1:a0C a=true:=by
   rcases h.1 with⟨ds,rfl,hd⟩|⟨_,rfl⟩
   ·simpa only[a0C]using b0A hd
   ·rfl
  simp only[a0j,h1,b1n h.2,Bool.and_self]
 | [],_::_,h=>h.elim
 |_::_,[],h=>h.elim
theorem b6W{a:AV}{T:List (List (List Int))}(ro:Ro)(h:a0F a T):shA ro a=true:=by
 rcases h with⟨cs,rfl,h⟩|⟨_,rfl⟩
 ·rw[zhh];exact b1n h
 ·exact zhg _ _
def a0L(F:Nat→Nat→Nat→Int)(n:Nat):List (List (List Int)):=rws (fun i=>rws (fun j=>rws (fun k=>F i j k) n) n) n
theorem a1o{F:Nat→Nat→Nat→Int}{n i:Nat}(h:i<n):mat (a0L F n) i=rws (fun j=>rws (fun k=>F i j k) n) n:=by
 unfold mat a0L;simp[rws,h]
theorem a1c{F:Nat→Nat→Nat→Int}{n i j k:Nat}(hi:i<n)(hj:j<n)(hk:k<n):at3 (a0L F n) i j k=F i j k:=by
 unfold at3;rw[a1o hi,a1A _ hj,a0P _ hk]
theorem a9z{f:Nat→AV}{g:Nat→List (List Int)}(h: ∀i,a2t (f i) (g i)): ∀l:List Nat,a6k (l.map f) (l.map g)
 | []=>trivial
 |i::l=>⟨h i,a9z h l⟩
theorem b0X{f:Nat→AV}{g:Nat→List Int}(h: ∀i,isL (f i) (g i)): ∀l:List Nat,b6z (l.map f) (l.map g)
 | []=>trivial
 |i::l=>⟨h i,b0X h l⟩
theorem a0V(F:Nat→Nat→Nat→Int)(n:Nat):a0F (b2Q F n) (a0L F n):=by
 refine .inl ⟨_,rfl,a9z (fun i=> .inl ⟨_,rfl,b0X (fun j=> .inl ?_) _⟩) _⟩
 simp only[rws,List.map_map];rfl
theorem b7K{a:AV}{xs:List Int}(h:isL a xs){z:Int}(h0:0≤z)(hz:z<xs.length){ro:Ro}{a1:Nat}{a2:Bool}{a3:List Value}{e:Nat}{a5:List (Nat×Nat)}{a6:Option IntKind}{a7 a8:Bool}{a9 a10:Option (Nat×Nat)}:a5J (some ⟨a1,a2,a3,some e,a5,a6,a7,a8,a9,a10⟩) ro a (i64 z)=some ⟨.iptr [i64 (atI xs z.toNat)],none,[],[]⟩:=by
 obtain⟨k,rfl⟩:=Int.eq_ofNat_of_zero_le h0
 rw[a0s h (by omega)];rfl
theorem b6a{a:AV}{xs:List (List Int)}(h:a2t a xs){z:Int}(h0:0≤z)(hz:z<xs.length){ro:Ro}{a1:Nat}{a2:Bool}{a3:List Value}{e:Nat}{a5:List (Nat×Nat)}{a6:Option IntKind}{a7 a8:Bool}{a9 a10:Option (Nat×Nat)}:a5J (some ⟨a1,a2,a3,some e,a5,a6,a7,a8,a9,a10⟩) ro a (i64 z)=some ⟨.iptr [atA a z.toNat],none,[],[]⟩:=by
 obtain⟨k,rfl⟩:=Int.eq_ofNat_of_zero_le h0
 rw[a0S h (by omega)];rfl
theorem b2Z{a:AV}{T:List (List (List Int))}(h:a0F a T){z:Int}(h0:0≤z)(hz:z<T.length){ro:Ro}{a1:Nat}{a2:Bool}{a3:List Value}{e:Nat}{a5:List (Nat×Nat)}{a6:Option IntKind}{a7 a8:Bool}{a9 a10:Option (Nat×Nat)}:a5J (some ⟨a1,a2,a3,some e,a5,a6,a7,a8,a9,a10⟩) ro a (i64 z)=some ⟨.iptr [atA a z.toNat],none,[],[]⟩:=by
 obtain⟨k,rfl⟩:=Int.eq_ofNat_of_zero_le h0
 rw[a2N h (by omega)];rfl
def fnd{α:Type}:Nat→(Nat→Option α)→Option α
 |0,_=>none
 |n+1,p=>match fnd n p with
  |some v=>some v
  |none=>p n
theorem a0u{α:Type}{p:Nat→Option α}: ∀ {n:Nat},fnd n p=none↔ ∀k,k<n→p k=none
 |0=>by simp[fnd]
 |n+1=>by
  have ih:=a0u (p:=p) (n:=n)
  simp only[fnd]
  cases hf:fnd n p with
  |some v=>
   simp only[reduceCtorEq,false_iff]
   intro h
   rw[ih.2 fun k hk=>h k (by omega)]at hf
   cases hf
  |none=>
   refine⟨fun h k hk=>?_,fun h=>h n (by omega)⟩
   rcases Nat.lt_or_ge k n with h2|h2
   ·exact ih.1 hf k h2
   ·have:k=n:=by omega
    subst this;exact h
theorem a0U{α:Type}{p:Nat→Option α}{k:Nat}{v:α}(hv:p k=some v)(h: ∀j,j<k→p j=none): ∀ {n:Nat},k<n→fnd n p=some v
 |0,hk=>by omega
 |n+1,hk=>by
  simp only[fnd]
  rcases Nat.lt_or_ge k n with h2|h2
  ·rw[a0U hv h h2]
  ·have:k=n:=by omega
   subst this
   rw[a0u.2 h];exact hv
def b3c:Option (List Int)→AV
 |none=>a1q
 |some xs=>a0H xs
theorem a3r(o:Option (List Int)):a0C (b3c o)=true:=by cases o;rfl;exact a1b _
def exq(n:Nat)(ro:Ro)(a a':AV):Prop:=(∀k,n≤k→ex ro k a=a')∧(a0W a=true→a'=a)
inductive a8x (n:Nat) (ro:Ro):List AV→List AV→Prop
 |nil:a8x n ro [] []
 |cons {a a':AV} {bs bs':List AV}:exq n ro a a'→a8x n ro bs bs'→a8x n ro (a::bs) (a'::bs')
theorem a8x.mapE{n:Nat}{ro:Ro}{bs bs':List AV}(h:a8x n ro bs bs'): ∀k,n≤k→bs.map (ex ro k)=bs':=by
 intro k hk
 induction h with
 |nil=>rfl
 |cons h1 _ ih=>rw[List.map_cons,h1.1 k hk,ih]
theorem a8x.pureE{n:Nat}{ro:Ro}{bs bs':List AV}(h:a8x n ro bs bs'):a0Q bs=true→bs'=bs:=by
 induction h with
 |nil=>intro _;rfl
 |cons h1 _ ih=>
  intro hp
  simp only[a0Q,Bool.and_eq_true]at hp
  rw[h1.2 hp.1,ih hp.2]
theorem b0K{ro:Ro}{bs bs':List AV}(h:a8x 8 ro bs bs'):a3g ro bs=bs':=by
 unfold a3g
 split
 ·rename_i hp;exact(h.pureE hp).symm
 ·exact h.mapE 8 (Nat.le_refl _)
theorem a1f(n:Nat)(ro:Ro)(v:Value)(h:1≤n):exq n ro (.sc v) (.sc v):=by
 refine⟨fun k hk=>?_,fun _=>rfl⟩
 obtain⟨j,rfl⟩: ∃j,k=j+1:=⟨k-1,by omega⟩
 rfl
theorem a6b{n:Nat}{ro:Ro}{a:AV}{xs:List Int}(ha:isL a xs)(h:2≤n):exq n ro a a:=by
 refine⟨fun k hk=>?_,fun _=>rfl⟩
 obtain⟨j,rfl⟩: ∃j,k=j+2:=⟨k-2,by omega⟩
 exact b4Z ro j ha
theorem a2G{n:Nat}{ro:Ro}{a:AV}{xs:List (List Int)}(ha:a2t a xs)(h:3≤n):exq n ro a a:=by
 refine⟨fun k hk=>?_,fun _=>rfl⟩
 obtain⟨j,rfl⟩: ∃j,k=j+3:=⟨k-3,by omega⟩
 exact b6k ro j ha
theorem a4A{n:Nat}{ro:Ro}{a:AV}{xs:List (List (List Int))}(ha:a0F a xs)(h:4≤n):exq n ro a a:=by
 refine⟨fun k hk=>?_,fun _=>rfl⟩
 obtain⟨j,rfl⟩: ∃j,k=j+4:=⟨k-4,by omega⟩
 exact b7J ro j ha
theorem a0q{n:Nat}{ro:Ro}{s g m:Nat}{xs:List Int}(h:ro s g=some (a0H xs))(hm:m=xs.length)(hn:2≤n):exq n ro (.ref s g [] 0 m) (a3q xs):=by
 refine⟨fun k hk=>?_,fun hp=>by simp[a0W]at hp⟩
 subst hm
 obtain⟨j,rfl⟩: ∃j,k=j+2:=⟨k-2,by omega⟩
 exact c1t h j
theorem a6l{n:Nat}{ro:Ro}{s g m:Nat}{xs:List (List Int)}(h:ro s g=some (a0I xs))(hm:m=xs.length)(hn:3≤n):exq n ro (.ref s g [] 0 m) (a2x xs):=by
 refine⟨fun k hk=>?_,fun hp=>by simp[a0W]at hp⟩
 subst hm
 obtain⟨j,rfl⟩: ∃j,k=j+3:=⟨k-3,by omega⟩
 exact b1c h j
theorem a1k{n:Nat}{ro:Ro}{s g m:Nat}{F:Nat→Nat→Nat→Int}(h:ro s g=some (a0t F m))(hn:4≤n):exq n ro (.ref s g [] 0 m) (b2Q F m):=by
 refine⟨fun k hk=>?_,fun hp=>by simp[a0W]at hp⟩
 obtain⟨j,rfl⟩: ∃j,k=j+4:=⟨k-4,by omega⟩
 exact b9I h j
theorem a1E{n:Nat}{ro:Ro}{cs cs':List AV}(h:a8x n ro cs cs'):exq (n+1) ro (.agg cs) (.agg cs'):=by
 refine⟨fun k hk=>?_,fun hp=>by rw[h.pureE (by simpa only[a0W]using hp)]⟩
 obtain⟨j,rfl⟩: ∃j,k=j+1:=⟨k-1,by omega⟩
 show AV.agg (cs.map (ex ro j))=_
 rw[h.mapE j (by omega)]
section
variable{X:WX}{K:List Fr}{Q:Exit→St→Prop}{sl:Nat→AV}{ro:Ro}{gn:Nat→Nat}
theorem a0z{f:Nat}{args args':List AV}{rid:Nat}{ops:Array Oper}{o:Oper}{rest:List Oper}{i:Nat}(r:AV)(h:a0d X.P f args' r)(ha:a8x 8 ro args args')(hi:X.isIn f=false)(ho:a4a r=true)(hn:noI r=true)
  (hk:WO X rid ops rest (i+1) K Q (((⟨sl,ro,gn⟩:St).eff (a2k (a1F rid i) gn r)).put o.dst (a2k (a1F rid i) gn r).v)):CLL (some (f,args)) X rid ops o rest i K Q ⟨sl,ro,gn⟩:=a7Q r h (b0K ha) hi ho hn hk
theorem a1V{f:Nat}{args args':List AV}{rd:Option (List Nat)}{rid:Nat}{ops:Array Oper}{o:Oper}{rest:List Oper}{i:Nat}{acc:List FP}(r:AV)(h:a0d X.P f args' r)(ha:a8x 8 ro args args')(ho:a4a r=true)(hn:noI r=true)
  (hk:WD X rid ops rest (i+1) (⟨rd,(a2k (a1F rid i) gn r).sites⟩::acc) K Q (((⟨sl,ro,gn⟩:St).eff (a2k (a1F rid i) gn r)).put o.dst (a2k (a1F rid i) gn r).v)):b9h (some (f,args)) rd X rid ops o rest i acc K Q ⟨sl,ro,gn⟩:=b3O r h (b0K ha) ho hn hk
theorem c2z{f:Nat}{args args':List AV}{rd:Option (List Nat)}{rid:Nat}{ops:Array Oper}{fin:List FP}{o:Oper}{rest:List Oper}{i:Nat}{acc:List FP}(r:AV)(h:a0d X.P f args' r)(ha:a8x 8 ro args args')(ho:a4a r=true)(hn:noI r=true)
  (hk:WG X rid ops fin rest (i+1) (⟨rd,(a2k (a1F rid i) gn r).sites⟩::acc) K Q (((⟨sl,ro,gn⟩:St).eff (a2k (a1F rid i) gn r)).put o.dst (a2k (a1F rid i) gn r).v)):c1x (some (f,args)) rd X rid ops fin o rest i acc K Q ⟨sl,ro,gn⟩:=b3N r h (b0K ha) ho hn hk
end
def DuQ(f:Nat→Int)(n j:Nat):Prop:=j<n∧f j=1∧ ∀k,k<n→k≠j→f k=0
open Classical in
noncomputable def du(f:Nat→Int)(n:Nat):Int:=if h: ∃j,DuQ f n j then(Classical.choose h:Nat)else-1
theorem b7b{f:Nat→Int}{n j:Nat}(h:DuQ f n j):du f n=j:=by
 have he: ∃j,DuQ f n j:=⟨j,h⟩
 unfold du
 rw[dif_pos he]
 have hs:=Classical.choose_spec he
 by_cases e:Classical.choose he=j
 ·rw[e]
 ·have:=h.2.2 _ hs.1 e
  rw[hs.2.1]at this;omega
theorem b0H{f:Nat→Int}{n:Nat}(h: ¬ ∃j,DuQ f n j):du f n= -1:=by unfold du;rw[dif_neg h]
theorem b2p(f:Nat→Int)(n:Nat):(∃j,DuQ f n j∧du f n=j)∨((¬ ∃j,DuQ f n j)∧du f n= -1):=by
 by_cases h: ∃j,DuQ f n j
 ·obtain⟨j,hj⟩:=h
  exact .inl ⟨j,hj,b7b hj⟩
 ·exact .inr ⟨h,b0H h⟩
theorem decT{p:Prop} [Decidable p](h:p):decide p=true:=decide_eq_true h
theorem decF{p:Prop} [Decidable p](h: ¬p):decide p=false:=decide_eq_false h
theorem bnd2{a b x y:Int}(ha:0≤a)(ha':a≤x)(hb:0≤b)(hb':b≤y):0≤a*b∧a*b≤x*y:=⟨Int.mul_nonneg ha hb,Int.mul_le_mul ha' hb' hb (by omega)⟩
attribute [go_sem] ti2 ti3 ti4 a6O a4D a3i a1l ti77
attribute [go_sem] a0B a0R a0v a0s a0S a2N a4K a6c b2J a9M a2r b2D b0R
theorem iteT{α:Type}{p:Prop} [Decidable p]{a b:α}(h:p):(if p then a else b)=a:=if_pos h
attribute [go_sem] a0l zfe
attribute [go_sem] iteT decT decF b7K b6a b2Z Int.toNat_natCast
set_option maxRecDepth 1000000 in
def a1e(T:List (List (List Int))):Prop:=1≤T.length∧T.length≤16∧ ∀i,i<T.length→(mat T i).length=T.length∧ ∀j,j<T.length→(row (mat T i) j).length=T.length∧ ∀k,k<T.length→0≤at3 T i j k∧at3 T i j k≤1000
end Go.Proofs.YtbakhfiibjkifaaGreat
/- The reference's cubes and rings. -/
namespace Go.Proofs.YtbakhfiibjkifaaGreat
open Go.RowKit
set_option maxRecDepth 1000000 in
theorem c130{a:AV}{T:List (List (List Int))}(ha:a0F a T){t:Bool}(ht:t=true↔a1e T):a0d Tryz.prog 102 [a] (bo t):=by
 refine a0e (fn:=Tryz.f102) (code:=a0b Tryz.f102) Tryz.func102 rfl (by kernel_rfl) rfl ?_
 intro sl hs
 have s0:sl 0=a:=hs 0
 by_cases h1:(T.length:Int)<1
 ·dsimp only[Tryz.f102,a0b,Option.getD]
  simp(disch:=first|assumption|omega) only[go_sem,s0,h1]
  refine Yab ?_
  exact a0N ht fun h=>by have:=h.1;omega
 by_cases h2:(16:Int)<T.length
 ·dsimp only[Tryz.f102,a0b,Option.getD]
  simp(disch:=first|assumption|omega) only[go_sem,s0,h1,h2]
  refine Yab ?_
  exact a0N ht fun h=>by have:=h.2.1;omega
 dsimp only[Tryz.f102,a0b,Option.getD]
 simp(disch:=first|assumption|omega) only[go_sem,s0,h1,h2]
 refine a0f (fun i st=>st.sl 0=a∧st.sl 3=i64 (T.length:Int)∧st.sl 4=i64 (i:Int)∧ ∀x,x<i→(mat T x).length=T.length∧ ∀j,j<T.length→(row (mat T x) j).length=T.length∧ ∀k,k<T.length→0≤at3 T x j k∧at3 T x j k≤1000) T.length ?_ ?_ ?_
 ·refine Ygg ?_
  exact⟨rfl,fun j hj=>absurd hj (Nat.not_lt_zero _)⟩
 ·rintro i sl ro gn hi ⟨s0,s3,s4,hp⟩
  dsimp only at s0 s3 s4
  have hi':(i:Int)<T.length:=by omega
  have hm:=a0o ha hi
  simp(disch:=first|assumption|omega) only[go_sem,s0,s3,s4,hi']
  refine⟨fun h=>?_,fun h=>?_⟩;rotate_left
  ·refine Yab ?_
   exact a0N ht fun hc=>by have:=(hc.2.2 i hi).1;omega
  have hl:(mat T i).length=T.length:=by omega
  refine a0f (fun j st=>st.sl 0=a∧st.sl 3=i64 (T.length:Int)∧st.sl 4=i64 (i:Int)∧st.sl 5=i64 (j:Int)∧ ∀y,y<j→(row (mat T i) y).length=T.length∧ ∀k,k<T.length→0≤at3 T i y k∧at3 T i y k≤1000) T.length ?_ ?_ ?_
  ·simp only[↓za, ↓reduceIte,Nat.reduceEqDiff,zb,reduceCtorEq,s0,s3,s4]
   exact⟨rfl,fun j hj=>absurd hj (Nat.not_lt_zero _)⟩
  ·rintro j sl ro gn hj ⟨s0,s3,s4,s5,hq⟩
   dsimp only at s0 s3 s4 s5
   have hj':(j:Int)<T.length:=by omega
   have hr:=a0m hm (k:=j) (by omega)
   simp(disch:=first|assumption|omega) only[go_sem,s0,s3,s4,s5,hj']
   refine⟨fun h=>?_,fun h=>?_⟩;rotate_left
   ·refine Yab ?_
    exact a0N ht fun hc=>by have:=((hc.2.2 i hi).2 j hj).1;omega
   have hl2:(row (mat T i) j).length=T.length:=by omega
   refine a0f (fun k st=>st.sl 0=a∧st.sl 3=i64 (T.length:Int)∧st.sl 4=i64 (i:Int)∧st.sl 5=i64 (j:Int)∧st.sl 6=i64 (k:Int)∧ ∀z,z<k→0≤at3 T i j z∧at3 T i j z≤1000) T.length ?_ ?_ ?_
   ·simp only[↓za, ↓reduceIte,Nat.reduceEqDiff,zb,reduceCtorEq,s0,s3,s4,s5]
    exact⟨rfl,fun j hj=>absurd hj (Nat.not_lt_zero _)⟩
   ·rintro k sl ro gn hk ⟨s0,s3,s4,s5,s6,hz⟩
    dsimp only at s0 s3 s4 s5 s6
    have hk':(k:Int)<T.length:=by omega
    refine Ygp ?_
    refine a0c _ c38 rfl rfl rfl ?_
    simp(disch:=first|assumption|omega) only[go_sem,s0,s3,s4,s5,s6]
    refine⟨fun h=>?_,fun h=>?_⟩;rotate_left
    ·refine Yab ?_
     exact a0N ht fun hc=>h (((hc.2.2 i hi).2 j hj).2 k hk)
    ·refine⟨a0w (by omega),fun z hz'=>?_⟩
     rcases Nat.lt_or_ge z k with h'|h'
     ·exact hz z h'
     ·have:z=k:=by omega
      subst this;exact h
   ·rintro sl ro gn ⟨s0,s3,s4,s5,s6,hz⟩
    dsimp only at s0 s3 s4 s5 s6
    have hk': ¬(T.length:Int)<T.length:=by omega
    refine Ygp ?_
    refine⟨a0w (by omega),fun y hy=>?_⟩
    rcases Nat.lt_or_ge y j with h'|h'
    ·exact hq y h'
    ·have:y=j:=by omega
     subst this;exact⟨hl2,hz⟩
  ·rintro sl ro gn ⟨s0,s3,s4,s5,hq⟩
   dsimp only at s0 s3 s4 s5
   have hj': ¬(T.length:Int)<T.length:=by omega
   simp(disch:=first|assumption|omega) only[go_sem,s0,s3,s4,s5,hj']
   refine⟨a0w (by omega),fun y hy=>?_⟩
   rcases Nat.lt_or_ge y i with h'|h'
   ·exact hp y h'
   ·have:y=i:=by omega
    subst this;exact⟨hl,hq⟩
 ·rintro sl ro gn ⟨s0,s3,s4,hp⟩
  dsimp only at s0 s3 s4
  have hi': ¬(T.length:Int)<T.length:=by omega
  simp(disch:=first|assumption|omega) only[go_sem,s3,s4,hi']
  refine Yab ?_
  exact(ht.2 ⟨by omega,by omega,hp⟩).symm
set_option maxRecDepth 1000000
noncomputable def dlT(T:List (List (List Int)))(i:Nat):Int:=du (fun j=>at3 T i j 0) T.length
theorem a8l{T:List (List (List Int))}{i:Nat}(h: ¬dlT T i<0): ∃m:Nat,dlT T i=m∧m<T.length:=by
 rcases b2p (fun j=>at3 T i j 0) T.length with⟨j,h1,h2⟩|⟨_,h2⟩
 ·exact⟨j,h2,h1.1⟩
 ·exact absurd (by unfold dlT;omega) h
theorem c150{a:AV}{T:List (List (List Int))}(ha:a0F a T)(hc:a1e T){i:Nat}(hi:i<T.length):a0d Tryz.prog 98 [a,i64 i] (i64 (dlT T i)):=by
 obtain⟨h1,h2,h3⟩:=hc
 obtain⟨hl,hr⟩:=h3 i hi
 have hm:=a0o ha hi
 refine a0e (fn:=Tryz.f98) (code:=a0b Tryz.f98) Tryz.func98 rfl (by kernel_rfl) (rfl) ?_
 intro sl hs
 have s0:sl 0=a:=hs 0
 have s1:sl 1=i64 i:=hs 1
 dsimp only[Tryz.f98,a0b,Option.getD]
 simp(disch:=first|assumption|omega) only[go_sem]
 refine a0f (fun j st=>st.sl 0=a∧st.sl 1=i64 i∧st.sl 6=i64 (j:Int)∧((st.sl 5=i64 (-1)∧ ∀k,k<j→at3 T i k 0=0)∨ ∃x:Nat,st.sl 5=i64 x∧x<j∧at3 T i x 0=1∧ ∀k,k<j→k≠x→at3 T i k 0=0)) T.length ?_ ?_ ?_
 ·refine Yac ?_
  exact⟨rfl,.inl fun j hj=>absurd hj (Nat.not_lt_zero _)⟩
 ·rintro j sl ro gn hj ⟨s0,s1,s6,q⟩
  dsimp only at s0 s1 s6
  have hj':(j:Int)<(T.length:Nat):=by omega
  dsimp only at q
  have hl2:=(hr j hj).1
  have hrow:=a0m hm (k:=j) (by omega)
  have hpos:0<(row (mat T i) j).length:=by omega
  rcases q with⟨s5,hq⟩|⟨x,s5,hx,hx1,hq⟩
  ·by_cases hf:atI (row (mat T i) j) 0=1
   ·refine Ygc ?_
    exact⟨a0w (by omega),.inr ⟨j,rfl,by omega,hf,fun k hk hne=>hq k (by omega)⟩⟩
   ·refine Ygc ?_
    refine⟨fun h0=>?_,fun h0=>?_⟩;rotate_left
    ·refine Yab ?_
     refine(b0H ?_).symm
     rintro⟨y,hy1,hy2,hy3⟩
     by_cases e:j=y
     ·subst e;exact hf hy2
     ·exact h0 (hy3 j hj e)
    ·refine⟨a0w (by omega),.inl fun k hk=>?_⟩
     rcases Nat.lt_or_ge k j with h|h
     ·exact hq k h
     ·have:k=j:=by omega
      subst this;exact h0
  ·have hx0: ¬(x:Int)<0:=by omega
   by_cases hf:atI (row (mat T i) j) 0=0
   ·have hf1: ¬atI (row (mat T i) j) 0=1:=by omega
    simp(disch:=first|assumption|omega) only[go_sem,Int.reduceToNat,s0,s1,s6,hj',hf,s5]
    refine⟨a0w (by omega),.inr ⟨x,rfl,by omega,hx1,fun k hk hne=>?_⟩⟩
    rcases Nat.lt_or_ge k j with h|h
    ·exact hq k h hne
    ·have:k=j:=by omega
     subst this;exact hf
   ·have e:dlT T i= -1:=by
     refine b0H ?_
     rintro⟨y,hy1,hy2,hy3⟩
     by_cases e:j=y
     ·subst e
      have h9:at3 T i x 0=0:=hy3 x (by omega) (by omega)
      omega
     ·exact hf (hy3 j hj e)
    by_cases hf1:atI (row (mat T i) j) 0=1
    ·simp(disch:=first|assumption|omega) only[go_sem,Int.reduceToNat,s0,s1,s6,hj',hf1,s5,hx0]
     exact Yam
    ·simp(disch:=first|assumption|omega) only[go_sem,Int.reduceToNat,s0,s1,s6,hj',hf,hf1]
     exact Yam
 ·rintro sl ro gn ⟨s0,s1,s6,q⟩
  dsimp only at s0 s1 s6
  have hj': ¬((T.length:Nat):Int)<(T.length:Nat):=by omega
  dsimp only at q
  rcases q with⟨s5,hq⟩|⟨x,s5,hx,hx1,hq⟩
  ·simp(disch:=first|assumption|omega) only[go_sem,s0,s6,hj',s5]
   refine Yab ?_
   refine(b0H ?_).symm
   rintro⟨y,hy1,hy2,hy3⟩
   have h9:at3 T i y 0=1:=hy2
   have:=hq y hy1
   omega
  ·simp(disch:=first|assumption|omega) only[go_sem,s0,s6,hj',s5]
   refine Yab ?_
   exact(b7b (f:=fun j=>at3 T i j 0) ⟨hx,hx1,hq⟩).symm
section
variable (T:List (List (List Int)))
def dlt(i k:Nat):Int:=if i=k then 1 else 0
def p1(i k:Nat):Option (List Int):=if at3 T 0 i k=dlt i k∧at3 T i 0 k=dlt i k then none else some [0,i,k]
noncomputable def p2(i:Nat):Option (List Int):=if dlT T i<0∨dlT T (dlT T i).toNat≠i then some [1,i]else none
noncomputable def p3(i j k:Nat):Option (List Int):=if at3 T i j k=at3 T (dlT T i).toNat k j∧at3 T i j k=at3 T k (dlT T j).toNat i then none else some [2,i,j,k]
def lft(i j k l:Nat)(m:Nat):Int:=at3 T i j m*at3 T m k l
def rgt(i j k l:Nat)(m:Nat):Int:=at3 T j k m*at3 T i m l
def p4(i j k l:Nat):Option (List Int):=if sm (lft T i j k l) T.length=sm (rgt T i j k l) T.length then none else some [3,i,j,k,l]
def F1:Option (List Int):=fnd T.length fun i=>fnd T.length fun k=>p1 T i k
noncomputable def F2:Option (List Int):=fnd T.length fun i=>p2 T i
noncomputable def F3:Option (List Int):=fnd T.length fun i=>fnd T.length fun j=>fnd T.length fun k=>p3 T i j k
def F4:Option (List Int):=fnd T.length fun i=>fnd T.length fun j=>fnd T.length fun k=>fnd T.length fun l=>p4 T i j k l
noncomputable def RF:Option (List Int):=match F1 T with
 |some v=>some v
 |none=>match F2 T with
  |some v=>some v
  |none=>match F3 T with
   |some v=>some v
   |none=>F4 T
end
theorem RF1{T:List (List (List Int))}{v:List Int}(h:F1 T=some v):RF T=some v:=by unfold RF;rw[h]
theorem RF2{T:List (List (List Int))}{v:List Int}(h1:F1 T=none)(h:F2 T=some v):RF T=some v:=by unfold RF;rw[h1,h]
theorem RF3{T:List (List (List Int))}{v:List Int}(h1:F1 T=none)(h2:F2 T=none)(h:F3 T=some v):RF T=some v:=by unfold RF;rw[h1,h2,h]
theorem RF4{T:List (List (List Int))}(h1:F1 T=none)(h2:F2 T=none)(h3:F3 T=none):RF T=F4 T:=by unfold RF;rw[h1,h2,h3]
theorem ltS{p:Nat→Prop}{k:Nat}(h: ∀j,j<k→p j)(hk:p k): ∀j,j<k+1→p j:=fun j hj=>by
 rcases Nat.lt_or_ge j k with h'|h'
 ·exact h j h'
 ·have:j=k:=by omega
  subst this;exact hk
theorem lt0{p:Nat→Prop}: ∀j,j<0→p j:=fun _ h=>absurd h (Nat.not_lt_zero _)
theorem a5h{T:List (List (List Int))}(hc:a1e T)(i j k:Nat):0≤at3 T i j k∧at3 T i j k≤1000:=by
 obtain⟨h1,h2,h3⟩:=hc
 rcases Nat.lt_or_ge i T.length with hi|hi
 ·obtain⟨h4,h5⟩:=h3 i hi
  rcases Nat.lt_or_ge j T.length with hj|hj
  ·obtain⟨h6,h7⟩:=h5 j hj
   rcases Nat.lt_or_ge k T.length with hk|hk
   ·exact h7 k hk
   ·unfold at3;rw[a2c (by omega)];decide
  ·unfold at3;rw[b0l (by omega),a2c (by simp)];decide
 ·have:mat T i=[]:=by unfold mat;simp[List.getD_eq_getElem?_getD,List.getElem?_eq_none hi]
  unfold at3;rw[this,b0l (by simp),a2c (by simp)];decide
theorem a5t{T:List (List (List Int))}(hc:a1e T)(i j k l m:Nat):0≤lft T i j k l m∧lft T i j k l m≤1000000:=by
 have h1:=a5h hc i j m
 have h2:=a5h hc m k l
 have:=bnd2 h1.1 h1.2 h2.1 h2.2
 exact⟨this.1,by simpa [lft,rgt]using this.2⟩
theorem a5q{T:List (List (List Int))}(hc:a1e T)(i j k l m:Nat):0≤rgt T i j k l m∧rgt T i j k l m≤1000000:=by
 have h1:=a5h hc j k m
 have h2:=a5h hc i m l
 have:=bnd2 h1.1 h1.2 h2.1 h2.2
 exact⟨this.1,by simpa [lft,rgt]using this.2⟩
set_option maxHeartbeats 4000000 in
theorem c131{a:AV}{T:List (List (List Int))}(ha:a0F a T)(hc:a1e T):a0d Tryz.prog 103 [a] (b3c (RF T)):=by
 have hc0:=hc
 obtain⟨h1,h2,h3⟩:=hc
 refine a0e (fn:=Tryz.f103) (code:=a0b Tryz.f103) Tryz.func103 rfl (by kernel_rfl) (a3r _) ?_
 intro sl hs
 have s0:sl 0=a:=hs 0
 dsimp only[Tryz.f103,a0b,Option.getD]
 simp(disch:=first|assumption|omega) only[go_sem,s0]
 have hT0:0<T.length:=by omega
 have hm0:=a0o ha hT0
 refine a0f (fun i st=>st.sl 0=a∧st.sl 2=a1q∧st.sl 3=i64 (T.length:Int)∧st.sl 4=i64 (i:Int)∧(∀x,x<i→(fnd T.length fun k=>p1 T x k)=none)) T.length ?_ ?_ ?_
 ·refine Yaf ?_
  exact⟨rfl,lt0⟩
 ·rintro i sl ro gn hi ⟨s0,s2,s3,s4,q⟩
  dsimp only at s0 s2 s3 s4
  have hi':(i:Int)<(T.length:Nat):=by omega
  simp(disch:=first|assumption|omega) only[go_sem,s3,s4,hi']
  obtain⟨hli,hri⟩:=h3 i hi
  have hmi:=a0o ha hi
  refine a0f (fun k st=>st.sl 0=a∧st.sl 2=a1q∧st.sl 3=i64 (T.length:Int)∧st.sl 4=i64 (i:Int)∧st.sl 5=i64 (k:Int)∧(∀x,x<k→p1 T i x=none)) T.length ?_ ?_ ?_
  ·simp only[↓za, ↓reduceIte,Nat.reduceEqDiff,zb,reduceCtorEq,s0,s2,s3,s4]
   exact⟨rfl,lt0⟩
  ·rintro k sl ro gn hk ⟨s0,s2,s3,s4,s5,qq⟩
   dsimp only at s0 s2 s3 s4 s5
   have hk':(k:Int)<(T.length:Nat):=by omega
   have hr0:=a0m hm0 (k:=i) (by rw[(h3 0 hT0).1];exact hi)
   have hr1:=a0m hmi (k:=0) (by omega)
   have hl0:(row (mat T 0) i).length=T.length:=((h3 0 hT0).2 i hi).1
   have hl1:(row (mat T i) 0).length=T.length:=(hri 0 hT0).1
   have hlm:(mat T 0).length=T.length:=(h3 0 hT0).1
   have hd: ∀x,x=dlt i k→(at3 T 0 i k=x∧at3 T i 0 k=x→p1 T i k=none)∧(¬(at3 T 0 i k=x∧at3 T i 0 k=x)→RF T=some [0,(i:Int),(k:Int)]):=by
    rintro x rfl
    refine⟨fun h=>if_pos h,fun h=>RF1 (a0U (k:=i) (a0U (k:=k) (if_neg h) qq hk) q hi)⟩
   by_cases hik:i=k
   ·have hik':(i:Int)=k:=by omega
    obtain⟨hd1,hd2⟩:=hd 1 (if_pos hik).symm
    by_cases ha1:atI (row (mat T 0) i) k=1
    ·by_cases hb1:atI (row (mat T i) 0) k=1
     ·refine Ybv ?_
      exact⟨a0w (by omega),ltS qq (hd1 ⟨ha1,hb1⟩)⟩
     ·refine Ybv ?_
      refine Yaz ?_
      rfl
    ·refine Yfx ?_
     refine Yba ?_
     rfl
   ·have hik': ¬(i:Int)=k:=by omega
    obtain⟨hd1,hd2⟩:=hd 0 (if_neg hik).symm
    by_cases ha1:atI (row (mat T 0) i) k=0
    ·by_cases hb1:atI (row (mat T i) 0) k=0
     ·refine Ybv ?_
      exact⟨a0w (by omega),ltS qq (hd1 ⟨ha1,hb1⟩)⟩
     ·refine Ybv ?_
      refine Yaz ?_
      rfl
    ·refine Yfx ?_
     refine Yba ?_
     rfl
  ·rintro sl ro gn ⟨s0,s2,s3,s4,s5,qq⟩
   dsimp only at s0 s2 s3 s4 s5
   have hk': ¬((T.length:Nat):Int)<(T.length:Nat):=by omega
   simp(disch:=first|assumption|omega) only[go_sem,s0,s2,s3,s4,s5,hk']
   exact⟨a0w (by omega),ltS q (a0u.2 qq)⟩
 ·rintro sl ro gn ⟨s0,s2,s3,s4,q⟩
  dsimp only at s0 s2 s3 s4
  have hi': ¬((T.length:Nat):Int)<(T.length:Nat):=by omega
  have hF1:F1 T=none:=a0u.2 q
  clear q
  simp(disch:=first|assumption|omega) only[go_sem,s3,s4,hi']
  refine a0f (fun i st=>st.sl 0=a∧st.sl 2=a1q∧st.sl 3=i64 (T.length:Int)∧st.sl 8=i64 (i:Int)∧st.sl 7= .ref 57344 (st.gn 57344) [] 0 i∧st.ro 57344 (st.gn 57344)=some (.row (rws (fun x=>i64 (dlT T x)) i))) T.length ?_ ?_ ?_
  ·simp only[↓za, ↓reduceIte,Nat.reduceEqDiff,zb,reduceCtorEq,a1v,s0,s2,s3]
   rfl
  ·rintro i sl ro gn hi ⟨s0,s2,s3,s8,s7,r57344⟩
   dsimp only at s0 s2 s3 s8 s7 r57344
   have hi':(i:Int)<(T.length:Nat):=by omega
   simp(disch:=first|assumption|omega) only[go_sem,s0,s3,s8,s7,hi']
   refine a0c _ (c150 ha hc0 hi) (by simp only[a0Q,a5v ha,a0W,Bool.and_self]) rfl rfl ?_
   simp(disch:=first|assumption|omega) only[go_sem,s0,s2,s3,s8,r57344]
   exact a0w (by omega)
  ·rintro sl ro gn ⟨s0,s2,s3,s8,s7,r57344⟩
   dsimp only at s0 s2 s3 s8 s7 r57344
   have hi': ¬((T.length:Nat):Int)<(T.length:Nat):=by omega
   simp(disch:=first|assumption|omega) only[go_sem,s3,s8,hi']
   refine a0f (fun i st=>st.sl 0=a∧st.sl 2=a1q∧st.sl 3=i64 (T.length:Int)∧st.sl 7= .ref 57344 (st.gn 57344) [] 0 T.length∧st.ro 57344 (st.gn 57344)=some (.row (rws (fun x=>i64 (dlT T x)) T.length))∧st.sl 9=i64 (i:Int)∧(∀x,x<i→p2 T x=none)) T.length ?_ ?_ ?_
   ·simp only[↓za, ↓reduceIte,Nat.reduceEqDiff,zb,reduceCtorEq,s0,s2,s3,s7,r57344]
    exact⟨rfl,lt0⟩
   ·rintro i sl ro gn hi ⟨s0,s2,s3,s7,r57344,s9,q⟩
    dsimp only at s0 s2 s3 s7 r57344 s9
    have hi':(i:Int)<(T.length:Nat):=by omega
    by_cases hd:dlT T i<0
    ·have e:=RF2 hF1 (a0U (k:=i) (if_pos (.inl hd)) q hi)
     simp(disch:=first|assumption|omega) only[go_sem,s3,s7,r57344,s9,hi',hi,hd]
     refine Yaw ?_
     rfl
    ·obtain⟨m,hm,hmT⟩:=a8l hd
     by_cases hd2:dlT T m=i
     ·have e:p2 T i=none:=if_neg (by rw[hm,Int.toNat_natCast];intro h;rcases h with h|h;omega;exact h hd2)
      refine Yez ?_
      exact⟨a0w (by omega),ltS q e⟩
     ·have e:=RF2 hF1 (a0U (k:=i) (if_pos (.inr (by rw[hm,Int.toNat_natCast];exact hd2))) q hi)
      refine Yez ?_
      refine Yaw ?_
      rfl
   ·rintro sl ro gn ⟨s0,s2,s3,s7,r57344,s9,q⟩
    dsimp only at s0 s2 s3 s7 r57344 s9
    have hi': ¬((T.length:Nat):Int)<(T.length:Nat):=by omega
    have hF2:F2 T=none:=a0u.2 q
    have hdl: ∀i,i<T.length→ ∃m:Nat,dlT T i=m∧m<T.length:=fun i hi=>by
     refine a8l fun h=>?_
     have:=q i hi
     unfold p2 at this
     rw[if_pos (.inl h)]at this
     cases this
    clear q
    simp(disch:=first|assumption|omega) only[go_sem,s3,s9,hi']
    refine a0f (fun i st=>st.sl 0=a∧st.sl 2=a1q∧st.sl 3=i64 (T.length:Int)∧st.sl 7= .ref 57344 (st.gn 57344) [] 0 T.length∧st.ro 57344 (st.gn 57344)=some (.row (rws (fun x=>i64 (dlT T x)) T.length))∧st.sl 10=i64 (i:Int)∧(∀x,x<i→(fnd T.length fun j=>fnd T.length fun k=>p3 T x j k)=none)) T.length ?_ ?_ ?_
    ·simp only[↓za, ↓reduceIte,Nat.reduceEqDiff,zb,reduceCtorEq,s0,s2,s3,s7,r57344]
     exact⟨rfl,lt0⟩
    ·rintro i sl ro gn hi ⟨s0,s2,s3,s7,r57344,s10,q⟩
     dsimp only at s0 s2 s3 s7 r57344 s10
     have hi':(i:Int)<(T.length:Nat):=by omega
     simp(disch:=first|assumption|omega) only[go_sem,s3,s10,hi']
     refine a0f (fun j st=>st.sl 0=a∧st.sl 2=a1q∧st.sl 3=i64 (T.length:Int)∧st.sl 7= .ref 57344 (st.gn 57344) [] 0 T.length∧st.ro 57344 (st.gn 57344)=some (.row (rws (fun x=>i64 (dlT T x)) T.length))∧st.sl 10=i64 (i:Int)∧st.sl 11=i64 (j:Int)∧(∀x,x<j→(fnd T.length fun k=>p3 T i x k)=none)) T.length ?_ ?_ ?_
     ·simp only[↓za, ↓reduceIte,Nat.reduceEqDiff,zb,reduceCtorEq,s0,s2,s3,s7,r57344,s10]
      exact⟨rfl,lt0⟩
     ·rintro j sl ro gn hj ⟨s0,s2,s3,s7,r57344,s10,s11,qq⟩
      dsimp only at s0 s2 s3 s7 r57344 s10 s11
      have hj':(j:Int)<(T.length:Nat):=by omega
      simp(disch:=first|assumption|omega) only[go_sem,s3,s11,hj']
      refine a0f (fun k st=>st.sl 0=a∧st.sl 2=a1q∧st.sl 3=i64 (T.length:Int)∧st.sl 7= .ref 57344 (st.gn 57344) [] 0 T.length∧st.ro 57344 (st.gn 57344)=some (.row (rws (fun x=>i64 (dlT T x)) T.length))∧st.sl 10=i64 (i:Int)∧st.sl 11=i64 (j:Int)∧st.sl 12=i64 (k:Int)∧(∀x,x<k→p3 T i j x=none)) T.length ?_ ?_ ?_
      ·simp only[↓za, ↓reduceIte,Nat.reduceEqDiff,zb,reduceCtorEq,s0,s2,s3,s7,r57344,s10,s11]
       exact⟨rfl,lt0⟩
      ·rintro k sl ro gn hk ⟨s0,s2,s3,s7,r57344,s10,s11,s12,qqq⟩
       dsimp only at s0 s2 s3 s7 r57344 s10 s11 s12
       have hk':(k:Int)<(T.length:Nat):=by omega
       obtain⟨di,hdi,hdi2⟩:=hdl i hi
       obtain⟨dj,hdj,hdj2⟩:=hdl j hj
       have hA:=a0o ha hi
       have hB:=a0o ha hdi2
       have hC:=a0o ha hk
       have hA1:=(h3 i hi).1
       have hB1:=(h3 di hdi2).1
       have hC1:=(h3 k hk).1
       have hA2:=a0m hA (k:=j) (by omega)
       have hB2:=a0m hB (k:=k) (by omega)
       have hC2:=a0m hC (k:=dj) (by omega)
       have hA3:=((h3 i hi).2 j hj).1
       have hB3:=((h3 di hdi2).2 k hk).1
       have hC3:=((h3 k hk).2 dj hdj2).1
       have hd:(at3 T i j k=at3 T di k j∧at3 T i j k=at3 T k dj i→p3 T i j k=none)∧(¬(at3 T i j k=at3 T di k j∧at3 T i j k=at3 T k dj i)→RF T=some [2,(i:Int),(j:Int),(k:Int)]):=by
        have e1:(dlT T i).toNat=di:=by omega
        have e2:(dlT T j).toNat=dj:=by omega
        refine⟨fun h=>if_pos (by rw[e1,e2];exact h),fun h=>RF3 hF1 hF2 (a0U (k:=i) (a0U (k:=j) (a0U (k:=k) (if_neg (by rw[e1,e2];exact h)) qqq hk) qq hj) q hi)⟩
       obtain⟨hd1,hd2⟩:=hd
       by_cases ha1:atI (row (mat T i) j) k=atI (row (mat T di) k) j
       ·have ha1':=eq_true ha1
        by_cases hb1:atI (row (mat T i) j) k=atI (row (mat T k) dj) i
        ·have hb1':=eq_true hb1
         simp(disch:=first|assumption|omega) only[go_sem,s0,s3,s7,r57344,s10,s11,s12,hk',ha1',hb1',hdi,hdj]
         refine a0r (by kernel_rfl) ?_
         refine Ycs ?_
         exact⟨a0w (by omega),ltS qqq (hd1 ⟨ha1,hb1⟩)⟩
        ·simp(disch:=first|assumption|omega) only[go_sem,s0,s3,s7,r57344,s10,s11,s12,hk',ha1',hb1,hdi,hdj]
         refine a0r (by kernel_rfl) ?_
         refine Ycs ?_
         refine Yaz ?_
         rfl
       ·simp(disch:=first|assumption|omega) only[go_sem,s0,s3,s7,r57344,s10,s11,s12,hk',ha1,hdi]
        refine a0r (by kernel_rfl) ?_
        refine Ycs ?_
        refine Yba ?_
        rfl
      ·rintro sl ro gn ⟨s0,s2,s3,s7,r57344,s10,s11,s12,qqq⟩
       dsimp only at s0 s2 s3 s7 r57344 s10 s11 s12
       have hk': ¬((T.length:Nat):Int)<(T.length:Nat):=by omega
       simp(disch:=first|assumption|omega) only[go_sem,s0,s2,s3,s7,r57344,s10,s11,s12,hk']
       exact⟨a0w (by omega),ltS qq (a0u.2 qqq)⟩
     ·rintro sl ro gn ⟨s0,s2,s3,s7,r57344,s10,s11,qq⟩
      dsimp only at s0 s2 s3 s7 r57344 s10 s11
      have hj': ¬((T.length:Nat):Int)<(T.length:Nat):=by omega
      simp(disch:=first|assumption|omega) only[go_sem,s0,s2,s3,s7,r57344,s10,s11,hj']
      exact⟨a0w (by omega),ltS q (a0u.2 qq)⟩
    ·rintro sl ro gn ⟨s0,s2,s3,s7,r57344,s10,q⟩
     dsimp only at s0 s2 s3 s7 r57344 s10
     have hi': ¬((T.length:Nat):Int)<(T.length:Nat):=by omega
     have hF3:F3 T=none:=a0u.2 q
     have hRF:RF T=F4 T:=RF4 hF1 hF2 hF3
     clear q
     simp(disch:=first|assumption|omega) only[go_sem,s3,s10,hi']
     refine a0f (fun i st=>st.sl 0=a∧st.sl 2=a1q∧st.sl 3=i64 (T.length:Int)∧st.sl 13=i64 (i:Int)∧(∀x,x<i→(fnd T.length fun j=>fnd T.length fun k=>fnd T.length fun l=>p4 T x j k l)=none)) T.length ?_ ?_ ?_
     ·simp only[↓za, ↓reduceIte,Nat.reduceEqDiff,zb,reduceCtorEq,s0,s2,s3]
      exact⟨rfl,lt0⟩
     ·rintro i sl ro gn hi ⟨s0,s2,s3,s13,q⟩
      dsimp only at s0 s2 s3 s13
      have hi':(i:Int)<(T.length:Nat):=by omega
      simp(disch:=first|assumption|omega) only[go_sem,s3,s13,hi']
      refine a0f (fun j st=>st.sl 0=a∧st.sl 2=a1q∧st.sl 3=i64 (T.length:Int)∧st.sl 13=i64 (i:Int)∧st.sl 14=i64 (j:Int)∧(∀x,x<j→(fnd T.length fun k=>fnd T.length fun l=>p4 T i x k l)=none)) T.length ?_ ?_ ?_
      ·simp only[↓za, ↓reduceIte,Nat.reduceEqDiff,zb,reduceCtorEq,s0,s2,s3,s13]
       exact⟨rfl,lt0⟩
      ·rintro j sl ro gn hj ⟨s0,s2,s3,s13,s14,qq⟩
       dsimp only at s0 s2 s3 s13 s14
       have hj':(j:Int)<(T.length:Nat):=by omega
       simp(disch:=first|assumption|omega) only[go_sem,s3,s14,hj']
       refine a0f (fun k st=>st.sl 0=a∧st.sl 2=a1q∧st.sl 3=i64 (T.length:Int)∧st.sl 13=i64 (i:Int)∧st.sl 14=i64 (j:Int)∧st.sl 15=i64 (k:Int)∧(∀x,x<k→(fnd T.length fun l=>p4 T i j x l)=none)) T.length ?_ ?_ ?_
       ·simp only[↓za, ↓reduceIte,Nat.reduceEqDiff,zb,reduceCtorEq,s0,s2,s3,s13,s14]
        exact⟨rfl,lt0⟩
       ·rintro k sl ro gn hk ⟨s0,s2,s3,s13,s14,s15,q3⟩
        dsimp only at s0 s2 s3 s13 s14 s15
        have hk':(k:Int)<(T.length:Nat):=by omega
        simp(disch:=first|assumption|omega) only[go_sem,s3,s15,hk']
        refine a0f (fun l st=>st.sl 0=a∧st.sl 2=a1q∧st.sl 3=i64 (T.length:Int)∧st.sl 13=i64 (i:Int)∧st.sl 14=i64 (j:Int)∧st.sl 15=i64 (k:Int)∧st.sl 16=i64 (l:Int)∧(∀x,x<l→p4 T i j k x=none)) T.length ?_ ?_ ?_
        ·simp only[↓za, ↓reduceIte,Nat.reduceEqDiff,zb,reduceCtorEq,s0,s2,s3,s13,s14,s15]
         exact⟨rfl,lt0⟩
        ·rintro l sl ro gn hl ⟨s0,s2,s3,s13,s14,s15,s16,q4⟩
         dsimp only at s0 s2 s3 s13 s14 s15 s16
         have hl':(l:Int)<(T.length:Nat):=by omega
         simp(disch:=first|assumption|omega) only[go_sem,s3,s16,hl']
         refine a0f (fun m st=>st.sl 0=a∧st.sl 2=a1q∧st.sl 3=i64 (T.length:Int)∧st.sl 13=i64 (i:Int)∧st.sl 14=i64 (j:Int)∧st.sl 15=i64 (k:Int)∧st.sl 16=i64 (l:Int)∧st.sl 17=i64 (sm (lft T i j k l) m)∧st.sl 18=i64 (sm (rgt T i j k l) m)∧st.sl 19=i64 (m:Int)) T.length ?_ ?_ ?_
         ·simp only[↓za, ↓reduceIte,Nat.reduceEqDiff,zb,reduceCtorEq,s0,s2,s3,s13,s14,s15,s16]
          exact⟨rfl,rfl,rfl⟩
         ·rintro m sl ro gn hm ⟨s0,s2,s3,s13,s14,s15,s16,s17,s18,s19⟩
          dsimp only at s0 s2 s3 s13 s14 s15 s16 s17 s18 s19
          have hm':(m:Int)<(T.length:Nat):=by omega
          have hA:=a0o ha hi
          have hB:=a0o ha hj
          have hC:=a0o ha hm
          have hA1:=(h3 i hi).1
          have hB1:=(h3 j hj).1
          have hC1:=(h3 m hm).1
          have hA2:=a0m hA (k:=j) (by omega)
          have hA3:=a0m hA (k:=m) (by omega)
          have hB2:=a0m hB (k:=k) (by omega)
          have hC2:=a0m hC (k:=k) (by omega)
          have hA4:=((h3 i hi).2 j hj).1
          have hA5:=((h3 i hi).2 m hm).1
          have hB4:=((h3 j hj).2 k hk).1
          have hC4:=((h3 m hm).2 k hk).1
          have b1:=a5z (a5t hc0 i j k l) m
          have b2:=a5z (a5q hc0 i j k l) m
          have b3:0≤atI (row (mat T i) j) m*atI (row (mat T m) k) l∧_:=a5t hc0 i j k l m
          have b4:0≤atI (row (mat T j) k) m*atI (row (mat T i) m) l∧_:=a5q hc0 i j k l m
          have b5:atI (row (mat T i) j) m*atI (row (mat T m) k) l≤1000000:=(a5t hc0 i j k l m).2
          have b6:atI (row (mat T j) k) m*atI (row (mat T i) m) l≤1000000:=(a5q hc0 i j k l m).2
          refine Yco ?_
          refine a0r (by kernel_rfl) ?_
          refine Yco ?_
          refine a0r (by kernel_rfl) ?_
          refine Yco ?_
          exact⟨a0w rfl,a0w rfl,a0w (by omega)⟩
         ·rintro sl ro gn ⟨s0,s2,s3,s13,s14,s15,s16,s17,s18,s19⟩
          dsimp only at s0 s2 s3 s13 s14 s15 s16 s17 s18 s19
          have hm': ¬((T.length:Nat):Int)<(T.length:Nat):=by omega
          have hd:(sm (lft T i j k l) T.length=sm (rgt T i j k l) T.length→p4 T i j k l=none)∧(¬sm (lft T i j k l) T.length=sm (rgt T i j k l) T.length→RF T=some [3,(i:Int),(j:Int),(k:Int),(l:Int)]):=
           ⟨fun h=>if_pos h,fun h=>hRF.trans (a0U (k:=i) (a0U (k:=j) (a0U (k:=k) (a0U (k:=l) (if_neg h) q4 hl) q3 hk) qq hj) q hi)⟩
          simp(disch:=first|assumption|omega) only[go_sem,s0,s2,s3,s13,s14,s15,s16,s17,s18,s19,hm']
          refine⟨fun h=>?_,fun h=>?_⟩
          ·exact⟨a0w (by omega),ltS q4 (hd.1 h)⟩
          ·refine Yec ?_
           rfl
        ·rintro sl ro gn ⟨s0,s2,s3,s13,s14,s15,s16,q4⟩
         dsimp only at s0 s2 s3 s13 s14 s15 s16
         have hl': ¬((T.length:Nat):Int)<(T.length:Nat):=by omega
         simp(disch:=first|assumption|omega) only[go_sem,s0,s2,s3,s13,s14,s15,s16,hl']
         exact⟨a0w (by omega),ltS q3 (a0u.2 q4)⟩
       ·rintro sl ro gn ⟨s0,s2,s3,s13,s14,s15,q3⟩
        dsimp only at s0 s2 s3 s13 s14 s15
        have hk': ¬((T.length:Nat):Int)<(T.length:Nat):=by omega
        simp(disch:=first|assumption|omega) only[go_sem,s0,s2,s3,s13,s14,s15,hk']
        exact⟨a0w (by omega),ltS qq (a0u.2 q3)⟩
      ·rintro sl ro gn ⟨s0,s2,s3,s13,s14,qq⟩
       dsimp only at s0 s2 s3 s13 s14
       have hj': ¬((T.length:Nat):Int)<(T.length:Nat):=by omega
       simp(disch:=first|assumption|omega) only[go_sem,s0,s2,s3,s13,s14,hj']
       exact⟨a0w (by omega),ltS q (a0u.2 qq)⟩
     ·rintro sl ro gn ⟨s0,s2,s3,s13,q⟩
      dsimp only at s0 s2 s3 s13
      have hi': ¬((T.length:Nat):Int)<(T.length:Nat):=by omega
      have e:RF T=none:=hRF.trans (a0u.2 q)
      simp(disch:=first|assumption|omega) only[go_sem,s3,s13,hi']
      simp only[zr,a1Z,a1H,a2g,zes,zez,a1O,zhk, ↓za, ↓reduceIte,e]
      rfl
theorem b8Y{xs:List Int}:b2M xs 0 55440=true↔NL xs:=a7S
theorem c115{a:AV}{xs:List Int}(ha:isL a xs)(hx:xs.length≤a0G):a0d Tryz.prog 65 [a] (bo (b2M xs 0 55440)):=by
 refine a0e (fn:=Tryz.f65) (code:=a0b Tryz.f65) Tryz.func65 rfl (by kernel_rfl) (rfl) ?_
 intro sl hs
 have s0:sl 0=a:=hs 0
 dsimp only[Tryz.f65,a0b,Option.getD]
 refine Ybm ?_
 refine a0c _ (c129 ha hx) (by simp(disch:=assumption) only[a0Q,a0W,a1J,Bool.and_self]) rfl rfl ?_
 refine Ybm ?_
 exact Yaa
def NLL(S:List (List Int)):Prop:= ∀i,i<S.length→NL (row S i)
def c1I(S:List (List Int))(m:Int):Prop:=(∀i,i<S.length→1≤(row S i).length∧(row S i).length≤16∧(row S i).length=(row S 0).length)∧m≤S.length∧S.length≤16
def MatP(S:List (List Int)):Prop:=c1I S 1∧NLL S
theorem c159{a b:AV}{xs ys:List Int}(ha:isL a xs)(hb:isL b ys)(hx:xs.length≤a0G):a0d Tryz.prog 138 [a,b] (bo (decide (xs=ys))):=by
 have hx':xs.length≤4294967296:=hx
 refine a0e (fn:=Tryz.f138) (code:=a0b Tryz.f138) Tryz.func138 rfl (by kernel_rfl) (rfl) ?_
 intro sl hs
 have s0:sl 0=a:=hs 0
 have s1:sl 1=b:=hs 1
 by_cases hl:xs.length=ys.length
 ·dsimp only[Tryz.f138,a0b,Option.getD]
  refine Yah ?_
  refine a0f (fun i st=>st.sl 0=a∧st.sl 1=b∧st.sl 12=i64 (xs.length:Int)∧st.sl 13=i64 (i:Int)∧(∀x,x<i→atI xs x=atI ys x)) xs.length ?_ ?_ ?_
  ·refine Yac ?_
   exact⟨rfl,lt0⟩
  ·rintro i sl ro gn hi ⟨s0,s1,s12,s13,q⟩
   dsimp only at s0 s1 s12 s13
   have hi':(i:Int)<(xs.length:Nat):=by omega
   simp(disch:=first|assumption|omega) only[go_sem,s0,s1,s12,s13,hi']
   refine a0r (by kernel_rfl) ?_
   simp(disch:=first|assumption|omega) only[go_sem,s0,s1,s12,s13]
   refine⟨fun h=>⟨a0w (by omega),ltS q h⟩,fun h=>?_⟩
   refine Yab ?_
   exact(decide_eq_false fun e=>h (by rw[e])).symm
  ·rintro sl ro gn ⟨s0,s1,s12,s13,q⟩
   dsimp only at s0 s1 s12 s13
   have hi': ¬((xs.length:Nat):Int)<(xs.length:Nat):=by omega
   simp only[go_sem,s12,s13,hi']
   refine Yab ?_
   exact(decide_eq_true (a3s hl q)).symm
 ·dsimp only[Tryz.f138,a0b,Option.getD]
  refine Yah ?_
  refine Yab ?_
  exact(decide_eq_false fun e=>hl (by rw[e])).symm
theorem c158{a b:AV}{xs ys:List (List Int)}(ha:a2t a xs)(hb:a2t b ys)(hx:xs.length≤a0G)(hr: ∀i,i<xs.length→(row xs i).length≤a0G):a0d Tryz.prog 137 [a,b,.fn 138 []] (bo (decide (xs=ys))):=by
 have hx':xs.length≤4294967296:=hx
 refine a0e (fn:=Tryz.f137) (code:=a0b Tryz.f137) Tryz.func137 rfl (by kernel_rfl) (rfl) ?_
 intro sl hs
 have s0:sl 0=a:=hs 0
 have s1:sl 1=b:=hs 1
 have s2:sl 2= .fn 138 []:=hs 2
 by_cases hl:xs.length=ys.length
 ·dsimp only[Tryz.f137,a0b,Option.getD]
  refine Ydc ?_
  refine a0f (fun i st=>st.sl 0=a∧st.sl 1=b∧st.sl 2= .fn 138 []∧st.sl 15=a∧st.sl 16=i64 (xs.length:Int)∧st.sl 17=i64 (i:Int)∧(∀x,x<i→row xs x=row ys x)) xs.length ?_ ?_ ?_
  ·refine Ycz ?_
   exact⟨rfl,lt0⟩
  ·rintro i sl ro gn hi ⟨s0,s1,s2,s15,s16,s17,q⟩
   dsimp only at s0 s1 s2 s15 s16 s17
   have hi':(i:Int)<(xs.length:Nat):=by omega
   have h1:=a0m ha hi
   have h2:=a0m hb (k:=i) (by omega)
   refine Ydk ?_
   refine a0c _ (c159 h1 h2 (hr i hi)) (by simp(disch:=assumption) only[a0Q,a1J,Bool.and_self]) rfl rfl ?_
   refine Ydk ?_
   refine⟨fun h=>⟨a0w (by omega),ltS q h⟩,fun h=>?_⟩
   refine Yab ?_
   exact(decide_eq_false fun e=>h (by rw[e])).symm
  ·rintro sl ro gn ⟨s0,s1,s2,s15,s16,s17,q⟩
   dsimp only at s0 s1 s2 s15 s16 s17
   have hi': ¬((xs.length:Nat):Int)<(xs.length:Nat):=by omega
   simp only[go_sem,s16,s17,hi']
   refine Yab ?_
   exact(decide_eq_true (a7w hl q)).symm
 ·dsimp only[Tryz.f137,a0b,Option.getD]
  refine Ydc ?_
  refine Yab ?_
  exact(decide_eq_false fun e=>hl (by rw[e])).symm
abbrev a2o(f:Nat→Nat→Int)(n m:Nat):AV:= .row (rws (fun i=> .row (rws (fun j=>i64 (f i j)) m)) n)
def c3l(f:Nat→Nat→Int)(i j:Nat)(v:Int):Nat→Nat→Int:=fun x y=>if x=i∧y=j then v else f x y
def a1r(f:Nat→Nat→Int)(n m:Nat):List (List Int):=rws (fun i=>rws (fun j=>f i j) m) n
theorem a2V{f:Nat→Nat→Int}{n m i:Nat}(h:i<n):row (a1r f n m) i=rws (fun j=>f i j) m:=a1A _ h
theorem a6B{f:Nat→Nat→Int}{n m i j:Nat}(hi:i<n)(hj:j<m):atI (row (a1r f n m) i) j=f i j:=by rw[a2V hi,a0P _ hj]
theorem a4Z(f:Nat→Nat→Int)(n m:Nat):a0I (a1r f n m)=a2o f n m:=by simp only[a0I,a0H,a1r,a0y]
theorem a1h(f:Nat→Nat→Int)(n m:Nat):a0C (a2o f n m)=true:=a1i _ (a1a _ _ fun _=>a1i _ (a1a _ _ fun _=>rfl))
theorem a2a(f:Nat→Nat→Int)(n m:Nat):noI (a2o f n m)=true:=a2K _ (a1K _ (fun _=>a2K _ (a1K _ (fun _=>rfl) _)) _)
theorem b5r{f g:Nat→Nat→Int}{n m:Nat}(h: ∀i j,i<n→j<m→f i j=g i j):a2o f n m=a2o g n m:=
 congrArg AV.row (a0g fun x hx=>congrArg AV.row (a0g fun y hy=>by rw[h x y hx hy]))
theorem c0A{f:Nat→List AV}{n i:Nat}(h:i<n):bx1 (some (.row (rws (fun i=> .row (f i)) n))) i=false:=b3W (a0l _ _ _ h)
theorem b9J{f:Nat→Nat→Int}{n m i j:Nat}{v:Int}{ro:Ro}{s g:Nat}(hi:i<n)(hj:j<m):wr1 (some (.row (rws (fun i=> .row (rws (fun j=>i64 (f i j)) m)) n))) ro s g i j [i64 v]=upr ro s g (a2o (c3l f i j v) n m):=by
 rw[b4D (a0l _ _ _ hi),setL,setL,a0X,a0X]
 refine congrArg (upr ro s g) (congrArg AV.row (a0g fun x hx=>?_))
 by_cases hxi:x=i
 ·subst hxi
  rw[if_pos rfl]
  refine congrArg AV.row (a0g fun y hy=>?_)
  by_cases hyj:y=j
  ·subst hyj;rw[if_pos rfl];simp[c3l]
  ·rw[if_neg hyj];simp[c3l,hyj]
 ·rw[if_neg hxi]
  refine congrArg AV.row (a0g fun y hy=>?_)
  simp[c3l,hxi]
theorem a3c{n:Nat}{ro:Ro}{s g k m:Nat}{f:Nat→Nat→Int}(h:ro s g=some (a2o f k m))(hn:3≤n):exq n ro (.ref s g [] 0 k) (a2x (a1r f k m)):=by
 have:=a6l (ro:=ro) (s:=s) (g:=g) (m:=k) (n:=n) (xs:=a1r f k m) (by rw[h,a4Z]) (by simp only[a1r,zfe]) hn
 exact this
theorem a1g(f:Nat→Nat→Int)(n m:Nat):a2t (a2x (a1r f n m)) (a1r f n m):=a1d _
theorem c0H(f:Nat→Nat→Int)(n m:Nat):a0j (rws (fun i=> .row (rws (fun j=>i64 (f i j)) m)) n)=true:=a1a _ _ fun _=>a1i _ (a1a _ _ fun _=>rfl)
theorem b7g(a:AV)(l:List AV):a0j (a::l)=(a0C a&&a0j l):=by simp only[a0j]
theorem c0L(v:Value):a0C (.sc v)=true:=nr _
theorem c0V:a0Q []=true:=nr _
theorem c0k(a:AV)(l:List AV):a0Q (a::l)=(a0W a&&a0Q l):=by simp only[a0Q]
theorem b3E(s g:Nat)(p:List Nat)(o n:Nat):a0W (.ref s g p o n)=false:=nr _
theorem b4J(s g:Nat)(p:List Nat)(o:Nat):a0W (.ptr s g p o)=false:=nr _
theorem b7B(v:Value):a0W (.sc v)=true:=nr _
theorem b4K(l:List AV):a0W (.agg l)=a0Q l:=by simp only[a0W]
attribute [go_sem] b8H c0B b6W a1J a3m a5v c0H b7g c0L c0V c0k b3E b4J b7B b4K
attribute [go_sem] b5y b2f b1H b8q c0A b9J a0i List.length_map b0x
theorem c4k{n m:Nat}(hn:n≤a0G)(hm:m≤a0G):a0d Tryz.prog 130 [i64 n,i64 m] (a2o (fun _ _=>0) n m):=by
 have:=c4r hn hm
 rwa [show rws (fun _=>rws (fun _=>(0:Int)) m) n=a1r (fun _ _=>0) n m from rfl,a4Z]at this
def dgE(T:List Int)(k:Nat)(i j:Nat):Int:=if i=j∧i<k then atI T i else 0
def sclL(S:List (List Int))(w:Int):List (List Int):=rws (fun i=>rws (fun j=>atI (row S i) j*w % 55441) (row S i).length) S.length
def StaP(S:List (List Int))(T:List Int):Prop:=S=trp S∧atI (row S 0) 0=1∧atI T 0=1∧(∀i,i<T.length→atI (row S 0) i≠0)∧(∀i,i<T.length→atI T i≠0)
def uE(S:List (List Int))(T:List Int)(i j:Nat):Int:=atI (row S i) j*atI T j % 55441
theorem b9l{f:Nat→Int}{j:Nat}: ∀ {n:Nat},(∀k,k<n→k≠j→f k=0)→sm f n=if j<n then f j else 0
 |0,_=>rfl
 |n+1,h=>by
  simp only[sm]
  rw[b9l fun k hk=>h k (by omega)]
  by_cases h1:j<n
  ·rw[if_pos h1,if_pos (by omega),h n (by omega) (by omega),Int.add_zero]
  ·rw[if_neg h1]
   by_cases h2:j=n
   ·subst h2;rw[if_pos (by omega),Int.zero_add]
   ·rw[if_neg (by omega),h n (by omega) (by omega)];rfl
def uM(S:List (List Int))(T:List Int):List (List Int):=a1r (uE S T) T.length T.length
def gsV(S:List (List Int))(T:List Int):Int:=sm (gsT S T) T.length % 55441
def TurP(S:List (List Int))(T:List Int):Prop:=tms (tms (uM S T) (uM S T)) (uM S T)=sclL (tms S S) (gsV S T)
def F2Z(T:List (List (List Int)))(z:Int):Prop:=(F2 T=none∧z= -1)∨ ∃i:Nat,F2 T=some [1,(i:Int)]∧z=i
theorem a3M{α:Type}{p:Nat→Option α}{v:α}: ∀ {n:Nat},fnd n p=some v→ ∃k,k<n∧p k=some v
 |0,h=>by cases h
 |n+1,h=>by
  simp only[fnd]at h
  cases hf:fnd n p with
  |some w=>
   rw[hf]at h
   obtain⟨k,hk,e⟩:=a3M (p:=p) (n:=n) (v:=v) (by rw[hf];exact h)
   exact⟨k,by omega,e⟩
  |none=>
   rw[hf]at h
   exact⟨n,by omega,h⟩
section
variable{ro:Ro}{s g o n:Nat}{p:List Nat}{cs:List AV}{a1:Nat}{a2:Bool}{a3:List Value}{e:Nat}{a5:List (Nat×Nat)}{a6:Option IntKind}{a7 a8:Bool}{a9 a10:Option (Nat×Nat)}
theorem c2S:a3G (some ⟨a1,a2,a3,some e,a5,a6,a7,a8,a9,a10⟩) ro .neq (.ref s g p o n) (.sc (.slice none 0 0))=if(ro.cells s g p).isSome=true then some ⟨bo true,none,[],[]⟩else none:=nr _
theorem c3v:a3G (some ⟨a1,a2,a3,some e,a5,a6,a7,a8,a9,a10⟩) ro .eql (.ref s g p o n) (.sc (.slice none 0 0))=if(ro.cells s g p).isSome=true then some ⟨bo false,none,[],[]⟩else none:=nr _
theorem c2G:a3G (some ⟨a1,a2,a3,some e,a5,a6,a7,a8,a9,a10⟩) ro .eql (.imm cs) (.sc (.slice none 0 0))=some ⟨bo false,none,[],[]⟩:=nr _
theorem c3s:a3G (some ⟨a1,a2,a3,some e,a5,a6,a7,a8,a9,a10⟩) ro .neq (.sc (.slice none 0 0)) (.sc (.slice none 0 0))=some ⟨bo false,none,[],[]⟩:=nr _
theorem c3j:a3G (some ⟨a1,a2,a3,some e,a5,a6,a7,a8,a9,a10⟩) ro .eql (.sc (.slice none 0 0)) (.sc (.slice none 0 0))=some ⟨bo true,none,[],[]⟩:=nr _
end
attribute [go_sem] c2S c3v c2G c3s c3j
theorem a4o{n f:Nat}{ro:Ro}{cs cs':List AV}(h:a8x n ro cs cs'):exq (n+1) ro (.fn f cs) (.fn f cs'):=by
 refine⟨fun k hk=>?_,fun hp=>by rw[h.pureE (by simpa only[a0W]using hp)]⟩
 obtain⟨j,rfl⟩: ∃j,k=j+1:=⟨k-1,by omega⟩
 show AV.fn f (cs.map (ex ro j))=_
 rw[h.mapE j (by omega)]
theorem b6b{n s g:Nat}{ro:Ro}{v:Value}(h:ro s g=some (.bx [.sc v]))(hn:2≤n):exq n ro (.ptr s g [] 0) (.iptr [.sc v]):=by
 refine⟨fun k hk=>?_,fun hp=>by simp[a0W]at hp⟩
 obtain⟨j,rfl⟩: ∃j,k=j+2:=⟨k-2,by omega⟩
 simp only[ex,zef,h,zei,List.drop_zero,List.map_cons,List.map_nil]
def c0y(T:List (List (List Int))):Prop:=a1e T∧RF T=none
section
variable{ro:Ro}{s g o n:Nat}{p:List Nat}{a1:Nat}{a2:Bool}{a3:List Value}{e:Nat}{a5:List (Nat×Nat)}{a6:Option IntKind}{a7 a8:Bool}{a9 a10:Option (Nat×Nat)}
theorem b7G:a5x (some ⟨a1,a2,a3,some e,a5,a6,a7,a8,a9,a10⟩) ro (.ref s g p o n)=if(ro.cells s g p).isSome=true then some ⟨i64 n,none,[],[]⟩else none:=by
 simp only[a5x,Option.isSome_some,true_and]
theorem b1k:a5x (some ⟨a1,a2,a3,some e,a5,a6,a7,a8,a9,a10⟩) ro (.sc (.slice none 0 0))=some ⟨i64 0,none,[],[]⟩:=nr _
end
attribute [go_sem] b7G b1k
theorem PUt{l:List AV}(h:a0Q l=true:=by simp(disch:=assumption) only[a0Q,a0W,a1J,a3m,a5v,a8K,Bool.and_self,Bool.and_true]):a0Q l=true:=h
end Go.Proofs.YtbakhfiibjkifaaGreat
