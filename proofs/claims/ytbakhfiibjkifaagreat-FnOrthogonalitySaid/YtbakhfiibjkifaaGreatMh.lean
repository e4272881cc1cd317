/- Texts joined: D7 D8 D9 D10 E1 E2 F0 F1 F2 F3 F4 F5 Fz. -/
import Derived.Test.YtbakhfiibjkifaaGreatMc
import Derived.Test.YtbakhfiibjkifaaGreatMd
set_option linter.all false
/- Cubes; the numbers N (reference). -/
namespace Go.Proofs.YtbakhfiibjkifaaGreat
open Go.RowKit
abbrev cubeA(F:Nat→Nat→Nat→Int)(n:Nat):AV:= .row (rws (fun i=> .row (rws (fun j=> .row (rws (fun k=>i64 (F i j k)) n)) n)) n)
def updF(F:Nat→Nat→Nat→Int)(i j k:Nat)(v:Int):Nat→Nat→Nat→Int:=fun x y z=>if x=i∧y=j∧z=k then v else F x y z
theorem noRef_cube(F:Nat→Nat→Nat→Int)(n:Nat):noRef (cubeA F n)=true:=noRef_row _ (noRefL_rws _ _ fun _=>noRef_row _ (noRefL_rws _ _ fun _=>noRef_row _ (noRefL_rws _ _ fun _=>rfl)))
theorem noI_cube(F:Nat→Nat→Nat→Int)(n:Nat):noI (cubeA F n)=true:=noI_row _ (noIL_map _ (fun _=>noI_row _ (noIL_map _ (fun _=>noI_row _ (noIL_map _ (fun _=>rfl) _)) _)) _)
theorem cube_cells{ro:Ro}{s g i j n:Nat}{F:Nat→Nat→Nat→Int}(h:ro s g=some (cubeA F n))(hi:i<n)(hj:j<n):ro.cells s g [i,j]=some (rws (fun k=>i64 (F i j k)) n):=by
 unfold Ro.cells Ro.at
 simp only[h,ath,rws_get _ _ _ hi,rws_get _ _ _ hj]
theorem cube_bx{ro:Ro}{s g i j n:Nat}{F:Nat→Nat→Nat→Int}(h:ro s g=some (cubeA F n))(hi:i<n)(hj:j<n):isBxAt ro s g [i,j]=false:=by
 unfold isBxAt Ro.at
 simp only[h,ath,rws_get _ _ _ hi,rws_get _ _ _ hj]
theorem cube_wr{ro:Ro}{s g i j k n:Nat}{F:Nat→Nat→Nat→Int}{v:Int}(h:ro s g=some (cubeA F n))(hi:i<n)(hj:j<n)(hk:k<n):ro.wr ⟨s,g,[i,j],k,[i64 v]⟩=upr ro s g (cubeA (updF F i j k v) n):=by
 unfold Ro.wr
 simp only[h,putR,rws_get _ _ _ hi,rws_get _ _ _ hj,setL]
 rw[rws_set,rws_set,rws_set]
 refine congrArg (upr ro s g) (congrArg AV.row (rws_congr fun x hx=>?_))
 by_cases hxi:x=i
 ·subst hxi
  rw[if_pos rfl]
  refine congrArg AV.row (rws_congr fun y hy=>?_)
  by_cases hyj:y=j
  ·subst hyj
   rw[if_pos rfl]
   refine congrArg AV.row (rws_congr fun z hz=>?_)
   by_cases hzk:z=k
   ·subst hzk;rw[if_pos rfl];simp[updF]
   ·rw[if_neg hzk];simp[updF,hzk]
  ·rw[if_neg hyj]
   refine congrArg AV.row (rws_congr fun z hz=>?_)
   simp[updF,hyj]
 ·rw[if_neg hxi]
  refine congrArg AV.row (rws_congr fun y hy=>congrArg AV.row (rws_congr fun z hz=>?_))
  simp[updF,hxi]
set_option maxRecDepth 1000000 in
theorem c101{n:Nat}(hn:n≤maxN):CallOK Tryz.prog 168 [i64 n] (cubeA (fun _ _ _=>0) n):=by
 have e0:cubeA (fun _ _ _=>0) n= .row (rws (fun _=> .row (rws (fun _=> .row (List.replicate n (i64 0))) n)) n):=by simp only[cubeA,rep_rws]
 refine call_of (fn:=Tryz.f168) (code:=bodyOf Tryz.f168) Tryz.func168 rfl (by kernel_rfl) (noRef_cube _ _) ?_
 rw[e0]
 intro sl hs
 have s0:sl 0=i64 n:=hs 0
 have hn':n≤4294967296:=hn
 have hm':(n:Int)≤((4294967296:Nat):Int):=by omega
 simp only[Tryz.f168,bodyOf,Option.getD,go_sem, ↓reduceIte,Nat.reduceEqDiff,Nat.reduceAdd,Nat.reduceMul,Nat.reduceLeDiff,ti2,ti3,ti4,ti22,ti23,ti31,s0]
 refine WK_for (fun i st=>st.sl 0=i64 n∧st.sl 4=i64 (i:Int)∧st.sl 3= .ref 8192 (st.gn 8192) [] 0 i∧st.ro 8192 (st.gn 8192)=some (.row (rws (fun _=> .row (rws (fun _=> .row (List.replicate n (i64 0))) n)) i))) n ?_ ?_ ?_
 ·simp only[↓za, ↓reduceIte,Nat.reduceEqDiff,zb,reduceCtorEq,s0,rws_zero]
  rfl
 ·rintro i sl ro gn hi ⟨s0,s4,s3,r3⟩
  dsimp only at s0 s4 s3 r3
  have hi':(i:Int)<n:=by omega
  have hi2:i+1≤4294967296:=by omega
  simp(disch:=first|omega|assumption) only[go_sem, ↓reduceIte,Nat.reduceEqDiff,Nat.reduceAdd,Nat.reduceMul,Nat.reduceLeDiff,zc,ti2,ti3,ti4,ti22,ti23,ti31,s0,s4,hi']
  refine WK_for (fun j st=>st.sl 0=i64 n∧st.sl 4=i64 (i:Int)∧st.sl 3= .ref 8192 (st.gn 8192) [] 0 i∧st.ro 8192 (st.gn 8192)=some (.row (rws (fun _=> .row (rws (fun _=> .row (List.replicate n (i64 0))) n)) i))∧
   st.sl 6=i64 (j:Int)∧st.sl 5= .ref 24576 (st.gn 24576) [] 0 j∧st.ro 24576 (st.gn 24576)=some (.row (rws (fun _=> .row (List.replicate n (i64 0))) j))) n ?_ ?_ ?_
  ·simp only[↓za, ↓reduceIte,Nat.reduceEqDiff,zb,reduceCtorEq,s0,s4,s3,r3,rws_zero]
   rfl
  ·rintro j sl ro gn hj ⟨s0,s4,s3,r3,s6,s5,r5⟩
   dsimp only at s0 s4 s3 r3 s6 s5 r5
   have hj':(j:Int)<n:=by omega
   have hj2:j+1≤4294967296:=by omega
   simp(disch:=first|omega|assumption) only[go_sem, ↓reduceIte,Nat.reduceEqDiff,Nat.reduceAdd,Nat.reduceMul,Nat.reduceLeDiff,zc,ti2,ti3,ti4,ti22,ti23,ti31,s0,s4,s3,r3,s6,s5,r5,hj',hj2,kMake,Int.natCast_nonneg,Int.le_refl,Int.toNat_natCast,hm',List.length_replicate,List.getD_cons_zero]
   exact i64c (by omega)
  ·rintro sl ro gn ⟨s0,s4,s3,r3,s6,s5,r5⟩
   dsimp only at s0 s4 s3 r3 s6 s5 r5
   have hj': ¬(n:Int)<n:=by omega
   simp(disch:=first|omega|assumption) only[go_sem, ↓reduceIte,Nat.reduceEqDiff,Nat.reduceAdd,Nat.reduceMul,Nat.reduceLeDiff,zc,ti2,ti3,ti4,ti22,ti23,ti31,s0,s4,s3,r3,s6,s5,r5,hj',hi2]
   exact i64c (by omega)
 ·rintro sl ro gn ⟨s0,s4,s3,r3⟩
  dsimp only at s0 s4 s3 r3
  have hi': ¬(n:Int)<n:=by omega
  simp only[go_sem, ↓reduceIte,Nat.reduceEqDiff,zc,ti2,ti3,ti4,ti22,ti23,ti31,s0,s4,s3,r3,hi']
  exact Ydy
def pgF(F:Nat→Nat→Nat→Int)(i j k:Nat):Nat→Nat→Nat→Int:=fun x y z=>if x<i∨(x=i∧(y<j∨(y=j∧z<k)))then F x y z else 0
section
variable (S:List (List Int))(n:Nat)
def inv0(l:Nat):Int:=pw (atI (row S 0) l) 55439*pw (whl S n) 55439 % 55441
def both(i j l:Nat):Int:=atI (row S i) l*atI (row S j) l % 55441*inv0 S n l % 55441
def nmE(cj:List Int)(i j k:Nat):Int:=sm (fun l=>atI (rws (both S n i j) n) l*atI (row S (atI cj k).toNat) l) n % 55441
end
theorem impE_agg1(b:Nat)(gn:Nat→Nat)(xs:List AV):impE b gn (.agg [.row xs])=⟨.agg [.ref b (gn b+1) [] 0 xs.length],none,[],[(b,.row xs)]⟩:=nr _
set_option maxRecDepth 1000000 in
theorem c149{x lo hi:Int}:CallOK Tryz.prog 128 [i64 x,.iptr [i64 lo],.iptr [i64 hi]] (bo (!decide (lo≤x∧x≤hi))):=by
 refine call_of (fn:=Tryz.f128) (code:=bodyOf Tryz.f128) Tryz.func128 rfl (by kernel_rfl) rfl ?_
 intro sl hs
 have s0:sl 0=i64 x:=hs 0
 have s1:sl 1= .iptr [i64 lo]:=hs 1
 have s2:sl 2= .iptr [i64 hi]:=hs 2
 simp only[Tryz.f128,bodyOf,Option.getD,go_sem, ↓reduceIte,Nat.reduceEqDiff,Nat.reduceAdd,Nat.reduceMul,Nat.reduceLeDiff,ti2,ti4,s0,s1,s2]
 refine CLL_pure _ c40 rfl rfl rfl ?_
 simp only[go_sem, ↓reduceIte,Nat.reduceEqDiff,Nat.reduceLeDiff,zc,ti2,ti4,s0,s1,s2]
 exact Yaa
def allW(xs:List Int)(lo hi:Int):Bool:=!decide (0≤ixp (fun x=>!decide (lo≤x∧x≤hi)) xs 0)
theorem allW_iff{xs:List Int}{lo hi:Int}:allW xs lo hi=true↔ ∀k,k<xs.length→lo≤atI xs k∧atI xs k≤hi:=by
 unfold allW
 rw[Bool.not_eq_true',decide_eq_false_iff_not,ixp_neg]
 constructor
 ·intro h k hk
  by_cases h2:lo≤atI xs k∧atI xs k≤hi
  ·exact h2
  ·exact absurd ⟨k,hk,by simp[h2]⟩ h
 ·rintro h ⟨k,hk,h2⟩
  simp[h k hk]at h2
set_option maxRecDepth 1000000 in
theorem c129{a:AV}{xs:List Int}{lo hi:Int}(ha:isL a xs)(hx:xs.length≤maxN):CallOK Tryz.prog 101 [a,i64 lo,i64 hi] (bo (allW xs lo hi)):=by
 refine call_of (fn:=Tryz.f101) (code:=bodyOf Tryz.f101) Tryz.func101 rfl (by kernel_rfl) rfl ?_
 intro sl hs
 have s0:sl 0=a:=hs 0
 have s1:sl 1=i64 lo:=hs 1
 have s2:sl 2=i64 hi:=hs 2
 simp only[Tryz.f101,bodyOf,Option.getD,go_sem, ↓reduceIte,Nat.reduceEqDiff,Nat.reduceAdd,Nat.reduceMul,Nat.reduceLeDiff,ti2,ti4,s0,s1,s2]
 refine CLL_args _ (c95 (g:=128) (caps:=[.iptr [i64 lo],.iptr [i64 hi]]) ha hx rfl rfl fun x=>c149) ?_ rfl rfl rfl ?_
 ·unfold argsX
  rw[if_neg (by simp[pureL,pureA])]
  show [ex _ 8 a,AV.fn 128 [ex _ 7 _,ex _ 7 _]]=_
  rw[isL_ex8 _ ha]
  simp only[ex,zef, ↓za, ↓reduceIte,Nat.reduceEqDiff,zb,reduceCtorEq,zei,List.drop_zero,List.map_cons,List.map_nil]
 ·simp only[go_sem, ↓reduceIte,Nat.reduceEqDiff,Nat.reduceLeDiff,zc,ti2,ti4,s0,s1,s2]
  simp only[zr,zb,retR,resL,outT,outL,zes,zez,oneV,zcp,zed,zfi,Ro.dl,St.ev,zhk, ↓za, ↓reduceIte,Nat.reduceEqDiff,Nat.reduceAdd,Nat.reduceLeDiff,allW]
set_option maxRecDepth 1000000 in
theorem c128{a:AV}{xs:List Int}{n:Nat}(ha:isL a xs)(hx:xs.length≤maxN):CallOK Tryz.prog 115 [a,.iptr [i64 n]] (bo (!(decide (xs.length=n)&&allW xs 0 1000))):=by
 refine call_of (fn:=Tryz.f115) (code:=bodyOf Tryz.f115) Tryz.func115 rfl (by kernel_rfl) rfl ?_
 intro sl hs
 have s0:sl 0=a:=hs 0
 have s1:sl 1= .iptr [i64 n]:=hs 1
 by_cases h:xs.length=n
 ·have h':(xs.length:Int)=n:=by omega
  simp only[Tryz.f115,bodyOf,Option.getD,go_sem, ↓reduceIte,Nat.reduceEqDiff,Nat.reduceAdd,Nat.reduceMul,Nat.reduceLeDiff,ti2,ti3,ti4,ti23,s0,s1,isL_len ha,eq_true h']
  refine CLL_pure _ (c129 ha hx) (by simp only[pureL,isL_pure ha,pureA,Bool.and_self]) rfl rfl ?_
  simp only[go_sem, ↓reduceIte,Nat.reduceEqDiff,Nat.reduceLeDiff,zc,ti2,ti4,s0,s1]
  simp only[zr,zb,retR,resL,outT,outL,zes,zez,oneV,zcp,zed,zfi,Ro.dl,St.ev,zhk, ↓za, ↓reduceIte,Nat.reduceEqDiff,Nat.reduceAdd,Nat.reduceLeDiff,decide_eq_true h,Bool.true_and]
 ·have h': ¬(xs.length:Int)=n:=by omega
  simp only[Tryz.f115,bodyOf,Option.getD,go_sem, ↓reduceIte,Nat.reduceEqDiff,Nat.reduceAdd,Nat.reduceMul,Nat.reduceLeDiff,ti2,ti3,ti4,ti23,s0,s1,isL_len ha,eq_false h']
  simp only[zr,zb,retR,resL,outT,outL,zes,zez,oneV,zcp,zed,zfi,Ro.dl,St.ev,zhk, ↓za, ↓reduceIte,Nat.reduceEqDiff,Nat.reduceAdd,Nat.reduceLeDiff,decide_eq_false h,Bool.false_and,Bool.not_false]
set_option maxRecDepth 1000000 in
theorem c148{a:AV}{xss:List (List Int)}{g:Nat}{caps:List AV}{p:Nat→Bool}(ha:isLL a xss)(hx:xss.length≤maxN)(hi:XX.isIn g=false)(hcp:pureL caps=true)(hc: ∀k,k<xss.length→CallOK Tryz.prog g (atA a k::caps) (bo (p k))){z:Int}(hz1:(∀k,k<xss.length→p k=false)→z= -1)(hz2: ∀k,k<xss.length→p k=true→(∀j,j<k→p j=false)→z=k):
  CallOK Tryz.prog 108 [a,.fn g caps] (i64 z):=by
 refine call_of (fn:=Tryz.f108) (code:=bodyOf Tryz.f108) Tryz.func108 rfl (by kernel_rfl) rfl ?_
 intro sl hs
 have s0:sl 0=a:=hs 0
 have s1:sl 1= .fn g caps:=hs 1
 have hx':xss.length≤4294967296:=hx
 simp only[Tryz.f108,bodyOf,Option.getD,go_sem, ↓reduceIte,Nat.reduceEqDiff,Nat.reduceAdd,Nat.reduceMul,Nat.reduceLeDiff,ti2,ti3,ti4,ti22,ti23,s0,s1,isLL_len ha]
 refine WK_for (fun k st=>st.sl 0=a∧st.sl 1= .fn g caps∧st.sl 7=i64 (xss.length:Int)∧st.sl 8=i64 (k:Int)∧ ∀j,j<k→p j=false) xss.length ?_ ?_ ?_
 ·refine Ydg ?_
  exact⟨rfl,fun j hj=>absurd hj (Nat.not_lt_zero _)⟩
 ·rintro k sl ro gn hk ⟨s0,s1,s7,s8,hp⟩
  dsimp only at s0 s1 s7 s8
  have hk':(k:Int)<xss.length:=by omega
  simp only[go_sem, ↓reduceIte,Nat.reduceEqDiff,Nat.reduceLeDiff,zc,ti2,ti3,ti4,ti22,ti23,s0,s1,s7,s8,isLL_idx ha hk,hk']
  refine CLL_pure _ (hc k hk) (by simp only[List.cons_append,List.nil_append,pureL,isL_pure (isLL_row ha hk),hcp,Bool.and_self]) hi rfl ?_
  cases hpx:p k with
  |true=>
   simp only[go_sem, ↓reduceIte,Nat.reduceEqDiff,Nat.reduceLeDiff,zc,ti2,ti3,ti4,ti23,s0,s1,s7,s8]
   refine Yab ?_
   exact(hz2 k hk hpx hp).symm
  |false=>
   simp(disch:=first|omega|assumption) only[go_sem, ↓reduceIte,Nat.reduceEqDiff,Nat.reduceLeDiff,zc,ti2,ti3,ti4,ti23,s0,s1,s7,s8]
   refine⟨i64c (by omega),fun j hj=>?_⟩
   rcases Nat.lt_or_ge j k with h|h
   ·exact hp j h
   ·have:j=k:=by omega
    subst this;exact hpx
 ·rintro sl ro gn ⟨s0,s1,s7,s8,hp⟩
  dsimp only at s0 s1 s7 s8
  have hk': ¬(xss.length:Int)<xss.length:=by omega
  simp only[go_sem, ↓reduceIte,Nat.reduceEqDiff,Nat.reduceLeDiff,zc,ti2,ti3,ti4,ti22,ti23,s0,s1,s7,s8,hk']
  refine Yab ?_
  exact(hz1 hp).symm
set_option maxRecDepth 1000000 in
theorem c127{a:AV}{xss:List (List Int)}{g:Nat}{caps:List AV}{p:Nat→Bool}(ha:isLL a xss)(hx:xss.length≤maxN)(hi:XX.isIn g=false)(hcp:pureL caps=true)(hc: ∀k,k<xss.length→CallOK Tryz.prog g (atA a k::caps) (bo (p k))){t:Bool}(ht:t=true↔ ∃k,k<xss.length∧p k=true):
  CallOK Tryz.prog 73 [a,.fn g caps] (bo t):=by
 refine call_of (fn:=Tryz.f73) (code:=bodyOf Tryz.f73) Tryz.func73 rfl (by kernel_rfl) rfl ?_
 intro sl hs
 have s0:sl 0=a:=hs 0
 have s1:sl 1= .fn g caps:=hs 1
 simp only[Tryz.f73,bodyOf,Option.getD,go_sem, ↓reduceIte,Nat.reduceEqDiff,Nat.reduceAdd,Nat.reduceMul,Nat.reduceLeDiff,ti2,ti3,ti4,ti23,s0,s1]
 by_cases h: ∃k,k<xss.length∧p k=true
 ·have: ∃m:Nat,m<xss.length∧p m=true∧ ∀j,j<m→p j=false:=by
   obtain⟨m,h1,h2⟩:=h
   induction m using Nat.strongRecOn with
   |ind m ih=>
    by_cases h3: ∃j,j<m∧p j=true
    ·obtain⟨j,h4,h5⟩:=h3;exact ih j h4 (by omega) h5
    ·refine⟨m,h1,h2,fun j hj=>?_⟩
     cases he:p j with
     |false=>rfl
     |true=>exact absurd ⟨j,hj,he⟩ h3
  obtain⟨m,h1,h2,h3⟩:=this
  have ht':t=true:=ht.2 h
  refine CLL_pure _ (c148 (z:=(m:Int)) ha hx hi hcp hc (fun h4=>by rw[h4 m h1]at h2;cases h2) (fun k hk hpk hj=>?_)) (by simp only[pureL,isLL_pure ha,pureA,hcp,Bool.and_self]) rfl rfl ?_
  ·rcases Nat.lt_trichotomy m k with h4|h4|h4
   ·rw[hj m h4]at h2;cases h2
   ·rw[h4]
   ·rw[h3 k h4]at hpk;cases hpk
  ·have hge: ¬((m:Int)<0):=by omega
   simp only[go_sem, ↓reduceIte,Nat.reduceEqDiff,Nat.reduceLeDiff,zc,ti3,ti4,s0,s1,hge]
   exact Yaf
 ·have ht':t=false:=by
   cases h2:t with
   |false=>rfl
   |true=>exact absurd (ht.1 h2) h
  refine CLL_pure _ (c148 (z:= -1) ha hx hi hcp hc (fun _=>rfl) (fun k hk hpk hj=>absurd ⟨k,hk,hpk⟩ h)) (by simp only[pureL,isLL_pure ha,pureA,hcp,Bool.and_self]) rfl rfl ?_
  have hlt:(-1:Int)<0:=by decide
  simp only[go_sem, ↓reduceIte,Nat.reduceEqDiff,Nat.reduceLeDiff,zc,ti3,ti4,s0,s1,hlt]
  exact Yaf
abbrev immC(F:Nat→Nat→Nat→Int)(n:Nat):AV:= .imm (rws (fun i=> .imm (rws (fun j=> .imm (rws (fun k=>i64 (F i j k)) n)) n)) n)
def plane(F:Nat→Nat→Nat→Int)(n i:Nat):List (List Int):=rws (fun j=>rws (fun k=>F i j k) n) n
theorem isLL_plane(F:Nat→Nat→Nat→Int)(n i:Nat):isLL (.imm (rws (fun j=> .imm (rws (fun k=>i64 (F i j k)) n)) n)) (plane F n i):=by
 have:(AV.imm (rws (fun j=> .imm (rws (fun k=>i64 (F i j k)) n)) n))=immLL (plane F n i):=by simp only[immLL,immL,plane,rws_map]
 rw[this];exact isLL_imm _
def cubeOk(F:Nat→Nat→Nat→Int)(n:Nat):Prop:= ∀i,i<n→ ∀j,j<n→ ∀k,k<n→0≤F i j k∧F i j k≤1000
section
variable (S:List (List Int))(n:Nat)
def iv(l:Nat):Int:=qt 1 (atI (row S 0) l)
def fuT(i j c l:Nat):Int:=atI (row S i) l*atI (row S j) l % 55441*atI (row S c) l % 55441*iv S l % 55441
def fuE(cj:List Int)(i j k:Nat):Int:=qt (sm (fuT S i j (atI cj k).toNat) n % 55441) (whl S n)
end
def MM(a b:Int):Prop:=a % 55441=b % 55441
theorem MM.mod(a:Int):MM (a % 55441) a:=Int.emod_emod_of_dvd _ (by decide:(55441:Int)∣55441)
theorem MM.mul{a b c d:Int}(h1:MM a b)(h2:MM c d):MM (a*c) (b*d):=by
 unfold MM at*
 rw[Int.mul_emod,h1,h2, ←Int.mul_emod]
theorem MM.rfl{a:Int}:MM a a:=Eq.refl _
theorem MM.trans{a b c:Int}(h1:MM a b)(h2:MM b c):MM a c:=Eq.trans h1 h2
theorem MM.symm{a b:Int}(h:MM a b):MM b a:=Eq.symm h
theorem sm_MM{f g:Nat→Int}: ∀ {n:Nat},(∀l,l<n→MM (f l) (g l))→MM (sm f n) (sm g n)
 |0,_=>MM.rfl
 |n+1,h=>by
  have ih:=sm_MM (n:=n) fun l hl=>h l (by omega)
  have hn:=h n (by omega)
  unfold MM at*
  simp only[sm]
  rw[Int.add_emod,ih,hn, ←Int.add_emod]
theorem sm_mul(f:Nat→Int)(w:Int): ∀n:Nat,sm f n*w=sm (fun l=>f l*w) n
 |0=>by simp[sm]
 |n+1=>by simp only[sm,Int.add_mul,sm_mul f w n]
theorem ex_cube{ro:Ro}{s g n:Nat}{F:Nat→Nat→Nat→Int}(h:ro s g=some (cubeA F n))(k:Nat):ex ro (k+4) (.ref s g [] 0 n)=immC F n:=by
 show (match ro.cells s g []with|some cs=>AV.imm (((cs.drop 0).take n).map (ex ro (k+3)))|none=> .dead)=_
 rw[zef,h]
 simp only[zeh,List.drop_zero,zff,rws_map,immC]
 refine congrArg AV.imm (rws_congr fun x _=>?_)
 show AV.imm ((rws (fun j=>AV.row (rws (fun k=>i64 (F x j k)) n)) n).map (ex ro (k+2)))=_
 rw[rws_map]
 refine congrArg AV.imm (rws_congr fun y _=>?_)
 show AV.imm ((rws (fun k=>i64 (F x y k)) n).map (ex ro (k+1)))=_
 rw[rws_map]
 rfl
set_option maxRecDepth 1000000 in
theorem c147{a:Int}:CallOK Tryz.prog 114 [i64 a] (bo (decide (0≤a∧a≤55440))):=by
 refine call_of (fn:=Tryz.f114) (code:=bodyOf Tryz.f114) Tryz.func114 rfl (by kernel_rfl) rfl ?_
 intro sl hs
 have s0:sl 0=i64 a:=hs 0
 simp only[Tryz.f114,bodyOf,Option.getD,go_sem, ↓reduceIte,Nat.reduceEqDiff,reduceCtorEq,Nat.reduceAdd,Nat.reduceMul,Nat.reduceLeDiff,ti2,ti4,s0]
 refine CLL_pure _ c38 rfl rfl rfl ?_
 simp only[go_sem, ↓reduceIte,Nat.reduceEqDiff,zc,ti2,ti4,s0]
 exact Yaa
def NL(xs:List Int):Prop:= ∀j,j<xs.length→0≤atI xs j∧atI xs j≤55440
theorem NL_numL{xs:List Int}(h:NL xs):numL xs:=by
 intro j
 rcases Nat.lt_or_ge j xs.length with hj|hj
 ·have:=h j hj;exact⟨this.1,by omega⟩
 ·rw[atI_out hj];exact⟨by decide,by decide⟩
set_option maxRecDepth 1000000 in
theorem c123{a:AV}{xs:List Int}(ha:isL a xs)(hx:xs.length≤maxN){t:Bool}(ht:t=true↔NL xs):CallOK Tryz.prog 81 [a] (bo t):=by
 refine call_of (fn:=Tryz.f81) (code:=bodyOf Tryz.f81) Tryz.func81 rfl (by kernel_rfl) rfl ?_
 intro sl hs
 have s0:sl 0=a:=hs 0
 have hx':xs.length≤4294967296:=hx
 simp only[Tryz.f81,bodyOf,Option.getD,go_sem, ↓reduceIte,Nat.reduceEqDiff,reduceCtorEq,Nat.reduceAdd,Nat.reduceMul,Nat.reduceLeDiff,ti2,ti3,ti4,ti23,s0]
 refine WK_for (fun k st=>st.sl 0=a∧st.sl 3=i64 (k:Int)∧ ∀j,j<k→0≤atI xs j∧atI xs j≤55440) xs.length ?_ ?_ ?_
 ·simp only[↓za, ↓reduceIte,Nat.reduceEqDiff,zb,reduceCtorEq,s0]
  exact⟨rfl,fun j hj=>absurd hj (Nat.not_lt_zero _)⟩
 ·rintro k sl ro gn hk ⟨s0,s3,hp⟩
  dsimp only at s0 s3
  have hk':(k:Int)<xs.length:=by omega
  have c:=c147 (a:=atI xs k)
  simp only[go_sem, ↓reduceIte,Nat.reduceEqDiff,zc,ti2,ti3,ti4,ti23,s0,s3,isL_len ha,isL_idx ha hk,hk']
  by_cases hb:0≤atI xs k∧atI xs k≤55440
  ·rw[decide_eq_true hb]at c
   refine CLL_pure _ c rfl rfl rfl ?_
   simp(disch:=first|omega|assumption) only[go_sem, ↓reduceIte,Nat.reduceEqDiff,zc,ti2,ti3,ti4,ti23,s0,s3]
   refine⟨i64c (by omega),fun j hj=>?_⟩
   rcases Nat.lt_or_ge j k with h|h
   ·exact hp j h
   ·have:j=k:=by omega
    subst this;exact hb
  ·rw[decide_eq_false hb]at c
   refine CLL_pure _ c rfl rfl rfl ?_
   simp only[go_sem, ↓reduceIte,Nat.reduceEqDiff,zc,ti2,ti3,ti4,ti23,s0,s3]
   refine Yab ?_
   cases t with
   |false=>rfl
   |true=>exact absurd (ht.1 rfl k hk) hb
 ·rintro sl ro gn ⟨s0,s3,hp⟩
  dsimp only at s0 s3
  have hk': ¬(xs.length:Int)<xs.length:=by omega
  simp only[go_sem, ↓reduceIte,Nat.reduceEqDiff,zc,ti2,ti3,ti4,ti23,s0,s3,isL_len ha,hk']
  refine Yab ?_
  exact(ht.2 hp).symm
def gsT(S:List (List Int))(t:List Int)(l:Nat):Int:=atI (row S 0) l*atI (row S 0) l % 55441*atI t l % 55441
def ShpP(S:List (List Int))(T:List Int):Prop:=1≤T.length∧T.length≤16∧S.length=T.length∧NL T∧ ∀i,i<T.length→(row S i).length=T.length∧NL (row S i)
theorem bool_false{t:Bool}{p:Prop}(h:t=true↔p)(hn: ¬p):false=t:=by
 cases t with
 |false=>rfl
 |true=>exact absurd (h.1 rfl) hn
def isLLs:List AV→List (List (List Int))→Prop
 | [],[]=>True
 |a::bs,x::xs=>isLL a x∧isLLs bs xs
 |_,_=>False
def isLLL(a:AV)(T:List (List (List Int))):Prop:=(∃cs,a= .imm cs∧isLLs cs T)∨(T=[]∧a=nilA)
def mat(T:List (List (List Int)))(i:Nat):List (List Int):=T.getD i []
abbrev at3(T:List (List (List Int)))(i j k:Nat):Int:=atI (row (mat T i) j) k
theorem isLLs_len: ∀ {cs:List AV} {T:List (List (List Int))},isLLs cs T→cs.length=T.length
 | [],[],_=>rfl
 |a::bs,x::xs,h=>by simp only[List.length_cons];rw[isLLs_len h.2]
 | [],_::_,h=>h.elim
 |_::_,[],h=>h.elim
theorem isLLs_get: ∀ {cs:List AV} {T:List (List (List Int))} {k:Nat},isLLs cs T→k<T.length→ ∃c,cs[k]?=some c∧isLL c (T.getD k [])
 |a::bs,x::xs,0,h,_=>⟨a,rfl,h.1⟩
 |a::bs,x::xs,k+1,h,hk=>by
  obtain⟨c,h1,h2⟩:=isLLs_get (k:=k) h.2 (by simpa using hk)
  exact⟨c,by simpa using h1,by simpa using h2⟩
 | [],[],k,_,hk=>by simp at hk
 | [],_::_,_,h,_=>h.elim
 |_::_,[],_,h,_=>h.elim
theorem isLLs_pure: ∀ {cs:List AV} {T:List (List (List Int))},isLLs cs T→pureL cs=true
 | [],[],_=>rfl
 |a::bs,x::xs,h=>by simp[pureL,isLL_pure h.1,isLLs_pure h.2]
 | [],_::_,h=>h.elim
 |_::_,[],h=>h.elim
theorem isLLL_pure{a:AV}{T:List (List (List Int))}(h:isLLL a T):pureA a=true:=by
 rcases h with⟨cs,rfl,h⟩|⟨_,rfl⟩
 ·simp[pureA,isLLs_pure h]
 ·rfl
theorem isLLL_sites{a:AV}{T:List (List (List Int))}(h:isLLL a T):zdy a=[]:=by
 rcases h with⟨cs,rfl,h⟩|⟨_,rfl⟩<;>rfl
theorem isLLL_cellB{a:AV}{T:List (List (List Int))}(ro:Ro)(h:isLLL a T):cellOkB ro a=true:=by
 rcases h with⟨cs,rfl,h⟩|⟨_,rfl⟩<;>rfl
theorem isLLL_lift{a:AV}{T:List (List (List Int))}(s g:Nat)(p:List Nat)(h:isLLL a T):lift s g p a=a:=by
 rcases h with⟨cs,rfl,h⟩|⟨_,rfl⟩<;>rfl
theorem isLLL_len{a:AV}{T:List (List (List Int))}(h:isLLL a T){ro:Ro}{a1:Nat}{a2:Bool}{a3:List Value}{e:Nat}{a5:List (Nat×Nat)}{a6:Option IntKind}{a7 a8:Bool}{a9 a10:Option (Nat×Nat)}:kLen1 (some ⟨a1,a2,a3,some e,a5,a6,a7,a8,a9,a10⟩) ro a=some ⟨i64 T.length,none,[],[]⟩:=by
 rcases h with⟨cs,rfl,h⟩|⟨rfl,rfl⟩
 ·simp[kLen1,isLLs_len h]
 ·rfl
theorem isLLL_idx{a:AV}{T:List (List (List Int))}(h:isLLL a T){k:Nat}(hk:k<T.length){ro:Ro}{a1:Nat}{a2:Bool}{a3:List Value}{e:Nat}{a5:List (Nat×Nat)}{a6:Option IntKind}{a7 a8:Bool}{a9 a10:Option (Nat×Nat)}:kIdx (some ⟨a1,a2,a3,some e,a5,a6,a7,a8,a9,a10⟩) ro a (i64 (k:Int))=some ⟨.iptr [atA a k],none,[],[]⟩:=by
 rcases h with⟨cs,rfl,h⟩|⟨rfl,rfl⟩
 ·obtain⟨c,h1,h2⟩:=isLLs_get h hk
  simp[kIdx,h1,atA]
 ·simp at hk
theorem isLLL_mat{a:AV}{T:List (List (List Int))}(h:isLLL a T){k:Nat}(hk:k<T.length):isLL (atA a k) (mat T k):=by
 rcases h with⟨cs,rfl,h⟩|⟨rfl,rfl⟩
 ·obtain⟨c,h1,h2⟩:=isLLs_get h hk
  simpa [atA,h1,mat]using h2
 ·simp at hk
theorem isLL_ex{a:AV}{S:List (List Int)}(ro:Ro)(k:Nat)(h:isLL a S):ex ro (k+3) a=a:=by
 rcases h with⟨cs,rfl,h⟩|⟨_,rfl⟩
 ·show AV.imm (cs.map (ex ro (k+2)))=_
  have: ∀ {cs:List AV} {xss:List (List Int)},isLs cs xss→cs.map (ex ro (k+2))=cs:=by
   intro cs
   induction cs with
   |nil=>intros;rfl
   |cons c cs ih=>
    intro xss h
    cases xss with
    |nil=>exact h.elim
    |cons x xss=>rw[List.map_cons,isL_ex ro k h.1,ih h.2]
  rw[this h]
 ·rfl
theorem isLLL_ex{a:AV}{T:List (List (List Int))}(ro:Ro)(k:Nat)(h:isLLL a T):ex ro (k+4) a=a:=by
 rcases h with⟨cs,rfl,h⟩|⟨_,rfl⟩
 ·show AV.imm (cs.map (ex ro (k+3)))=_
  have: ∀ {cs:List AV} {xss:List (List (List Int))},isLLs cs xss→cs.map (ex ro (k+3))=cs:=by
   intro cs
   induction cs with
   |nil=>intros;rfl
   |cons c cs ih=>
    intro xss h
    cases xss with
    |nil=>exact h.elim
    |cons x xss=>rw[List.map_cons,isLL_ex ro k h.1,ih h.2]
  rw[this h]
 ·rfl
theorem isLLs_nr: ∀ {cs:List AV} {T:List (List (List Int))},isLLs cs T→noRefL cs=true
 | [],[],_=>rfl
 |a::cs,x::xs,h=>by
  have h1:noRef a=true:=by
   rcases h.1 with⟨ds,rfl,hd⟩|⟨_,rfl⟩
   ·simpa only[noRef]using isLs_nr hd
   ·rfl
  simp only[noRefL,h1,isLLs_nr h.2,Bool.and_self]
 | [],_::_,h=>h.elim
 |_::_,[],h=>h.elim
theorem isLLL_sh{a:AV}{T:List (List (List Int))}(ro:Ro)(h:isLLL a T):shA ro a=true:=by
 rcases h with⟨cs,rfl,h⟩|⟨_,rfl⟩
 ·rw[zhh];exact isLLs_nr h
 ·exact zhg _ _
def cubeL(F:Nat→Nat→Nat→Int)(n:Nat):List (List (List Int)):=rws (fun i=>rws (fun j=>rws (fun k=>F i j k) n) n) n
theorem mat_cube{F:Nat→Nat→Nat→Int}{n i:Nat}(h:i<n):mat (cubeL F n) i=rws (fun j=>rws (fun k=>F i j k) n) n:=by
 unfold mat cubeL;simp[rws,h]
theorem at3_cube{F:Nat→Nat→Nat→Int}{n i j k:Nat}(hi:i<n)(hj:j<n)(hk:k<n):at3 (cubeL F n) i j k=F i j k:=by
 unfold at3;rw[mat_cube hi,row_rws _ hj,atI_rws _ hk]
theorem isLLs_rws{f:Nat→AV}{g:Nat→List (List Int)}(h: ∀i,isLL (f i) (g i)): ∀l:List Nat,isLLs (l.map f) (l.map g)
 | []=>trivial
 |i::l=>⟨h i,isLLs_rws h l⟩
theorem isLs_rws{f:Nat→AV}{g:Nat→List Int}(h: ∀i,isL (f i) (g i)): ∀l:List Nat,isLs (l.map f) (l.map g)
 | []=>trivial
 |i::l=>⟨h i,isLs_rws h l⟩
theorem isLLL_immC(F:Nat→Nat→Nat→Int)(n:Nat):isLLL (immC F n) (cubeL F n):=by
 refine .inl ⟨_,rfl,isLLs_rws (fun i=> .inl ⟨_,rfl,isLs_rws (fun j=> .inl ?_) _⟩) _⟩
 simp only[rws,List.map_map];rfl
theorem isL_idxI{a:AV}{xs:List Int}(h:isL a xs){z:Int}(h0:0≤z)(hz:z<xs.length){ro:Ro}{a1:Nat}{a2:Bool}{a3:List Value}{e:Nat}{a5:List (Nat×Nat)}{a6:Option IntKind}{a7 a8:Bool}{a9 a10:Option (Nat×Nat)}:kIdx (some ⟨a1,a2,a3,some e,a5,a6,a7,a8,a9,a10⟩) ro a (i64 z)=some ⟨.iptr [i64 (atI xs z.toNat)],none,[],[]⟩:=by
 obtain⟨k,rfl⟩:=Int.eq_ofNat_of_zero_le h0
 rw[isL_idx h (by omega)];rfl
theorem isLL_idxI{a:AV}{xs:List (List Int)}(h:isLL a xs){z:Int}(h0:0≤z)(hz:z<xs.length){ro:Ro}{a1:Nat}{a2:Bool}{a3:List Value}{e:Nat}{a5:List (Nat×Nat)}{a6:Option IntKind}{a7 a8:Bool}{a9 a10:Option (Nat×Nat)}:kIdx (some ⟨a1,a2,a3,some e,a5,a6,a7,a8,a9,a10⟩) ro a (i64 z)=some ⟨.iptr [atA a z.toNat],none,[],[]⟩:=by
 obtain⟨k,rfl⟩:=Int.eq_ofNat_of_zero_le h0
 rw[isLL_idx h (by omega)];rfl
theorem isLLL_idxI{a:AV}{T:List (List (List Int))}(h:isLLL a T){z:Int}(h0:0≤z)(hz:z<T.length){ro:Ro}{a1:Nat}{a2:Bool}{a3:List Value}{e:Nat}{a5:List (Nat×Nat)}{a6:Option IntKind}{a7 a8:Bool}{a9 a10:Option (Nat×Nat)}:kIdx (some ⟨a1,a2,a3,some e,a5,a6,a7,a8,a9,a10⟩) ro a (i64 z)=some ⟨.iptr [atA a z.toNat],none,[],[]⟩:=by
 obtain⟨k,rfl⟩:=Int.eq_ofNat_of_zero_le h0
 rw[isLLL_idx h (by omega)];rfl
def fnd{α:Type}:Nat→(Nat→Option α)→Option α
 |0,_=>none
 |n+1,p=>match fnd n p with
  |some v=>some v
  |none=>p n
theorem fnd_none{α:Type}{p:Nat→Option α}: ∀ {n:Nat},fnd n p=none↔ ∀k,k<n→p k=none
 |0=>by simp[fnd]
 |n+1=>by
  have ih:=fnd_none (p:=p) (n:=n)
  simp only[fnd]
  cases hf:fnd n p with
  |some v=>
   simp only[reduceCtorEq,false_iff]
   intro h
   rw[ih.2 fun k hk=>h k (by omega)]at hf
   cases hf
  |none=>
   refine⟨fun h k hk=>?_,fun h=>h n (by omega)⟩
   rcases Nat.lt_or_ge k n with h2|h2
   ·exact ih.1 hf k h2
   ·have:k=n:=by omega
    subst this;exact h
theorem fnd_some{α:Type}{p:Nat→Option α}{k:Nat}{v:α}(hv:p k=some v)(h: ∀j,j<k→p j=none): ∀ {n:Nat},k<n→fnd n p=some v
 |0,hk=>by omega
 |n+1,hk=>by
  simp only[fnd]
  rcases Nat.lt_or_ge k n with h2|h2
  ·rw[fnd_some hv h h2]
  ·have:k=n:=by omega
   subst this
   rw[fnd_none.2 h];exact hv
def optA:Option (List Int)→AV
 |none=>nilA
 |some xs=>rowL xs
theorem noRef_optA(o:Option (List Int)):noRef (optA o)=true:=by cases o;rfl;exact noRef_rowL _
def exq(n:Nat)(ro:Ro)(a a':AV):Prop:=(∀k,n≤k→ex ro k a=a')∧(pureA a=true→a'=a)
inductive exqL (n:Nat) (ro:Ro):List AV→List AV→Prop
 |nil:exqL n ro [] []
 |cons {a a':AV} {bs bs':List AV}:exq n ro a a'→exqL n ro bs bs'→exqL n ro (a::bs) (a'::bs')
theorem exqL.mapE{n:Nat}{ro:Ro}{bs bs':List AV}(h:exqL n ro bs bs'): ∀k,n≤k→bs.map (ex ro k)=bs':=by
 intro k hk
 induction h with
 |nil=>rfl
 |cons h1 _ ih=>rw[List.map_cons,h1.1 k hk,ih]
theorem exqL.pureE{n:Nat}{ro:Ro}{bs bs':List AV}(h:exqL n ro bs bs'):pureL bs=true→bs'=bs:=by
 induction h with
 |nil=>intro _;rfl
 |cons h1 _ ih=>
  intro hp
  simp only[pureL,Bool.and_eq_true]at hp
  rw[h1.2 hp.1,ih hp.2]
theorem argsX_q{ro:Ro}{bs bs':List AV}(h:exqL 8 ro bs bs'):argsX ro bs=bs':=by
 unfold argsX
 split
 ·rename_i hp;exact(h.pureE hp).symm
 ·exact h.mapE 8 (Nat.le_refl _)
theorem exq_sc(n:Nat)(ro:Ro)(v:Value)(h:1≤n):exq n ro (.sc v) (.sc v):=by
 refine⟨fun k hk=>?_,fun _=>rfl⟩
 obtain⟨j,rfl⟩: ∃j,k=j+1:=⟨k-1,by omega⟩
 rfl
theorem exq_L{n:Nat}{ro:Ro}{a:AV}{xs:List Int}(ha:isL a xs)(h:2≤n):exq n ro a a:=by
 refine⟨fun k hk=>?_,fun _=>rfl⟩
 obtain⟨j,rfl⟩: ∃j,k=j+2:=⟨k-2,by omega⟩
 exact isL_ex ro j ha
theorem exq_LL{n:Nat}{ro:Ro}{a:AV}{xs:List (List Int)}(ha:isLL a xs)(h:3≤n):exq n ro a a:=by
 refine⟨fun k hk=>?_,fun _=>rfl⟩
 obtain⟨j,rfl⟩: ∃j,k=j+3:=⟨k-3,by omega⟩
 exact isLL_ex ro j ha
theorem exq_LLL{n:Nat}{ro:Ro}{a:AV}{xs:List (List (List Int))}(ha:isLLL a xs)(h:4≤n):exq n ro a a:=by
 refine⟨fun k hk=>?_,fun _=>rfl⟩
 obtain⟨j,rfl⟩: ∃j,k=j+4:=⟨k-4,by omega⟩
 exact isLLL_ex ro j ha
theorem exq_refL{n:Nat}{ro:Ro}{s g m:Nat}{xs:List Int}(h:ro s g=some (rowL xs))(hm:m=xs.length)(hn:2≤n):exq n ro (.ref s g [] 0 m) (immL xs):=by
 refine⟨fun k hk=>?_,fun hp=>by simp[pureA]at hp⟩
 subst hm
 obtain⟨j,rfl⟩: ∃j,k=j+2:=⟨k-2,by omega⟩
 exact ex_refL h j
theorem exq_refLL{n:Nat}{ro:Ro}{s g m:Nat}{xs:List (List Int)}(h:ro s g=some (rowLL xs))(hm:m=xs.length)(hn:3≤n):exq n ro (.ref s g [] 0 m) (immLL xs):=by
 refine⟨fun k hk=>?_,fun hp=>by simp[pureA]at hp⟩
 subst hm
 obtain⟨j,rfl⟩: ∃j,k=j+3:=⟨k-3,by omega⟩
 exact ex_refLL h j
theorem exq_cube{n:Nat}{ro:Ro}{s g m:Nat}{F:Nat→Nat→Nat→Int}(h:ro s g=some (cubeA F m))(hn:4≤n):exq n ro (.ref s g [] 0 m) (immC F m):=by
 refine⟨fun k hk=>?_,fun hp=>by simp[pureA]at hp⟩
 obtain⟨j,rfl⟩: ∃j,k=j+4:=⟨k-4,by omega⟩
 exact ex_cube h j
theorem exq_agg{n:Nat}{ro:Ro}{cs cs':List AV}(h:exqL n ro cs cs'):exq (n+1) ro (.agg cs) (.agg cs'):=by
 refine⟨fun k hk=>?_,fun hp=>by rw[h.pureE (by simpa only[pureA]using hp)]⟩
 obtain⟨j,rfl⟩: ∃j,k=j+1:=⟨k-1,by omega⟩
 show AV.agg (cs.map (ex ro j))=_
 rw[h.mapE j (by omega)]
section
variable{X:WX}{K:List Fr}{Q:Exit→St→Prop}{sl:Nat→AV}{ro:Ro}{gn:Nat→Nat}
theorem CLL_q{f:Nat}{args args':List AV}{rid:Nat}{ops:Array Oper}{o:Oper}{rest:List Oper}{i:Nat}(r:AV)(h:CallOK X.P f args' r)(ha:exqL 8 ro args args')(hi:X.isIn f=false)(ho:impOK r=true)(hn:noI r=true)
  (hk:WO X rid ops rest (i+1) K Q (((⟨sl,ro,gn⟩:St).eff (impE (site rid i) gn r)).put o.dst (impE (site rid i) gn r).v)):CLL (some (f,args)) X rid ops o rest i K Q ⟨sl,ro,gn⟩:=CLL_args r h (argsX_q ha) hi ho hn hk
theorem CLLD_q{f:Nat}{args args':List AV}{rd:Option (List Nat)}{rid:Nat}{ops:Array Oper}{o:Oper}{rest:List Oper}{i:Nat}{acc:List FP}(r:AV)(h:CallOK X.P f args' r)(ha:exqL 8 ro args args')(ho:impOK r=true)(hn:noI r=true)
  (hk:WD X rid ops rest (i+1) (⟨rd,(impE (site rid i) gn r).sites⟩::acc) K Q (((⟨sl,ro,gn⟩:St).eff (impE (site rid i) gn r)).put o.dst (impE (site rid i) gn r).v)):CLLD (some (f,args)) rd X rid ops o rest i acc K Q ⟨sl,ro,gn⟩:=CLLD_args r h (argsX_q ha) ho hn hk
end
def DuQ(f:Nat→Int)(n j:Nat):Prop:=j<n∧f j=1∧ ∀k,k<n→k≠j→f k=0
open Classical in
noncomputable def du(f:Nat→Int)(n:Nat):Int:=if h: ∃j,DuQ f n j then(Classical.choose h:Nat)else-1
theorem du_is{f:Nat→Int}{n j:Nat}(h:DuQ f n j):du f n=j:=by
 have he: ∃j,DuQ f n j:=⟨j,h⟩
 unfold du
 rw[dif_pos he]
 have hs:=Classical.choose_spec he
 by_cases e:Classical.choose he=j
 ·rw[e]
 ·have:=h.2.2 _ hs.1 e
  rw[hs.2.1]at this;omega
theorem du_no{f:Nat→Int}{n:Nat}(h: ¬ ∃j,DuQ f n j):du f n= -1:=by unfold du;rw[dif_neg h]
theorem du_cases(f:Nat→Int)(n:Nat):(∃j,DuQ f n j∧du f n=j)∨((¬ ∃j,DuQ f n j)∧du f n= -1):=by
 by_cases h: ∃j,DuQ f n j
 ·obtain⟨j,hj⟩:=h
  exact .inl ⟨j,hj,du_is hj⟩
 ·exact .inr ⟨h,du_no h⟩
theorem decT{p:Prop} [Decidable p](h:p):decide p=true:=decide_eq_true h
theorem decF{p:Prop} [Decidable p](h: ¬p):decide p=false:=decide_eq_false h
theorem bnd2{a b x y:Int}(ha:0≤a)(ha':a≤x)(hb:0≤b)(hb':b≤y):0≤a*b∧a*b≤x*y:=⟨Int.mul_nonneg ha hb,Int.mul_le_mul ha' hb' hb (by omega)⟩
attribute [go_sem] ti2 ti3 ti4 ti22 ti23 ti31 ti33 ti77
attribute [go_sem] isL_len isLL_len isLLL_len isL_idx isLL_idx isLLL_idx isL_idx0 isLL_idx0 isLLL_lift isLLL_cellB isL_sites isLL_sites isLLL_sites
theorem iteT{α:Type}{p:Prop} [Decidable p]{a b:α}(h:p):(if p then a else b)=a:=if_pos h
attribute [go_sem] rws_get zfe
attribute [go_sem] iteT decT decF isL_idxI isLL_idxI isLLL_idxI Int.toNat_natCast
set_option maxRecDepth 1000000 in
def CubeP(T:List (List (List Int))):Prop:=1≤T.length∧T.length≤16∧ ∀i,i<T.length→(mat T i).length=T.length∧ ∀j,j<T.length→(row (mat T i) j).length=T.length∧ ∀k,k<T.length→0≤at3 T i j k∧at3 T i j k≤1000
end Go.Proofs.YtbakhfiibjkifaaGreat
/- The reference's cubes and rings. -/
namespace Go.Proofs.YtbakhfiibjkifaaGreat
open Go.RowKit
set_option maxRecDepth 1000000 in
theorem c130{a:AV}{T:List (List (List Int))}(ha:isLLL a T){t:Bool}(ht:t=true↔CubeP T):CallOK Tryz.prog 102 [a] (bo t):=by
 refine call_of (fn:=Tryz.f102) (code:=bodyOf Tryz.f102) Tryz.func102 rfl (by kernel_rfl) rfl ?_
 intro sl hs
 have s0:sl 0=a:=hs 0
 by_cases h1:(T.length:Int)<1
 ·dsimp only[Tryz.f102,bodyOf,Option.getD]
  simp(disch:=first|assumption|omega) only[go_sem, ↓reduceIte,Nat.reduceEqDiff,zc,Int.reduceToNat,s0,h1]
  refine Yab ?_
  exact bool_false ht fun h=>by have:=h.1;omega
 by_cases h2:(16:Int)<T.length
 ·dsimp only[Tryz.f102,bodyOf,Option.getD]
  simp(disch:=first|assumption|omega) only[go_sem, ↓reduceIte,Nat.reduceEqDiff,zc,Int.reduceToNat,s0,h1,h2]
  refine Yab ?_
  exact bool_false ht fun h=>by have:=h.2.1;omega
 dsimp only[Tryz.f102,bodyOf,Option.getD]
 simp(disch:=first|assumption|omega) only[go_sem, ↓reduceIte,Nat.reduceEqDiff,zc,Int.reduceToNat,s0,h1,h2]
 refine WK_for (fun i st=>st.sl 0=a∧st.sl 3=i64 (T.length:Int)∧st.sl 4=i64 (i:Int)∧ ∀x,x<i→(mat T x).length=T.length∧ ∀j,j<T.length→(row (mat T x) j).length=T.length∧ ∀k,k<T.length→0≤at3 T x j k∧at3 T x j k≤1000) T.length ?_ ?_ ?_
 ·simp only[↓za, ↓reduceIte,Nat.reduceEqDiff,zb,reduceCtorEq,s0]
  exact⟨rfl,fun j hj=>absurd hj (Nat.not_lt_zero _)⟩
 ·rintro i sl ro gn hi ⟨s0,s3,s4,hp⟩
  dsimp only at s0 s3 s4
  have hi':(i:Int)<T.length:=by omega
  have hm:=isLLL_mat ha hi
  simp(disch:=first|assumption|omega) only[go_sem, ↓reduceIte,Nat.reduceEqDiff,zc,Int.reduceToNat,s0,s3,s4,hi']
  refine⟨fun h=>?_,fun h=>?_⟩;rotate_left
  ·refine Yab ?_
   exact bool_false ht fun hc=>by have:=(hc.2.2 i hi).1;omega
  have hl:(mat T i).length=T.length:=by omega
  refine WK_for (fun j st=>st.sl 0=a∧st.sl 3=i64 (T.length:Int)∧st.sl 4=i64 (i:Int)∧st.sl 5=i64 (j:Int)∧ ∀y,y<j→(row (mat T i) y).length=T.length∧ ∀k,k<T.length→0≤at3 T i y k∧at3 T i y k≤1000) T.length ?_ ?_ ?_
  ·simp only[↓za, ↓reduceIte,Nat.reduceEqDiff,zb,reduceCtorEq,s0,s3,s4]
   exact⟨rfl,fun j hj=>absurd hj (Nat.not_lt_zero _)⟩
  ·rintro j sl ro gn hj ⟨s0,s3,s4,s5,hq⟩
   dsimp only at s0 s3 s4 s5
   have hj':(j:Int)<T.length:=by omega
   have hr:=isLL_row hm (k:=j) (by omega)
   simp(disch:=first|assumption|omega) only[go_sem, ↓reduceIte,Nat.reduceEqDiff,zc,Int.reduceToNat,s0,s3,s4,s5,hj']
   refine⟨fun h=>?_,fun h=>?_⟩;rotate_left
   ·refine Yab ?_
    exact bool_false ht fun hc=>by have:=((hc.2.2 i hi).2 j hj).1;omega
   have hl2:(row (mat T i) j).length=T.length:=by omega
   refine WK_for (fun k st=>st.sl 0=a∧st.sl 3=i64 (T.length:Int)∧st.sl 4=i64 (i:Int)∧st.sl 5=i64 (j:Int)∧st.sl 6=i64 (k:Int)∧ ∀z,z<k→0≤at3 T i j z∧at3 T i j z≤1000) T.length ?_ ?_ ?_
   ·simp only[↓za, ↓reduceIte,Nat.reduceEqDiff,zb,reduceCtorEq,s0,s3,s4,s5]
    exact⟨rfl,fun j hj=>absurd hj (Nat.not_lt_zero _)⟩
   ·rintro k sl ro gn hk ⟨s0,s3,s4,s5,s6,hz⟩
    dsimp only at s0 s3 s4 s5 s6
    have hk':(k:Int)<T.length:=by omega
    refine Yfx ?_
    refine CLL_pure _ c38 rfl rfl rfl ?_
    simp(disch:=first|assumption|omega) only[go_sem, ↓reduceIte,Nat.reduceEqDiff,zc,Int.reduceToNat,s0,s3,s4,s5,s6]
    refine⟨fun h=>?_,fun h=>?_⟩;rotate_left
    ·refine Yab ?_
     exact bool_false ht fun hc=>h (((hc.2.2 i hi).2 j hj).2 k hk)
    ·refine⟨i64c (by omega),fun z hz'=>?_⟩
     rcases Nat.lt_or_ge z k with h'|h'
     ·exact hz z h'
     ·have:z=k:=by omega
      subst this;exact h
   ·rintro sl ro gn ⟨s0,s3,s4,s5,s6,hz⟩
    dsimp only at s0 s3 s4 s5 s6
    have hk': ¬(T.length:Int)<T.length:=by omega
    refine Yfx ?_
    refine⟨i64c (by omega),fun y hy=>?_⟩
    rcases Nat.lt_or_ge y j with h'|h'
    ·exact hq y h'
    ·have:y=j:=by omega
     subst this;exact⟨hl2,hz⟩
  ·rintro sl ro gn ⟨s0,s3,s4,s5,hq⟩
   dsimp only at s0 s3 s4 s5
   have hj': ¬(T.length:Int)<T.length:=by omega
   simp(disch:=first|assumption|omega) only[go_sem, ↓reduceIte,Nat.reduceEqDiff,zc,Int.reduceToNat,s0,s3,s4,s5,hj']
   refine⟨i64c (by omega),fun y hy=>?_⟩
   rcases Nat.lt_or_ge y i with h'|h'
   ·exact hp y h'
   ·have:y=i:=by omega
    subst this;exact⟨hl,hq⟩
 ·rintro sl ro gn ⟨s0,s3,s4,hp⟩
  dsimp only at s0 s3 s4
  have hi': ¬(T.length:Int)<T.length:=by omega
  simp(disch:=first|assumption|omega) only[go_sem, ↓reduceIte,Nat.reduceEqDiff,zc,Int.reduceToNat,s0,s3,s4,hi']
  refine Yab ?_
  exact(ht.2 ⟨by omega,by omega,hp⟩).symm
set_option maxRecDepth 1000000
noncomputable def dlT(T:List (List (List Int)))(i:Nat):Int:=du (fun j=>at3 T i j 0) T.length
theorem dlT_nat{T:List (List (List Int))}{i:Nat}(h: ¬dlT T i<0): ∃m:Nat,dlT T i=m∧m<T.length:=by
 rcases du_cases (fun j=>at3 T i j 0) T.length with⟨j,h1,h2⟩|⟨_,h2⟩
 ·exact⟨j,h2,h1.1⟩
 ·exact absurd (by unfold dlT;omega) h
theorem c150{a:AV}{T:List (List (List Int))}(ha:isLLL a T)(hc:CubeP T){i:Nat}(hi:i<T.length):CallOK Tryz.prog 98 [a,i64 i] (i64 (dlT T i)):=by
 obtain⟨h1,h2,h3⟩:=hc
 obtain⟨hl,hr⟩:=h3 i hi
 have hm:=isLLL_mat ha hi
 refine call_of (fn:=Tryz.f98) (code:=bodyOf Tryz.f98) Tryz.func98 rfl (by kernel_rfl) (rfl) ?_
 intro sl hs
 have s0:sl 0=a:=hs 0
 have s1:sl 1=i64 i:=hs 1
 dsimp only[Tryz.f98,bodyOf,Option.getD]
 simp(disch:=first|assumption|omega) only[go_sem, ↓reduceIte,Nat.reduceEqDiff,zc,Int.reduceToNat,s0,s1]
 refine WK_for (fun j st=>st.sl 0=a∧st.sl 1=i64 i∧st.sl 6=i64 (j:Int)∧((st.sl 5=i64 (-1)∧ ∀k,k<j→at3 T i k 0=0)∨ ∃x:Nat,st.sl 5=i64 x∧x<j∧at3 T i x 0=1∧ ∀k,k<j→k≠x→at3 T i k 0=0)) T.length ?_ ?_ ?_
 ·refine Yae ?_
  exact⟨rfl,.inl fun j hj=>absurd hj (Nat.not_lt_zero _)⟩
 ·rintro j sl ro gn hj ⟨s0,s1,s6,q⟩
  dsimp only at s0 s1 s6
  have hj':(j:Int)<(T.length:Nat):=by omega
  dsimp only at q
  have hl2:=(hr j hj).1
  have hrow:=isLL_row hm (k:=j) (by omega)
  have hpos:0<(row (mat T i) j).length:=by omega
  rcases q with⟨s5,hq⟩|⟨x,s5,hx,hx1,hq⟩
  ·by_cases hf:atI (row (mat T i) j) 0=1
   ·refine Yfo ?_
    exact⟨i64c (by omega),.inr ⟨j,rfl,by omega,hf,fun k hk hne=>hq k (by omega)⟩⟩
   ·refine Yfo ?_
    refine⟨fun h0=>?_,fun h0=>?_⟩;rotate_left
    ·refine Yab ?_
     refine(du_no ?_).symm
     rintro⟨y,hy1,hy2,hy3⟩
     by_cases e:j=y
     ·subst e;exact hf hy2
     ·exact h0 (hy3 j hj e)
    ·refine⟨i64c (by omega),.inl fun k hk=>?_⟩
     rcases Nat.lt_or_ge k j with h|h
     ·exact hq k h
     ·have:k=j:=by omega
      subst this;exact h0
  ·have hx0: ¬(x:Int)<0:=by omega
   by_cases hf:atI (row (mat T i) j) 0=0
   ·have hf1: ¬atI (row (mat T i) j) 0=1:=by omega
    simp(disch:=first|assumption|omega) only[go_sem, ↓reduceIte,Nat.reduceEqDiff,zc,Int.reduceToNat,s0,s1,s6,hj',hj,hf,s5,hx0]
    refine⟨i64c (by omega),.inr ⟨x,rfl,by omega,hx1,fun k hk hne=>?_⟩⟩
    rcases Nat.lt_or_ge k j with h|h
    ·exact hq k h hne
    ·have:k=j:=by omega
     subst this;exact hf
   ·have e:dlT T i= -1:=by
     refine du_no ?_
     rintro⟨y,hy1,hy2,hy3⟩
     by_cases e:j=y
     ·subst e
      have h9:at3 T i x 0=0:=hy3 x (by omega) (by omega)
      omega
     ·exact hf (hy3 j hj e)
    by_cases hf1:atI (row (mat T i) j) 0=1
    ·simp(disch:=first|assumption|omega) only[go_sem, ↓reduceIte,Nat.reduceEqDiff,zc,Int.reduceToNat,s0,s1,s6,hj',hj,hf1,s5,hx0]
     exact Yah
    ·simp(disch:=first|assumption|omega) only[go_sem, ↓reduceIte,Nat.reduceEqDiff,zc,Int.reduceToNat,s0,s1,s6,hj',hj,hf,hf1,s5,hx0]
     exact Yah
 ·rintro sl ro gn ⟨s0,s1,s6,q⟩
  dsimp only at s0 s1 s6
  have hj': ¬((T.length:Nat):Int)<(T.length:Nat):=by omega
  dsimp only at q
  rcases q with⟨s5,hq⟩|⟨x,s5,hx,hx1,hq⟩
  ·simp(disch:=first|assumption|omega) only[go_sem, ↓reduceIte,Nat.reduceEqDiff,zc,Int.reduceToNat,s0,s1,s6,hj',s5]
   refine Yab ?_
   refine(du_no ?_).symm
   rintro⟨y,hy1,hy2,hy3⟩
   have h9:at3 T i y 0=1:=hy2
   have:=hq y hy1
   omega
  ·simp(disch:=first|assumption|omega) only[go_sem, ↓reduceIte,Nat.reduceEqDiff,zc,Int.reduceToNat,s0,s1,s6,hj',s5]
   refine Yab ?_
   exact(du_is (f:=fun j=>at3 T i j 0) ⟨hx,hx1,hq⟩).symm
section
variable (T:List (List (List Int)))
def dlt(i k:Nat):Int:=if i=k then 1 else 0
def p1(i k:Nat):Option (List Int):=if at3 T 0 i k=dlt i k∧at3 T i 0 k=dlt i k then none else some [0,i,k]
noncomputable def p2(i:Nat):Option (List Int):=if dlT T i<0∨dlT T (dlT T i).toNat≠i then some [1,i]else none
noncomputable def p3(i j k:Nat):Option (List Int):=if at3 T i j k=at3 T (dlT T i).toNat k j∧at3 T i j k=at3 T k (dlT T j).toNat i then none else some [2,i,j,k]
def lft(i j k l:Nat)(m:Nat):Int:=at3 T i j m*at3 T m k l
def rgt(i j k l:Nat)(m:Nat):Int:=at3 T j k m*at3 T i m l
def p4(i j k l:Nat):Option (List Int):=if sm (lft T i j k l) T.length=sm (rgt T i j k l) T.length then none else some [3,i,j,k,l]
def F1:Option (List Int):=fnd T.length fun i=>fnd T.length fun k=>p1 T i k
noncomputable def F2:Option (List Int):=fnd T.length fun i=>p2 T i
noncomputable def F3:Option (List Int):=fnd T.length fun i=>fnd T.length fun j=>fnd T.length fun k=>p3 T i j k
def F4:Option (List Int):=fnd T.length fun i=>fnd T.length fun j=>fnd T.length fun k=>fnd T.length fun l=>p4 T i j k l
noncomputable def RF:Option (List Int):=match F1 T with
 |some v=>some v
 |none=>match F2 T with
  |some v=>some v
  |none=>match F3 T with
   |some v=>some v
   |none=>F4 T
end
theorem RF1{T:List (List (List Int))}{v:List Int}(h:F1 T=some v):RF T=some v:=by unfold RF;rw[h]
theorem RF2{T:List (List (List Int))}{v:List Int}(h1:F1 T=none)(h:F2 T=some v):RF T=some v:=by unfold RF;rw[h1,h]
theorem RF3{T:List (List (List Int))}{v:List Int}(h1:F1 T=none)(h2:F2 T=none)(h:F3 T=some v):RF T=some v:=by unfold RF;rw[h1,h2,h]
theorem RF4{T:List (List (List Int))}(h1:F1 T=none)(h2:F2 T=none)(h3:F3 T=none):RF T=F4 T:=by unfold RF;rw[h1,h2,h3]
theorem ltS{p:Nat→Prop}{k:Nat}(h: ∀j,j<k→p j)(hk:p k): ∀j,j<k+1→p j:=fun j hj=>by
 rcases Nat.lt_or_ge j k with h'|h'
 ·exact h j h'
 ·have:j=k:=by omega
  subst this;exact hk
theorem lt0{p:Nat→Prop}: ∀j,j<0→p j:=fun _ h=>absurd h (Nat.not_lt_zero _)
theorem at3_bnd{T:List (List (List Int))}(hc:CubeP T)(i j k:Nat):0≤at3 T i j k∧at3 T i j k≤1000:=by
 obtain⟨h1,h2,h3⟩:=hc
 rcases Nat.lt_or_ge i T.length with hi|hi
 ·obtain⟨h4,h5⟩:=h3 i hi
  rcases Nat.lt_or_ge j T.length with hj|hj
  ·obtain⟨h6,h7⟩:=h5 j hj
   rcases Nat.lt_or_ge k T.length with hk|hk
   ·exact h7 k hk
   ·unfold at3;rw[atI_out (by omega)];decide
  ·unfold at3;rw[row_out (by omega),atI_out (by simp)];decide
 ·have:mat T i=[]:=by unfold mat;simp[List.getD_eq_getElem?_getD,List.getElem?_eq_none hi]
  unfold at3;rw[this,row_out (by simp),atI_out (by simp)];decide
theorem lft_bnd{T:List (List (List Int))}(hc:CubeP T)(i j k l m:Nat):0≤lft T i j k l m∧lft T i j k l m≤1000000:=by
 have h1:=at3_bnd hc i j m
 have h2:=at3_bnd hc m k l
 have:=bnd2 h1.1 h1.2 h2.1 h2.2
 exact⟨this.1,by simpa [lft,rgt]using this.2⟩
theorem rgt_bnd{T:List (List (List Int))}(hc:CubeP T)(i j k l m:Nat):0≤rgt T i j k l m∧rgt T i j k l m≤1000000:=by
 have h1:=at3_bnd hc j k m
 have h2:=at3_bnd hc i m l
 have:=bnd2 h1.1 h1.2 h2.1 h2.2
 exact⟨this.1,by simpa [lft,rgt]using this.2⟩
set_option maxHeartbeats 4000000 in
theorem c131{a:AV}{T:List (List (List Int))}(ha:isLLL a T)(hc:CubeP T):CallOK Tryz.prog 103 [a] (optA (RF T)):=by
 have hc0:=hc
 obtain⟨h1,h2,h3⟩:=hc
 refine call_of (fn:=Tryz.f103) (code:=bodyOf Tryz.f103) Tryz.func103 rfl (by kernel_rfl) (noRef_optA _) ?_
 intro sl hs
 have s0:sl 0=a:=hs 0
 dsimp only[Tryz.f103,bodyOf,Option.getD]
 simp(disch:=first|assumption|omega) only[go_sem, ↓reduceIte,Nat.reduceEqDiff,zc,Int.reduceToNat,s0]
 have hT0:0<T.length:=by omega
 have hm0:=isLLL_mat ha hT0
 refine WK_for (fun i st=>st.sl 0=a∧st.sl 2=nilA∧st.sl 3=i64 (T.length:Int)∧st.sl 4=i64 (i:Int)∧(∀x,x<i→(fnd T.length fun k=>p1 T x k)=none)) T.length ?_ ?_ ?_
 ·refine Yad ?_
  exact⟨rfl,lt0⟩
 ·rintro i sl ro gn hi ⟨s0,s2,s3,s4,q⟩
  dsimp only at s0 s2 s3 s4
  have hi':(i:Int)<(T.length:Nat):=by omega
  simp(disch:=first|assumption|omega) only[go_sem, ↓reduceIte,Nat.reduceEqDiff,zc,Int.reduceToNat,s0,s2,s3,s4,hi',hi]
  obtain⟨hli,hri⟩:=h3 i hi
  have hmi:=isLLL_mat ha hi
  refine WK_for (fun k st=>st.sl 0=a∧st.sl 2=nilA∧st.sl 3=i64 (T.length:Int)∧st.sl 4=i64 (i:Int)∧st.sl 5=i64 (k:Int)∧(∀x,x<k→p1 T i x=none)) T.length ?_ ?_ ?_
  ·simp only[↓za, ↓reduceIte,Nat.reduceEqDiff,zb,reduceCtorEq,rws_zero,s0,s2,s3,s4,hi',hi]
   exact⟨rfl,lt0⟩
  ·rintro k sl ro gn hk ⟨s0,s2,s3,s4,s5,qq⟩
   dsimp only at s0 s2 s3 s4 s5
   have hk':(k:Int)<(T.length:Nat):=by omega
   have hr0:=isLL_row hm0 (k:=i) (by rw[(h3 0 hT0).1];exact hi)
   have hr1:=isLL_row hmi (k:=0) (by omega)
   have hl0:(row (mat T 0) i).length=T.length:=((h3 0 hT0).2 i hi).1
   have hl1:(row (mat T i) 0).length=T.length:=(hri 0 hT0).1
   have hlm:(mat T 0).length=T.length:=(h3 0 hT0).1
   have hd: ∀x,x=dlt i k→(at3 T 0 i k=x∧at3 T i 0 k=x→p1 T i k=none)∧(¬(at3 T 0 i k=x∧at3 T i 0 k=x)→RF T=some [0,(i:Int),(k:Int)]):=by
    rintro x rfl
    refine⟨fun h=>if_pos h,fun h=>RF1 (fnd_some (k:=i) (fnd_some (k:=k) (if_neg h) qq hk) q hi)⟩
   by_cases hik:i=k
   ·have hik':(i:Int)=k:=by omega
    obtain⟨hd1,hd2⟩:=hd 1 (if_pos hik).symm
    by_cases ha1:atI (row (mat T 0) i) k=1
    ·by_cases hb1:atI (row (mat T i) 0) k=1
     ·refine Ybn ?_
      exact⟨i64c (by omega),ltS qq (hd1 ⟨ha1,hb1⟩)⟩
     ·refine Ybn ?_
      refine Yau ?_
      rfl
    ·refine Yfj ?_
     refine Yav ?_
     rfl
   ·have hik': ¬(i:Int)=k:=by omega
    obtain⟨hd1,hd2⟩:=hd 0 (if_neg hik).symm
    by_cases ha1:atI (row (mat T 0) i) k=0
    ·by_cases hb1:atI (row (mat T i) 0) k=0
     ·refine Ybn ?_
      exact⟨i64c (by omega),ltS qq (hd1 ⟨ha1,hb1⟩)⟩
     ·refine Ybn ?_
      refine Yau ?_
      rfl
    ·refine Yfj ?_
     refine Yav ?_
     rfl
  ·rintro sl ro gn ⟨s0,s2,s3,s4,s5,qq⟩
   dsimp only at s0 s2 s3 s4 s5
   have hk': ¬((T.length:Nat):Int)<(T.length:Nat):=by omega
   simp(disch:=first|assumption|omega) only[go_sem, ↓reduceIte,Nat.reduceEqDiff,zc,Int.reduceToNat,s0,s2,s3,s4,s5,hk']
   exact⟨i64c (by omega),ltS q (fnd_none.2 qq)⟩
 ·rintro sl ro gn ⟨s0,s2,s3,s4,q⟩
  dsimp only at s0 s2 s3 s4
  have hi': ¬((T.length:Nat):Int)<(T.length:Nat):=by omega
  have hF1:F1 T=none:=fnd_none.2 q
  clear q
  simp(disch:=first|assumption|omega) only[go_sem, ↓reduceIte,Nat.reduceEqDiff,zc,Int.reduceToNat,s0,s2,s3,s4,hi']
  refine WK_for (fun i st=>st.sl 0=a∧st.sl 2=nilA∧st.sl 3=i64 (T.length:Int)∧st.sl 8=i64 (i:Int)∧st.sl 7= .ref 57344 (st.gn 57344) [] 0 i∧st.ro 57344 (st.gn 57344)=some (.row (rws (fun x=>i64 (dlT T x)) i))) T.length ?_ ?_ ?_
  ·simp only[↓za, ↓reduceIte,Nat.reduceEqDiff,zb,reduceCtorEq,rws_zero,s0,s2,s3,s4,hi']
   rfl
  ·rintro i sl ro gn hi ⟨s0,s2,s3,s8,s7,r57344⟩
   dsimp only at s0 s2 s3 s8 s7 r57344
   have hi':(i:Int)<(T.length:Nat):=by omega
   simp(disch:=first|assumption|omega) only[go_sem, ↓reduceIte,Nat.reduceEqDiff,zc,Int.reduceToNat,s0,s2,s3,s8,s7,r57344,hi',hi]
   refine CLL_pure _ (c150 ha hc0 hi) (by simp only[pureL,isLLL_pure ha,pureA,Bool.and_self]) rfl rfl ?_
   simp(disch:=first|assumption|omega) only[go_sem, ↓reduceIte,Nat.reduceEqDiff,Nat.reduceAdd,Nat.reduceMul,zc,Int.reduceToNat,s0,s2,s3,s8,s7,r57344,hi',hi]
   exact i64c (by omega)
  ·rintro sl ro gn ⟨s0,s2,s3,s8,s7,r57344⟩
   dsimp only at s0 s2 s3 s8 s7 r57344
   have hi': ¬((T.length:Nat):Int)<(T.length:Nat):=by omega
   simp(disch:=first|assumption|omega) only[go_sem, ↓reduceIte,Nat.reduceEqDiff,zc,Int.reduceToNat,s0,s2,s3,s8,s7,r57344,hi']
   refine WK_for (fun i st=>st.sl 0=a∧st.sl 2=nilA∧st.sl 3=i64 (T.length:Int)∧st.sl 7= .ref 57344 (st.gn 57344) [] 0 T.length∧st.ro 57344 (st.gn 57344)=some (.row (rws (fun x=>i64 (dlT T x)) T.length))∧st.sl 9=i64 (i:Int)∧(∀x,x<i→p2 T x=none)) T.length ?_ ?_ ?_
   ·simp only[↓za, ↓reduceIte,Nat.reduceEqDiff,zb,reduceCtorEq,rws_zero,s0,s2,s3,s8,s7,r57344,hi']
    exact⟨rfl,lt0⟩
   ·rintro i sl ro gn hi ⟨s0,s2,s3,s7,r57344,s9,q⟩
    dsimp only at s0 s2 s3 s7 r57344 s9
    have hi':(i:Int)<(T.length:Nat):=by omega
    by_cases hd:dlT T i<0
    ·have e:=RF2 hF1 (fnd_some (k:=i) (if_pos (.inl hd)) q hi)
     simp(disch:=first|assumption|omega) only[go_sem, ↓reduceIte,Nat.reduceEqDiff,zc,Int.reduceToNat,s0,s2,s3,s7,r57344,s9,hi',hi,hd]
     refine Yar ?_
     rfl
    ·obtain⟨m,hm,hmT⟩:=dlT_nat hd
     by_cases hd2:dlT T m=i
     ·have e:p2 T i=none:=if_neg (by rw[hm,Int.toNat_natCast];intro h;rcases h with h|h;omega;exact h hd2)
      refine Yem ?_
      exact⟨i64c (by omega),ltS q e⟩
     ·have e:=RF2 hF1 (fnd_some (k:=i) (if_pos (.inr (by rw[hm,Int.toNat_natCast];exact hd2))) q hi)
      refine Yem ?_
      refine Yar ?_
      rfl
   ·rintro sl ro gn ⟨s0,s2,s3,s7,r57344,s9,q⟩
    dsimp only at s0 s2 s3 s7 r57344 s9
    have hi': ¬((T.length:Nat):Int)<(T.length:Nat):=by omega
    have hF2:F2 T=none:=fnd_none.2 q
    have hdl: ∀i,i<T.length→ ∃m:Nat,dlT T i=m∧m<T.length:=fun i hi=>by
     refine dlT_nat fun h=>?_
     have:=q i hi
     unfold p2 at this
     rw[if_pos (.inl h)]at this
     cases this
    clear q
    simp(disch:=first|assumption|omega) only[go_sem, ↓reduceIte,Nat.reduceEqDiff,zc,Int.reduceToNat,s0,s2,s3,s7,r57344,s9,hi']
    refine WK_for (fun i st=>st.sl 0=a∧st.sl 2=nilA∧st.sl 3=i64 (T.length:Int)∧st.sl 7= .ref 57344 (st.gn 57344) [] 0 T.length∧st.ro 57344 (st.gn 57344)=some (.row (rws (fun x=>i64 (dlT T x)) T.length))∧st.sl 10=i64 (i:Int)∧(∀x,x<i→(fnd T.length fun j=>fnd T.length fun k=>p3 T x j k)=none)) T.length ?_ ?_ ?_
    ·simp only[↓za, ↓reduceIte,Nat.reduceEqDiff,zb,reduceCtorEq,rws_zero,s0,s2,s3,s7,r57344,s9,hi']
     exact⟨rfl,lt0⟩
    ·rintro i sl ro gn hi ⟨s0,s2,s3,s7,r57344,s10,q⟩
     dsimp only at s0 s2 s3 s7 r57344 s10
     have hi':(i:Int)<(T.length:Nat):=by omega
     simp(disch:=first|assumption|omega) only[go_sem, ↓reduceIte,Nat.reduceEqDiff,zc,Int.reduceToNat,s0,s2,s3,s7,r57344,s10,hi',hi]
     refine WK_for (fun j st=>st.sl 0=a∧st.sl 2=nilA∧st.sl 3=i64 (T.length:Int)∧st.sl 7= .ref 57344 (st.gn 57344) [] 0 T.length∧st.ro 57344 (st.gn 57344)=some (.row (rws (fun x=>i64 (dlT T x)) T.length))∧st.sl 10=i64 (i:Int)∧st.sl 11=i64 (j:Int)∧(∀x,x<j→(fnd T.length fun k=>p3 T i x k)=none)) T.length ?_ ?_ ?_
     ·simp only[↓za, ↓reduceIte,Nat.reduceEqDiff,zb,reduceCtorEq,rws_zero,s0,s2,s3,s7,r57344,s10,hi',hi]
      exact⟨rfl,lt0⟩
     ·rintro j sl ro gn hj ⟨s0,s2,s3,s7,r57344,s10,s11,qq⟩
      dsimp only at s0 s2 s3 s7 r57344 s10 s11
      have hj':(j:Int)<(T.length:Nat):=by omega
      simp(disch:=first|assumption|omega) only[go_sem, ↓reduceIte,Nat.reduceEqDiff,zc,Int.reduceToNat,s0,s2,s3,s7,r57344,s10,s11,hj',hj]
      refine WK_for (fun k st=>st.sl 0=a∧st.sl 2=nilA∧st.sl 3=i64 (T.length:Int)∧st.sl 7= .ref 57344 (st.gn 57344) [] 0 T.length∧st.ro 57344 (st.gn 57344)=some (.row (rws (fun x=>i64 (dlT T x)) T.length))∧st.sl 10=i64 (i:Int)∧st.sl 11=i64 (j:Int)∧st.sl 12=i64 (k:Int)∧(∀x,x<k→p3 T i j x=none)) T.length ?_ ?_ ?_
      ·simp only[↓za, ↓reduceIte,Nat.reduceEqDiff,zb,reduceCtorEq,rws_zero,s0,s2,s3,s7,r57344,s10,s11,hj',hj]
       exact⟨rfl,lt0⟩
      ·rintro k sl ro gn hk ⟨s0,s2,s3,s7,r57344,s10,s11,s12,qqq⟩
       dsimp only at s0 s2 s3 s7 r57344 s10 s11 s12
       have hk':(k:Int)<(T.length:Nat):=by omega
       obtain⟨di,hdi,hdi2⟩:=hdl i hi
       obtain⟨dj,hdj,hdj2⟩:=hdl j hj
       have hA:=isLLL_mat ha hi
       have hB:=isLLL_mat ha hdi2
       have hC:=isLLL_mat ha hk
       have hA1:=(h3 i hi).1
       have hB1:=(h3 di hdi2).1
       have hC1:=(h3 k hk).1
       have hA2:=isLL_row hA (k:=j) (by omega)
       have hB2:=isLL_row hB (k:=k) (by omega)
       have hC2:=isLL_row hC (k:=dj) (by omega)
       have hA3:=((h3 i hi).2 j hj).1
       have hB3:=((h3 di hdi2).2 k hk).1
       have hC3:=((h3 k hk).2 dj hdj2).1
       have hd:(at3 T i j k=at3 T di k j∧at3 T i j k=at3 T k dj i→p3 T i j k=none)∧(¬(at3 T i j k=at3 T di k j∧at3 T i j k=at3 T k dj i)→RF T=some [2,(i:Int),(j:Int),(k:Int)]):=by
        have e1:(dlT T i).toNat=di:=by omega
        have e2:(dlT T j).toNat=dj:=by omega
        refine⟨fun h=>if_pos (by rw[e1,e2];exact h),fun h=>RF3 hF1 hF2 (fnd_some (k:=i) (fnd_some (k:=j) (fnd_some (k:=k) (if_neg (by rw[e1,e2];exact h)) qqq hk) qq hj) q hi)⟩
       obtain⟨hd1,hd2⟩:=hd
       by_cases ha1:atI (row (mat T i) j) k=atI (row (mat T di) k) j
       ·have ha1':=eq_true ha1
        by_cases hb1:atI (row (mat T i) j) k=atI (row (mat T k) dj) i
        ·have hb1':=eq_true hb1
         simp(disch:=first|assumption|omega) only[go_sem, ↓reduceIte,Nat.reduceEqDiff,zc,Int.reduceToNat,s0,s2,s3,s7,r57344,s10,s11,s12,hk',hk,ha1',hb1',hdi,hdj]
         refine FIN_of (by kernel_rfl) ?_
         refine Yck ?_
         exact⟨i64c (by omega),ltS qqq (hd1 ⟨ha1,hb1⟩)⟩
        ·simp(disch:=first|assumption|omega) only[go_sem, ↓reduceIte,Nat.reduceEqDiff,zc,Int.reduceToNat,s0,s2,s3,s7,r57344,s10,s11,s12,hk',hk,ha1',hb1,hdi,hdj]
         refine FIN_of (by kernel_rfl) ?_
         refine Yck ?_
         refine Yau ?_
         rfl
       ·simp(disch:=first|assumption|omega) only[go_sem, ↓reduceIte,Nat.reduceEqDiff,zc,Int.reduceToNat,s0,s2,s3,s7,r57344,s10,s11,s12,hk',hk,ha1,hdi,hdj]
        refine FIN_of (by kernel_rfl) ?_
        refine Yck ?_
        refine Yav ?_
        rfl
      ·rintro sl ro gn ⟨s0,s2,s3,s7,r57344,s10,s11,s12,qqq⟩
       dsimp only at s0 s2 s3 s7 r57344 s10 s11 s12
       have hk': ¬((T.length:Nat):Int)<(T.length:Nat):=by omega
       simp(disch:=first|assumption|omega) only[go_sem, ↓reduceIte,Nat.reduceEqDiff,zc,Int.reduceToNat,s0,s2,s3,s7,r57344,s10,s11,s12,hk']
       exact⟨i64c (by omega),ltS qq (fnd_none.2 qqq)⟩
     ·rintro sl ro gn ⟨s0,s2,s3,s7,r57344,s10,s11,qq⟩
      dsimp only at s0 s2 s3 s7 r57344 s10 s11
      have hj': ¬((T.length:Nat):Int)<(T.length:Nat):=by omega
      simp(disch:=first|assumption|omega) only[go_sem, ↓reduceIte,Nat.reduceEqDiff,zc,Int.reduceToNat,s0,s2,s3,s7,r57344,s10,s11,hj']
      exact⟨i64c (by omega),ltS q (fnd_none.2 qq)⟩
    ·rintro sl ro gn ⟨s0,s2,s3,s7,r57344,s10,q⟩
     dsimp only at s0 s2 s3 s7 r57344 s10
     have hi': ¬((T.length:Nat):Int)<(T.length:Nat):=by omega
     have hF3:F3 T=none:=fnd_none.2 q
     have hRF:RF T=F4 T:=RF4 hF1 hF2 hF3
     clear q
     simp(disch:=first|assumption|omega) only[go_sem, ↓reduceIte,Nat.reduceEqDiff,zc,Int.reduceToNat,s0,s2,s3,s7,r57344,s10,hi']
     refine WK_for (fun i st=>st.sl 0=a∧st.sl 2=nilA∧st.sl 3=i64 (T.length:Int)∧st.sl 13=i64 (i:Int)∧(∀x,x<i→(fnd T.length fun j=>fnd T.length fun k=>fnd T.length fun l=>p4 T x j k l)=none)) T.length ?_ ?_ ?_
     ·simp only[↓za, ↓reduceIte,Nat.reduceEqDiff,zb,reduceCtorEq,rws_zero,s0,s2,s3,s7,r57344,s10,hi']
      exact⟨rfl,lt0⟩
     ·rintro i sl ro gn hi ⟨s0,s2,s3,s13,q⟩
      dsimp only at s0 s2 s3 s13
      have hi':(i:Int)<(T.length:Nat):=by omega
      simp(disch:=first|assumption|omega) only[go_sem, ↓reduceIte,Nat.reduceEqDiff,zc,Int.reduceToNat,s0,s2,s3,s13,hi',hi]
      refine WK_for (fun j st=>st.sl 0=a∧st.sl 2=nilA∧st.sl 3=i64 (T.length:Int)∧st.sl 13=i64 (i:Int)∧st.sl 14=i64 (j:Int)∧(∀x,x<j→(fnd T.length fun k=>fnd T.length fun l=>p4 T i x k l)=none)) T.length ?_ ?_ ?_
      ·simp only[↓za, ↓reduceIte,Nat.reduceEqDiff,zb,reduceCtorEq,rws_zero,s0,s2,s3,s13,hi',hi]
       exact⟨rfl,lt0⟩
      ·rintro j sl ro gn hj ⟨s0,s2,s3,s13,s14,qq⟩
       dsimp only at s0 s2 s3 s13 s14
       have hj':(j:Int)<(T.length:Nat):=by omega
       simp(disch:=first|assumption|omega) only[go_sem, ↓reduceIte,Nat.reduceEqDiff,zc,Int.reduceToNat,s0,s2,s3,s13,s14,hj',hj]
       refine WK_for (fun k st=>st.sl 0=a∧st.sl 2=nilA∧st.sl 3=i64 (T.length:Int)∧st.sl 13=i64 (i:Int)∧st.sl 14=i64 (j:Int)∧st.sl 15=i64 (k:Int)∧(∀x,x<k→(fnd T.length fun l=>p4 T i j x l)=none)) T.length ?_ ?_ ?_
       ·simp only[↓za, ↓reduceIte,Nat.reduceEqDiff,zb,reduceCtorEq,rws_zero,s0,s2,s3,s13,s14,hj',hj]
        exact⟨rfl,lt0⟩
       ·rintro k sl ro gn hk ⟨s0,s2,s3,s13,s14,s15,q3⟩
        dsimp only at s0 s2 s3 s13 s14 s15
        have hk':(k:Int)<(T.length:Nat):=by omega
        simp(disch:=first|assumption|omega) only[go_sem, ↓reduceIte,Nat.reduceEqDiff,zc,Int.reduceToNat,s0,s2,s3,s13,s14,s15,hk',hk]
        refine WK_for (fun l st=>st.sl 0=a∧st.sl 2=nilA∧st.sl 3=i64 (T.length:Int)∧st.sl 13=i64 (i:Int)∧st.sl 14=i64 (j:Int)∧st.sl 15=i64 (k:Int)∧st.sl 16=i64 (l:Int)∧(∀x,x<l→p4 T i j k x=none)) T.length ?_ ?_ ?_
        ·simp only[↓za, ↓reduceIte,Nat.reduceEqDiff,zb,reduceCtorEq,rws_zero,s0,s2,s3,s13,s14,s15,hk',hk]
         exact⟨rfl,lt0⟩
        ·rintro l sl ro gn hl ⟨s0,s2,s3,s13,s14,s15,s16,q4⟩
         dsimp only at s0 s2 s3 s13 s14 s15 s16
         have hl':(l:Int)<(T.length:Nat):=by omega
         simp(disch:=first|assumption|omega) only[go_sem, ↓reduceIte,Nat.reduceEqDiff,zc,Int.reduceToNat,s0,s2,s3,s13,s14,s15,s16,hl',hl]
         refine WK_for (fun m st=>st.sl 0=a∧st.sl 2=nilA∧st.sl 3=i64 (T.length:Int)∧st.sl 13=i64 (i:Int)∧st.sl 14=i64 (j:Int)∧st.sl 15=i64 (k:Int)∧st.sl 16=i64 (l:Int)∧st.sl 17=i64 (sm (lft T i j k l) m)∧st.sl 18=i64 (sm (rgt T i j k l) m)∧st.sl 19=i64 (m:Int)) T.length ?_ ?_ ?_
         ·simp only[↓za, ↓reduceIte,Nat.reduceEqDiff,zb,reduceCtorEq,rws_zero,s0,s2,s3,s13,s14,s15,s16,hl',hl]
          exact⟨rfl,rfl,rfl⟩
         ·rintro m sl ro gn hm ⟨s0,s2,s3,s13,s14,s15,s16,s17,s18,s19⟩
          dsimp only at s0 s2 s3 s13 s14 s15 s16 s17 s18 s19
          have hm':(m:Int)<(T.length:Nat):=by omega
          have hA:=isLLL_mat ha hi
          have hB:=isLLL_mat ha hj
          have hC:=isLLL_mat ha hm
          have hA1:=(h3 i hi).1
          have hB1:=(h3 j hj).1
          have hC1:=(h3 m hm).1
          have hA2:=isLL_row hA (k:=j) (by omega)
          have hA3:=isLL_row hA (k:=m) (by omega)
          have hB2:=isLL_row hB (k:=k) (by omega)
          have hC2:=isLL_row hC (k:=k) (by omega)
          have hA4:=((h3 i hi).2 j hj).1
          have hA5:=((h3 i hi).2 m hm).1
          have hB4:=((h3 j hj).2 k hk).1
          have hC4:=((h3 m hm).2 k hk).1
          have b1:=sm_bnd (lft_bnd hc0 i j k l) m
          have b2:=sm_bnd (rgt_bnd hc0 i j k l) m
          have b3:0≤atI (row (mat T i) j) m*atI (row (mat T m) k) l∧_:=lft_bnd hc0 i j k l m
          have b4:0≤atI (row (mat T j) k) m*atI (row (mat T i) m) l∧_:=rgt_bnd hc0 i j k l m
          have b5:atI (row (mat T i) j) m*atI (row (mat T m) k) l≤1000000:=(lft_bnd hc0 i j k l m).2
          have b6:atI (row (mat T j) k) m*atI (row (mat T i) m) l≤1000000:=(rgt_bnd hc0 i j k l m).2
          refine Ycg ?_
          refine FIN_of (by kernel_rfl) ?_
          refine Ycg ?_
          refine FIN_of (by kernel_rfl) ?_
          refine Ycg ?_
          exact⟨i64c rfl,i64c rfl,i64c (by omega)⟩
         ·rintro sl ro gn ⟨s0,s2,s3,s13,s14,s15,s16,s17,s18,s19⟩
          dsimp only at s0 s2 s3 s13 s14 s15 s16 s17 s18 s19
          have hm': ¬((T.length:Nat):Int)<(T.length:Nat):=by omega
          have hd:(sm (lft T i j k l) T.length=sm (rgt T i j k l) T.length→p4 T i j k l=none)∧(¬sm (lft T i j k l) T.length=sm (rgt T i j k l) T.length→RF T=some [3,(i:Int),(j:Int),(k:Int),(l:Int)]):=
           ⟨fun h=>if_pos h,fun h=>hRF.trans (fnd_some (k:=i) (fnd_some (k:=j) (fnd_some (k:=k) (fnd_some (k:=l) (if_neg h) q4 hl) q3 hk) qq hj) q hi)⟩
          simp(disch:=first|assumption|omega) only[go_sem, ↓reduceIte,Nat.reduceEqDiff,zc,Int.reduceToNat,s0,s2,s3,s13,s14,s15,s16,s17,s18,s19,hm']
          refine⟨fun h=>?_,fun h=>?_⟩
          ·exact⟨i64c (by omega),ltS q4 (hd.1 h)⟩
          ·refine Ydp ?_
           rfl
        ·rintro sl ro gn ⟨s0,s2,s3,s13,s14,s15,s16,q4⟩
         dsimp only at s0 s2 s3 s13 s14 s15 s16
         have hl': ¬((T.length:Nat):Int)<(T.length:Nat):=by omega
         simp(disch:=first|assumption|omega) only[go_sem, ↓reduceIte,Nat.reduceEqDiff,zc,Int.reduceToNat,s0,s2,s3,s13,s14,s15,s16,hl']
         exact⟨i64c (by omega),ltS q3 (fnd_none.2 q4)⟩
       ·rintro sl ro gn ⟨s0,s2,s3,s13,s14,s15,q3⟩
        dsimp only at s0 s2 s3 s13 s14 s15
        have hk': ¬((T.length:Nat):Int)<(T.length:Nat):=by omega
        simp(disch:=first|assumption|omega) only[go_sem, ↓reduceIte,Nat.reduceEqDiff,zc,Int.reduceToNat,s0,s2,s3,s13,s14,s15,hk']
        exact⟨i64c (by omega),ltS qq (fnd_none.2 q3)⟩
      ·rintro sl ro gn ⟨s0,s2,s3,s13,s14,qq⟩
       dsimp only at s0 s2 s3 s13 s14
       have hj': ¬((T.length:Nat):Int)<(T.length:Nat):=by omega
       simp(disch:=first|assumption|omega) only[go_sem, ↓reduceIte,Nat.reduceEqDiff,zc,Int.reduceToNat,s0,s2,s3,s13,s14,hj']
       exact⟨i64c (by omega),ltS q (fnd_none.2 qq)⟩
     ·rintro sl ro gn ⟨s0,s2,s3,s13,q⟩
      dsimp only at s0 s2 s3 s13
      have hi': ¬((T.length:Nat):Int)<(T.length:Nat):=by omega
      have e:RF T=none:=hRF.trans (fnd_none.2 q)
      simp(disch:=first|assumption|omega) only[go_sem, ↓reduceIte,Nat.reduceEqDiff,zc,Int.reduceToNat,s0,s2,s3,s13,hi']
      simp only[zr,zb,retR,resL,outT,outL,zes,zez,oneV,zcp,zed,zfi,Ro.dl,St.ev,zhk, ↓za, ↓reduceIte,Nat.reduceEqDiff,Nat.reduceAdd,Nat.reduceLeDiff,e,s2]
      rfl
theorem NL_iff{xs:List Int}:allW xs 0 55440=true↔NL xs:=allW_iff
theorem c115{a:AV}{xs:List Int}(ha:isL a xs)(hx:xs.length≤maxN):CallOK Tryz.prog 65 [a] (bo (allW xs 0 55440)):=by
 refine call_of (fn:=Tryz.f65) (code:=bodyOf Tryz.f65) Tryz.func65 rfl (by kernel_rfl) (rfl) ?_
 intro sl hs
 have s0:sl 0=a:=hs 0
 dsimp only[Tryz.f65,bodyOf,Option.getD]
 refine Yax ?_
 refine CLL_pure _ (c129 ha hx) (by simp(disch:=assumption) only[pureL,pureA,isL_pure,isLL_pure,isLLL_pure,pureL_map,Bool.and_self,Bool.and_true]) rfl rfl ?_
 refine Yax ?_
 exact Yaa
def NLL(S:List (List Int)):Prop:= ∀i,i<S.length→NL (row S i)
def BlockP(S:List (List Int))(m:Int):Prop:=(∀i,i<S.length→1≤(row S i).length∧(row S i).length≤16∧(row S i).length=(row S 0).length)∧m≤S.length∧S.length≤16
def MatP(S:List (List Int)):Prop:=BlockP S 1∧NLL S
theorem c159{a b:AV}{xs ys:List Int}(ha:isL a xs)(hb:isL b ys)(hx:xs.length≤maxN):CallOK Tryz.prog 138 [a,b] (bo (decide (xs=ys))):=by
 have hx':xs.length≤4294967296:=hx
 refine call_of (fn:=Tryz.f138) (code:=bodyOf Tryz.f138) Tryz.func138 rfl (by kernel_rfl) (rfl) ?_
 intro sl hs
 have s0:sl 0=a:=hs 0
 have s1:sl 1=b:=hs 1
 by_cases hl:xs.length=ys.length
 ·dsimp only[Tryz.f138,bodyOf,Option.getD]
  refine Yaj ?_
  refine WK_for (fun i st=>st.sl 0=a∧st.sl 1=b∧st.sl 12=i64 (xs.length:Int)∧st.sl 13=i64 (i:Int)∧(∀x,x<i→atI xs x=atI ys x)) xs.length ?_ ?_ ?_
  ·refine Yae ?_
   exact⟨rfl,lt0⟩
  ·rintro i sl ro gn hi ⟨s0,s1,s12,s13,q⟩
   dsimp only at s0 s1 s12 s13
   have hi':(i:Int)<(xs.length:Nat):=by omega
   simp(disch:=first|assumption|omega) only[go_sem, ↓reduceIte,Nat.reduceEqDiff,zc,s0,s1,s12,s13,hi',hi]
   refine FIN_of (by kernel_rfl) ?_
   simp(disch:=first|assumption|omega) only[go_sem, ↓reduceIte,Nat.reduceEqDiff,zc,s0,s1,s12,s13,hi',hi]
   refine⟨fun h=>⟨i64c (by omega),ltS q h⟩,fun h=>?_⟩
   refine Yab ?_
   exact(decide_eq_false fun e=>h (by rw[e])).symm
  ·rintro sl ro gn ⟨s0,s1,s12,s13,q⟩
   dsimp only at s0 s1 s12 s13
   have hi': ¬((xs.length:Nat):Int)<(xs.length:Nat):=by omega
   simp only[go_sem, ↓reduceIte,Nat.reduceEqDiff,zc,s0,s1,s12,s13,hi']
   refine Yab ?_
   exact(decide_eq_true (eq_of_atI hl q)).symm
 ·dsimp only[Tryz.f138,bodyOf,Option.getD]
  refine Yaj ?_
  refine Yab ?_
  exact(decide_eq_false fun e=>hl (by rw[e])).symm
theorem c158{a b:AV}{xs ys:List (List Int)}(ha:isLL a xs)(hb:isLL b ys)(hx:xs.length≤maxN)(hr: ∀i,i<xs.length→(row xs i).length≤maxN):CallOK Tryz.prog 137 [a,b,.fn 138 []] (bo (decide (xs=ys))):=by
 have hx':xs.length≤4294967296:=hx
 refine call_of (fn:=Tryz.f137) (code:=bodyOf Tryz.f137) Tryz.func137 rfl (by kernel_rfl) (rfl) ?_
 intro sl hs
 have s0:sl 0=a:=hs 0
 have s1:sl 1=b:=hs 1
 have s2:sl 2= .fn 138 []:=hs 2
 by_cases hl:xs.length=ys.length
 ·dsimp only[Tryz.f137,bodyOf,Option.getD]
  refine Ybl ?_
  refine WK_for (fun i st=>st.sl 0=a∧st.sl 1=b∧st.sl 2= .fn 138 []∧st.sl 15=a∧st.sl 16=i64 (xs.length:Int)∧st.sl 17=i64 (i:Int)∧(∀x,x<i→row xs x=row ys x)) xs.length ?_ ?_ ?_
  ·refine Yat ?_
   exact⟨rfl,lt0⟩
  ·rintro i sl ro gn hi ⟨s0,s1,s2,s15,s16,s17,q⟩
   dsimp only at s0 s1 s2 s15 s16 s17
   have hi':(i:Int)<(xs.length:Nat):=by omega
   have h1:=isLL_row ha hi
   have h2:=isLL_row hb (k:=i) (by omega)
   refine Ycz ?_
   refine CLL_pure _ (c159 h1 h2 (hr i hi)) (by simp(disch:=assumption) only[pureL,pureA,isL_pure,isLL_pure,isLLL_pure,pureL_map,Bool.and_self,Bool.and_true]) rfl rfl ?_
   refine Ycz ?_
   refine⟨fun h=>⟨i64c (by omega),ltS q h⟩,fun h=>?_⟩
   refine Yab ?_
   exact(decide_eq_false fun e=>h (by rw[e])).symm
  ·rintro sl ro gn ⟨s0,s1,s2,s15,s16,s17,q⟩
   dsimp only at s0 s1 s2 s15 s16 s17
   have hi': ¬((xs.length:Nat):Int)<(xs.length:Nat):=by omega
   simp only[go_sem, ↓reduceIte,Nat.reduceEqDiff,zc,s0,s1,s2,s15,s16,s17,hi']
   refine Yab ?_
   exact(decide_eq_true (isLs_inj hl q)).symm
 ·dsimp only[Tryz.f137,bodyOf,Option.getD]
  refine Ybl ?_
  refine Yab ?_
  exact(decide_eq_false fun e=>hl (by rw[e])).symm
abbrev matA(f:Nat→Nat→Int)(n m:Nat):AV:= .row (rws (fun i=> .row (rws (fun j=>i64 (f i j)) m)) n)
def upd2(f:Nat→Nat→Int)(i j:Nat)(v:Int):Nat→Nat→Int:=fun x y=>if x=i∧y=j then v else f x y
def matL(f:Nat→Nat→Int)(n m:Nat):List (List Int):=rws (fun i=>rws (fun j=>f i j) m) n
theorem matL_row{f:Nat→Nat→Int}{n m i:Nat}(h:i<n):row (matL f n m) i=rws (fun j=>f i j) m:=row_rws _ h
theorem matL_at{f:Nat→Nat→Int}{n m i j:Nat}(hi:i<n)(hj:j<m):atI (row (matL f n m) i) j=f i j:=by rw[matL_row hi,atI_rws _ hj]
theorem rowLL_mat(f:Nat→Nat→Int)(n m:Nat):rowLL (matL f n m)=matA f n m:=by simp only[rowLL,rowL,matL,rws_map]
theorem noRef_mat(f:Nat→Nat→Int)(n m:Nat):noRef (matA f n m)=true:=noRef_row _ (noRefL_rws _ _ fun _=>noRef_row _ (noRefL_rws _ _ fun _=>rfl))
theorem noI_mat(f:Nat→Nat→Int)(n m:Nat):noI (matA f n m)=true:=noI_row _ (noIL_map _ (fun _=>noI_row _ (noIL_map _ (fun _=>rfl) _)) _)
theorem mat_congr{f g:Nat→Nat→Int}{n m:Nat}(h: ∀i j,i<n→j<m→f i j=g i j):matA f n m=matA g n m:=
 congrArg AV.row (rws_congr fun x hx=>congrArg AV.row (rws_congr fun y hy=>by rw[h x y hx hy]))
theorem bx1_rws{f:Nat→List AV}{n i:Nat}(h:i<n):bx1 (some (.row (rws (fun i=> .row (f i)) n))) i=false:=bx1_row (rws_get _ _ _ h)
theorem wr1_mat{f:Nat→Nat→Int}{n m i j:Nat}{v:Int}{ro:Ro}{s g:Nat}(hi:i<n)(hj:j<m):wr1 (some (.row (rws (fun i=> .row (rws (fun j=>i64 (f i j)) m)) n))) ro s g i j [i64 v]=upr ro s g (matA (upd2 f i j v) n m):=by
 rw[wr1_row (rws_get _ _ _ hi),setL,setL,rws_set,rws_set]
 refine congrArg (upr ro s g) (congrArg AV.row (rws_congr fun x hx=>?_))
 by_cases hxi:x=i
 ·subst hxi
  rw[if_pos rfl]
  refine congrArg AV.row (rws_congr fun y hy=>?_)
  by_cases hyj:y=j
  ·subst hyj;rw[if_pos rfl];simp[upd2]
  ·rw[if_neg hyj];simp[upd2,hyj]
 ·rw[if_neg hxi]
  refine congrArg AV.row (rws_congr fun y hy=>?_)
  simp[upd2,hxi]
theorem exq_mat{n:Nat}{ro:Ro}{s g k m:Nat}{f:Nat→Nat→Int}(h:ro s g=some (matA f k m))(hn:3≤n):exq n ro (.ref s g [] 0 k) (immLL (matL f k m)):=by
 have:=exq_refLL (ro:=ro) (s:=s) (g:=g) (m:=k) (n:=n) (xs:=matL f k m) (by rw[h,rowLL_mat]) (by simp only[matL,zfe]) hn
 exact this
theorem isLL_mat(f:Nat→Nat→Int)(n m:Nat):isLL (immLL (matL f n m)) (matL f n m):=isLL_imm _
theorem nrL_mat(f:Nat→Nat→Int)(n m:Nat):noRefL (rws (fun i=> .row (rws (fun j=>i64 (f i j)) m)) n)=true:=noRefL_rws _ _ fun _=>noRef_row _ (noRefL_rws _ _ fun _=>rfl)
theorem noRefL_c(a:AV)(l:List AV):noRefL (a::l)=(noRef a&&noRefL l):=by simp only[noRefL]
theorem noRef_s(v:Value):noRef (.sc v)=true:=nr _
theorem pureL_n:pureL []=true:=nr _
theorem pureL_c(a:AV)(l:List AV):pureL (a::l)=(pureA a&&pureL l):=by simp only[pureL]
theorem pureA_ref(s g:Nat)(p:List Nat)(o n:Nat):pureA (.ref s g p o n)=false:=nr _
theorem pureA_ptr(s g:Nat)(p:List Nat)(o:Nat):pureA (.ptr s g p o)=false:=nr _
theorem pureA_sc(v:Value):pureA (.sc v)=true:=nr _
theorem pureA_agg(l:List AV):pureA (.agg l)=pureL l:=by simp only[pureA]
attribute [go_sem] isLL_sh isLLL_sh isL_pure isLL_pure isLLL_pure nrL_mat noRefL_c noRef_s pureL_n pureL_c pureA_ref pureA_ptr pureA_sc pureA_agg
attribute [go_sem] inO_row rowO_row isBx_one wr_one bx1_rws wr1_mat impE_row List.length_map tms_len
theorem c126m{n m:Nat}(hn:n≤maxN)(hm:m≤maxN):CallOK Tryz.prog 130 [i64 n,i64 m] (matA (fun _ _=>0) n m):=by
 have:=c126 hn hm
 rwa [show rws (fun _=>rws (fun _=>(0:Int)) m) n=matL (fun _ _=>0) n m from rfl,rowLL_mat]at this
def dgE(T:List Int)(k:Nat)(i j:Nat):Int:=if i=j∧i<k then atI T i else 0
def sclL(S:List (List Int))(w:Int):List (List Int):=rws (fun i=>rws (fun j=>atI (row S i) j*w % 55441) (row S i).length) S.length
def StaP(S:List (List Int))(T:List Int):Prop:=S=trp S∧atI (row S 0) 0=1∧atI T 0=1∧(∀i,i<T.length→atI (row S 0) i≠0)∧(∀i,i<T.length→atI T i≠0)
def uE(S:List (List Int))(T:List Int)(i j:Nat):Int:=atI (row S i) j*atI T j % 55441
theorem sm_one{f:Nat→Int}{j:Nat}: ∀ {n:Nat},(∀k,k<n→k≠j→f k=0)→sm f n=if j<n then f j else 0
 |0,_=>rfl
 |n+1,h=>by
  simp only[sm]
  rw[sm_one fun k hk=>h k (by omega)]
  by_cases h1:j<n
  ·rw[if_pos h1,if_pos (by omega),h n (by omega) (by omega),Int.add_zero]
  ·rw[if_neg h1]
   by_cases h2:j=n
   ·subst h2;rw[if_pos (by omega),Int.zero_add]
   ·rw[if_neg (by omega),h n (by omega) (by omega)];rfl
def uM(S:List (List Int))(T:List Int):List (List Int):=matL (uE S T) T.length T.length
def gsV(S:List (List Int))(T:List Int):Int:=sm (gsT S T) T.length % 55441
def TurP(S:List (List Int))(T:List Int):Prop:=tms (tms (uM S T) (uM S T)) (uM S T)=sclL (tms S S) (gsV S T)
def F2Z(T:List (List (List Int)))(z:Int):Prop:=(F2 T=none∧z= -1)∨ ∃i:Nat,F2 T=some [1,(i:Int)]∧z=i
theorem fnd_ex{α:Type}{p:Nat→Option α}{v:α}: ∀ {n:Nat},fnd n p=some v→ ∃k,k<n∧p k=some v
 |0,h=>by cases h
 |n+1,h=>by
  simp only[fnd]at h
  cases hf:fnd n p with
  |some w=>
   rw[hf]at h
   obtain⟨k,hk,e⟩:=fnd_ex (p:=p) (n:=n) (v:=v) (by rw[hf];exact h)
   exact⟨k,by omega,e⟩
  |none=>
   rw[hf]at h
   exact⟨n,by omega,h⟩
section
variable{ro:Ro}{s g o n:Nat}{p:List Nat}{cs:List AV}{a1:Nat}{a2:Bool}{a3:List Value}{e:Nat}{a5:List (Nat×Nat)}{a6:Option IntKind}{a7 a8:Bool}{a9 a10:Option (Nat×Nat)}
theorem kB_neR:kBin0 (some ⟨a1,a2,a3,some e,a5,a6,a7,a8,a9,a10⟩) ro .neq (.ref s g p o n) (.sc (.slice none 0 0))=if(ro.cells s g p).isSome=true then some ⟨bo true,none,[],[]⟩else none:=nr _
theorem kB_eqR:kBin0 (some ⟨a1,a2,a3,some e,a5,a6,a7,a8,a9,a10⟩) ro .eql (.ref s g p o n) (.sc (.slice none 0 0))=if(ro.cells s g p).isSome=true then some ⟨bo false,none,[],[]⟩else none:=nr _
theorem kB_eqI:kBin0 (some ⟨a1,a2,a3,some e,a5,a6,a7,a8,a9,a10⟩) ro .eql (.imm cs) (.sc (.slice none 0 0))=some ⟨bo false,none,[],[]⟩:=nr _
theorem kB_neN:kBin0 (some ⟨a1,a2,a3,some e,a5,a6,a7,a8,a9,a10⟩) ro .neq (.sc (.slice none 0 0)) (.sc (.slice none 0 0))=some ⟨bo false,none,[],[]⟩:=nr _
theorem kB_eqN:kBin0 (some ⟨a1,a2,a3,some e,a5,a6,a7,a8,a9,a10⟩) ro .eql (.sc (.slice none 0 0)) (.sc (.slice none 0 0))=some ⟨bo true,none,[],[]⟩:=nr _
end
attribute [go_sem] kB_neR kB_eqR kB_eqI kB_neN kB_eqN
theorem exq_fn{n f:Nat}{ro:Ro}{cs cs':List AV}(h:exqL n ro cs cs'):exq (n+1) ro (.fn f cs) (.fn f cs'):=by
 refine⟨fun k hk=>?_,fun hp=>by rw[h.pureE (by simpa only[pureA]using hp)]⟩
 obtain⟨j,rfl⟩: ∃j,k=j+1:=⟨k-1,by omega⟩
 show AV.fn f (cs.map (ex ro j))=_
 rw[h.mapE j (by omega)]
theorem exq_ptr{n s g:Nat}{ro:Ro}{v:Value}(h:ro s g=some (.bx [.sc v]))(hn:2≤n):exq n ro (.ptr s g [] 0) (.iptr [.sc v]):=by
 refine⟨fun k hk=>?_,fun hp=>by simp[pureA]at hp⟩
 obtain⟨j,rfl⟩: ∃j,k=j+2:=⟨k-2,by omega⟩
 simp only[ex,zef,h,zei,List.drop_zero,List.map_cons,List.map_nil]
def RingP(T:List (List (List Int))):Prop:=CubeP T∧RF T=none
section
variable{ro:Ro}{s g o n:Nat}{p:List Nat}{a1:Nat}{a2:Bool}{a3:List Value}{e:Nat}{a5:List (Nat×Nat)}{a6:Option IntKind}{a7 a8:Bool}{a9 a10:Option (Nat×Nat)}
theorem kLen_ref:kLen1 (some ⟨a1,a2,a3,some e,a5,a6,a7,a8,a9,a10⟩) ro (.ref s g p o n)=if(ro.cells s g p).isSome=true then some ⟨i64 n,none,[],[]⟩else none:=by
 simp only[kLen1,Option.isSome_some,true_and]
theorem kLen_nil:kLen1 (some ⟨a1,a2,a3,some e,a5,a6,a7,a8,a9,a10⟩) ro (.sc (.slice none 0 0))=some ⟨i64 0,none,[],[]⟩:=nr _
end
attribute [go_sem] kLen_ref kLen_nil
theorem PUt{l:List AV}(h:pureL l=true:=by simp(disch:=assumption) only[pureL,pureA,isL_pure,isLL_pure,isLLL_pure,pureL_map,Bool.and_self,Bool.and_true]):pureL l=true:=h
end Go.Proofs.YtbakhfiibjkifaaGreat
