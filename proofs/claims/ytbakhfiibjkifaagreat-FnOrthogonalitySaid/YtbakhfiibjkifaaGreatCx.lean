/- Texts joined: Cy5 Cx1 Cx2 Cx3 Cx4 Cx5 Cx6. -/
import Derived.Test.YtbakhfiibjkifaaGreatOa
import Derived.Test.YtbakhfiibjkifaaGreatCf
import Derived.Test.YtbakhfiibjkifaaGreatCg
import Derived.Test.YtbakhfiibjkifaaGreatMj
import Derived.Test.YtbakhfiibjkifaaGreatRe
set_option linter.all false
/- Characters: the statement's small functions: remainders, sums of lists, lists of dice. -/
namespace Go.Proofs.YtbakhfiibjkifaaGreat
open Go.RowKit
set_option maxRecDepth 1000000
theorem cMod5{n:Int}(h: -1000000000000≤n∧n≤1000000000000):CallOK Tryz.prog 15 [i64 n] (i64 (n % 55441)):=by
 have e0:Int.tmod n 55441=if 0≤n then n % 55441 else-((-n) % 55441):=by
  split
  ·rename_i h0;exact Int.tmod_eq_emod_of_nonneg h0
  ·rename_i h0
   rw[←Int.tmod_eq_emod_of_nonneg (show 0≤ -n by omega),Int.neg_tmod,Int.neg_neg]
 have b: -55441<Int.tmod n 55441∧Int.tmod n 55441<55441:=by rw[e0];split<;>omega
 have e:Int.tmod (Int.tmod n 55441+55441) 55441=n % 55441:=by
  rw[Int.tmod_eq_emod_of_nonneg (by omega),e0]
  split<;>omega
 refine call_of (fn:=Tryz.f15) (code:=bodyOf Tryz.f15) Tryz.func15 rfl (by kernel_rfl) (rfl) ?_
 intro sl hs
 have s0:sl 0=i64 n:=hs 0
 dsimp only[Tryz.f15,bodyOf,Option.getD]
 refine Yac ?_
 exact Yah
noncomputable def pl5(x y:List Int)(k:Int):List Int:=rws (fun i=>(atI x i+k*atI y i) % 55441) x.length
theorem pl5_len(x y:List Int)(k:Int):(pl5 x y k).length=x.length:=zfe _ _
theorem cPl5{a b:AV}{x y:List Int}{k:Int}(ha:isL a x)(hb:isL b y)(hl:x.length=y.length)(lx:x.length≤65536)(nx:numL x)(ny: ∀j,0≤atI y j∧atI y j≤1000)(nk:num k):CallOK Tryz.prog 14 [a,b,i64 k] (rowL (pl5 x y k)):=by
 have hl':(x.length:Int)=y.length:=by omega
 unfold pl5
 refine call_of (fn:=Tryz.f14) (code:=bodyOf Tryz.f14) Tryz.func14 rfl (by kernel_rfl) (noRef_rowL _) ?_
 intro sl hs
 have s0:sl 0=a:=hs 0
 have s1:sl 1=b:=hs 1
 have s2:sl 2=i64 k:=hs 2
 dsimp only[Tryz.f14,bodyOf,Option.getD]
 simp(disch:=first|assumption|omega) only[go_sem, ↓reduceIte,Nat.reduceEqDiff,zc,s0,s1,s2,isL_len ha,isL_len hb,eq_true hl']
 refine WK_for (fun i st=>st.sl 0=a∧st.sl 1=b∧st.sl 2=i64 k∧st.sl 8=i64 (i:Int)∧st.sl 7= .ref 16384 (st.gn 16384) [] 0 i∧st.ro 16384 (st.gn 16384)=some (.row (rws (fun i=>i64 ((atI x i+k*atI y i) % 55441)) i))) x.length ?_ ?_ ?_
 ·refine Yat ?_
  repeat' first|rfl|apply And.intro
 ·rintro i sl ro gn hi ⟨s0,s1,s2,s8,s7,r16384⟩
  dsimp only at s0 s1 s2 s8 s7 r16384
  have hi':(i:Int)<(x.length:Nat):=by omega
  have hi2:i+1≤4294967296:=by omega
  have hy:i<y.length:=by omega
  have b1:=nx i
  have b2:=ny i
  have b3:=nk
  unfold num at b1 b3
  have b4:=mulB b3.1 (show k≤55440 by omega) b2.1 b2.2
  have cm:=cMod5 (n:=atI x i+k*atI y i) (by omega)
  simp(disch:=first|assumption|omega) only[go_sem, ↓reduceIte,Nat.reduceEqDiff,zc,s0,s1,s2,s8,s7,r16384,hi',hi,isL_len ha,isL_idx ha hi,isL_idx hb hy]
  refine CLLD_pure _ cm PUt rfl ?_
  refine Yfz ?_
  refine FIN_of (by kernel_rfl) ?_
  refine Yfz ?_
  exact i64c (by omega)
 ·rintro sl ro gn ⟨s0,s1,s2,s8,s7,r16384⟩
  dsimp only at s0 s1 s2 s8 s7 r16384
  have hi': ¬((x.length:Nat):Int)<(x.length:Nat):=by omega
  simp only[go_sem, ↓reduceIte,Nat.reduceEqDiff,zc,s0,s1,s2,s8,s7,r16384,hi',isL_len ha]
  simp only[zr,zb,retR,resL,outT,outL,zes,zez,oneV,zcp,zed,zfi,Ro.dl,St.ev,zhk, ↓za, ↓reduceIte,Nat.reduceEqDiff,Nat.reduceAdd,Nat.reduceLeDiff,r16384,rowL,rws_map]
def Dic(a:AV)(bs:List Int)(o:Option AV):Prop:= ∃(k:Nat) (h:Int),k≤bs.length∧o=some (srcV a (k:Int) h)
def CxR(g:Nat):Nat→Nat→Prop:=fun x y=>x=8320∧y=g
def Wl5:List Nat:=[8320,8192,20528]
section
variable{a:AV}{bs:List Int}{g:Nat}{ro0:Ro}{gn0:Nat→Nat}
end
def Wd1:List Nat:=[8288,24592]
def Wd2:List Nat:=[8288,24592,8192,20528]
def Wd3:List Nat:=[8288,24592,8192,20528,20496,32800]
theorem unities: ∀k,k<11→1≤atI [1,2,3,4,5,7,8,11,16,24,55440] k∧atI [1,2,3,4,5,7,8,11,16,24,55440] k≤55440:=by decide
section
variable{a:AV}{bs:List Int}{g:Nat}{ro0:Ro}{gn0:Nat→Nat}
theorem sDr1(hc:Cod a bs)(hs:Src a bs (ro0 8288 g)):InS Tryz.prog 69 [.ptr 8288 g [] 0] ro0 gn0 (fun r ro' gn'=>Frx Wd1 (CxS g) ro0 gn0 ro' gn'∧Src a bs (ro' 8288 g)∧ ∃v:Int,r=i64 v):=by
 have hs1:=hs
 refine in_ofS (fn:=Tryz.f69) (code:=bodyOf Tryz.f69) Tryz.func69 rfl (by kernel_rfl) ?_
 intro sl hs
 have s0:sl 0= .ptr 8288 g [] 0:=hs 0
 dsimp only[Tryz.f69,bodyOf,Option.getD]
 refine Yax ?_
 refine CLL_inS rfl (sNext hc hs1 (n:=5) (by omega)) ?_
 rintro _ _ _ ⟨v,rfl, -, hv,rfl,w,rfl,hw⟩
 by_cases h0:v=0
 ·simp only[go_sem, ↓reduceIte,Nat.reduceEqDiff,zc,s0,eq_true h0]
  refine CLL_inS rfl (sNext hc (Ue hw) (n:=55441) (by omega)) ?_
  rintro _ _ _ ⟨z,rfl, -, hz,rfl,w2,rfl,hw2⟩
  refine Yax ?_
  exact RETS_1 (i64 z) Ur ⟨KFt,Ue hw2,z,rfl⟩
 ·by_cases h1:v=1
  ·simp(disch:=first|assumption|omega) only[go_sem, ↓reduceIte,Nat.reduceEqDiff,zc,s0,eq_false h0,eq_true h1]
   refine CLL_inS rfl (sPick (s2:=24592) hc (Ue hw) (xs:=[1,2,3,4,5,7,8,11,16,24,55440]) Ur (by decide) (Nat.succ_pos _) (by show 11<4611686018427387904;decide)) ?_
   rintro _ _ _ ⟨k,hk,rfl,rfl,w2,rfl,hw2⟩
   obtain⟨k1,k2⟩:=unities k hk
   generalize atI [1,2,3,4,5,7,8,11,16,24,55440] k=z at k1 k2
   refine Yax ?_
   refine CLL_pure _ (c73 k1 k2) rfl rfl rfl ?_
   refine Yax ?_
   exact RETS_1 (i64 (pw 38 (55440 / z))) Ur ⟨KFt,Ue hw2,_,rfl⟩
  ·by_cases h2:v=2
   ·simp only[go_sem, ↓reduceIte,Nat.reduceEqDiff,zc,s0,eq_false h0,eq_false h1,eq_true h2]
    refine CLL_inS rfl (sNext hc (Ue hw) (n:=21) (by omega)) ?_
    rintro _ _ _ ⟨z,rfl, -, hz,rfl,w2,rfl,hw2⟩
    obtain⟨z0,z1⟩:=hz (by omega)
    refine Yac ?_
    refine CLL_pure _ (cModS (x:=z-10) (by omega) (by omega)) rfl rfl rfl ?_
    refine Yax ?_
    exact RETS_1 (i64 ((z-10) % 55441)) Ur ⟨KFt,Ue hw2,_,rfl⟩
   ·simp only[go_sem, ↓reduceIte,Nat.reduceEqDiff,zc,s0,eq_false h0,eq_false h1,eq_false h2]
    refine CLL_inS rfl (sNext hc (Ue hw) (n:=41) (by omega)) ?_
    rintro _ _ _ ⟨z,rfl, -, hz,rfl,w2,rfl,hw2⟩
    obtain⟨z0,z1⟩:=hz (by omega)
    refine Yac ?_
    refine CLL_pure _ (cModS (x:=z-20) (by omega) (by omega)) rfl rfl rfl ?_
    refine Yax ?_
    refine CLL_inS rfl (sNext hc (Ue hw2) (n:=20) (by omega)) ?_
    rintro _ _ _ ⟨y,rfl, -, hy,rfl,w3,rfl,hw3⟩
    obtain⟨y0,y1⟩:=hy (by omega)
    refine Yac ?_
    refine CLL_pure _ (c59 (a:=1+y) (by omega) (by omega)) rfl rfl rfl ?_
    have p0:=pw_nonneg (1+y) 55439
    have p1:=pw_lt (1+y) 55439
    have q0:0≤(z-20) % 55441:=Int.emod_nonneg _ (by decide)
    have q1:(z-20) % 55441<55441:=Int.emod_lt_of_pos _ (by decide)
    have hmul:=mulB q0 (show (z-20) % 55441≤55440 by omega) p0 (show pw (1+y) 55439≤55440 by omega)
    generalize (z-20) % 55441=q at*
    generalize pw (1+y) 55439=p at*
    refine Yac ?_
    exact RETS_1 (i64 (Int.tmod (q*p) 55441)) Ur ⟨KFt,Ue hw3,_,rfl⟩
def VcR(n:Nat)(gn:Nat→Nat)(r:AV)(ro':Ro)(gn':Nat→Nat):Prop:= ∃(u:Nat) (L:List Int),r= .ref 8192 u [] 0 L.length∧ro' 8192 u=some (rowL L)∧gn 8192<u∧u≤gn' 8192∧n≤L.length∧L.length≤n+1
set_option maxHeartbeats 4000000 in
theorem sList{n:Nat}(hc:Cod a bs)(hs:Src a bs (ro0 8288 g))(hn:n≤1000):InS Tryz.prog 126 [.ptr 8288 g [] 0,i64 (n:Int)] ro0 gn0 (fun r ro' gn'=>Frx Wd2 (CxS g) ro0 gn0 ro' gn'∧Src a bs (ro' 8288 g)∧ ∃(u:Nat) (L:List Int),r= .ref 8192 u [] 0 L.length∧ro' 8192 u=some (rowL L)∧gn0 8192<u∧u≤gn' 8192∧L.length=n):=by
 have hs1:=hs
 refine in_ofS (fn:=Tryz.f126) (code:=bodyOf Tryz.f126) Tryz.func126 rfl (by kernel_rfl) ?_
 intro sl hs
 have s0:sl 0= .ptr 8288 g [] 0:=hs 0
 have s1:sl 1=i64 (n:Int):=hs 1
 dsimp only[Tryz.f126,bodyOf,Option.getD]
 simp(maxSteps:=10000000) (disch:=first|assumption|omega) only[go_sem, ↓reduceIte,Nat.reduceEqDiff,reduceCtorEq,Nat.reduceAdd,Nat.reduceMul,Nat.reduceLeDiff,zc,Int.reduceToNat,s0,s1]
 refine WK_for (fun k st=>st.sl 0= .ptr 8288 g [] 0∧st.sl 1=i64 ((n:Int)-k)∧st.sl 5= .ref 8192 (st.gn 8192) [] 0 k∧(Frx Wd2 (CxS g) ro0 gn0 st.ro st.gn)∧(Src a bs (st.ro 8288 g))∧(gn0 8192<st.gn 8192)∧(∃L:List Int,L.length=k∧st.ro 8192 (st.gn 8192)=some (rowL L))) n ?_ ?_ ?_
 ·refine Yae ?_
  exact⟨congrArg i64 (by omega),KFt,hs1,by omega,[],rfl,rfl⟩
 ·rintro k sl ro gn hk ⟨s0,s1,s5,hF,hS,hl,hL⟩
  dsimp only at s0 s1 s5
  have hk':(k:Int)<(n:Nat):=by omega
  dsimp only at hF hS hl hL
  obtain⟨L,lL,rL⟩:=hL
  have hgt:(0:Int)<(n:Int)-k:=by omega
  have hk2:k+1≤4294967296:=by omega
  simp only[go_sem, ↓reduceIte,Nat.reduceEqDiff,zc,s0,s1,s5,hk',hk,eq_true hgt]
  refine CLL_inS rfl (sDr1 hc hS) ?_
  rintro _ ro1 gn1 ⟨fr1,hS1,z,rfl⟩
  have hF1:Frx Wd2 (CxS g) ro0 gn0 ro1 gn1:=hF.trans (fr1.monoB (by decide)) (fun x y h=> .inr h)
  have e8:=fr1.off 8192 (by decide)
  dsimp only at e8
  have rL1:ro1 8192 (gn 8192)=some (rowL L):=by rw[e8.1];exact rL
  have lm:(L.map i64).length=k:=by rw[List.length_map];exact lL
  have u8:=hF.up 8192
  have u20:=hF1.up 20528
  rw[rowL]at rL1
  have e82:=e8.2
  simp(maxSteps:=10000000) (disch:=first|assumption|omega) only[go_sem, ↓reduceIte,Nat.reduceEqDiff,reduceCtorEq,Nat.reduceAdd,Nat.reduceMul,Nat.reduceLeDiff,zc,Int.reduceToNat,s0,s1,s5,hk',hk,rL1,lm,hk2,e82]
  refine⟨congrArg i64 (by omega),?_,by first|exact hS1|(simp only[↓za, ↓reduceIte,Nat.reduceEqDiff,zb,reduceCtorEq];exact hS1),L++ [z],by rw[List.length_append,lL];rfl,by rw[List.take_of_length_le (by omega)];show some (AV.row _)=some (AV.row _);rw[List.map_append];rfl⟩
  rw[←e82]
  (repeat' first|assumption|exact Frx.refl _ _ _ _|refine Frx.al ?_ _ _ _ (by decide) rfl|refine Frx.wr ?_ _ _ _ (by decide) (by first|(left;omega)|(right;exact⟨rfl,rfl⟩)|(right;exact .inl ⟨rfl,rfl⟩)|(right;exact .inr ⟨rfl,rfl⟩)|(right;exact .inr (.inl ⟨rfl,rfl⟩))|(right;exact .inr (.inr ⟨rfl,rfl⟩))))
 ·rintro sl ro gn ⟨s0,s1,s5,hF,hS,hl,hL⟩
  dsimp only at s0 s1 s5
  have hk': ¬((n:Nat):Int)<(n:Nat):=by omega
  dsimp only at hF hS hl hL
  obtain⟨L,lL,rL⟩:=hL
  have hgt: ¬(0:Int)<(n:Int)-n:=by omega
  simp only[go_sem, ↓reduceIte,Nat.reduceEqDiff,zc,s0,s1,s5,hk',eq_false hgt]
  exact RETS_1 (.ref 8192 (gn 8192) [] 0 n) Ur ⟨hF,hS,gn 8192,L,by rw[lL],rL,hl,Nat.le_refl _,lL⟩
end
section
variable{a:AV}{bs:List Int}{g:Nat}{ro0:Ro}{gn0:Nat→Nat}
set_option maxHeartbeats 4000000 in
theorem sVec{n:Nat}(hc:Cod a bs)(hs:Src a bs (ro0 8288 g))(hn:n≤1000):InS Tryz.prog 96 [.ptr 8288 g [] 0,i64 (n:Int)] ro0 gn0 (fun r ro' gn'=>Frx Wd3 (CxS g) ro0 gn0 ro' gn'∧Src a bs (ro' 8288 g)∧VcR n gn0 r ro' gn'):=by
 have hs1:=hs
 refine in_ofS (fn:=Tryz.f96) (code:=bodyOf Tryz.f96) Tryz.func96 rfl (by kernel_rfl) ?_
 intro sl hs
 have s0:sl 0= .ptr 8288 g [] 0:=hs 0
 have s1:sl 1=i64 (n:Int):=hs 1
 dsimp only[Tryz.f96,bodyOf,Option.getD]
 refine Yap ?_
 refine CLL_inS rfl (sList hc hs1 hn) ?_
 rintro _ ro1 gn1 ⟨fr1,hS1,u,L,rfl,rL,lu1,lu2,lL⟩
 dsimp only at fr1 lu1
 have hF1:Frx Wd3 (CxS g) ro0 gn0 ro1 gn1:=fr1.monoB (by decide)
 have u20:=hF1.up 20496
 have u32:=hF1.up 32800
 have bL:(blkO (ro1 8192 u)).isSome=true:=by rw[rL];rfl
 refine Yap ?_
 refine CLL_inS rfl (sNext hc hS1 (n:=24) (by omega)) ?_
 rintro _ _ _ ⟨z,rfl, -, hz,rfl,w2,rfl,hw2⟩
 have lm:(L.map i64).length=L.length:=List.length_map _
 have lk:L.length+1≤4294967296:=by omega
 by_cases z0:z=0
 ·have rL2:=rL
  rw[rowL]at rL2
  simp(maxSteps:=10000000) (disch:=first|assumption|omega) only[go_sem, ↓reduceIte,Nat.reduceEqDiff,reduceCtorEq,Nat.reduceAdd,Nat.reduceMul,Nat.reduceLeDiff,zc,Int.reduceToNat,s0,s1,eq_true z0,rL2,lm,lk]
  refine RETS_1 (.ref 8192 (gn1 8192+1) [] 0 (L.length+1)) Ur ⟨KFt,Ue hw2,gn1 8192+1,L++ [0],by rw[List.length_append];rfl,?_,by omega,Ur,by rw[List.length_append];show n≤L.length+1;omega,by rw[List.length_append];show L.length+1≤n+1;omega⟩
  refine Ybg ?_
  rw[List.take_of_length_le (by omega)]
  show some (AV.row _)=some (AV.row _)
  rw[List.map_append]
  rfl
 ·by_cases z1:z=1
  ·by_cases hn0:(0:Int)<(n:Int)
   ·have hL0:0<L.length:=by omega
    have hk0: ∀(t:Option TI) (ro:Ro),kIdx t ro (.ref 8192 u [] 0 L.length) (.sc (.int .i64 0))=kIdx t ro (.ref 8192 u [] 0 L.length) (i64 ((0:Nat):Int)):=fun _ _=>rfl
    have rL2:=rL
    rw[rowL]at rL2
    simp(disch:=first|assumption|omega) only[go_sem, ↓reduceIte,Nat.reduceEqDiff,zc,s0,s1,eq_false z0,eq_true z1,eq_true hn0]
    refine CLL_inS rfl (sPick (s2:=32800) hc (Ue hw2) (xs:=[-1,55441]) Ur (by decide) (Nat.succ_pos _) (by show 2<4611686018427387904;decide)) ?_
    rintro _ _ _ ⟨q,hq,rfl,rfl,w4,rfl,hw4⟩
    generalize atI [-1,55441] q=y
    simp(maxSteps:=10000000) (disch:=first|assumption|omega) only[go_sem, ↓reduceIte,Nat.reduceEqDiff,reduceCtorEq,Nat.reduceAdd,Nat.reduceMul,Nat.reduceLeDiff,zc,Int.reduceToNat,s0,s1,rL2,hk0,hL0,lm]
    refine RETS_1 (.ref 8192 u [] 0 L.length) Ur ⟨KFt,Ue hw4,u,L.set 0 y,by rw[List.length_set],?_,lu1,Ue lu2,by rw[List.length_set];omega,by rw[List.length_set];omega⟩
    refine Ybg ?_
    show some (AV.row _)=some (AV.row _)
    rw[←List.map_set]
   ·simp only[go_sem, ↓reduceIte,Nat.reduceEqDiff,zc,s0,s1,eq_false z0,eq_true z1,eq_false hn0]
    exact RETS_1 (.ref 8192 u [] 0 L.length) Ur ⟨KFt,by first|exact hw2|(simp only[↓za, ↓reduceIte,Nat.reduceEqDiff,zb,reduceCtorEq];exact hw2),u,L,rfl,by first|exact rL|(simp only[↓za, ↓reduceIte,Nat.reduceEqDiff,zb,reduceCtorEq];exact rL),lu1,by first|exact lu2|(simp only[↓za, ↓reduceIte,Nat.reduceEqDiff,zb,reduceCtorEq];exact lu2),by omega,by omega⟩
  ·simp only[go_sem, ↓reduceIte,Nat.reduceEqDiff,zc,s0,s1,eq_false z0,eq_false z1]
   exact RETS_1 (.ref 8192 u [] 0 L.length) Ur ⟨KFt,by first|exact hw2|(simp only[↓za, ↓reduceIte,Nat.reduceEqDiff,zb,reduceCtorEq];exact hw2),u,L,rfl,by first|exact rL|(simp only[↓za, ↓reduceIte,Nat.reduceEqDiff,zb,reduceCtorEq];exact rL),lu1,by first|exact lu2|(simp only[↓za, ↓reduceIte,Nat.reduceEqDiff,zb,reduceCtorEq];exact lu2),by omega,by omega⟩
def Wd4:List Nat:=[8288,24592,8192,20528,20496,32800,4096,16400]
def LsR(gn:Nat→Nat)(r:AV)(ro':Ro)(gn':Nat→Nat):Prop:= ∃(s u:Nat) (p:List Nat) (L:List Int),r= .ref s u p 0 L.length∧(s=8192∨s=16400)∧gn s<u∧u≤gn' s∧L.length≤101∧ ∀ro2:Ro,ro2 s u=ro' s u→exq 7 ro2 r (.imm (L.map i64))∧(ro2.cells s u p).isSome=true
theorem LsR.of(n:Nat){gn:Nat→Nat}{r:AV}{ro':Ro}{gn':Nat→Nat}(hn:n≤100)(h:VcR n gn r ro' gn'):LsR gn r ro' gn':=by
 obtain⟨u,L,rfl,h2,h3,h4,h5,h6⟩:=h
 exact⟨8192,u,[],L,rfl,.inl rfl,h3,h4,by omega,fun ro2 e=>⟨exq_refL (e.trans h2) rfl (by decide),by simp only[Ro.cells,e.trans h2];rfl⟩⟩
theorem LsR.up{gn gn1:Nat→Nat}{r:AV}{ro':Ro}{gn':Nat→Nat}(h:LsR gn1 r ro' gn')(h1:gn 8192≤gn1 8192)(h2:gn 16400≤gn1 16400):LsR gn r ro' gn':=by
 obtain⟨s,u,p,L,e,hs,k1,k2,k3,k4⟩:=h
 refine⟨s,u,p,L,e,hs,?_,k2,k3,k4⟩
 rcases hs with rfl|rfl<;>omega
end
section
variable{a:AV}{bs:List Int}{g:Nat}{ro0:Ro}{gn0:Nat→Nat}
set_option maxHeartbeats 8000000 in
theorem sPk{T:List (List (List Int))}{cv:AV}{s u o m:Nat}(hc:Cod a bs)(hs:Src a bs (ro0 8288 g))(hsI:s∈WRs)(hcv:isLLL cv T)(hz:SzP T)(hm:T.length=m)(hm1:m≤100)(hb:(blkO (ro0 s u)).isSome=true)(hx: ∀ro2:Ro,ro2 s=ro0 s→ro2 500000=ro0 500000→exq 7 ro2 (.ref s u [] o m) cv):
  InS Tryz.prog 55 [.ptr 8288 g [] 0,.agg [.ref s u [] o m]] ro0 gn0 (fun r ro' gn'=>Frx Wd4 (CxS g) ro0 gn0 ro' gn'∧Src a bs (ro' 8288 g)∧LsR gn0 r ro' gn'):=by
 have hs1:=hs
 obtain⟨e1,e2,e3,e4⟩:s≠8288∧s≠4096∧s≠8192∧s≠16400:=by
  have:=hsI
  simp only[WRs,WDs,List.mem_cons,List.not_mem_nil,or_false]at this
  omega
 have hbox: ∀(ro2:Ro),ro2 s=ro0 s→ro2 500000=ro0 500000→exqL 8 ro2 [.agg [.ref s u [] o m]] [.agg [cv]]:=fun ro2 h h'=> .cons (exq_agg (n:=7) (.cons (hx ro2 h h') .nil)) .nil
 have upE: ∀(ro:Ro) (S G:Nat) (v:AV),s≠S→upr ro S G v s=ro s:=fun ro S G v h=>funext fun y=>by rw[zdb,if_neg (fun e=>h e.1)]
 have upF: ∀(ro:Ro) (S G:Nat) (v:AV),500000≠S→upr ro S G v 500000=ro 500000:=fun ro S G v h=>funext fun y=>by rw[zdb,if_neg (fun e=>h e.1)]
 by_cases hR:RngP T
 ·have c1:=cIsS hcv (t:=true) ⟨fun _=>hR,fun _=>rfl⟩
  by_cases hC:CmP T
  ·have c2:=cCommS hcv hR.1 (t:=true) ⟨fun _=>hC,fun _=>rfl⟩
   have c3:=cAllS hcv hR.1
   refine in_ofS (fn:=Tryz.f55) (code:=bodyOf Tryz.f55) Tryz.func55 rfl (by kernel_rfl) ?_
   intro sl hs
   have s0:sl 0= .ptr 8288 g [] 0:=hs 0
   have s1:sl 1= .agg [.ref s u [] o m]:=hs 1
   dsimp only[Tryz.f55,bodyOf,Option.getD]
   refine Ybr ?_
   refine CLL_q _ c1 (hbox _ (by rw[upE _ _ _ _ e2]) (by rw[upF _ _ _ _ (by decide)])) rfl rfl rfl ?_
   refine Ybr ?_
   refine CLL_q _ c2 (hbox _ (by rw[upE _ _ _ _ e2]) (by rw[upF _ _ _ _ (by decide)])) rfl rfl rfl ?_
   refine Ygb ?_
   refine CLL_inS rfl (sNext hc (Ue hs1) (n:=8) (by omega)) ?_
   rintro _ _ _ ⟨v,rfl, -, hv,rfl,w,rfl,hw⟩
   by_cases h0:v=0
   ·simp only[go_sem, ↓reduceIte,Nat.reduceEqDiff,Nat.reduceMul,zc,s0,s1,ti33,hb,e1,e2,eq_true h0]
    refine CLL_inS rfl (sVec (n:=m) hc (Ue hw) (by omega)) ?_
    rintro r ro1 gn1 ⟨fr,hS,hV⟩
    refine Yap ?_
    exact RETS_1 r Ur ⟨(show Frx Wd4 (CxS g) ro0 gn0 _ _ from KFt).trans (fr.monoB (by decide)) (fun x y h=> .inr h),hS,(LsR.of m hm1 hV).up (by first|exact Nat.le_refl _|(simp only[↓za, ↓reduceIte,Nat.reduceEqDiff,zb,reduceCtorEq];omega)) (by first|exact Nat.le_refl _|(simp only[↓za, ↓reduceIte,Nat.reduceEqDiff,zb,reduceCtorEq];omega))⟩
   ·simp(disch:=first|assumption|omega) only[go_sem, ↓reduceIte,Nat.reduceEqDiff,Nat.reduceMul,zc,s0,s1,ti33,hb,e1,e2,eq_false h0]
    obtain⟨X,eX⟩: ∃X,chsS T=X:=⟨_,rfl⟩
    have hX1:X.length≤16:=by rw[←eX, ←chs_same hR.1];exact Nat.le_trans (chs_few hR.1) hR.1.2.1
    have hX2: ∀k,k<X.length→(X.getD k []).length=m:=fun k hk=>by
     have:=getD_mem hk
     rw[←eX]at this hk ⊢
     rw[((chsS_iff hR.1).1 this).1,hm]
    rw[eX]at c3
    refine CLL_q _ c3 (hbox _ (by rw[upE _ _ _ _ e1,upE _ _ _ _ e2]) (by rw[upF _ _ _ _ (by decide),upF _ _ _ _ (by decide)])) rfl rfl (noI_rowLL X) ?_
    by_cases hl0:(X.length:Int)=0
    ·simp only[go_sem, ↓reduceIte,Nat.reduceEqDiff,Nat.reduceAdd,Nat.reduceMul,zc,s0,s1,ti33,ti31,hb,e1,e2,e4,impE_row,List.length_map,rowLL,eq_true hl0]
     refine CLL_inS rfl (sVec (n:=m) hc (Ue hw) (by omega)) ?_
     rintro r ro1 gn1 ⟨fr,hS,hV⟩
     refine Yap ?_
     exact RETS_1 r Ur ⟨(show Frx Wd4 (CxS g) ro0 gn0 _ _ from KFt).trans (fr.monoB (by decide)) (fun x y h=> .inr h),hS,(LsR.of m hm1 hV).up (by first|exact Nat.le_refl _|(simp only[↓za, ↓reduceIte,Nat.reduceEqDiff,zb,reduceCtorEq];omega)) (by first|exact Nat.le_refl _|(simp only[↓za, ↓reduceIte,Nat.reduceEqDiff,zb,reduceCtorEq];omega))⟩
    ·have hl1:(1:Int)≤X.length:=by omega
     simp only[go_sem, ↓reduceIte,Nat.reduceEqDiff,zc,s0,s1,ti33,ti31,hb,e1,e2,e4,impE_row,List.length_map,rowLL,eq_false hl0]
     refine CLL_inS rfl (sNext hc (Ue hw) (n:=(X.length:Int)) (by omega)) ?_
     rintro _ _ _ ⟨z,rfl, -, hz,rfl,w2,rfl,hw2⟩
     obtain⟨z0,z1⟩:=hz hl1
     obtain⟨k,rfl⟩:=Int.eq_ofNat_of_zero_le z0
     have hk:k<X.length:=by omega
     have hg:=get_rowLL hk
     have hL:=hX2 k hk
     obtain⟨L,eL⟩: ∃L,X.getD k []=L:=⟨_,rfl⟩
     have hXk:X[k]?=some L:=by rw[←eL,List.getD_eq_getElem?_getD,List.getElem?_eq_getElem hk];rfl
     rw[eL]at hg hL
     simp only[go_sem, ↓reduceIte,Nat.reduceEqDiff,Nat.reduceAdd,Nat.reduceMul,zc,s0,s1,hk,hg,List.length_map]
     refine RETS_1 (.ref 16400 (gn0 16400+1) [k] 0 L.length) Ur ⟨KFt,Ue hw2,16400,gn0 16400+1,[k],L,rfl,.inr rfl,Nat.lt_succ_self _,Ur,by omega,fun ro2 e=>?_⟩
     have e':ro2 16400 (gn0 16400+1)=some (rowLL X):=by
      rw[e]
      refine Ybg ?_
      first|done|trivial|rfl
     exact⟨exq_rowX e' hXk rfl (by decide),by simp only[Ro.cells,Ro.at,e',rowLL,ath,hg];first|done|trivial|rfl⟩
  ·have c2:=cCommS hcv hR.1 (t:=false) ⟨fun h=>Bool.noConfusion h,fun h=>absurd h hC⟩
   refine in_ofS (fn:=Tryz.f55) (code:=bodyOf Tryz.f55) Tryz.func55 rfl (by kernel_rfl) ?_
   intro sl hs
   have s0:sl 0= .ptr 8288 g [] 0:=hs 0
   have s1:sl 1= .agg [.ref s u [] o m]:=hs 1
   dsimp only[Tryz.f55,bodyOf,Option.getD]
   refine Ybr ?_
   refine CLL_q _ c1 (hbox _ (by rw[upE _ _ _ _ e2]) (by rw[upF _ _ _ _ (by decide)])) rfl rfl rfl ?_
   refine Ybr ?_
   refine CLL_q _ c2 (hbox _ (by rw[upE _ _ _ _ e2]) (by rw[upF _ _ _ _ (by decide)])) rfl rfl rfl ?_
   refine Ygb ?_
   refine CLL_inS rfl (sVec (n:=m) hc (Ue hs1) (by omega)) ?_
   rintro r ro1 gn1 ⟨fr,hS,hV⟩
   refine Yap ?_
   exact RETS_1 r Ur ⟨(show Frx Wd4 (CxS g) ro0 gn0 _ _ from KFt).trans (fr.monoB (by decide)) (fun x y h=> .inr h),hS,(LsR.of m hm1 hV).up (by first|exact Nat.le_refl _|(simp only[↓za, ↓reduceIte,Nat.reduceEqDiff,zb,reduceCtorEq];omega)) (by first|exact Nat.le_refl _|(simp only[↓za, ↓reduceIte,Nat.reduceEqDiff,zb,reduceCtorEq];omega))⟩
 ·have c1:=cIsS hcv (t:=false) ⟨fun h=>Bool.noConfusion h,fun h=>absurd h hR⟩
  refine in_ofS (fn:=Tryz.f55) (code:=bodyOf Tryz.f55) Tryz.func55 rfl (by kernel_rfl) ?_
  intro sl hs
  have s0:sl 0= .ptr 8288 g [] 0:=hs 0
  have s1:sl 1= .agg [.ref s u [] o m]:=hs 1
  dsimp only[Tryz.f55,bodyOf,Option.getD]
  refine Ybr ?_
  refine CLL_q _ c1 (hbox _ (by rw[upE _ _ _ _ e2]) (by rw[upF _ _ _ _ (by decide)])) rfl rfl rfl ?_
  refine Ygb ?_
  refine CLL_inS rfl (sVec (n:=m) hc (Ue hs1) (by omega)) ?_
  rintro r ro1 gn1 ⟨fr,hS,hV⟩
  refine Yap ?_
  exact RETS_1 r Ur ⟨(show Frx Wd4 (CxS g) ro0 gn0 _ _ from KFt).trans (fr.monoB (by decide)) (fun x y h=> .inr h),hS,(LsR.of m hm1 hV).up (by first|exact Nat.le_refl _|(simp only[↓za, ↓reduceIte,Nat.reduceEqDiff,zb,reduceCtorEq];omega)) (by first|exact Nat.le_refl _|(simp only[↓za, ↓reduceIte,Nat.reduceEqDiff,zb,reduceCtorEq];omega))⟩
end
theorem RdU.keep{ro ro':Ro}{gn gn':Nat→Nat}{T:List (List (List Int))}{c:AV}(h:RdU ro gn T c)(hk: ∀x y,y≤gn x→x≠8288→x≠4096→ro' x y=ro x y)(hg: ∀x,gn x≤gn' x):RdU ro' gn' T c:=by
 obtain⟨s,u,o,m,cv,rfl,⟨h1,h2,hm⟩,h3,h4,h5,h6,h7⟩:=h
 exact⟨s,u,o,m,cv,rfl,⟨h1,h2,hm⟩,Nat.le_trans h3 (hg s),by rw[hk s u h3 h1 h2];exact h4,h5,h6,fun ro2 hk2=>h7 ro2 fun x y hx hy=>(hk2 x y hx (Nat.le_trans hy (hg x))).trans (hk x y hy (by rcases hx with rfl|rfl<;>first|exact h1|decide) (by rcases hx with rfl|rfl<;>first|exact h2|decide))⟩
theorem ShV.keep{ro ro':Ro}{gn gn':Nat→Nat}{T:List (List (List Int))}{c:AV}(h:ShV ro gn T c)(hR:RdU ro gn T c)(hk: ∀x y,y≤gn x→x≠8288→x≠4096→ro' x y=ro x y)(hg: ∀x,gn x≤gn' x):ShV ro' gn' T c:=by
 obtain⟨s,u,n,o,m,rfl,h⟩:=h
 obtain⟨s',u',o',m',cv,e,⟨h1,h2,hm⟩,h3, -⟩:=hR
 obtain⟨rfl,rfl⟩:s=s'∧u=u':=by injection e with e1 e2;exact⟨e1,e2⟩
 refine⟨s,u,n,o,m,rfl,?_⟩
 rcases h with⟨F,k1,k2⟩|⟨k0,L,gb,F,k1,k2,k3,k4⟩
 ·exact .inl ⟨F,by rw[hk s u h3 h1 h2];exact k1,k2⟩
 ·exact .inr ⟨k0,L,gb,F,by rw[hk s u h3 h1 h2];exact k1,k2,fun x hx=>⟨by rw[hk 500000 _ (k3 x hx).2 (by decide) (by decide)];exact(k3 x hx).1,Nat.le_trans (k3 x hx).2 (hg _)⟩,k4⟩
section
variable{a:AV}{bs:List Int}{g:Nat}{ro0:Ro}{gn0:Nat→Nat}
theorem sDr8{mx:Nat}(hc:Cod a bs)(hs:Src a bs (ro0 8288 g))(h1:1≤mx)(h16:mx≤16):InS Tryz.prog 42 [.ptr 8288 g [] 0,i64 (mx:Int)] ro0 gn0 (fun r ro' gn'=>Frx W38 (CxS g) ro0 gn0 ro' gn'∧Src a bs (ro' 8288 g)∧ ∃T c,r= .agg [c]∧RdU ro' gn' T c∧ShV ro' gn' T c):=by
 have hs1:=hs
 refine in_ofS (fn:=Tryz.f42) (code:=bodyOf Tryz.f42) Tryz.func42 rfl (by kernel_rfl) ?_
 intro sl hs
 have s0:sl 0= .ptr 8288 g [] 0:=hs 0
 have s1:sl 1=i64 (mx:Int):=hs 1
 dsimp only[Tryz.f42,bodyOf,Option.getD]
 simp only[go_sem, ↓reduceIte,Nat.reduceEqDiff,zc,s0,s1,ti33]
 refine CLL_inS rfl (sDrawAnyV hc (Ue hs1) h1 h16) ?_
 rintro _ ro1 gn1 ⟨fr1,hS1,T,c,rfl,hR,hV⟩
 have hF1:Frx W38 (CxS g) ro0 gn0 ro1 gn1:=(show Frx W38 (CxS g) ro0 gn0 (upr ro0 4096 (gn0 4096+1) (.bx [nilA])) (upg gn0 4096 (gn0 4096+1))from KFt).trans (fr1.monoB (by decide)) (fun x y h=> .inr h)
 have r4:ro1 4096 (gn0 4096+1)=some (.bx [nilA]):=(fr1.kp _ _ Ur (fun e=>by have:=e.1;omega)).trans Ur
 obtain⟨s,u,o,m,cv,rfl,⟨n1,n2,hm⟩,h3,h4,h5,h6,h7⟩:=id hR
 have hlf:=zfh 4096 (gn0 4096+1) [0] s u [] o m
 simp(maxSteps:=10000000) (disch:=first|assumption|omega) only[go_sem, ↓reduceIte,Nat.reduceEqDiff,reduceCtorEq,Nat.reduceAdd,Nat.reduceMul,Nat.reduceLeDiff,zc,Int.reduceToNat,s0,s1,ti33,r4,h4,n2]
 exact RETS_cR (s:=4096) (g:=gn0 4096+1) Ur Ur hlf ⟨hF1.wr 4096 _ _ (by decide) (.inl (by omega)),Ue hS1,T,_,rfl,hR.keep (fun x y hy n1 n2=>by rw[zdb,if_neg (fun e=>n2 e.1)]) (fun x=>Nat.le_refl _),hV.keep hR (fun x y hy n1 n2=>by rw[zdb,if_neg (fun e=>n2 e.1)]) (fun x=>Nat.le_refl _)⟩
def Wdc:List Nat:=[8288,8256,24608,16432,28752,49200,69696,82032,82064,90160,106608,110656,8192,28688,32768,4096,20544,8240,500000,24832,8304,36912,36944,24640,49168,12320,24688,24592,20528,20496,32800,16400]
theorem xPk{T:List (List (List Int))}{cv:AV}{s u o m:Nat}{ops:Array Oper}{i:Nat}{st:St}(hc:Cod a bs)(hs:Src a bs (st.ro 8288 g))(hsI:s∈WRs)(hcv:isLLL cv T)(hz:SzP T)(hm:T.length=m)(hm1:m≤100)(hb:(blkO (st.ro s u)).isSome=true)(hx: ∀ro2:Ro,ro2 s=st.ro s→ro2 500000=st.ro 500000→exq 7 ro2 (.ref s u [] o m) cv)(ha:callsAft ops i=true):
  inX XX ops i 55 [.ptr 8288 g [] 0,.agg [.ref s u [] o m]] st (fun r ro' gn'=>Frx Wd4 (CxS g) st.ro st.gn ro' gn'∧(Src a bs (ro' 8288 g)∧LsR st.gn r ro' gn')) [s,500000] Wd4:=
 inX_frE (R:=[s,500000]) (Res:=fun gn r ro' gn'=>Src a bs (ro' 8288 g)∧LsR gn r ro' gn') (fun ro1 gn1 h1 _=>sPk hc (by rw[h1 8288 (.inr (by decide))];exact hs) hsI hcv hz hm hm1 (by rw[h1 s (.inl (by simp))];exact hb) (fun ro2 k1 k2=>hx ro2 (by rw[k1,h1 s (.inl (by simp))]) (by rw[k2,h1 500000 (.inl (by simp))]))) (fun gn r ro' gn' ro2 gn1 gn2 hh h=>by
  obtain⟨k1,s',u',p,L,e1,e2,e3,e4,e5,e6⟩:=h
  have q:ro2 s'=ro' s'∧gn1 s'=gn s'∧gn2 s'=gn' s':=by rcases e2 with rfl|rfl<;>exact hh _ (by decide)
  exact⟨by rw[(hh 8288 (by decide)).1];exact k1,s',u',p,L,e1,e2,by rw[q.2.1];exact e3,by rw[q.2.2];exact e4,e5,fun ro3 e=>e6 ro3 (by rw[e,q.1])⟩) ha
  ⟨.ref 8192 (st.gn 8192+1) [] 0 0,upr st.ro 8192 (st.gn 8192+1) (rowL []),upg st.gn 8192 (st.gn 8192+1),(Frx.refl _ _ _ _).al _ _ _ (by decide) rfl,by rw[upr_col (by decide)];exact hs,8192,st.gn 8192+1,[],[],rfl,.inl rfl,Nat.lt_succ_self _,by rw[zda,if_pos rfl];exact Nat.le_refl _,by decide,fun ro3 e=>⟨exq_refL (e.trans (upr_same _ _ _ _)) rfl (by decide),by simp only[Ro.cells,e.trans (upr_same _ _ _ _)];rfl⟩⟩
end
def fpK(s:Nat):List FP:=[⟨some [12320],[]⟩,e0,⟨some [12320],[]⟩,⟨some [s,500000],Wd4⟩,⟨some [4096,s],[4096]⟩,e0]
theorem LsR.wr{gn:Nat→Nat}{r:AV}{ro':Ro}{gn':Nat→Nat}(h:LsR gn r ro' gn')(G:Nat)(v:AV):LsR gn r (upr ro' 4096 G v) gn':=by
 obtain⟨s,u,p,L,e,hs,k1,k2,k3,k4⟩:=h
 refine⟨s,u,p,L,e,hs,k1,k2,k3,fun ro2 e=>k4 ro2 ?_⟩
 rw[e,zdb,if_neg]
 rintro⟨rfl, -⟩
 rcases hs with h|h<;>exact absurd h (by decide)
section
variable{a:AV}{bs:List Int}{ro0:Ro}{gn0:Nat→Nat}
end
def fpL(s:Nat):List FP:=[⟨some [12320],[]⟩,e0,⟨some [12320],[]⟩,⟨some [s,500000],Wd4⟩,e0,⟨some [12320],[]⟩,⟨some [s,500000],Wd4⟩,⟨some [4096,s],[4096]⟩,e0,e0]
theorem LsR.frx{W:List Nat}{g:Nat}{gn gn1 gn':Nat→Nat}{r:AV}{ro ro':Ro}(h:LsR gn r ro gn1)(fr:Frx W (CxS g) ro gn1 ro' gn'):LsR gn r ro' gn':=by
 obtain⟨s,u,p,L,e,hs,k1,k2,k3,k4⟩:=h
 refine⟨s,u,p,L,e,hs,k1,Nat.le_trans k2 (fr.up s),k3,fun ro2 e=>k4 ro2 ?_⟩
 rw[e]
 exact fr.kp s u k2 (fun e=>by have:=e.1;omega)
theorem RdU.frx{W:List Nat}{g:Nat}{ro ro':Ro}{gn gn':Nat→Nat}{T:List (List (List Int))}{c:AV}(h:RdU ro gn T c)(fr:Frx W (CxS g) ro gn ro' gn'):RdU ro' gn' T c:=
 h.keep (fun x y hy n1 _=>fr.kp x y hy fun e=>n1 e.1) fr.up
section
variable{a:AV}{bs:List Int}{ro0:Ro}{gn0:Nat→Nat}
set_option maxHeartbeats 8000000 in
theorem sDrawPr(hc:Cod a bs)(hl:bs.length≤4096):InS Tryz.prog 21 [a] ro0 gn0 (fun r ro' gn'=>Frx Wdc (fun _ _=>False) ro0 gn0 ro' gn'∧ ∃T c r2 r3,r= .tup [.agg [c],r2,r3]∧RdT ro' gn' T c∧ShV ro' gn' T c∧LsR gn0 r2 ro' gn'∧LsR gn0 r3 ro' gn'):=by
 refine in_ofS (fn:=Tryz.f21) (code:=bodyOf Tryz.f21) Tryz.func21 rfl (by kernel_rfl) ?_
 intro sl hs
 have s0:sl 0=a:=hs 0
 dsimp only[Tryz.f21,bodyOf,Option.getD]
 simp only[go_sem, ↓reduceIte,Nat.reduceEqDiff,zc,s0,ti33]
 refine CLL_inS rfl (sFrm hc hl) ?_
 rintro _ _ _ ⟨rfl,w,rfl,rfl,hw⟩
 refine Ycu ?_
 refine CLL_inS rfl (sDr8 hc (Ue hw) (mx:=6) (by decide) (by decide)) ?_
 rintro _ ro1 gn1 ⟨fr1,hS1,T,c,rfl,hR,hV⟩
 have hF1:Frx Wdc (fun _ _=>False) ro0 gn0 ro1 gn1:=(show Frx Wdc (fun _ _=>False) ro0 gn0 _ _ from KFt).trans (fr1.monoB (by decide)) (by
  rintro x y ⟨rfl,rfl⟩
  exact .inl (by omega))
 have r4:ro1 4096 (gn0 4096+1)=some (.bx [nilA]):=(fr1.kp _ _ Ur (fun e=>by have:=e.1;omega)).trans Ur
 obtain⟨s,u,o,m,cv,rfl,⟨n1,n2,hm1,hsI,hm⟩,h3,h4,h5,h6,h7⟩:=id hR
 have n12:s≠12320:=by
  have:=hsI
  simp only[WRs,WDs,List.mem_cons,List.not_mem_nil,or_false]at this
  omega
 have upE: ∀(ro:Ro) (G:Nat) (v:AV),upr ro 12320 G v s=ro s:=fun ro G v=>funext fun y=>by rw[zdb,if_neg (fun e=>n12 e.1)]
 have upF: ∀(ro:Ro) (G:Nat) (v:AV),upr ro 12320 G v 500000=ro 500000:=fun ro G v=>funext fun y=>by rw[zdb,if_neg (fun e=>absurd e.1 (by decide))]
 simp(maxSteps:=10000000) (disch:=first|assumption|omega) only[go_sem, ↓reduceIte,Nat.reduceEqDiff,reduceCtorEq,Nat.reduceAdd,Nat.reduceMul,Nat.reduceLeDiff,zc,Int.reduceToNat,s0,ti33,h4,n12]
 refine CLLD_inS (fpL s) (xPk hc (Ue hS1) hsI h5 h6 hm hm1 (by simp only[upE];exact h4) (fun ro2 k1 k2=>h7 ro2 (fun x y hx hy=>by
  rcases hx with rfl|rfl
  ·rw[k1];simp only[upE]
  ·rw[k2];simp only[upF])) (by kernel_rfl)) rfl ?_ rfl ?_ rfl
 rotate_left
 ·exact all_WRs (p:=fun s=>okD _ (fpL s)) hsI (by kernel_rfl)
 rintro r ro2 gn2 ⟨fr2,hS2,hL⟩
 dsimp only at fr2 hL
 have u4:=fr1.up 4096
 have u8:=fr1.up 8288
 have u82:=hF1.up 8192
 have u164:=hF1.up 16400
 have u12:=hF1.up 12320
 simp only[↓za, ↓reduceIte,Nat.reduceEqDiff,zb,reduceCtorEq]at u4 u8
 have hkp: ∀x y,y≤gn1 x→x≠8288→x≠4096→(upr (upr ro1 12320 (gn1 12320+1) (.bx [nilA])) 12320 (gn1 12320+1) (.bx [.ref s u [] o m])) x y=ro1 x y:=fun x y hy _ _=>by
  simp only[zdb]
  repeat' (first|rfl|rw[if_neg (by rintro⟨rfl,rfl⟩;omega)])
 have hkg: ∀x,gn1 x≤upg gn1 12320 (gn1 12320+1) x:=fun x=>by
  rw[zda]
  split
  ·rename_i e;subst e;omega
  ·exact Nat.le_refl _
 have hR1:RdU (upr (upr ro1 12320 (gn1 12320+1) (.bx [nilA])) 12320 (gn1 12320+1) (.bx [.ref s u [] o m])) (upg gn1 12320 (gn1 12320+1)) T (.ref s u [] o m):=hR.keep hkp hkg
 have hV1:=hV.keep hR hkp hkg
 have hR2:=hR1.frx fr2
 have hV2:ShV ro2 gn2 T (.ref s u [] o m):=hV1.keep hR1 (fun x y hy n1 _=>fr2.kp x y hy fun e=>n1 e.1) fr2.up
 have r4b:ro2 4096 (gn0 4096+1)=some (.bx [nilA]):=(fr2.kp _ _ (Ue u4) (fun e=>by have:=e.1;omega)).trans (Ue r4)
 have r12:ro2 12320 (gn1 12320+1)=some (.bx [.ref s u [] o m]):=(fr2.kp _ _ Ur (fun e=>by have:=e.1;omega)).trans Ur
 obtain⟨s2,u2,o2,m2,cv2,e2,⟨w1,w2,w3,w4,w5⟩,w6,w7,w8,w9,w10⟩:=id hR2
 obtain⟨rfl,rfl,rfl,rfl⟩:s=s2∧u=u2∧o=o2∧m=m2:=by injection e2 with e1 e2 e3 e4 e5;exact⟨e1,e2,e4,e5⟩
 have hF2:Frx Wdc (fun _ _=>False) ro0 gn0 ro2 gn2:=(show Frx Wdc (fun _ _=>False) ro0 gn0 (upr (upr ro1 12320 (gn1 12320+1) (.bx [nilA])) 12320 (gn1 12320+1) (.bx [.ref s u [] o m])) (upg gn1 12320 (gn1 12320+1))from KFt).trans (fr2.monoB (by decide)) (by
  rintro x y ⟨rfl,rfl⟩
  exact .inl (by omega))
 simp(disch:=first|assumption|omega) only[go_sem, ↓reduceIte,Nat.reduceEqDiff,reduceCtorEq,Nat.reduceAdd,zc,s0,ti33,r12,w7,n12]
 refine CLLG_inS (xPk hc hS2 hsI w8 w9 w5 w3 w7 (fun ro3 k1 k2=>w10 ro3 (fun x y hx hy=>by
  rcases hx with rfl|rfl
  ·rw[k1]
  ·rw[k2])) (by kernel_rfl)) ?_ rfl
 rintro r' ro3 gn3 ⟨fr3,hS3,hL3⟩
 dsimp only at fr3 hL3
 have hR3:=hR2.frx fr3
 have hV3:ShV ro3 gn3 T (.ref s u [] o m):=hV2.keep hR2 (fun x y hy n1 _=>fr3.kp x y hy fun e=>n1 e.1) fr3.up
 have v4:=hF2.up 4096
 have f4:=fr2.up 4096
 simp only[↓za, ↓reduceIte,Nat.reduceEqDiff,zb,reduceCtorEq]at f4
 have r4c:ro3 4096 (gn0 4096+1)=some (.bx [nilA]):=(fr3.kp _ _ (by omega) (fun e=>by have:=e.1;omega)).trans r4b
 have b3:(blkO (ro3 s u)).isSome=true:=by
  obtain⟨s',u',o',m',cv',e, -, -, b, -⟩:=id hR3
  obtain⟨rfl,rfl⟩:s=s'∧u=u':=by injection e with e1 e2;exact⟨e1,e2⟩
  exact b
 have hlf:=zfh 4096 (gn0 4096+1) [0] s u [] o m
 have hF3:Frx Wdc (fun _ _=>False) ro0 gn0 ro3 gn3:=hF2.trans (fr3.monoB (by decide)) (by
  rintro x y ⟨rfl,rfl⟩
  exact .inl (by omega))
 simp(disch:=first|assumption|omega) only[go_sem, ↓reduceIte,Nat.reduceEqDiff,zc,s0,ti33,r4c,b3,n2]
 refine FING_of rfl ?_
 refine Ycu ?_
 have q82:=hF2.up 8192
 have q164:=hF2.up 16400
 refine RETS_c3 (s:=4096) (g:=gn0 4096+1) Ur Ur hlf Ur Ur ⟨hF3.wr 4096 _ _ (by decide) (.inl (by omega)),T,_,r,r',rfl,hR3.toT.keep (fun x y hy n1 n2=>by rw[zdb,if_neg (fun e=>n2 e.1)]) (fun x=>Nat.le_refl _),hV3.keep hR3 (fun x y hy n1 n2=>by rw[zdb,if_neg (fun e=>n2 e.1)]) (fun x=>Nat.le_refl _),((hL.up (Ue u82) (Ue u164)).frx fr3).wr _ _,(hL3.up q82 q164).wr _ _⟩
end
end Go.Proofs.YtbakhfiibjkifaaGreat
