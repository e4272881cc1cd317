/- Texts joined: Cx1 Cx2 Cx3 Cx4 Cx5 Cx6. -/
import Derived.Test.YtbakhfiibjkifaaGreatOa
import Derived.Test.YtbakhfiibjkifaaGreatCf
import Derived.Test.YtbakhfiibjkifaaGreatRe
set_option linter.all false
/- Characters: what the statements draw: numbers, vectors. -/
namespace Go.Proofs.YtbakhfiibjkifaaGreat
open Go.RowKit
set_option maxRecDepth 1000000
def Wd1:List Nat:=[8288,24592]
def Wd2:List Nat:=[8288,24592,8192,20528]
def Wd3:List Nat:=[8288,24592,8192,20528,20496,32800]
theorem c0a: ∀k,k<11→1≤atI [1,2,3,4,5,7,8,11,16,24,55440] k∧atI [1,2,3,4,5,7,8,11,16,24,55440] k≤55440:=by decide
section
variable{a:AV}{bs:List Int}{g:Nat}{ro0:Ro}{gn0:Nat→Nat}
theorem sDr1(hc:Cod a bs)(hs:Src a bs (ro0 8288 g)):InS Tryz.prog 69 [.ptr 8288 g [] 0] ro0 gn0 (fun r ro' gn'=>Frx Wd1 (CxS g) ro0 gn0 ro' gn'∧Src a bs (ro' 8288 g)∧ ∃v:Int,r=i64 v∧num v):=by
 have hs1:=hs
 refine a1U (fn:=Tryz.f69) (code:=a0b Tryz.f69) Tryz.func69 rfl (by kernel_rfl) ?_
 intro sl hs
 have s0:sl 0= .ptr 8288 g [] 0:=hs 0
 dsimp only[Tryz.f69,a0b,Option.getD]
 refine Ybm ?_
 refine a0p rfl (a4q hc hs1 (n:=5) (by omega)) ?_
 rintro _ _ _ ⟨v,rfl, -, hv,rfl,w,rfl,hw⟩
 by_cases h0:v=0
 ·simp only[go_sem,s0,eq_true h0]
  refine a0p rfl (a4q hc (Ue hw) (n:=55441) (by omega)) ?_
  rintro _ _ _ ⟨z,rfl, -, hz,rfl,w2,rfl,hw2⟩
  refine Ybm ?_
  exact a0Y (i64 z) Ur ⟨KFt,Ue hw2,z,rfl,hz (by decide)⟩
 ·by_cases h1:v=1
  ·simp(disch:=first|assumption|omega) only[go_sem,s0,eq_false h0,eq_true h1]
   refine a0p rfl (c1l (s2:=24592) hc (Ue hw) (xs:=[1,2,3,4,5,7,8,11,16,24,55440]) Ur (by decide) (Nat.succ_pos _) (by show 11<4611686018427387904;decide)) ?_
   rintro _ _ _ ⟨k,hk,rfl,rfl,w2,rfl,hw2⟩
   obtain⟨k1,k2⟩:=c0a k hk
   generalize atI [1,2,3,4,5,7,8,11,16,24,55440] k=z at k1 k2
   refine Ybm ?_
   refine a0c _ (c73 k1 k2) rfl rfl rfl ?_
   refine Ybm ?_
   exact a0Y (i64 (pw 38 (55440 / z))) Ur ⟨KFt,Ue hw2,_,rfl,a3Z _ _,b3H _ _⟩
  ·by_cases h2:v=2
   ·simp only[go_sem,s0,eq_false h0,eq_false h1,eq_true h2]
    refine a0p rfl (a4q hc (Ue hw) (n:=21) (by omega)) ?_
    rintro _ _ _ ⟨z,rfl, -, hz,rfl,w2,rfl,hw2⟩
    obtain⟨z0,z1⟩:=hz (by omega)
    refine Yae ?_
    refine a0c _ (a8s (x:=z-10) (by omega) (by omega)) rfl rfl rfl ?_
    refine Ybm ?_
    exact a0Y (i64 ((z-10) % 55441)) Ur ⟨KFt,Ue hw2,_,rfl,a0E _⟩
   ·simp only[go_sem,s0,eq_false h0,eq_false h1,eq_false h2]
    refine a0p rfl (a4q hc (Ue hw) (n:=41) (by omega)) ?_
    rintro _ _ _ ⟨z,rfl, -, hz,rfl,w2,rfl,hw2⟩
    obtain⟨z0,z1⟩:=hz (by omega)
    refine Yae ?_
    refine a0c _ (a8s (x:=z-20) (by omega) (by omega)) rfl rfl rfl ?_
    refine Ybm ?_
    refine a0p rfl (a4q hc (Ue hw2) (n:=20) (by omega)) ?_
    rintro _ _ _ ⟨y,rfl, -, hy,rfl,w3,rfl,hw3⟩
    obtain⟨y0,y1⟩:=hy (by omega)
    refine Yae ?_
    refine a0c _ (c59 (a:=1+y) (by omega) (by omega)) rfl rfl rfl ?_
    have p0:=a3Z (1+y) 55439
    have p1:=b3H (1+y) 55439
    have q0:0≤(z-20) % 55441:=Int.emod_nonneg _ (by decide)
    have q1:(z-20) % 55441<55441:=Int.emod_lt_of_pos _ (by decide)
    have hmul:=a6N q0 (show (z-20) % 55441≤55440 by omega) p0 (show pw (1+y) 55439≤55440 by omega)
    generalize (z-20) % 55441=q at*
    generalize pw (1+y) 55439=p at*
    refine Yae ?_
    exact a0Y (i64 (Int.tmod (q*p) 55441)) Ur ⟨KFt,Ue hw3,_,rfl,by rw[Int.tmod_eq_emod_of_nonneg hmul.1];exact a0E _⟩
def VcR(n:Nat)(gn:Nat→Nat)(r:AV)(ro':Ro)(gn':Nat→Nat):Prop:= ∃(u:Nat) (L:List Int),r= .ref 8192 u [] 0 L.length∧ro' 8192 u=some (a0H L)∧gn 8192<u∧u≤gn' 8192∧n≤L.length∧L.length≤n+1
set_option maxHeartbeats 4000000 in
theorem c5p{n:Nat}(hc:Cod a bs)(hs:Src a bs (ro0 8288 g))(hn:n≤1000):InS Tryz.prog 126 [.ptr 8288 g [] 0,i64 (n:Int)] ro0 gn0 (fun r ro' gn'=>Frx Wd2 (CxS g) ro0 gn0 ro' gn'∧Src a bs (ro' 8288 g)∧ ∃(u:Nat) (L:List Int),r= .ref 8192 u [] 0 L.length∧ro' 8192 u=some (a0H L)∧gn0 8192<u∧u≤gn' 8192∧L.length=n):=by
 have hs1:=hs
 refine a1U (fn:=Tryz.f126) (code:=a0b Tryz.f126) Tryz.func126 rfl (by kernel_rfl) ?_
 intro sl hs
 have s0:sl 0= .ptr 8288 g [] 0:=hs 0
 have s1:sl 1=i64 (n:Int):=hs 1
 dsimp only[Tryz.f126,a0b,Option.getD]
 simp(maxSteps:=10000000) (disch:=first|assumption|omega) only[go_sem]
 refine a0f (fun k st=>st.sl 0= .ptr 8288 g [] 0∧st.sl 1=i64 ((n:Int)-k)∧st.sl 5= .ref 8192 (st.gn 8192) [] 0 k∧(Frx Wd2 (CxS g) ro0 gn0 st.ro st.gn)∧(Src a bs (st.ro 8288 g))∧(gn0 8192<st.gn 8192)∧(∃L:List Int,L.length=k∧st.ro 8192 (st.gn 8192)=some (a0H L))) n ?_ ?_ ?_
 ·refine Yac ?_
  exact⟨congrArg i64 (by omega),KFt,hs1,by omega,[],rfl,rfl⟩
 ·rintro k sl ro gn hk ⟨s0,s1,s5,hF,hS,hl,hL⟩
  dsimp only at s0 s1 s5
  have hk':(k:Int)<(n:Nat):=by omega
  dsimp only at hF hS hl hL
  obtain⟨L,lL,rL⟩:=hL
  have hgt:(0:Int)<(n:Int)-k:=by omega
  have hk2:k+1≤4294967296:=by omega
  simp only[go_sem,s0,s1,s5,eq_true hgt]
  refine a0p rfl (sDr1 hc hS) ?_
  rintro _ ro1 gn1 ⟨fr1,hS1,z,rfl, -⟩
  have hF1:Frx Wd2 (CxS g) ro0 gn0 ro1 gn1:=hF.trans (fr1.monoB (by decide)) (fun x y h=> .inr h)
  have e8:=fr1.off 8192 (by decide)
  dsimp only at e8
  have rL1:ro1 8192 (gn 8192)=some (a0H L):=by rw[e8.1];exact rL
  have lm:(L.map i64).length=k:=by rw[List.length_map];exact lL
  have u8:=hF.up 8192
  have u20:=hF1.up 20528
  rw[a0H]at rL1
  have e82:=e8.2
  simp(maxSteps:=10000000) (disch:=first|assumption|omega) only[go_sem,s0,s1,rL1,hk2,e82]
  refine⟨congrArg i64 (by omega),?_,by first|exact hS1|(simp only[↓za, ↓reduceIte,Nat.reduceEqDiff,zb,reduceCtorEq];exact hS1),L++ [z],by rw[List.length_append,lL];rfl,by rw[List.take_of_length_le (by omega)];show some (AV.row _)=some (AV.row _);rw[List.map_append];rfl⟩
  rw[←e82]
  (repeat' first|assumption|exact Frx.refl _ _ _ _|refine Frx.al ?_ _ _ _ (by decide) rfl|refine Frx.wr ?_ _ _ _ (by decide) (by first|(left;omega)|(right;exact⟨rfl,rfl⟩)|(right;exact .inl ⟨rfl,rfl⟩)|(right;exact .inr ⟨rfl,rfl⟩)|(right;exact .inr (.inl ⟨rfl,rfl⟩))|(right;exact .inr (.inr ⟨rfl,rfl⟩))))
 ·rintro sl ro gn ⟨s0,s1,s5,hF,hS,hl,hL⟩
  dsimp only at s0 s1 s5
  have hk': ¬((n:Nat):Int)<(n:Nat):=by omega
  dsimp only at hF hS hl hL
  obtain⟨L,lL,rL⟩:=hL
  have hgt: ¬(0:Int)<(n:Int)-n:=by omega
  simp only[go_sem,s1,s5,eq_false hgt]
  exact a0Y (.ref 8192 (gn 8192) [] 0 n) Ur ⟨hF,hS,gn 8192,L,by rw[lL],rL,hl,Nat.le_refl _,lL⟩
end
section
variable{a:AV}{bs:List Int}{g:Nat}{ro0:Ro}{gn0:Nat→Nat}
set_option maxHeartbeats 4000000 in
theorem c4b{n:Nat}(hc:Cod a bs)(hs:Src a bs (ro0 8288 g))(hn:n≤1000):InS Tryz.prog 96 [.ptr 8288 g [] 0,i64 (n:Int)] ro0 gn0 (fun r ro' gn'=>Frx Wd3 (CxS g) ro0 gn0 ro' gn'∧Src a bs (ro' 8288 g)∧VcR n gn0 r ro' gn'):=by
 have hs1:=hs
 refine a1U (fn:=Tryz.f96) (code:=a0b Tryz.f96) Tryz.func96 rfl (by kernel_rfl) ?_
 intro sl hs
 have s0:sl 0= .ptr 8288 g [] 0:=hs 0
 have s1:sl 1=i64 (n:Int):=hs 1
 dsimp only[Tryz.f96,a0b,Option.getD]
 refine Ybn ?_
 refine a0p rfl (c5p hc hs1 hn) ?_
 rintro _ ro1 gn1 ⟨fr1,hS1,u,L,rfl,rL,lu1,lu2,lL⟩
 dsimp only at fr1 lu1
 have hF1:Frx Wd3 (CxS g) ro0 gn0 ro1 gn1:=fr1.monoB (by decide)
 have u20:=hF1.up 20496
 have u32:=hF1.up 32800
 have bL:(b0G (ro1 8192 u)).isSome=true:=by rw[rL];rfl
 refine Ybn ?_
 refine a0p rfl (a4q hc hS1 (n:=24) (by omega)) ?_
 rintro _ _ _ ⟨z,rfl, -, hz,rfl,w2,rfl,hw2⟩
 have lm:(L.map i64).length=L.length:=List.length_map _
 have lk:L.length+1≤4294967296:=by omega
 by_cases z0:z=0
 ·have rL2:=rL
  rw[a0H]at rL2
  simp(maxSteps:=10000000) (disch:=first|assumption|omega) only[go_sem,eq_true z0,rL2,lk]
  refine a0Y (.ref 8192 (gn1 8192+1) [] 0 (L.length+1)) Ur ⟨KFt,Ue hw2,gn1 8192+1,L++ [0],by rw[List.length_append];rfl,?_,by omega,Ur,by rw[List.length_append];show n≤L.length+1;omega,by rw[List.length_append];show L.length+1≤n+1;omega⟩
  refine Ybp ?_
  rw[List.take_of_length_le (by omega)]
  show some (AV.row _)=some (AV.row _)
  rw[List.map_append]
  rfl
 ·by_cases z1:z=1
  ·by_cases hn0:(0:Int)<(n:Int)
   ·have hL0:0<L.length:=by omega
    have hk0: ∀(t:Option TI) (ro:Ro),a5J t ro (.ref 8192 u [] 0 L.length) (.sc (.int .i64 0))=a5J t ro (.ref 8192 u [] 0 L.length) (i64 ((0:Nat):Int)):=fun _ _=>rfl
    have rL2:=rL
    rw[a0H]at rL2
    simp(disch:=first|assumption|omega) only[go_sem,s0,s1,eq_false z0,eq_true z1,eq_true hn0]
    refine a0p rfl (c1l (s2:=32800) hc (Ue hw2) (xs:=[-1,55441]) Ur (by decide) (Nat.succ_pos _) (by show 2<4611686018427387904;decide)) ?_
    rintro _ _ _ ⟨q,hq,rfl,rfl,w4,rfl,hw4⟩
    generalize atI [-1,55441] q=y
    simp(maxSteps:=10000000) (disch:=first|assumption|omega) only[go_sem,rL2,hk0,hL0,lm]
    refine a0Y (.ref 8192 u [] 0 L.length) Ur ⟨KFt,Ue hw4,u,L.set 0 y,by rw[List.length_set],?_,lu1,Ue lu2,by rw[List.length_set];omega,by rw[List.length_set];omega⟩
    refine Ybp ?_
    show some (AV.row _)=some (AV.row _)
    rw[←List.map_set]
   ·simp only[go_sem,s1,eq_false z0,eq_true z1,eq_false hn0]
    exact a0Y (.ref 8192 u [] 0 L.length) Ur ⟨KFt,by first|exact hw2|(simp only[↓za, ↓reduceIte,zb];exact hw2),u,L,rfl,by first|exact rL|(simp only[↓za, ↓reduceIte,Nat.reduceEqDiff,zb,reduceCtorEq];exact rL),lu1,by first|exact lu2|(simp only[↓za, ↓reduceIte,Nat.reduceEqDiff,zb,reduceCtorEq];exact lu2),by omega,by omega⟩
  ·simp only[go_sem,eq_false z0,eq_false z1]
   exact a0Y (.ref 8192 u [] 0 L.length) Ur ⟨KFt,by first|exact hw2|(simp only[↓za, ↓reduceIte,zb];exact hw2),u,L,rfl,by first|exact rL|(simp only[↓za, ↓reduceIte,Nat.reduceEqDiff,zb,reduceCtorEq];exact rL),lu1,by first|exact lu2|(simp only[↓za, ↓reduceIte,Nat.reduceEqDiff,zb,reduceCtorEq];exact lu2),by omega,by omega⟩
def Wd4:List Nat:=[8288,24592,8192,20528,20496,32800,4096,16400]
def LsR(gn:Nat→Nat)(r:AV)(ro':Ro)(gn':Nat→Nat):Prop:= ∃(s u:Nat) (p:List Nat) (L:List Int),r= .ref s u p 0 L.length∧(s=8192∨s=16400)∧gn s<u∧u≤gn' s∧L.length≤101∧ ∀ro2:Ro,ro2 s u=ro' s u→exq 7 ro2 r (.imm (L.map i64))∧(ro2.cells s u p).isSome=true
theorem LsR.of(n:Nat){gn:Nat→Nat}{r:AV}{ro':Ro}{gn':Nat→Nat}(hn:n≤100)(h:VcR n gn r ro' gn'):LsR gn r ro' gn':=by
 obtain⟨u,L,rfl,h2,h3,h4,h5,h6⟩:=h
 exact⟨8192,u,[],L,rfl,.inl rfl,h3,h4,by omega,fun ro2 e=>⟨a0q (e.trans h2) rfl (by decide),by simp only[Ro.cells,e.trans h2];rfl⟩⟩
theorem LsR.up{gn gn1:Nat→Nat}{r:AV}{ro':Ro}{gn':Nat→Nat}(h:LsR gn1 r ro' gn')(h1:gn 8192≤gn1 8192)(h2:gn 16400≤gn1 16400):LsR gn r ro' gn':=by
 obtain⟨s,u,p,L,e,hs,k1,k2,k3,k4⟩:=h
 refine⟨s,u,p,L,e,hs,?_,k2,k3,k4⟩
 rcases hs with rfl|rfl<;>omega
end
section
variable{a:AV}{bs:List Int}{g:Nat}{ro0:Ro}{gn0:Nat→Nat}
set_option maxHeartbeats 8000000 in
theorem sPk{T:List (List (List Int))}{cv:AV}{s u o m:Nat}(hc:Cod a bs)(hs:Src a bs (ro0 8288 g))(hsI:s∈WRs)(hcv:a0F cv T)(hz:SzP T)(hm:T.length=m)(hm1:m≤100)(hb:(b0G (ro0 s u)).isSome=true)(hx: ∀ro2:Ro,ro2 s=ro0 s→ro2 500000=ro0 500000→exq 7 ro2 (.ref s u [] o m) cv):
  InS Tryz.prog 55 [.ptr 8288 g [] 0,.agg [.ref s u [] o m]] ro0 gn0 (fun r ro' gn'=>Frx Wd4 (CxS g) ro0 gn0 ro' gn'∧Src a bs (ro' 8288 g)∧LsR gn0 r ro' gn'):=by
 have hs1:=hs
 obtain⟨e1,e2,e3,e4⟩:s≠8288∧s≠4096∧s≠8192∧s≠16400:=by
  have:=hsI
  simp only[WRs,WDs,List.mem_cons,List.not_mem_nil,or_false]at this
  omega
 have hbox: ∀(ro2:Ro),ro2 s=ro0 s→ro2 500000=ro0 500000→a8x 8 ro2 [.agg [.ref s u [] o m]] [.agg [cv]]:=fun ro2 h h'=> .cons (a1E (n:=7) (.cons (hx ro2 h h') .nil)) .nil
 have upE: ∀(ro:Ro) (S G:Nat) (v:AV),s≠S→upr ro S G v s=ro s:=fun ro S G v h=>funext fun y=>by rw[zdb,if_neg (fun e=>h e.1)]
 have upF: ∀(ro:Ro) (S G:Nat) (v:AV),500000≠S→upr ro S G v 500000=ro 500000:=fun ro S G v h=>funext fun y=>by rw[zdb,if_neg (fun e=>h e.1)]
 by_cases hR:a2j T
 ·have c1:=b6y hcv (t:=true) ⟨fun _=>hR,fun _=>rfl⟩
  by_cases hC:CmP T
  ·have c2:=a4F hcv hR.1 (t:=true) ⟨fun _=>hC,fun _=>rfl⟩
   have c3:=c1X hcv hR.1
   refine a1U (fn:=Tryz.f55) (code:=a0b Tryz.f55) Tryz.func55 rfl (by kernel_rfl) ?_
   intro sl hs
   have s0:sl 0= .ptr 8288 g [] 0:=hs 0
   have s1:sl 1= .agg [.ref s u [] o m]:=hs 1
   dsimp only[Tryz.f55,a0b,Option.getD]
   refine Yby ?_
   refine a0z _ c1 (hbox _ (by rw[upE _ _ _ _ e2]) (by rw[upF _ _ _ _ (by decide)])) rfl rfl rfl ?_
   refine Yby ?_
   refine a0z _ c2 (hbox _ (by rw[upE _ _ _ _ e2]) (by rw[upF _ _ _ _ (by decide)])) rfl rfl rfl ?_
   refine Ygs ?_
   refine a0p rfl (a4q hc (Ue hs1) (n:=8) (by omega)) ?_
   rintro _ _ _ ⟨v,rfl, -, hv,rfl,w,rfl,hw⟩
   by_cases h0:v=0
   ·simp only[go_sem,s0,a1l,hb,e1,e2,eq_true h0]
    refine a0p rfl (c4b (n:=m) hc (Ue hw) (by omega)) ?_
    rintro r ro1 gn1 ⟨fr,hS,hV⟩
    refine Ybn ?_
    exact a0Y r Ur ⟨(show Frx Wd4 (CxS g) ro0 gn0 _ _ from KFt).trans (fr.monoB (by decide)) (fun x y h=> .inr h),hS,(LsR.of m hm1 hV).up (by first|exact Nat.le_refl _|(simp only[↓za, ↓reduceIte,Nat.reduceEqDiff,zb,reduceCtorEq];omega)) (by first|exact Nat.le_refl _|(simp only[↓za, ↓reduceIte,Nat.reduceEqDiff,zb,reduceCtorEq];omega))⟩
   ·simp(disch:=first|assumption|omega) only[go_sem,a1l,eq_false h0]
    obtain⟨X,eX⟩: ∃X,c0E T=X:=⟨_,rfl⟩
    have hX1:X.length≤16:=by rw[←eX, ←a7H hR.1];exact Nat.le_trans (b0m hR.1) hR.1.2.1
    have hX2: ∀k,k<X.length→(X.getD k []).length=m:=fun k hk=>by
     have:=a2X hk
     rw[←eX]at this hk ⊢
     rw[((a8e hR.1).1 this).1,hm]
    rw[eX]at c3
    refine a0z _ c3 (hbox _ (by rw[upE _ _ _ _ e1,upE _ _ _ _ e2]) (by rw[upF _ _ _ _ (by decide),upF _ _ _ _ (by decide)])) rfl rfl (a3V X) ?_
    by_cases hl0:(X.length:Int)=0
    ·simp only[go_sem,s0,a1l,a3i,hb,e1,e2,e4,a0i,List.length_map,a0I,eq_true hl0]
     refine a0p rfl (c4b (n:=m) hc (Ue hw) (by omega)) ?_
     rintro r ro1 gn1 ⟨fr,hS,hV⟩
     refine Ybn ?_
     exact a0Y r Ur ⟨(show Frx Wd4 (CxS g) ro0 gn0 _ _ from KFt).trans (fr.monoB (by decide)) (fun x y h=> .inr h),hS,(LsR.of m hm1 hV).up (by first|exact Nat.le_refl _|(simp only[↓za, ↓reduceIte,Nat.reduceEqDiff,zb,reduceCtorEq];omega)) (by first|exact Nat.le_refl _|(simp only[↓za, ↓reduceIte];omega))⟩
    ·have hl1:(1:Int)≤X.length:=by omega
     simp only[go_sem,s0,a0i,List.length_map,a0I,eq_false hl0]
     refine a0p rfl (a4q hc (Ue hw) (n:=(X.length:Int)) (by omega)) ?_
     rintro _ _ _ ⟨z,rfl, -, hz,rfl,w2,rfl,hw2⟩
     obtain⟨z0,z1⟩:=hz hl1
     obtain⟨k,rfl⟩:=Int.eq_ofNat_of_zero_le z0
     have hk:k<X.length:=by omega
     have hg:=a2J hk
     have hL:=hX2 k hk
     obtain⟨L,eL⟩: ∃L,X.getD k []=L:=⟨_,rfl⟩
     have hXk:X[k]?=some L:=by rw[←eL,List.getD_eq_getElem?_getD,List.getElem?_eq_getElem hk];rfl
     rw[eL]at hg hL
     simp only[go_sem,hk,hg,List.length_map]
     refine a0Y (.ref 16400 (gn0 16400+1) [k] 0 L.length) Ur ⟨KFt,Ue hw2,16400,gn0 16400+1,[k],L,rfl,.inr rfl,Nat.lt_succ_self _,Ur,by omega,fun ro2 e=>?_⟩
     have e':ro2 16400 (gn0 16400+1)=some (a0I X):=by
      rw[e]
      refine Ybp ?_
      first|done|trivial|rfl
     exact⟨a4L e' hXk rfl (by decide),by simp only[Ro.cells,Ro.at,e',a0I,ath,hg];first|done|trivial|rfl⟩
  ·have c2:=a4F hcv hR.1 (t:=false) ⟨fun h=>Bool.noConfusion h,fun h=>absurd h hC⟩
   refine a1U (fn:=Tryz.f55) (code:=a0b Tryz.f55) Tryz.func55 rfl (by kernel_rfl) ?_
   intro sl hs
   have s0:sl 0= .ptr 8288 g [] 0:=hs 0
   have s1:sl 1= .agg [.ref s u [] o m]:=hs 1
   dsimp only[Tryz.f55,a0b,Option.getD]
   refine Yby ?_
   refine a0z _ c1 (hbox _ (by rw[upE _ _ _ _ e2]) (by rw[upF _ _ _ _ (by decide)])) rfl rfl rfl ?_
   refine Yby ?_
   refine a0z _ c2 (hbox _ (by rw[upE _ _ _ _ e2]) (by rw[upF _ _ _ _ (by decide)])) rfl rfl rfl ?_
   refine Ygs ?_
   refine a0p rfl (c4b (n:=m) hc (Ue hs1) (by omega)) ?_
   rintro r ro1 gn1 ⟨fr,hS,hV⟩
   refine Ybn ?_
   exact a0Y r Ur ⟨(show Frx Wd4 (CxS g) ro0 gn0 _ _ from KFt).trans (fr.monoB (by decide)) (fun x y h=> .inr h),hS,(LsR.of m hm1 hV).up (by first|exact Nat.le_refl _|(simp only[↓za, ↓reduceIte,Nat.reduceEqDiff,zb,reduceCtorEq];omega)) (by first|exact Nat.le_refl _|(simp only[↓za, ↓reduceIte,Nat.reduceEqDiff,zb,reduceCtorEq];omega))⟩
 ·have c1:=b6y hcv (t:=false) ⟨fun h=>Bool.noConfusion h,fun h=>absurd h hR⟩
  refine a1U (fn:=Tryz.f55) (code:=a0b Tryz.f55) Tryz.func55 rfl (by kernel_rfl) ?_
  intro sl hs
  have s0:sl 0= .ptr 8288 g [] 0:=hs 0
  have s1:sl 1= .agg [.ref s u [] o m]:=hs 1
  dsimp only[Tryz.f55,a0b,Option.getD]
  refine Yby ?_
  refine a0z _ c1 (hbox _ (by rw[upE _ _ _ _ e2]) (by rw[upF _ _ _ _ (by decide)])) rfl rfl rfl ?_
  refine Ygs ?_
  refine a0p rfl (c4b (n:=m) hc (Ue hs1) (by omega)) ?_
  rintro r ro1 gn1 ⟨fr,hS,hV⟩
  refine Ybn ?_
  exact a0Y r Ur ⟨(show Frx Wd4 (CxS g) ro0 gn0 _ _ from KFt).trans (fr.monoB (by decide)) (fun x y h=> .inr h),hS,(LsR.of m hm1 hV).up (by first|exact Nat.le_refl _|(simp only[↓za, ↓reduceIte,Nat.reduceEqDiff,zb,reduceCtorEq];omega)) (by first|exact Nat.le_refl _|(simp only[↓za, ↓reduceIte,Nat.reduceEqDiff,zb,reduceCtorEq];omega))⟩
end
theorem RdU.keep{ro ro':Ro}{gn gn':Nat→Nat}{T:List (List (List Int))}{c:AV}(h:RdU ro gn T c)(hk: ∀x y,y≤gn x→x≠8288→x≠4096→ro' x y=ro x y)(hg: ∀x,gn x≤gn' x):RdU ro' gn' T c:=by
 obtain⟨s,u,o,m,cv,rfl,⟨h1,h2,hm⟩,h3,h4,h5,h6,h7⟩:=h
 exact⟨s,u,o,m,cv,rfl,⟨h1,h2,hm⟩,Nat.le_trans h3 (hg s),by rw[hk s u h3 h1 h2];exact h4,h5,h6,fun ro2 hk2=>h7 ro2 fun x y hx hy=>(hk2 x y hx (Nat.le_trans hy (hg x))).trans (hk x y hy (by rcases hx with rfl|rfl<;>first|exact h1|decide) (by rcases hx with rfl|rfl<;>first|exact h2|decide))⟩
theorem ShV.keep{ro ro':Ro}{gn gn':Nat→Nat}{T:List (List (List Int))}{c:AV}(h:ShV ro gn T c)(hR:RdU ro gn T c)(hk: ∀x y,y≤gn x→x≠8288→x≠4096→ro' x y=ro x y)(hg: ∀x,gn x≤gn' x):ShV ro' gn' T c:=by
 obtain⟨s,u,n,o,m,rfl,h⟩:=h
 obtain⟨s',u',o',m',cv,e,⟨h1,h2,hm⟩,h3, -⟩:=hR
 obtain⟨rfl,rfl⟩:s=s'∧u=u':=by injection e with e1 e2;exact⟨e1,e2⟩
 refine⟨s,u,n,o,m,rfl,?_⟩
 rcases h with⟨F,k1,k2⟩|⟨k0,L,gb,F,k1,k2,k3,k4⟩
 ·exact .inl ⟨F,by rw[hk s u h3 h1 h2];exact k1,k2⟩
 ·exact .inr ⟨k0,L,gb,F,by rw[hk s u h3 h1 h2];exact k1,k2,fun x hx=>⟨by rw[hk 500000 _ (k3 x hx).2 (by decide) (by decide)];exact(k3 x hx).1,Nat.le_trans (k3 x hx).2 (hg _)⟩,k4⟩
section
variable{a:AV}{bs:List Int}{g:Nat}{ro0:Ro}{gn0:Nat→Nat}
theorem c4e{mx:Nat}(hc:Cod a bs)(hs:Src a bs (ro0 8288 g))(h1:1≤mx)(h16:mx≤16):InS Tryz.prog 42 [.ptr 8288 g [] 0,i64 (mx:Int)] ro0 gn0 (fun r ro' gn'=>Frx W38 (CxS g) ro0 gn0 ro' gn'∧Src a bs (ro' 8288 g)∧ ∃T c,r= .agg [c]∧RdU ro' gn' T c∧ShV ro' gn' T c):=by
 have hs1:=hs
 refine a1U (fn:=Tryz.f42) (code:=a0b Tryz.f42) Tryz.func42 rfl (by kernel_rfl) ?_
 intro sl hs
 have s0:sl 0= .ptr 8288 g [] 0:=hs 0
 have s1:sl 1=i64 (mx:Int):=hs 1
 dsimp only[Tryz.f42,a0b,Option.getD]
 simp only[go_sem,s0,s1,a1l]
 refine a0p rfl (b4L hc (Ue hs1) h1 h16) ?_
 rintro _ ro1 gn1 ⟨fr1,hS1,T,c,rfl,hR,hV⟩
 have hF1:Frx W38 (CxS g) ro0 gn0 ro1 gn1:=(show Frx W38 (CxS g) ro0 gn0 (upr ro0 4096 (gn0 4096+1) (.bx [a1q])) (upg gn0 4096 (gn0 4096+1))from KFt).trans (fr1.monoB (by decide)) (fun x y h=> .inr h)
 have r4:ro1 4096 (gn0 4096+1)=some (.bx [a1q]):=(fr1.kp _ _ Ur (fun e=>by have:=e.1;omega)).trans Ur
 obtain⟨s,u,o,m,cv,rfl,⟨n1,n2,hm⟩,h3,h4,h5,h6,h7⟩:=id hR
 have hlf:=zfh 4096 (gn0 4096+1) [0] s u [] o m
 simp(maxSteps:=10000000) (disch:=first|assumption|omega) only[go_sem,a1l,r4,h4]
 exact a3W (s:=4096) (g:=gn0 4096+1) Ur Ur hlf ⟨hF1.wr 4096 _ _ (by decide) (.inl (by omega)),Ue hS1,T,_,rfl,hR.keep (fun x y hy n1 n2=>by rw[zdb,if_neg (fun e=>n2 e.1)]) (fun x=>Nat.le_refl _),hV.keep hR (fun x y hy n1 n2=>by rw[zdb,if_neg (fun e=>n2 e.1)]) (fun x=>Nat.le_refl _)⟩
def Wdc:List Nat:=[8288,8256,24608,16432,28752,49200,69696,82032,82064,90160,106608,110656,8192,28688,32768,4096,20544,8240,500000,24832,8304,36912,36944,24640,49168,12320,24688,24592,20528,20496,32800,16400]
theorem xPk{T:List (List (List Int))}{cv:AV}{s u o m:Nat}{ops:Array Oper}{i:Nat}{st:St}(hc:Cod a bs)(hs:Src a bs (st.ro 8288 g))(hsI:s∈WRs)(hcv:a0F cv T)(hz:SzP T)(hm:T.length=m)(hm1:m≤100)(hb:(b0G (st.ro s u)).isSome=true)(hx: ∀ro2:Ro,ro2 s=st.ro s→ro2 500000=st.ro 500000→exq 7 ro2 (.ref s u [] o m) cv)(ha:a2U ops i=true):
  inX XX ops i 55 [.ptr 8288 g [] 0,.agg [.ref s u [] o m]] st (fun r ro' gn'=>Frx Wd4 (CxS g) st.ro st.gn ro' gn'∧(Src a bs (ro' 8288 g)∧LsR st.gn r ro' gn')) [s,500000] Wd4:=
 c0Z (R:=[s,500000]) (Res:=fun gn r ro' gn'=>Src a bs (ro' 8288 g)∧LsR gn r ro' gn') (fun ro1 gn1 h1 _=>sPk hc (by rw[h1 8288 (.inr (by decide))];exact hs) hsI hcv hz hm hm1 (by rw[h1 s (.inl (by simp))];exact hb) (fun ro2 k1 k2=>hx ro2 (by rw[k1,h1 s (.inl (by simp))]) (by rw[k2,h1 500000 (.inl (by simp))]))) (fun gn r ro' gn' ro2 gn1 gn2 hh h=>by
  obtain⟨k1,s',u',p,L,e1,e2,e3,e4,e5,e6⟩:=h
  have q:ro2 s'=ro' s'∧gn1 s'=gn s'∧gn2 s'=gn' s':=by rcases e2 with rfl|rfl<;>exact hh _ (by decide)
  exact⟨by rw[(hh 8288 (by decide)).1];exact k1,s',u',p,L,e1,e2,by rw[q.2.1];exact e3,by rw[q.2.2];exact e4,e5,fun ro3 e=>e6 ro3 (by rw[e,q.1])⟩) ha
  ⟨.ref 8192 (st.gn 8192+1) [] 0 0,upr st.ro 8192 (st.gn 8192+1) (a0H []),upg st.gn 8192 (st.gn 8192+1),(Frx.refl _ _ _ _).al _ _ _ (by decide) rfl,by rw[a2u (by decide)];exact hs,8192,st.gn 8192+1,[],[],rfl,.inl rfl,Nat.lt_succ_self _,by rw[zda,if_pos rfl];exact Nat.le_refl _,by decide,fun ro3 e=>⟨a0q (e.trans (a2Z _ _ _ _)) rfl (by decide),by simp only[Ro.cells,e.trans (a2Z _ _ _ _)];rfl⟩⟩
end
def fpK(s:Nat):List FP:=[⟨some [12320],[]⟩,e0,⟨some [12320],[]⟩,⟨some [s,500000],Wd4⟩,⟨some [4096,s],[4096]⟩,e0]
theorem LsR.wr{gn:Nat→Nat}{r:AV}{ro':Ro}{gn':Nat→Nat}(h:LsR gn r ro' gn')(G:Nat)(v:AV):LsR gn r (upr ro' 4096 G v) gn':=by
 obtain⟨s,u,p,L,e,hs,k1,k2,k3,k4⟩:=h
 refine⟨s,u,p,L,e,hs,k1,k2,k3,fun ro2 e=>k4 ro2 ?_⟩
 rw[e,zdb,if_neg]
 rintro⟨rfl, -⟩
 rcases hs with h|h<;>exact absurd h (by decide)
section
variable{a:AV}{bs:List Int}{ro0:Ro}{gn0:Nat→Nat}
end
def fpL(s:Nat):List FP:=[⟨some [12320],[]⟩,e0,⟨some [12320],[]⟩,⟨some [s,500000],Wd4⟩,e0,⟨some [12320],[]⟩,⟨some [s,500000],Wd4⟩,⟨some [4096,s],[4096]⟩,e0,e0]
theorem LsR.frx{W:List Nat}{g:Nat}{gn gn1 gn':Nat→Nat}{r:AV}{ro ro':Ro}(h:LsR gn r ro gn1)(fr:Frx W (CxS g) ro gn1 ro' gn'):LsR gn r ro' gn':=by
 obtain⟨s,u,p,L,e,hs,k1,k2,k3,k4⟩:=h
 refine⟨s,u,p,L,e,hs,k1,Nat.le_trans k2 (fr.up s),k3,fun ro2 e=>k4 ro2 ?_⟩
 rw[e]
 exact fr.kp s u k2 (fun e=>by have:=e.1;omega)
theorem RdU.frx{W:List Nat}{g:Nat}{ro ro':Ro}{gn gn':Nat→Nat}{T:List (List (List Int))}{c:AV}(h:RdU ro gn T c)(fr:Frx W (CxS g) ro gn ro' gn'):RdU ro' gn' T c:=
 h.keep (fun x y hy n1 _=>fr.kp x y hy fun e=>n1 e.1) fr.up
section
variable{a:AV}{bs:List Int}{ro0:Ro}{gn0:Nat→Nat}
end
end Go.Proofs.YtbakhfiibjkifaaGreat
