/- Texts joined: DaD Db0. -/
import Derived.Test.YtbakhfiibjkifaaGreatRd
set_option linter.all false
/- Draws: rings, mostly. -/
namespace Go.Proofs.YtbakhfiibjkifaaGreat
open Go.RowKit
set_option maxRecDepth 1000000
theorem a4r{p:Nat→Bool}{s:Nat}(hs:s∈WRs)(h:WRs.all p=true):p s=true:=List.all_eq_true.1 h s hs
def ShV(ro:Ro)(gn:Nat→Nat)(T:List (List (List Int)))(c:AV):Prop:=
 ∃(s u n o m:Nat),c= .ref s u [] o m∧((∃F:C3,ro s u=some (a0t F n)∧T=TL (((List.range n).drop o).take m) F n)∨(o=0∧ ∃(L:List Nat) (gb:Nat) (F:C3),ro s u=some (.bx (L.map fun x=> .ref 500000 (gb+1+x) [] 0 n))∧m=L.length∧(∀x,x∈L→ro 500000 (gb+1+x)=some (plA F n x)∧gb+1+x≤gn 500000)∧T=TL L F n))
def fpA(s:Nat):List FP:=[⟨some [8240],[]⟩,⟨some [8240],[]⟩,e0,e0,⟨some [],[8288]⟩,⟨some [s],[]⟩,⟨some [s],[]⟩,e0,e0,⟨some [],[8288]⟩,⟨some [s],[]⟩,⟨some [s],[]⟩,e0,e0,⟨some [],[8288]⟩,e0,⟨some [],[24832]⟩,⟨some [24832],[8288]⟩,⟨some [s],[]⟩,⟨some [s],[s]⟩]
def fpB(s:Nat):List FP:=[⟨some [8240],[]⟩,⟨some [8240],[]⟩,e0,⟨some [8240],[]⟩,⟨some [8240],[]⟩,e0,e0,⟨some [],[8288]⟩,⟨some [s],[]⟩,⟨some [s],[]⟩,⟨some [s],[]⟩,⟨some [s,500000],[s]⟩]
set_option maxHeartbeats 16000000 in
theorem b4L{a:AV}{bs:List Int}{g:Nat}{gn0x:Ro}{gn0:Nat→Nat}{mx:Nat}(hc:Cod a bs)(hs:Src a bs (gn0x 8288 g))(h1:1≤mx)(h16:mx≤16):InS Tryz.prog 85 [.ptr 8288 g [] 0,i64 (mx:Int)] gn0x gn0
  (fun r ro' gn'=>Frx W38 (CxS g) gn0x gn0 ro' gn'∧Src a bs (ro' 8288 g)∧ ∃T c,r= .agg [c]∧RdU ro' gn' T c∧ShV ro' gn' T c):=by
 have hs1:=hs
 refine a1U (fn:=Tryz.f85) (code:=a0b Tryz.f85) Tryz.func85 rfl (by kernel_rfl) ?_
 intro sl hs
 have s0:sl 0= .ptr 8288 g [] 0:=hs 0
 have s1:sl 1=i64 (mx:Int):=hs 1
 dsimp only[Tryz.f85,a0b,Option.getD]
 simp only[go_sem,s0,s1,a1l]
 refine a0p rfl (c3K hc (Ue hs1) h1 h16) ?_
 rintro _ ro1 gn1 ⟨fr1,k,h,s,u,n,F,hk,hro,hsI,rfl,l1,l2,n1,n2,hX⟩
 have hF1:Frx W38 (CxS g) gn0x gn0 ro1 gn1:=(show Frx W38 (CxS g) gn0x gn0 (upr gn0x 4096 (gn0 4096+1) (.bx [a1q])) (upg gn0 4096 (gn0 4096+1))from KFt).trans (fr1.monoB (by decide)) (fun x y h=> .inr h)
 have r4:ro1 4096 (gn0 4096+1)=some (.bx [a1q]):=(fr1.kp _ _ Ur (fun e=>by have:=e.1;omega)).trans Ur
 obtain⟨e1,e2,e3,e4,e5⟩:s≠8288∧s≠8240∧s≠4096∧s≠24832∧s≠500000:=by
  have:=hsI
  simp only[WRs,WDs,List.mem_cons,List.not_mem_nil,or_false]at this
  omega
 have hsW:s∈W38:=List.contains_iff_mem.1 (List.all_eq_true.1 (show WRs.all (fun s=>W38.contains s)=true by decide) s hsI)
 simp only[↓za, ↓reduceIte,e3]at l1
 have w1:=hF1.up 4096
 have w2:=hF1.up 8240
 have w3:=hF1.up 24832
 rcases hX with⟨hv,rF⟩|⟨hv,gb,b1,b2,rF,rP⟩
 ·refine Ycr ?_
  refine a0p rfl (b1s hc hk (Ue hro) (n:=20) (by omega) (by omega)) ?_
  rintro _ ro2 gn2 ⟨rfl,v0,v1,hgE,k2,hS2,f2⟩
  dsimp only at hgE k2 f2
  subst hgE
  have hF2:=f2 W38 gn0x gn0 (by decide) KFt
  have c5:ro2 8240 (gn1 8240+1)=some (.bx [.ref s u [] 0 n]):=(k2 _ _ (by decide)).trans Ur
  have c4:ro2 4096 (gn0 4096+1)=some (.bx [a1q]):=(k2 _ _ (by decide)).trans (Ue r4)
  have cF:ro2 s u=some (a0t F n):=(k2 _ _ e1).trans (by simp only[↓za, ↓reduceIte,zb,e2];exact rF)
  generalize nxV bs k h 20=v at hv v0 v1
  have hv2: ¬v=2:=hv
  by_cases hx0:v=0
  ·simp only[go_sem,s0,ti2,a1l,eq_true hx0,c5]
   refine a4T (fpA s) (b3T hc hS2 (n:=(n:Int)) (by omega) (by kernel_rfl)) rfl ?_ rfl ?_ rfl
   rotate_left
   ·exact a4r (p:=fun s=>okD _ (fpA s)) hsI (by kernel_rfl)
   intro r4x ro4 gn4 hN
   obtain⟨i,rfl, -, hi,hgE,k4,hS4,f4⟩:=hN.out
   dsimp only at hgE k4 f4
   subst hgE
   obtain⟨i0,i1⟩:=hi (by omega)
   obtain⟨i,rfl⟩:=Int.eq_ofNat_of_zero_le i0
   have hF4:=f4 W38 _ _ (by decide) hF2
   have c5:=(k4 8240 _ (by decide)).trans c5
   have c4:=(k4 4096 _ (by decide)).trans c4
   have cF:=(k4 s _ e1).trans cF
   have hin:i<n:=by omega
   simp only[go_sem,s0,cF,hin]
   refine a5c (b3T hc hS4 (n:=(n:Int)) (by omega) (by kernel_rfl)) ?_ rfl
   intro r5x ro5 gn5 hN
   obtain⟨j,rfl, -, hj,hgE,k5,hS5,f5⟩:=hN.out
   dsimp only at hgE k5 f5
   subst hgE
   obtain⟨j0,j1⟩:=hj (by omega)
   obtain⟨j,rfl⟩:=Int.eq_ofNat_of_zero_le j0
   have hF5:=f5 W38 _ _ (by decide) hF4
   have c5:=(k5 8240 _ (by decide)).trans c5
   have c4:=(k5 4096 _ (by decide)).trans c4
   have cF:=(k5 s _ e1).trans cF
   have hjn:j<n:=by omega
   simp only[go_sem,s0,cF,hjn,hin]
   refine a5c (b3T hc hS5 (n:=(n:Int)) (by omega) (by kernel_rfl)) ?_ rfl
   intro r6x ro6 gn6 hN
   obtain⟨z,rfl, -, hz,hgE,k6,hS6,f6⟩:=hN.out
   dsimp only at hgE k6 f6
   subst hgE
   obtain⟨z0,z1⟩:=hz (by omega)
   obtain⟨z,rfl⟩:=Int.eq_ofNat_of_zero_le z0
   have hF6:=f6 W38 _ _ (by decide) hF5
   have c5:=(k6 8240 _ (by decide)).trans c5
   have c4:=(k6 4096 _ (by decide)).trans c4
   have cF:=(k6 s _ e1).trans cF
   have hzn:z<n:=by omega
   simp(disch:=first|assumption|omega) only[go_sem,s0,ti2]
   refine a5c (c4F (s2:=24832) hc (Ue hS6) (xs:=[0,1,2, -1,1001]) Ur (by decide) (by show 0<5;decide) (by show 5<4611686018427387904;decide) (by kernel_rfl)) ?_ rfl
   intro r7x ro7 gn7 hN
   obtain⟨q,hq,rfl,hgE,k7,hS7,f7⟩:=hN.out
   dsimp only at hgE k7 f7
   subst hgE
   generalize atI [0,1,2, -1,1001] q=qv
   have hF7:=f7 W38 gn0x gn0 (by decide) KFt
   have c5:=(k7 8240 (gn1 8240+1) (by decide)).trans (Ue c5)
   have c4:=(k7 4096 (gn0 4096+1) (by decide)).trans (Ue c4)
   have cF:=(k7 s u e1).trans (by simp only[↓za, ↓reduceIte,zb,e4];exact cF)
   have hw:=a1m (v:=qv) cF hin hjn hzn
   simp(disch:=first|assumption|omega) only[go_sem,ti2,hzn,a0M cF hin hjn,a1x cF hin hjn,hw]
   refine a6K rfl ?_
   refine Ydv ?_
   exact a3W (s:=4096) (g:=gn0 4096+1) Ur Ur (zfh _ _ _ _ _ _ _ _) ⟨((hF7.wr s u _ hsW (.inl l1)).wr 4096 _ _ (by decide) (.inl (by omega))),by(simp only[↓za, ↓reduceIte,Nat.reduceEqDiff,zb,e1.symm];exact hS7),TL (((List.range n).drop 0).take n) (a0Z F i j z qv) n,.ref s u [] 0 n,rfl,⟨s,u,0,n,_,rfl,⟨e1,e3,by omega,hsI,(List.length_map _).trans (by rw[List.length_take,List.length_drop,List.length_range];omega)⟩,by(simp only[↓za, ↓reduceIte,e2,e4];exact l2),by(simp only[↓za, ↓reduceIte,zb,e3];rfl),b1a _ _ _,b7e (by rw[List.length_take,List.length_drop,List.length_range];omega) (by omega),fun ro2 hk2=>a5X ((hk2 s u (.inl rfl) (by simp only[↓za, ↓reduceIte,e2,e4];exact l2)).trans (by first|(simp only[↓za, ↓reduceIte,zb,e3];done)|(simp only[↓za, ↓reduceIte,Nat.reduceEqDiff,zb,reduceCtorEq,e1,e2,e3,e4,e5,e1.symm,e2.symm,e3.symm,e4.symm,e5.symm];exact cF)))⟩,s,u,n,0,n,rfl,.inl ⟨(a0Z F i j z qv),by first|(simp only[↓za, ↓reduceIte,zb,e3];done)|(simp only[↓za, ↓reduceIte,Nat.reduceEqDiff,zb,reduceCtorEq,e1,e2,e3,e4,e5,e1.symm,e2.symm,e3.symm,e4.symm,e5.symm];exact cF),rfl⟩⟩
  ·by_cases hx1:v=1
   ·have hsub:((n:Int)-1).toNat=n-1:=by omega
    simp(disch:=first|assumption|omega) only[go_sem,Int.reduceToNat,ti2,a1l,eq_true hx1,c5,cF,c4,Option.map_none,Option.map_some,hsub,e2]
    exact a3W (s:=4096) (g:=gn0 4096+1) Ur Ur (zfh _ _ _ _ _ _ _ _) ⟨((hF2.wr 8240 _ _ (by decide) (.inl (by omega))).wr 4096 _ _ (by decide) (.inl (by omega))),by(simp only[↓za, ↓reduceIte,Nat.reduceEqDiff,zb];exact hS2),TL (((List.range n).drop 1).take (n-1)) F n,.ref s u [] 1 (n-1),rfl,⟨s,u,1,(n-1),_,rfl,⟨e1,e3,by omega,hsI,(List.length_map _).trans (by rw[List.length_take,List.length_drop,List.length_range];omega)⟩,by(simp only[↓za, ↓reduceIte,e2];exact l2),by(simp only[↓za, ↓reduceIte,zb,e2,e3,cF];rfl),b1a _ _ _,b7e (by rw[List.length_take,List.length_drop,List.length_range];omega) (by omega),fun ro2 hk2=>a5X ((hk2 s u (.inl rfl) (by simp only[↓za, ↓reduceIte,e2];exact l2)).trans (by first|(simp only[↓za, ↓reduceIte,zb,e2,e3];done)|(simp only[↓za, ↓reduceIte,zb,e2,e3];exact cF)))⟩,s,u,n,1,(n-1),rfl,.inl ⟨F,by first|(simp only[↓za, ↓reduceIte,zb,e2,e3];done)|(simp only[↓za, ↓reduceIte,zb,e2,e3];exact cF),rfl⟩⟩
   ·simp(disch:=first|assumption|omega) only[go_sem,ti2,a1l,eq_false hx0,eq_false hx1,eq_false hv2,c5,c4,cF]
    exact a3W (s:=4096) (g:=gn0 4096+1) Ur Ur (zfh _ _ _ _ _ _ _ _) ⟨KFt,by(simp only[↓za, ↓reduceIte,Nat.reduceEqDiff,zb];exact hS2),TL (((List.range n).drop 0).take n) F n,.ref s u [] 0 n,rfl,⟨s,u,0,n,_,rfl,⟨e1,e3,by omega,hsI,(List.length_map _).trans (by rw[List.length_take,List.length_drop,List.length_range];omega)⟩,by(simp only[↓za, ↓reduceIte,e2];exact l2),by(simp only[↓za, ↓reduceIte,zb,e3,cF];rfl),b1a _ _ _,b7e (by rw[List.length_take,List.length_drop,List.length_range];omega) (by omega),fun ro2 hk2=>a5X ((hk2 s u (.inl rfl) (by simp only[↓za, ↓reduceIte,e2];exact l2)).trans (by first|(simp only[↓za, ↓reduceIte,zb,e3];done)|(simp only[↓za, ↓reduceIte,zb,e3];exact cF)))⟩,s,u,n,0,n,rfl,.inl ⟨F,by first|(simp only[↓za, ↓reduceIte,zb,e3];done)|(simp only[↓za, ↓reduceIte,zb,e3];exact cF),rfl⟩⟩
 ·refine Ycr ?_
  refine a0p rfl (b1s hc hk (Ue hro) (n:=20) (by omega) (by omega)) ?_
  rintro _ ro2 gn2 ⟨rfl,v0,v1,hgE,k2,hS2,f2⟩
  dsimp only at hgE k2 f2
  subst hgE
  rw[hv]
  have hF2:=f2 W38 gn0x gn0 (by decide) KFt
  have c5:ro2 8240 (gn1 8240+1)=some (.bx [.ref s u [] 0 n]):=(k2 _ _ (by decide)).trans Ur
  have c4:ro2 4096 (gn0 4096+1)=some (.bx [a1q]):=(k2 _ _ (by decide)).trans (Ue r4)
  have cF:ro2 s u=some (.bx ((List.range n).map fun x=> .ref 500000 (gb+1+x) [] 0 n)):=(k2 _ _ e1).trans (by simp only[↓za, ↓reduceIte,zb,e2];exact rF)
  have cP: ∀x,x<n→ro2 500000 (gb+1+x)=some (plA F n x):=fun x hx=>(k2 _ _ (by decide)).trans (by simp only[↓za, ↓reduceIte,Nat.reduceEqDiff,zb];exact rP x hx)
  simp(disch:=first|assumption|omega) only[go_sem,s0,ti2]
  refine a0p rfl (a4q hc hS2 (n:=(n:Int)) (by omega)) ?_
  intro r3x ro3 gn3 hN
  obtain⟨i,rfl, -, hi,hgE,k3,hS3,f3⟩:=hN.out
  dsimp only at hgE k3 f3
  subst hgE
  obtain⟨i0,i1⟩:=hi (by omega)
  obtain⟨i,rfl⟩:=Int.eq_ofNat_of_zero_le i0
  have hF3:=f3 W38 _ _ (by decide) hF2
  have c5:=(k3 8240 _ (by decide)).trans c5
  have c4:=(k3 4096 _ (by decide)).trans c4
  have cF:=(k3 s _ e1).trans cF
  have cP: ∀x,x<n→ro3 500000 (gb+1+x)=some (plA F n x):=fun x hx=>(k3 _ _ (by decide)).trans (cP x hx)
  have hin:i<n:=by omega
  simp only[go_sem,s0,a1l,c5]
  refine a4T (fpB s) (b3T hc hS3 (n:=(n:Int)) (by omega) (by kernel_rfl)) rfl ?_ rfl ?_ rfl
  rotate_left
  ·exact a4r (p:=fun s=>okD _ (fpB s)) hsI (by kernel_rfl)
  intro r4x ro4 gn4 hN
  obtain⟨j,rfl, -, hj,hgE,k4,hS4,f4⟩:=hN.out
  dsimp only at hgE k4 f4
  subst hgE
  obtain⟨j0,j1⟩:=hj (by omega)
  obtain⟨j,rfl⟩:=Int.eq_ofNat_of_zero_le j0
  have hF4:=f4 W38 _ _ (by decide) hF3
  have c5:=(k4 8240 _ (by decide)).trans c5
  have c4:=(k4 4096 _ (by decide)).trans c4
  have cF:=(k4 s _ e1).trans cF
  have cP: ∀x,x<n→ro4 500000 (gb+1+x)=some (plA F n x):=fun x hx=>(k4 _ _ (by decide)).trans (cP x hx)
  have hjn:j<n:=by omega
  have hgj:((List.range n).map fun x=>AV.ref 500000 (gb+1+x) [] 0 n)[j]?=some (.ref 500000 (gb+1+j) [] 0 n):=by rw[List.getElem?_map,List.getElem?_range hjn];rfl
  have cPj:=cP j hjn
  have hin1:i+1≤n:=by omega
  simp only[go_sem,cF,hin,hjn,hgj,cPj,List.length_range,hin1]
  refine a6K rfl ?_
  refine Ydv ?_
  have hset:((List.range n).map fun x=>AV.ref 500000 (gb+1+x) [] 0 n).set i (.ref 500000 (gb+1+j) [] 0 n)=((List.range n).set i j).map fun x=>AV.ref 500000 (gb+1+x) [] 0 n:=List.map_set.symm
  rw[hset]
  have hmem: ∀x,x∈(List.range n).set i j→x<n:=fun x hx=>by
   rcases List.mem_or_eq_of_mem_set hx with h|rfl
   ·exact List.mem_range.1 h
   ·exact hjn
  exact a3W (s:=4096) (g:=gn0 4096+1) Ur Ur (zfh _ _ _ _ _ _ _ _) ⟨(hF4.wr s u _ hsW (.inl l1)).wr 4096 _ _ (by decide) (.inl (by omega)),by(simp only[↓za, ↓reduceIte,Nat.reduceEqDiff,zb,e1.symm];exact hS4),TL ((List.range n).set i j) F n,.ref s u [] 0 n,rfl,⟨s,u,0,n,_,rfl,⟨e1,e3,by omega,hsI,(List.length_map _).trans (by rw[List.length_set,List.length_range])⟩,by(simp only[↓za, ↓reduceIte,e2];exact l2),by(simp only[↓za, ↓reduceIte,zb,e3];rfl),b1a _ _ _,b7e (by rw[List.length_set,List.length_range];omega) (by omega),fun ro2 hk2=>b9M (b:=500000) (gb:=gb) ((hk2 s u (.inl rfl) (by simp only[↓za, ↓reduceIte,e2];exact l2)).trans (by simp only[↓za, ↓reduceIte,zb,e3])) (fun x hx=>(hk2 500000 (gb+1+x) (.inr rfl) (by simp only[↓za, ↓reduceIte,Nat.reduceEqDiff];have:=hmem x hx;omega)).trans (by simp only[↓za, ↓reduceIte,Nat.reduceEqDiff,zb,e5.symm];exact cP x (hmem x hx))) (by rw[List.length_set,List.length_range])⟩,s,u,n,0,n,rfl,.inr ⟨rfl,(List.range n).set i j,gb,F,by simp only[↓za, ↓reduceIte,zb,e3],by rw[List.length_set,List.length_range],fun x hx=>⟨by simp only[↓za, ↓reduceIte,Nat.reduceEqDiff,zb,e5.symm];exact cP x (hmem x hx),by simp only[↓za, ↓reduceIte,Nat.reduceEqDiff];have:=hmem x hx;omega⟩,rfl⟩⟩
theorem c0Z{X:WX}{ops:Array Oper}{i f:Nat}{args:List AV}{st:St}{W R:List Nat}{C:Nat→Nat→Prop}{Res:(Nat→Nat)→AV→Ro→(Nat→Nat)→Prop}
  (hc: ∀ro1 gn1,(∀s,s∈R∨s∈W→ro1 s=st.ro s)→(∀s,s∈W→gn1 s=st.gn s)→InS X.P f args ro1 gn1 (fun r ro' gn'=>Frx W C ro1 gn1 ro' gn'∧Res gn1 r ro' gn'))
  (hloc: ∀gn r ro' gn' ro2 gn1 gn2,(∀s,s∈W→ro2 s=ro' s∧gn1 s=gn s∧gn2 s=gn' s)→Res gn r ro' gn'→Res gn1 r ro2 gn2) (ha:a2U ops i=true)
  (hn: ∃r ro' gn',Frx W C st.ro st.gn ro' gn'∧Res st.gn r ro' gn'):
  inX X ops i f args st (fun r ro' gn'=>Frx W C st.ro st.gn ro' gn'∧Res st.gn r ro' gn') R W:=by
 refine⟨fun ro1 gn1 h1 h2=>(hc ro1 gn1 h1 h2).mono ?_,fun r ro' gn' h=>h.1.off,ha,.inl hn⟩
 rintro r ro' gn' ⟨k1,k3⟩
 refine⟨a1W W ro' st.ro,a1W W gn' st.gn,⟨⟨fun s hs=>⟨a0O hs,a0O hs⟩,fun x=>?_,fun x y hy hxy=>?_⟩,hloc gn1 r ro' gn' _ _ _ (fun s hs=>⟨a2b hs,(h2 s hs).symm,a2b hs⟩) k3⟩,?_,?_⟩
 ·by_cases hx:x∈W
  ·rw[a2b hx, ←h2 x hx];exact k1.up x
  ·rw[a0O hx];exact Nat.le_refl _
 ·by_cases hx:x∈W
  ·rw[a2b hx,k1.kp x y (by rw[h2 x hx];exact hy) hxy,h1 x (.inr hx)]
  ·rw[a0O hx]
 ·rw[a4h];exact(a3h fun s hs=>(k1.off s hs).1).symm
 ·rw[a4h];exact(a3h fun s hs=>(k1.off s hs).2).symm
theorem sFrm{a:AV}{bs:List Int}{ro:Ro}{gn:Nat→Nat}(hc:Cod a bs)(hl:bs.length≤4096):InS Tryz.prog 43 [a] ro gn (fun r ro' gn'=>r= .ptr 8288 (gn 8288+1) [] 0∧ ∃w,ro'=upr ro 8288 (gn 8288+1) w∧gn'=upg gn 8288 (gn 8288+1)∧Src a bs (some w)):=by
 refine(c1G hc.b hl ro gn).toS.mono ?_
 rintro _ _ _ ⟨rfl,rfl,rfl⟩
 exact⟨rfl,_,rfl,rfl,0,_,Nat.zero_le _,rfl⟩
end Go.Proofs.YtbakhfiibjkifaaGreat
