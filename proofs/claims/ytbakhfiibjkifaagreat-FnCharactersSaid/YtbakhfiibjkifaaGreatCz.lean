/- Texts joined: Lk Wkc Ef3 Cz0 Cz1 Cz2 Eh0. -/
import Derived.ChangeOld
import Derived.Below
import Derived.Carry
import Derived.Deep.Slices
import Derived.ChangeSlices
import Derived.Lib.SmallJoins
import Derived.Test.YtbakhfiibjkifaaGreatMd
import Derived.Test.YtbakhfiibjkifaaGreatMg
import Derived.Test.YtbakhfiibjkifaaGreatCg
import Derived.Test.YtbakhfiibjkifaaGreatMj
import Derived.Test.YtbakhfiibjkifaaGreatCx
set_option linter.all false
/- Lists that are alike. -/
namespace Go.Proofs.YtbakhfiibjkifaaGreat
open Go.RowKit
set_option maxRecDepth 1000000
theorem isLL_nil0:isLL nilA []:= .inr ⟨rfl,rfl⟩
section
variable{a b:AV}
theorem cLikeI{X Y:List Int}(ha:isL a X)(hb:isL b Y)(lX:X.length≤maxN)(he:X=Y):CallOK Tryz.prog 25 [a,b] (bo true):=by
 subst he
 have lX':X.length≤4294967296:=lX
 refine call_of (fn:=Tryz.f25) (code:=bodyOf Tryz.f25) Tryz.func25 rfl (by kernel_rfl) (rfl) ?_
 intro sl hs
 have s0:sl 0=a:=hs 0
 have s1:sl 1=b:=hs 1
 dsimp only[Tryz.f25,bodyOf,Option.getD]
 simp(maxSteps:=10000000) (disch:=first|assumption|omega) only[go_sem, ↓reduceIte,Nat.reduceEqDiff,reduceCtorEq,Nat.reduceAdd,Nat.reduceMul,Nat.reduceLeDiff,zc,Int.reduceToNat,s0,s1,ti31,isL_len ha,isL_len hb]
 refine WK_for (fun i st=>st.sl 0=a∧st.sl 1=b∧st.sl 5=i64 (i:Int)) X.length ?_ ?_ ?_
 ·refine Yak ?_
  first|done|exact rfl
 ·rintro i sl ro gn hi ⟨s0,s1,s5⟩
  dsimp only at s0 s1 s5
  have hi':(i:Int)<(X.length:Nat):=by omega
  simp(maxSteps:=10000000) (disch:=first|assumption|omega) only[go_sem, ↓reduceIte,Nat.reduceEqDiff,reduceCtorEq,Nat.reduceAdd,Nat.reduceMul,Nat.reduceLeDiff,zc,Int.reduceToNat,s0,s1,s5,hi',hi,isL_len ha,isL_idx ha hi,isL_idx hb hi]
  refine FIN_of (by kernel_rfl) ?_
  refine Yfp ?_
  exact i64c (by omega)
 ·rintro sl ro gn ⟨s0,s1,s5⟩
  dsimp only at s0 s1 s5
  have hi': ¬((X.length:Nat):Int)<(X.length:Nat):=by omega
  simp(maxSteps:=10000000) (disch:=first|assumption|omega) only[go_sem, ↓reduceIte,Nat.reduceEqDiff,reduceCtorEq,Nat.reduceAdd,Nat.reduceMul,Nat.reduceLeDiff,zc,Int.reduceToNat,s0,s1,s5,hi',isL_len ha]
  exact Yaa
theorem cLikeR{X Y:List (List Int)}(ha:isLL a X)(hb:isLL b Y)(lX:X.length≤maxN)(hr: ∀i,i<X.length→(row X i).length≤maxN)(he:X=Y):CallOK Tryz.prog 11 [a,b] (bo true):=by
 subst he
 have lX':X.length≤4294967296:=lX
 refine call_of (fn:=Tryz.f11) (code:=bodyOf Tryz.f11) Tryz.func11 rfl (by kernel_rfl) (rfl) ?_
 intro sl hs
 have s0:sl 0=a:=hs 0
 have s1:sl 1=b:=hs 1
 dsimp only[Tryz.f11,bodyOf,Option.getD]
 simp(maxSteps:=10000000) (disch:=first|assumption|omega) only[go_sem, ↓reduceIte,Nat.reduceEqDiff,reduceCtorEq,Nat.reduceAdd,Nat.reduceMul,Nat.reduceLeDiff,zc,Int.reduceToNat,s0,s1,ti33,isLL_len ha,isLL_len hb]
 refine WK_for (fun i st=>st.sl 0=a∧st.sl 1=b∧st.sl 5=i64 (i:Int)) X.length ?_ ?_ ?_
 ·refine Yak ?_
  first|done|exact rfl
 ·rintro i sl ro gn hi ⟨s0,s1,s5⟩
  dsimp only at s0 s1 s5
  have hi':(i:Int)<(X.length:Nat):=by omega
  have h1:=isLL_row ha hi
  have h2:=isLL_row hb hi
  simp(maxSteps:=10000000) (disch:=first|assumption|omega) only[go_sem, ↓reduceIte,Nat.reduceEqDiff,reduceCtorEq,Nat.reduceAdd,Nat.reduceMul,Nat.reduceLeDiff,zc,Int.reduceToNat,s0,s1,s5,hi',hi,isLL_len ha,isLL_idx ha hi,isLL_idx hb hi]
  refine CLLD_pure _ (cLikeI h1 h2 (hr i hi) rfl) PUt rfl ?_
  simp(maxSteps:=10000000) (disch:=first|assumption|omega) only[go_sem, ↓reduceIte,Nat.reduceEqDiff,reduceCtorEq,Nat.reduceAdd,Nat.reduceMul,Nat.reduceLeDiff,zc,Int.reduceToNat,s0,s1,s5,hi',hi,ti4]
  refine FIN_of (by kernel_rfl) ?_
  refine Yfp ?_
  first|done|exact i64c (by omega)
 ·rintro sl ro gn ⟨s0,s1,s5⟩
  dsimp only at s0 s1 s5
  have hi': ¬((X.length:Nat):Int)<(X.length:Nat):=by omega
  simp(maxSteps:=10000000) (disch:=first|assumption|omega) only[go_sem, ↓reduceIte,Nat.reduceEqDiff,reduceCtorEq,Nat.reduceAdd,Nat.reduceMul,Nat.reduceLeDiff,zc,Int.reduceToNat,s0,s1,s5,hi',isLL_len ha]
  exact Yaa
end
def cutA:Nat→Code→Code
 |0,_=> .skip
 |n+1,.seq a b=> .seq a (cutA n b)
 |_+1,c=>c
def cutB:Nat→Code→Code
 |0,c=>c
 |n+1,.seq _ b=>cutB n b
 |_+1,_=> .skip
theorem WK_cut{X:WX}{Q:Exit→St→Prop}(I:St→Prop): ∀(n:Nat) {c:Code} {K:List Fr} {st:St},WK X (cutA n c) (.lp I::K) Q st→(∀sl ro gn,I ⟨sl,ro,gn⟩→WK X (cutB n c) K Q ⟨sl,ro,gn⟩)→WK X c K Q st
 |0,c,K,st,h,ht=>ht st.sl st.ro st.gn h
 |n+1,c,K,st,h,ht=>by
  cases c with
  |seq a b=>
   have h':WK X a (.sq (cutA n b):: .lp I::K) Q st:=by
    have:=h
    rw[show cutA (n+1) (Code.seq a b)=Code.seq a (cutA n b)from rfl,zan]at this
    exact this
   rw[zan]
   refine wk_mono a ?_ h'
   intro e st' he
   cases e with
   |normal=>exact WK_cut I n (c:=b) he ht
   |_=>exact he
  |_=>
   refine wk_mono _ ?_ h
   intro e st' he
   cases e with
   |normal=>exact ht st'.sl st'.ro st'.gn he
   |_=>exact he
theorem cBig{a:AV}{bs:List Int}(ha:isB a bs):CallOK Tryz.prog 6 [a] (bo (decide (4096<bs.length))):=by
 refine call_of (fn:=Tryz.f6) (code:=bodyOf Tryz.f6) Tryz.func6 rfl (by kernel_rfl) (rfl) ?_
 intro sl hs
 have s0:sl 0=a:=hs 0
 dsimp only[Tryz.f6,bodyOf,Option.getD]
 simp(maxSteps:=10000000) (disch:=first|assumption|omega) only[go_sem, ↓reduceIte,Nat.reduceEqDiff,reduceCtorEq,Nat.reduceAdd,Nat.reduceMul,Nat.reduceLeDiff,zc,Int.reduceToNat,s0,ha]
 refine Yac ?_
 simp only[decide_eq_decide];omega
theorem ShV.keepT{ro ro':Ro}{gn gn':Nat→Nat}{T:List (List (List Int))}{c:AV}(h:ShV ro gn T c)(hR:RdT ro gn T c)(hk: ∀x y,y≤gn x→x≠8288→x≠4096→ro' x y=ro x y)(hg: ∀x,gn x≤gn' x):ShV ro' gn' T c:=by
 obtain⟨s,u,n,o,m,rfl,h⟩:=h
 obtain⟨s',u',o',m',cv,e,⟨h1,h2,hm⟩,h3, -⟩:=hR
 obtain⟨rfl,rfl⟩:s=s'∧u=u':=by injection e with e1 e2;exact⟨e1,e2⟩
 refine⟨s,u,n,o,m,rfl,?_⟩
 rcases h with⟨F,k1,k2⟩|⟨k0,L,gb,F,k1,k2,k3,k4⟩
 ·exact .inl ⟨F,by rw[hk s u h3 h1 h2];exact k1,k2⟩
 ·exact .inr ⟨k0,L,gb,F,by rw[hk s u h3 h1 h2];exact k1,k2,fun x hx=>⟨by rw[hk 500000 _ (k3 x hx).2 (by decide) (by decide)];exact(k3 x hx).1,Nat.le_trans (k3 x hx).2 (hg _)⟩,k4⟩
structure LwM(T:List (List (List Int)))(X:List (List Int))(U V:List Int)(c:AV)(g3 g4 u1 u2:Nat)(ro:Ro)(gn:Nat→Nat):Prop where
 rd:RdT ro gn T c
 sh:ShV ro gn T c
 b3:ro 16416 g3=some (.bx [c])∧g3≤gn 16416
 x4:ro 20496 g4=some (rowLL X)∧g4≤gn 20496
 ru:ro 8192 u1=some (rowL U)∧u1≤gn 8192
 rv:ro 8192 u2=some (rowL V)∧u2≤gn 8192
theorem LwM.keep{T:List (List (List Int))}{X:List (List Int)}{U V:List Int}{c:AV}{g3 g4 u1 u2:Nat}{ro ro':Ro}{gn gn':Nat→Nat}(h:LwM T X U V c g3 g4 u1 u2 ro gn)(hk: ∀x y,y≤gn x→ro' x y=ro x y)(hg: ∀x,gn x≤gn' x):LwM T X U V c g3 g4 u1 u2 ro' gn' where
 rd:=h.rd.keep (fun x y hy _ _=>hk x y hy) hg
 sh:=h.sh.keepT h.rd (fun x y hy _ _=>hk x y hy) hg
 b3:=⟨by rw[hk _ _ h.b3.2];exact h.b3.1,Nat.le_trans h.b3.2 (hg _)⟩
 x4:=⟨by rw[hk _ _ h.x4.2];exact h.x4.1,Nat.le_trans h.x4.2 (hg _)⟩
 ru:=⟨by rw[hk _ _ h.ru.2];exact h.ru.1,Nat.le_trans h.ru.2 (hg _)⟩
 rv:=⟨by rw[hk _ _ h.rv.2];exact h.rv.1,Nat.le_trans h.rv.2 (hg _)⟩
section
variable{T:List (List (List Int))}{ro:Ro}{gn:Nat→Nat}{c:AV}
theorem mat_TL{L:List Nat}{F:C3}{n i:Nat}(hi:i<L.length):mat (TL L F n) i=plL F n (L.getD i 0):=by
 unfold mat TL
 rw[List.getD_eq_getElem?_getD,List.getElem?_map,List.getD_eq_getElem?_getD,List.getElem?_eq_getElem hi]
 rfl
theorem ShV.cube(h:ShV ro gn T c)(hT:CubeP T)(hm: ∀s u o m,c= .ref s u [] o m→T.length=m): ∃s u,c= .ref s u [] 0 T.length∧((∃F:C3,ro s u=some (cubeA F T.length)∧ ∀i j,i<T.length→j<T.length→row (mat T i) j=rws (F i j) T.length)∨(∃(L:List Nat) (gb:Nat) (F:C3),ro s u=some (.bx (L.map fun x=> .ref 500000 (gb+1+x) [] 0 T.length))∧T.length=L.length∧(∀x,x∈L→ro 500000 (gb+1+x)=some (plA F T.length x)∧gb+1+x≤gn 500000)∧ ∀i j,i<T.length→j<T.length→row (mat T i) j=rws (F (L.getD i 0) j) T.length)):=by
 obtain⟨s,u,n,o,m,rfl,h⟩:=h
 have lm:=hm s u o m rfl
 obtain⟨t1,t16,hcu⟩:=id hT
 rcases h with⟨F,k1,k2⟩|⟨rfl,L,gb,F,k1,k2,k3,k4⟩
 ·have hl:T.length=(((List.range n).drop o).take m).length:=by rw[k2];exact List.length_map _
  have h0:=(hcu 0 (by omega)).1
  rw[k2,mat_TL (by rw[←hl];omega),zfe, ←k2]at h0
  rw[List.length_take,List.length_drop,List.length_range]at hl
  have ho:o=0:=by omega
  subst ho
  have hm':m=T.length:=lm.symm
  subst hm'
  subst h0
  have e:((List.range T.length).drop 0).take T.length=List.range T.length:=by rw[List.drop_zero,List.take_of_length_le (by rw[List.length_range];exact Nat.le_refl _)]
  refine⟨s,u,rfl,.inl ⟨F,k1,fun i j hi hj=>?_⟩⟩
  have e2:mat T i=plL F T.length i:=by
   refine(congrArg (fun Z=>mat Z i) k2).trans ?_
   rw[e]
   refine(mat_TL (by rw[List.length_range];exact hi)).trans ?_
   rw[List.getD_eq_getElem?_getD,List.getElem?_range hi]
   rfl
  rw[e2]
  exact row_rws _ hj
 ·have hl:T.length=L.length:=by rw[k4];exact List.length_map _
  have h0:=(hcu 0 (by omega)).1
  rw[k4,mat_TL (by rw[←hl];omega),zfe, ←k4]at h0
  subst h0
  have hm':m=T.length:=lm.symm
  subst hm'
  refine⟨s,u,rfl,.inr ⟨L,gb,F,k1,hl,k3,fun i j hi hj=>?_⟩⟩
  have e2:mat T i=plL F T.length (L.getD i 0):=by
   refine(congrArg (fun Z=>mat Z i) k4).trans ?_
   exact mat_TL (by rw[←hl];exact hi)
  rw[e2]
  exact row_rws _ hj
def PrS(n:Nat)(q:Nat→Int)(r:AV)(ro:Ro)(gn:Nat→Nat):Prop:= ∃(S w:Nat) (P:List Int),r= .ref S w [] 0 n∧(S=57360∨S=86320)∧w≤gn S∧ro S w=some (rowL P)∧P.length=n∧NL P∧ ∀k,k<n→MM (atI P k) (q k)
def psm(T:List (List (List Int)))(U V:List Int)(i j k:Nat):Int:=sm (fun i'=>sm (fun j'=>atI U i'*atI V j'*at3 T i' j' k) T.length) i+sm (fun j'=>atI U i*atI V j'*at3 T i j' k) j
theorem psm_n(T:List (List (List Int)))(U V:List Int)(i k:Nat):psm T U V i T.length k=psm T U V (i+1) 0 k:=by
 unfold psm
 show _+_=(_+_)+0
 rw[Int.add_zero]
theorem psm_s(T:List (List (List Int)))(U V:List Int)(i j k:Nat):psm T U V i (j+1) k=psm T U V i j k+atI U i*atI V j*at3 T i j k:=by
 unfold psm
 show _+(_+_)=_
 rw[←Int.add_assoc]
theorem psm_step{U V P Q:List Int}{i j:Nat}(hQ: ∀k,k<T.length→atI Q k=at3 T i j k)(h: ∀k,k<T.length→MM (atI P k) (psm T U V i j k))(hl:P.length=T.length):
  ∀k,k<T.length→MM (atI (pl5 P Q (atI U i*atI V j % 55441)) k) (psm T U V i (j+1) k):=fun k hk=>by
 unfold pl5
 rw[atI_rws _ (by omega),psm_s,hQ k hk]
 exact(MM.mod _).trans ((h k hk).add ((MM.mod _).mul MM.rfl))
theorem pl5_NL(x y:List Int)(k:Int):NL (pl5 x y k):=fun j hj=>by
 rw[pl5_len]at hj
 unfold pl5
 rw[atI_rws _ hj]
 omega
def fpM(S s:Nat):List FP:=[e0,⟨some [16416],[]⟩,⟨some [16416],[]⟩,e0,⟨some [s],[]⟩,⟨some [s],[]⟩,e0,⟨some [s],[]⟩,⟨some [s],[]⟩,e0,e0,⟨some [8192],[]⟩,⟨some [8192],[]⟩,e0,e0,⟨some [8192],[]⟩,⟨some [8192],[]⟩,e0,e0,⟨some [S,s],[86320]⟩,e0]
def fpN(S s:Nat):List FP:=[e0,⟨some [16416],[]⟩,⟨some [16416],[]⟩,e0,⟨some [s],[]⟩,⟨some [s],[]⟩,e0,⟨some [500000],[]⟩,⟨some [500000],[]⟩,e0,e0,⟨some [8192],[]⟩,⟨some [8192],[]⟩,e0,e0,⟨some [8192],[]⟩,⟨some [8192],[]⟩,e0,e0,⟨some [S,500000],[86320]⟩,e0]
def fpO(r:Option (List Nat))(w:List Nat):List FP:=[⟨some [16416],[]⟩,e0,e0,⟨some [20496],[]⟩,⟨some [20496],[]⟩,⟨r,w⟩,e0,e0,e0,e0,e0]
def fpP(r:Option (List Nat)):List FP:=[⟨some [16416],[]⟩,e0,e0,⟨some [20496],[]⟩,⟨some [20496],[]⟩,e0,⟨r,[]⟩,e0,e0,e0,e0,e0]
theorem vl_mul{x U V P:List Int}(h:chP T x)(hl:x.length=T.length)(hP: ∀k,k<T.length→MM (atI P k) (psm T U V T.length 0 k)):vlC x U*vlC x V % 55441=vlC x P:=by
 have h1:=val_mul h (u:=atI U) (v:=atI V) (w:=atI P) (fun k hk=>by
  have:=hP k hk
  unfold psm at this
  rwa [show sm (fun j'=>atI U T.length*atI V j'*at3 T T.length j' k) 0=0 from rfl,Int.add_zero]at this)
 unfold vlC
 rw[hl]
 have h2:=((MM.mod (sm (fun i=>atI x i*atI U i) T.length)).mul (MM.mod (sm (fun j=>atI x j*atI V j) T.length))).trans h1.symm
 exact h2
end
section
variable{a:AV}{bs:List Int}{sl:Nat→AV}{ro:Ro}{gn:Nat→Nat}
set_option maxHeartbeats 16000000 in
theorem seg1(hc:Cod a bs)(hb:isB a bs)(hl:bs.length≤4096)(s0:sl 0=a):WK XX (cutA 8 (bodyOf Tryz.f3)) [.lp (fun st=>st.sl 0=a)] (RET ti0 [.tmp 2] (bo true)) ⟨sl,ro,gn⟩:=by
 have hpa:pureA a=true:=isB_pure hb
 have cB:=cBig hb
 rw[decide_eq_false (by omega)]at cB
 dsimp only[Tryz.f3,bodyOf,Option.getD,cutA]
 refine Yab ?_
 refine CLL_pure _ cB (by simp only[pureL,hpa,Bool.and_self]) rfl rfl ?_
 refine Yab ?_
 refine CLL_inS rfl (sDrawCh hc hl) ?_
 rintro _ ro1 gn1 ⟨fr1,T,c,rfl,hT,hV⟩
 obtain⟨s,u,o,m,cv,rfl,⟨n1,n2,nm1,nm2,rfl⟩,lu2,hbk,hcv,hz,hx⟩:=id hT
 obtain⟨nS,nS1,nS2⟩:s≠16416∧s≠20496∧s≠24592:=by
  have:=nm2
  simp only[WRs,WDs,List.mem_cons,List.not_mem_nil,or_false]at this
  omega
 have hq: ∀(ro2:Ro),(∀x y,y≤gn1 x→x≠8288→x≠4096→ro2 x y=ro1 x y)→exqL 8 ro2 [.agg [.ref s u [] o T.length]] [.agg [cv]]:=fun ro2 h=> .cons (exq_agg (n:=7) (.cons (hx ro2 h) .nil)) .nil
 refine Yfr ?_
 have hcod:(RngP T∧CmP T)∨ ∃z:Int,CodP T z∧z≠0:=by
  by_cases hR:RngP T
  ·by_cases hC:CmP T
   ·exact .inl ⟨hR,hC⟩
   ·exact .inr ⟨5,.inr (.inl ⟨hR,hC,rfl⟩),by decide⟩
  ·exact .inr ⟨1,.inr (.inr ⟨hR,rfl⟩),by decide⟩
 rcases hcod with⟨hR,hC⟩|⟨z,hzc,hz0⟩
 ·obtain⟨X,eX⟩: ∃X,chsI T=X:=⟨_,rfl⟩
  have hX1:X.length≤16:=by rw[←eX];exact Nat.le_trans (chs_few hR.1) hR.1.2.1
  have hX2: ∀x,x∈X→LC T x∧chP T x:=fun x hx=>by
   rw[←eX]at hx
   obtain⟨k1,k2,k3⟩:=(chsI_iff hR.1).1 hx
   exact⟨⟨k1,fun j _=>by have:=k2 j;unfold num at this;omega⟩,(chB_iff T x).1 k3⟩
  have hXr: ∀i,i<X.length→(row X i).length≤maxN:=fun i hi=>by
   have:=(hX2 _ (getD_mem hi)).1.1
   have h16:=hR.1.2.1
   show (X.getD i []).length≤_
   unfold maxN;omega
  have k1:=cChI0 hcv hR hC
  have k2:=cChS0 hcv hR hC
  have k3:=cSp0 hcv hR hC
  rw[eX]at k1 k2 k3
  refine CLL_q _ k1 (hq _ (by intro x y hy h1 h2;simp only[zdb];repeat' (first|rfl|rw[if_neg (by rintro⟨rfl,rfl⟩;omega)]))) rfl rfl (noI_tLL _ _) ?_
  refine Yfl ?_
  refine CLL_q _ k2 (hq _ (by intro x y hy h1 h2;simp only[zdb];repeat' (first|rfl|rw[if_neg (by rintro⟨rfl,rfl⟩;omega)]))) rfl rfl (noI_tLL _ _) ?_
  refine Yfl ?_
  refine CLL_q _ k3 (hq _ (by intro x y hy h1 h2;simp only[zdb];repeat' (first|rfl|rw[if_neg (by rintro⟨rfl,rfl⟩;omega)]))) rfl rfl rfl ?_
  simp(maxSteps:=10000000) (disch:=first|assumption|omega) only[go_sem, ↓reduceIte,Nat.reduceEqDiff,reduceCtorEq,Nat.reduceAdd,Nat.reduceMul,Nat.reduceLeDiff,zc,Int.reduceToNat,imp_tLL]
  refine CLL_q _ (cLikeR (isLL_imm X) (isLL_imm X) (by unfold maxN;omega) hXr rfl) (.cons (exq_refLL (xs:=X) Ur rfl (by decide)) (.cons (exq_refLL (xs:=X) Ur rfl (by decide)) .nil)) rfl rfl rfl ?_
  simp(maxSteps:=10000000) (disch:=first|assumption|omega) only[go_sem, ↓reduceIte,Nat.reduceEqDiff,reduceCtorEq,Nat.reduceAdd,Nat.reduceMul,Nat.reduceLeDiff,zc,Int.reduceToNat,s0,nS,nS1,nS2,hbk,ti33]
  refine CLL_inS rfl (inRoll hb hl 903 _ _).toS ?_
  rintro _ _ _ ⟨rfl,rfl,rfl⟩
  refine Ycl ?_
  refine CLL_inS rfl (sLst5 (n:=T.length) hc hl (by simp only[↓za, ↓reduceIte,Nat.reduceEqDiff,zb,reduceCtorEq];exact⟨0,_,Nat.zero_le _,rfl⟩) (by omega)) ?_
  rintro _ ro2 gn2 ⟨fr2,hD2,u1,U,rfl,rU,lu1,lu1',lU,nU⟩
  dsimp only at fr2 lu1
  refine Ycl ?_
  refine CLL_inS rfl (sLst5 (n:=T.length) hc hl (Ue hD2) (by omega)) ?_
  rintro _ ro3 gn3 ⟨fr3,hD3,u2,V,rfl,rV,lv1,lv1',lV,nV⟩
  dsimp only at fr3 lv1
  have g8:=fr2.up 8320
  have g8':=fr3.up 8320
  simp only[↓za, ↓reduceIte,Nat.reduceEqDiff,zb,reduceCtorEq]at g8
  have hk13: ∀x y,y≤gn1 x→ro3 x y=ro1 x y:=fun x y hy=>by
   have q1: ¬CxR (gn1 8320+1) x y:=by rintro⟨rfl,rfl⟩;omega
   have q2:=fr2.up x
   have q3:y≤upg (upg (upg (upg gn1 16416 (gn1 16416+1)) 20496 (gn1 20496+1)) 24592 (gn1 24592+1)) 8320 (gn1 8320+1) x:=by
    simp only[zda]
    repeat' (first|exact hy|(split;rename_i e;subst e;omega))
   refine(fr3.kp x y (Nat.le_trans q3 q2) q1).trans ((fr2.kp x y q3 q1).trans ?_)
   simp only[zdb]
   repeat' (first|rfl|rw[if_neg (by rintro⟨rfl,rfl⟩;omega)])
  have hg13: ∀x,gn1 x≤gn3 x:=fun x=>by
   have q2:=fr2.up x
   have q3:=fr3.up x
   refine Nat.le_trans ?_ (Nat.le_trans q2 q3)
   simp only[zda]
   repeat' (first|exact Nat.le_refl _|(split;rename_i e;subst e;omega))
  have m1:ro3 16416 (gn1 16416+1)=some (.bx [.ref s u [] o T.length]):=(fr3.kp _ _ (Nat.le_trans Ur (fr2.up 16416)) (fun e=>absurd e.1 (by decide))).trans ((fr2.kp _ _ Ur (fun e=>absurd e.1 (by decide))).trans Ur)
  have m2:ro3 20496 (gn1 20496+1)=some (rowLL X):=(fr3.kp _ _ (Nat.le_trans Ur (fr2.up 20496)) (fun e=>absurd e.1 (by decide))).trans ((fr2.kp _ _ Ur (fun e=>absurd e.1 (by decide))).trans Ur)
  have m3:ro3 8192 u1=some (rowL U):=(fr3.kp _ _ lu1' (fun e=>absurd e.1 (by decide))).trans rU
  have a1:=fr3.up 16416
  have a2:=fr2.up 16416
  have b1:=fr3.up 20496
  have b2:=fr2.up 20496
  have d1:=fr3.up 8192
  simp only[↓za, ↓reduceIte,Nat.reduceEqDiff,zb,reduceCtorEq]at a2 b2
  have hM:LwM T X U V (.ref s u [] o T.length) (gn1 16416+1) (gn1 20496+1) u1 u2 ro3 gn3:=⟨hT.keep (fun x y hy _ _=>hk13 x y hy) hg13,hV.keepT hT (fun x y hy _ _=>hk13 x y hy) hg13,⟨m1,Nat.le_trans a2 a1⟩,⟨m2,Nat.le_trans b2 b1⟩,⟨m3,Nat.le_trans lu1' d1⟩,⟨rV,lv1'⟩⟩
  generalize gn1 16416+1=g3 at*
  generalize gn1 20496+1=g4 at*
  have hTl:T.length≤4294967296:=by omega
  have hm':(T.length:Int)≤4294967296:=by omega
  have rrw: ∀k:Nat,List.replicate k (AV.sc (Value.int IntKind.i64 0))=(List.replicate k (0:Int)).map i64:=fun k=>by rw[List.map_replicate]
  simp(maxSteps:=10000000) (disch:=first|assumption|omega) only[go_sem, ↓reduceIte,Nat.reduceEqDiff,reduceCtorEq,Nat.reduceAdd,Nat.reduceMul,Nat.reduceLeDiff,zc,Int.reduceToNat,kMake,Int.natCast_nonneg,Int.le_refl,hm',hTl,List.getD_cons_zero]
  generalize hSP:decide (X.length=T.length)=SP
  refine WK_for (fun i st=>st.sl 0=a∧st.sl 3= .ptr 16416 g3 [] 0∧st.sl 4= .ref 20496 g4 [] 0 X.length∧st.sl 8=bo SP∧st.sl 10=i64 (T.length:Int)∧st.sl 12= .ref 8192 u1 [] 0 T.length∧st.sl 13= .ref 8192 u2 [] 0 T.length∧st.sl 15=i64 (i:Int)∧(LwM T X U V (.ref s u [] o T.length) g3 g4 u1 u2 st.ro st.gn)∧(PrS T.length (psm T U V i 0) (st.sl 14) st.ro st.gn)) T.length ?_ ?_ ?_
  ·simp only[↓za, ↓reduceIte,Nat.reduceEqDiff,zb,reduceCtorEq,rws_zero]
   refine⟨s0,rfl,hM.keep (fun x y hy=>by rw[zdb,if_neg (by rintro⟨rfl,rfl⟩;omega)]) (fun x=>by simp only[zda];repeat' (first|exact Nat.le_refl _|(split;rename_i e;subst e;omega))),57360,gn3 57360+1,List.replicate T.length 0,rfl,.inl rfl,Ur,by simp only[↓za, ↓reduceIte,Nat.reduceEqDiff,zb,reduceCtorEq,rrw,rowL],List.length_replicate,fun j hj=>?_,fun k hk=>?_⟩
   ·rw[List.length_replicate]at hj
    unfold atI
    rw[List.getD_eq_getElem?_getD,List.getElem?_replicate,if_pos hj]
    exact⟨by decide,by decide⟩
   ·unfold atI
    rw[List.getD_eq_getElem?_getD,List.getElem?_replicate,if_pos hk]
    exact MM.rfl
  ·rintro i sl ro gn hi ⟨s0,s3,s4,s8,s10,s12,s13,s15,hM,hP⟩
   dsimp only at s0 s3 s4 s8 s10 s12 s13 s15
   have hi':(i:Int)<(T.length:Nat):=by omega
   dsimp only at hM hP
   simp(maxSteps:=10000000) (disch:=first|assumption|omega) only[go_sem, ↓reduceIte,Nat.reduceEqDiff,reduceCtorEq,Nat.reduceAdd,Nat.reduceMul,Nat.reduceLeDiff,zc,Int.reduceToNat,s0,s3,s4,s8,s10,s12,s13,s15,hi',hi]
   refine WK_for (fun j st=>st.sl 0=a∧st.sl 3= .ptr 16416 g3 [] 0∧st.sl 4= .ref 20496 g4 [] 0 X.length∧st.sl 8=bo SP∧st.sl 10=i64 (T.length:Int)∧st.sl 12= .ref 8192 u1 [] 0 T.length∧st.sl 13= .ref 8192 u2 [] 0 T.length∧st.sl 15=i64 (i:Int)∧st.sl 16=i64 (j:Int)∧(LwM T X U V (.ref s u [] o T.length) g3 g4 u1 u2 st.ro st.gn)∧(PrS T.length (psm T U V i j) (st.sl 14) st.ro st.gn)) T.length ?_ ?_ ?_
   ·simp only[↓za, ↓reduceIte,Nat.reduceEqDiff,zb,reduceCtorEq,rws_zero,s0,s3,s4,s8,s10,s12,s13,s15,hi',hi]
    exact⟨rfl,hM,hP⟩
   ·rintro j sl ro gn hj ⟨s0,s3,s4,s8,s10,s12,s13,s15,s16,hM,hP⟩
    dsimp only at s0 s3 s4 s8 s10 s12 s13 s15 s16
    have hj':(j:Int)<(T.length:Nat):=by omega
    dsimp only at hM hP
    obtain⟨S,w,P,e14,hS,lw,rP,lP,nP,mP⟩:=hP
    obtain⟨s',u',e,hsh⟩:=hM.sh.cube hR.1 (fun s u o m e=>by injection e)
    obtain⟨rfl,rfl,rfl⟩:s=s'∧u=u'∧o=0:=by injection e with e1 e2 e3 e4;exact⟨e1,e2,e4⟩
    have q3:=hM.b3.1
    have qu:=hM.ru.1
    have qv:=hM.rv.1
    have iu:i<U.length:=by omega
    have jv:j<V.length:=by omega
    rw[rowL]at qu qv
    rcases hsh with⟨F,rF,hF⟩|⟨L,gb,F,rF,hL,rL,hF⟩
    ·have lr:=get_map iu
     have ls:=get_map jv
     have nu:=nU i iu
     have nv:=nV j jv
     have hmul:=mulB nu.1 nu.2 nv.1 nv.2
     have hm0:=Int.mul_nonneg nu.1 nv.1
     have cub:=exq_cub (k:=8) rF hi hj (by decide)
     rw[←hF i j hi hj]at cub
     have lQ:(row (mat T i) j).length=T.length:=by rw[hF i j hi hj];exact zfe _ _
     have cp:=cPl5 (k:=atI U i*atI V j % 55441) (isL_imm P) (isL_imm (row (mat T i) j)) (by rw[lP,lQ]) (by omega) (NL_numL nP) (fun k=>at3_bnd hR.1 i j k) (num_mod _)
     simp(maxSteps:=10000000) (disch:=first|assumption|omega) only[go_sem, ↓reduceIte,Nat.reduceEqDiff,reduceCtorEq,Nat.reduceAdd,Nat.reduceMul,Nat.reduceLeDiff,zc,Int.reduceToNat,s0,s3,s4,s8,s10,s12,s13,s15,s16,hj',hj,e14,q3,rF,qu,qv,lr,ls]
     refine CLLD_pure _ (cMod5 (by omega)) PUt rfl ?_
     refine Ybb ?_
     refine CLLD_q _ cp (.cons (exq_refL (xs:=P) rP lP.symm (by decide)) (.cons cub (.cons (exq_sc _ _ _ (by decide)) .nil))) rfl (noI_rowL _) ?_
     refine Ycp ?_
     have hsh:(shO (blkO (ro S w))&&shO (in2 i j (ro s u)))=true:=by
      rw[rP,rF,show blkO (some (rowL P))=some (P.map i64)from rfl,in2_rws hi hj]
      show (noRefL (P.map i64)&&noRefL (rws _ _))=true
      rw[nrf,noRefL_rws _ _ fun _=>rfl]
      rfl
     refine FIN_of (by rw[if_pos hsh];rcases hS with rfl|rfl<;>exact all_WRs (p:=fun s=>okD _ (fpM _ s)) nm2 (by kernel_rfl)) ?_
     refine Ybb ?_
     refine⟨i64c (by omega),hM.keep (fun x y hy=>by rw[zdb,if_neg (by rintro⟨rfl,rfl⟩;omega)]) (fun x=>by simp only[zda];repeat' (first|exact Nat.le_refl _|(split;rename_i e;subst e;omega))),86320,gn 86320+1,_,rfl,.inr rfl,Ur,upr_same _ _ _ _,(pl5_len _ _ _).trans lP,pl5_NL _ _ _,psm_step (fun k _=>rfl) mP lP⟩
    ·have lr:=get_map iu
     have ls:=get_map jv
     have nu:=nU i iu
     have nv:=nV j jv
     have hmul:=mulB nu.1 nu.2 nv.1 nv.2
     have hm0:=Int.mul_nonneg nu.1 nv.1
     have iL:i<L.length:=by omega
     obtain⟨x0,ex0⟩: ∃x0,x0=L.getD i 0:=⟨_,rfl⟩
     have hxm:x0∈L:=by rw[ex0,List.getD_eq_getElem?_getD,List.getElem?_eq_getElem iL];exact List.getElem_mem iL
     have hgi:(L.map fun x=>AV.ref 500000 (gb+1+x) [] 0 T.length)[i]?=some (.ref 500000 (gb+1+x0) [] 0 T.length):=by
      rw[List.getElem?_map,List.getElem?_eq_getElem iL,ex0,List.getD_eq_getElem?_getD,List.getElem?_eq_getElem iL];rfl
     have cPi:=(rL x0 hxm).1
     have hFi:=hF i j hi hj
     rw[←ex0]at hFi
     have cub:=exq_rowX (k:=8) (X:=plL F T.length x0) (x:=rws (F x0 j) T.length) (m:=T.length) (cPi.trans (congrArg some (rowLL_mat (F x0) T.length T.length).symm)) (rws_get _ _ _ hj) (zfe _ _).symm (by decide)
     rw[←hFi]at cub
     have lQ:(row (mat T i) j).length=T.length:=by rw[hFi];exact zfe _ _
     have cp:=cPl5 (k:=atI U i*atI V j % 55441) (isL_imm P) (isL_imm (row (mat T i) j)) (by rw[lP,lQ]) (by omega) (NL_numL nP) (fun k=>at3_bnd hR.1 i j k) (num_mod _)
     simp(maxSteps:=10000000) (disch:=first|assumption|omega) only[go_sem, ↓reduceIte,Nat.reduceEqDiff,reduceCtorEq,Nat.reduceAdd,Nat.reduceMul,Nat.reduceLeDiff,zc,Int.reduceToNat,s0,s3,s4,s8,s10,s12,s13,s15,s16,hj',hj,e14,q3,rF,hgi,cPi,qu,qv,lr,ls]
     refine CLLD_pure _ (cMod5 (by omega)) PUt rfl ?_
     refine Ybb ?_
     refine CLLD_q _ cp (.cons (exq_refL (xs:=P) rP lP.symm (by decide)) (.cons cub (.cons (exq_sc _ _ _ (by decide)) .nil))) rfl (noI_rowL _) ?_
     refine Ycp ?_
     have hsh:(shO (blkO (ro S w))&&shO (inO j (ro 500000 (gb+1+x0))))=true:=by
      rw[rP,cPi,show blkO (some (rowL P))=some (P.map i64)from rfl]
      simp only[inO,rws_get _ _ _ hj,rowO_row]
      show (noRefL (P.map i64)&&noRefL (rws _ _))=true
      rw[nrf,noRefL_rws _ _ fun _=>rfl]
      rfl
     refine FIN_of (by rw[if_pos hsh];rcases hS with rfl|rfl<;>exact all_WRs (p:=fun s=>okD _ (fpN _ s)) nm2 (by kernel_rfl)) ?_
     refine Ybb ?_
     refine⟨i64c (by omega),hM.keep (fun x y hy=>by rw[zdb,if_neg (by rintro⟨rfl,rfl⟩;omega)]) (fun x=>by simp only[zda];repeat' (first|exact Nat.le_refl _|(split;rename_i e;subst e;omega))),86320,gn 86320+1,_,rfl,.inr rfl,Ur,upr_same _ _ _ _,(pl5_len _ _ _).trans lP,pl5_NL _ _ _,psm_step (fun k _=>rfl) mP lP⟩
   ·rintro sl ro gn ⟨s0,s3,s4,s8,s10,s12,s13,s15,s16,hM,hP⟩
    dsimp only at s0 s3 s4 s8 s10 s12 s13 s15 s16
    have hj': ¬((T.length:Nat):Int)<(T.length:Nat):=by omega
    dsimp only at hM hP
    obtain⟨S,w,P,e14,hS,lw,rP,lP,nP,mP⟩:=hP
    simp(maxSteps:=10000000) (disch:=first|assumption|omega) only[go_sem, ↓reduceIte,Nat.reduceEqDiff,reduceCtorEq,Nat.reduceAdd,Nat.reduceMul,Nat.reduceLeDiff,zc,Int.reduceToNat,s0,s3,s4,s8,s10,s12,s13,s15,s16,hj',e14]
    exact⟨i64c (by omega),hM,S,w,P,rfl,hS,lw,rP,lP,nP,fun k hk=>by rw[←psm_n];exact mP k hk⟩
  ·rintro sl ro gn ⟨s0,s3,s4,s8,s10,s12,s13,s15,hM,hP⟩
   dsimp only at s0 s3 s4 s8 s10 s12 s13 s15
   have hi': ¬((T.length:Nat):Int)<(T.length:Nat):=by omega
   dsimp only at hM hP
   obtain⟨S,w,P,e14,hS,lw,rP,lP,nP,mP⟩:=hP
   have q4:=hM.x4.1
   have hXT: ∀t:Bool,decide (X.length=T.length)=t→((X.length:Int)=(T.length:Int))=(t=true):=fun t h=>by
    rw[←h,decide_eq_true_iff]
    exact propext ⟨fun h=>by omega,fun h=>by omega⟩
   have hXT:=hXT SP hSP
   cases SP with
   |true=>
    rw[eq_self,eq_iff_iff,iff_true]at hXT
    simp(maxSteps:=10000000) (disch:=first|assumption|omega) only[go_sem, ↓reduceIte,Nat.reduceEqDiff,reduceCtorEq,Nat.reduceAdd,Nat.reduceMul,Nat.reduceLeDiff,zc,Int.reduceToNat,s0,s3,s4,s8,s10,s12,s13,s15,hi',q4,rowLL,hXT]
    refine WK_for (fun i st=>st.sl 0=a∧st.sl 3= .ptr 16416 g3 [] 0∧st.sl 4= .ref 20496 g4 [] 0 X.length∧st.sl 12= .ref 8192 u1 [] 0 T.length∧st.sl 13= .ref 8192 u2 [] 0 T.length∧st.sl 14= .ref S w [] 0 T.length∧st.sl 17=i64 (i:Int)∧(LwM T X U V (.ref s u [] o T.length) g3 g4 u1 u2 st.ro st.gn)∧(st.ro S w=some (rowL P)∧w≤st.gn S)) X.length ?_ ?_ ?_
    ·simp only[↓za, ↓reduceIte,Nat.reduceEqDiff,zb,reduceCtorEq,rws_zero,s0,s3,s4,s8,s10,s12,s13,s15,hi']
     exact⟨e14,rfl,hM,rP,lw⟩
    ·rintro i sl ro gn hi ⟨s0,s3,s4,s12,s13,s14,s17,hM,hW⟩
     dsimp only at s0 s3 s4 s12 s13 s14 s17
     have hi':(i:Int)<(X.length:Nat):=by omega
     dsimp only at hM hW
     obtain⟨rP,lw⟩:=hW
     obtain⟨s',u',o',m',cv',e,⟨v1,v2,v3,v4,v5⟩,v6,v7,v8,v9,v10⟩:=hM.rd
     obtain⟨rfl,rfl,rfl,rfl⟩:s=s'∧u=u'∧o=o'∧T.length=m':=by injection e with e1 e2 e3 e4 e5;exact⟨e1,e2,e4,e5⟩
     have hgX:=get_rowLL hi
     have hmX:=getD_mem hi
     obtain⟨x,ex⟩: ∃x,X.getD i []=x:=⟨_,rfl⟩
     rw[ex]at hgX hmX
     have hXi:X[i]?=some x:=by rw[←ex,List.getD_eq_getElem?_getD,List.getElem?_eq_getElem hi];rfl
     obtain⟨hx1,hx2⟩:=hX2 x hmX
     have lx:x.length≤maxN:=by rw[hx1.1];unfold maxN;omega
     have q3:=hM.b3.1
     have q4:=hM.x4.1
     have k1:=cIcI v8 v9 (isL_imm x) lx
     rw[icV_0 hR hC hx1,(chB_iff T x).2 hx2]at k1
     have xr:=exq_rowX (k:=8) q4 hXi rfl (by decide)
     refine Yay ?_
     refine CLLD_q _ k1 (.cons (exq_agg (n:=7) (.cons (v10 _ (fun _ _ _ _ _=>rfl)) .nil)) (.cons xr .nil)) rfl rfl ?_
     refine Yal ?_
     refine FIN_of (by split<;>first|exact all_WRs (p:=fun s=>okD _ (fpO (some [s,20496]) [])) nm2 (by kernel_rfl)|kernel_rfl) ?_
     refine Yay ?_
     refine CLLD_q _ (cDuC v8 v9 hR hC hx1 hx2) (.cons (exq_agg (n:=7) (.cons (v10 _ (fun _ _ _ _ _=>rfl)) .nil)) (.cons xr .nil)) rfl (noI_tL1 _ _) ?_
     refine Ydy ?_
     refine FIN_of (by split<;>first|exact all_WRs (p:=fun s=>okD _ (fpO (some [s,20496]) [114768])) nm2 (by kernel_rfl)|kernel_rfl) ?_
     have nS3:s≠114768:=by
      have:=nm2
      simp only[WRs,WDs,List.mem_cons,List.not_mem_nil,or_false]at this
      omega
     have hd1:LC T (dlC T x):=⟨len_dlC x,fun j _=>by have:=num_dlC (T:=T) (NL_numL hx1.2) j;unfold num at this;omega⟩
     have k3:=cIcI v8 v9 (isL_imm (dlC T x)) (by rw[len_dlC];unfold maxN;omega)
     rw[icV_0 hR hC hd1,(chB_iff T _).2 (dlC_ch hR hC hx2)]at k3
     have hK: ∀x y,y≤gn x→upr ro 114768 (gn 114768+1) (rowL (dlC T (X.getD i []))) x y=ro x y:=fun x y hy=>by rw[zdb,if_neg (by rintro⟨rfl,rfl⟩;omega)]
     rw[ex]at hK
     refine Yds ?_
     have hD:upr ro 114768 (gn 114768+1) (rowL (dlC T x)) 114768 (gn 114768+1)=some (rowL (dlC T x)):=upr_same _ _ _ _
     have hG: ∀x,gn x≤upg gn 114768 (gn 114768+1) x:=fun x=>by simp only[zda];repeat' (first|exact Nat.le_refl _|(split;rename_i e;subst e;omega))
     generalize upr ro 114768 (gn 114768+1) (rowL (dlC T x))=ro' at*
     generalize upg gn 114768 (gn 114768+1)=gn' at*
     refine CLL_q _ k3 (.cons (exq_agg (n:=7) (.cons (v10 _ (fun x y hy _ _=>hK x y hy)) .nil)) (.cons (exq_refL (xs:=dlC T x) hD rfl (by decide)) .nil)) rfl rfl rfl ?_
     have q3':=(hK _ _ hM.b3.2).trans q3
     have q4':=(hK _ _ hM.x4.2).trans q4
     have qu':=(hK _ _ hM.ru.2).trans hM.ru.1
     have qv':=(hK _ _ hM.rv.2).trans hM.rv.1
     have rP':=(hK _ _ lw).trans rP
     have v7':(blkO (ro' s u)).isSome=true:=by rw[hK _ _ v6];exact v7
     have rg':exq 8 ro' (.agg [.ref s u [] o T.length]) (.agg [cv']):=exq_agg (n:=7) (.cons (v10 _ (fun x y hy _ _=>hK x y hy)) .nil)
     have xr':=exq_rowX (k:=8) q4' hXi rfl (by decide)
     have kU:=cVlC v8 v9 hR hC hx1 hx2 ⟨lU,nU⟩
     have kV:=cVlC v8 v9 hR hC hx1 hx2 ⟨lV,nV⟩
     have kP:=cVlC v8 v9 hR hC hx1 hx2 ⟨lP,nP⟩
     have hval:=vl_mul hx2 hx1.1 mP
     have bU:0≤vlC x U∧vlC x U<55441:=num_mod _
     have bV:0≤vlC x V∧vlC x V<55441:=num_mod _
     generalize vlC x U=y1 at*
     generalize vlC x V=y2 at*
     generalize vlC x P=y3 at*
     have hmu1:=mulB bU.1 (show y1≤55440 by omega) bV.1 (show y2≤55440 by omega)
     have hmu2:=Int.mul_nonneg bU.1 bV.1
     refine Ycm ?_
     refine CLLD_q _ kU (.cons rg' (.cons xr' (.cons (exq_refL (xs:=U) qu' lU.symm (by decide)) .nil))) rfl rfl ?_
     refine Yal ?_
     refine FIN_of (by split<;>first|exact all_WRs (p:=fun s=>okD _ (fpP (some [s,20496,8192]))) nm2 (by kernel_rfl)|kernel_rfl) ?_
     refine Yax ?_
     refine CLLD_q _ kV (.cons rg' (.cons xr' (.cons (exq_refL (xs:=V) qv' lV.symm (by decide)) .nil))) rfl rfl ?_
     refine Yal ?_
     refine FIN_of (by split<;>first|exact all_WRs (p:=fun s=>okD _ (fpP (some [s,20496,8192]))) nm2 (by kernel_rfl)|kernel_rfl) ?_
     refine Yax ?_
     refine CLLD_q _ kP (.cons rg' (.cons xr' (.cons (exq_refL (xs:=P) rP' lP.symm (by decide)) .nil))) rfl rfl ?_
     refine Yal ?_
     refine FIN_of (by split<;>first|(rcases hS with rfl|rfl<;>exact all_WRs (p:=fun s=>okD _ (fpP (some [s,20496,_]))) nm2 (by kernel_rfl))|kernel_rfl) ?_
     refine Yem ?_
     refine CLL_pure _ (cMod5 (n:=y1*y2) (by omega)) rfl rfl rfl ?_
     refine Ydr ?_
     exact⟨i64c (by omega),hM.keep hK hG,rP',Nat.le_trans lw (hG S)⟩
    ·rintro sl ro gn ⟨s0,s3,s4,s12,s13,s14,s17,hM,hW⟩
     dsimp only at s0 s3 s4 s12 s13 s14 s17
     have hi': ¬((X.length:Nat):Int)<(X.length:Nat):=by omega
     dsimp only at hM hW
     have q4:=hM.x4.1
     exact Yea
   |false=>
    have hXT2: ¬(X.length:Int)=(T.length:Int):=by rw[hXT];decide
    simp(maxSteps:=10000000) (disch:=first|assumption|omega) only[go_sem, ↓reduceIte,Nat.reduceEqDiff,reduceCtorEq,Nat.reduceAdd,Nat.reduceMul,Nat.reduceLeDiff,zc,Int.reduceToNat,s0,s3,s4,s8,s10,s12,s13,s15,hi',q4,rowLL,eq_false hXT2]
    refine WK_for (fun i st=>st.sl 0=a∧st.sl 3= .ptr 16416 g3 [] 0∧st.sl 4= .ref 20496 g4 [] 0 X.length∧st.sl 12= .ref 8192 u1 [] 0 T.length∧st.sl 13= .ref 8192 u2 [] 0 T.length∧st.sl 14= .ref S w [] 0 T.length∧st.sl 17=i64 (i:Int)∧(LwM T X U V (.ref s u [] o T.length) g3 g4 u1 u2 st.ro st.gn)∧(st.ro S w=some (rowL P)∧w≤st.gn S)) X.length ?_ ?_ ?_
    ·simp only[↓za, ↓reduceIte,Nat.reduceEqDiff,zb,reduceCtorEq,rws_zero,s0,s3,s4,s8,s10,s12,s13,s15,hi']
     exact⟨e14,rfl,hM,rP,lw⟩
    ·rintro i sl ro gn hi ⟨s0,s3,s4,s12,s13,s14,s17,hM,hW⟩
     dsimp only at s0 s3 s4 s12 s13 s14 s17
     have hi':(i:Int)<(X.length:Nat):=by omega
     dsimp only at hM hW
     obtain⟨rP,lw⟩:=hW
     obtain⟨s',u',o',m',cv',e,⟨v1,v2,v3,v4,v5⟩,v6,v7,v8,v9,v10⟩:=hM.rd
     obtain⟨rfl,rfl,rfl,rfl⟩:s=s'∧u=u'∧o=o'∧T.length=m':=by injection e with e1 e2 e3 e4 e5;exact⟨e1,e2,e4,e5⟩
     have hgX:=get_rowLL hi
     have hmX:=getD_mem hi
     obtain⟨x,ex⟩: ∃x,X.getD i []=x:=⟨_,rfl⟩
     rw[ex]at hgX hmX
     have hXi:X[i]?=some x:=by rw[←ex,List.getD_eq_getElem?_getD,List.getElem?_eq_getElem hi];rfl
     obtain⟨hx1,hx2⟩:=hX2 x hmX
     have lx:x.length≤maxN:=by rw[hx1.1];unfold maxN;omega
     have q3:=hM.b3.1
     have q4:=hM.x4.1
     have k1:=cIcI v8 v9 (isL_imm x) lx
     rw[icV_0 hR hC hx1,(chB_iff T x).2 hx2]at k1
     have xr:=exq_rowX (k:=8) q4 hXi rfl (by decide)
     refine Yay ?_
     refine CLLD_q _ k1 (.cons (exq_agg (n:=7) (.cons (v10 _ (fun _ _ _ _ _=>rfl)) .nil)) (.cons xr .nil)) rfl rfl ?_
     refine Yal ?_
     refine FIN_of (by split<;>first|exact all_WRs (p:=fun s=>okD _ (fpO (some [s,20496]) [])) nm2 (by kernel_rfl)|kernel_rfl) ?_
     refine Yay ?_
     refine CLLD_q _ (cDuC v8 v9 hR hC hx1 hx2) (.cons (exq_agg (n:=7) (.cons (v10 _ (fun _ _ _ _ _=>rfl)) .nil)) (.cons xr .nil)) rfl (noI_tL1 _ _) ?_
     refine Ydy ?_
     refine FIN_of (by split<;>first|exact all_WRs (p:=fun s=>okD _ (fpO (some [s,20496]) [114768])) nm2 (by kernel_rfl)|kernel_rfl) ?_
     have nS3:s≠114768:=by
      have:=nm2
      simp only[WRs,WDs,List.mem_cons,List.not_mem_nil,or_false]at this
      omega
     have hd1:LC T (dlC T x):=⟨len_dlC x,fun j _=>by have:=num_dlC (T:=T) (NL_numL hx1.2) j;unfold num at this;omega⟩
     have k3:=cIcI v8 v9 (isL_imm (dlC T x)) (by rw[len_dlC];unfold maxN;omega)
     rw[icV_0 hR hC hd1,(chB_iff T _).2 (dlC_ch hR hC hx2)]at k3
     have hK: ∀x y,y≤gn x→upr ro 114768 (gn 114768+1) (rowL (dlC T (X.getD i []))) x y=ro x y:=fun x y hy=>by rw[zdb,if_neg (by rintro⟨rfl,rfl⟩;omega)]
     rw[ex]at hK
     refine Yds ?_
     have hD:upr ro 114768 (gn 114768+1) (rowL (dlC T x)) 114768 (gn 114768+1)=some (rowL (dlC T x)):=upr_same _ _ _ _
     have hG: ∀x,gn x≤upg gn 114768 (gn 114768+1) x:=fun x=>by simp only[zda];repeat' (first|exact Nat.le_refl _|(split;rename_i e;subst e;omega))
     generalize upr ro 114768 (gn 114768+1) (rowL (dlC T x))=ro' at*
     generalize upg gn 114768 (gn 114768+1)=gn' at*
     refine CLL_q _ k3 (.cons (exq_agg (n:=7) (.cons (v10 _ (fun x y hy _ _=>hK x y hy)) .nil)) (.cons (exq_refL (xs:=dlC T x) hD rfl (by decide)) .nil)) rfl rfl rfl ?_
     have q3':=(hK _ _ hM.b3.2).trans q3
     have q4':=(hK _ _ hM.x4.2).trans q4
     have qu':=(hK _ _ hM.ru.2).trans hM.ru.1
     have qv':=(hK _ _ hM.rv.2).trans hM.rv.1
     have rP':=(hK _ _ lw).trans rP
     have v7':(blkO (ro' s u)).isSome=true:=by rw[hK _ _ v6];exact v7
     have rg':exq 8 ro' (.agg [.ref s u [] o T.length]) (.agg [cv']):=exq_agg (n:=7) (.cons (v10 _ (fun x y hy _ _=>hK x y hy)) .nil)
     have xr':=exq_rowX (k:=8) q4' hXi rfl (by decide)
     have kU:=cVlC v8 v9 hR hC hx1 hx2 ⟨lU,nU⟩
     have kV:=cVlC v8 v9 hR hC hx1 hx2 ⟨lV,nV⟩
     have kP:=cVlC v8 v9 hR hC hx1 hx2 ⟨lP,nP⟩
     have hval:=vl_mul hx2 hx1.1 mP
     have bU:0≤vlC x U∧vlC x U<55441:=num_mod _
     have bV:0≤vlC x V∧vlC x V<55441:=num_mod _
     generalize vlC x U=y1 at*
     generalize vlC x V=y2 at*
     generalize vlC x P=y3 at*
     have hmu1:=mulB bU.1 (show y1≤55440 by omega) bV.1 (show y2≤55440 by omega)
     have hmu2:=Int.mul_nonneg bU.1 bV.1
     refine Ycm ?_
     refine CLLD_q _ kU (.cons rg' (.cons xr' (.cons (exq_refL (xs:=U) qu' lU.symm (by decide)) .nil))) rfl rfl ?_
     refine Yal ?_
     refine FIN_of (by split<;>first|exact all_WRs (p:=fun s=>okD _ (fpP (some [s,20496,8192]))) nm2 (by kernel_rfl)|kernel_rfl) ?_
     refine Yax ?_
     refine CLLD_q _ kV (.cons rg' (.cons xr' (.cons (exq_refL (xs:=V) qv' lV.symm (by decide)) .nil))) rfl rfl ?_
     refine Yal ?_
     refine FIN_of (by split<;>first|exact all_WRs (p:=fun s=>okD _ (fpP (some [s,20496,8192]))) nm2 (by kernel_rfl)|kernel_rfl) ?_
     refine Yax ?_
     refine CLLD_q _ kP (.cons rg' (.cons xr' (.cons (exq_refL (xs:=P) rP' lP.symm (by decide)) .nil))) rfl rfl ?_
     refine Yal ?_
     refine FIN_of (by split<;>first|(rcases hS with rfl|rfl<;>exact all_WRs (p:=fun s=>okD _ (fpP (some [s,20496,_]))) nm2 (by kernel_rfl))|kernel_rfl) ?_
     refine Yem ?_
     refine CLL_pure _ (cMod5 (n:=y1*y2) (by omega)) rfl rfl rfl ?_
     refine Ydr ?_
     exact⟨i64c (by omega),hM.keep hK hG,rP',Nat.le_trans lw (hG S)⟩
    ·rintro sl ro gn ⟨s0,s3,s4,s12,s13,s14,s17,hM,hW⟩
     dsimp only at s0 s3 s4 s12 s13 s14 s17
     have hi': ¬((X.length:Nat):Int)<(X.length:Nat):=by omega
     dsimp only at hM hW
     have q4:=hM.x4.1
     exact Yea
 ·refine CLL_q _ (cChI1 hcv hz hzc hz0) (hq _ (by intro x y hy h1 h2;simp only[zdb];repeat' (first|rfl|rw[if_neg (by rintro⟨rfl,rfl⟩;omega)]))) rfl rfl rfl ?_
  refine Ycc ?_
  refine CLL_q _ (cChS1 hcv hzc hz0) (hq _ (by intro x y hy h1 h2;simp only[zdb];repeat' (first|rfl|rw[if_neg (by rintro⟨rfl,rfl⟩;omega)]))) rfl rfl rfl ?_
  refine Ycc ?_
  refine CLL_q _ (cSpz hcv hz hzc hz0) (hq _ (by intro x y hy h1 h2;simp only[zdb];repeat' (first|rfl|rw[if_neg (by rintro⟨rfl,rfl⟩;omega)]))) rfl rfl rfl ?_
  refine Ycg ?_
  refine CLL_pure _ (cLikeR isLL_nil0 isLL_nil0 (Nat.zero_le _) (fun i hi=>absurd hi (Nat.not_lt_zero _)) rfl) rfl rfl rfl ?_
  simp(maxSteps:=10000000) (disch:=first|assumption|omega) only[go_sem, ↓reduceIte,Nat.reduceEqDiff,reduceCtorEq,Nat.reduceAdd,Nat.reduceMul,Nat.reduceLeDiff,zc,Int.reduceToNat,eq_false hz0]
  exact s0
end
section
variable{a:AV}{bs:List Int}{sl:Nat→AV}{ro:Ro}{gn:Nat→Nat}
set_option maxHeartbeats 16000000 in
theorem seg2(hc:Cod a bs)(hl:bs.length≤4096)(s0:sl 0=a):WK XX (cutB 8 (bodyOf Tryz.f3)) [] (RET ti0 [.tmp 2] (bo true)) ⟨sl,ro,gn⟩:=by
 dsimp only[Tryz.f3,bodyOf,Option.getD,cutB]
 refine Yab ?_
 refine CLL_inS rfl (sDrawIs hc hl) ?_
 rintro _ ro1 gn1 ⟨fr1,T,c,r2,rfl,hT,hL⟩
 obtain⟨s,u,o,m,cv,rfl,⟨n1,n2,nm1,nm2,nm3⟩,lu2,hbk,hcv,hz,hx⟩:=id hT
 obtain⟨s',u',p,L,rfl,hs',k1,k2,k3,k4⟩:=hL
 have nS:s≠143440:=by
  have:=nm2
  simp only[WRs,WDs,List.mem_cons,List.not_mem_nil,or_false]at this
  omega
 have nS':s'≠143440:=by omega
 have lL:L.length≤maxN:=by unfold maxN;omega
 have hq: ∀(ro2:Ro),(∀x y,y≤gn1 x→x≠8288→x≠4096→ro2 x y=ro1 x y)→exqL 8 ro2 [.agg [.ref s u [] o m],.ref s' u' p 0 L.length] [.agg [cv],.imm (L.map i64)]:=fun ro2 h=> .cons (exq_agg (n:=7) (.cons (hx ro2 h) .nil)) (.cons (exq_mono (k4 ro2 (h s' u' k2 (by omega) (by omega))).1 (by decide)) .nil)
 have c1:=cIcI hcv hz (isL_imm L) lL
 have c2:=cIcS hcv (isL_imm L) lL
 generalize (icV T L).1=b at*
 generalize (icV T L).2=z at*
 refine Yfr ?_
 refine CLL_q _ c1 (hq _ (by intro x y hy h1 h2;simp only[zdb];repeat' (first|rfl|rw[if_neg (by rintro⟨rfl,rfl⟩;omega)]))) rfl rfl rfl ?_
 refine Ycc ?_
 refine CLL_q _ c2 (hq _ (by intro x y hy h1 h2;simp only[zdb];repeat' (first|rfl|rw[if_neg (by rintro⟨rfl,rfl⟩;omega)]))) rfl rfl rfl ?_
 cases b with
 |true=>
  refine Ycg ?_
  exact Yaa
 |false=>
  refine Ycg ?_
  exact Yaa
theorem cCharacters(hb:isB a bs)(hr: ∀k,0≤atI bs k∧atI bs k<256):CallOK Tryz.prog 3 [a] (bo true):=by
 have hpa:pureA a=true:=isB_pure hb
 refine call_of (fn:=Tryz.f3) (code:=bodyOf Tryz.f3) Tryz.func3 rfl (by kernel_rfl) (rfl) ?_
 intro sl hs
 have s0:sl 0=a:=hs 0
 by_cases hl:4096<bs.length
 ·have cB:=cBig hb
  rw[decide_eq_true hl]at cB
  dsimp only[Tryz.f3,bodyOf,Option.getD]
  refine Yab ?_
  refine CLL_pure _ cB (by simp only[pureL,hpa,Bool.and_self]) rfl rfl ?_
  refine Yab ?_
  exact Yaa
 ·have hl':bs.length≤4096:=by omega
  have hc:Cod a bs:=⟨hb,fun k _=>hr k,by omega⟩
  refine WK_cut (fun st=>st.sl 0=a) 8 (seg1 hc hb hl' s0) ?_
  intro sl ro gn h
  exact seg2 hc hl' h
end
end Go.Proofs.YtbakhfiibjkifaaGreat
/- What the law hands in, read by the machine: bytes. -/
namespace Go.Proofs.YtbakhfiibjkifaaGreat
open Go.RowKit Go.ChangeShapes Go.WideShapes Go.Deep Go.Joins
theorem wf8{n:Int}(h:(Lit.int .u8 n).wf=true):0≤n∧n<256:=by
 have e:IntKind.bits .u8=8:=rfl
 have s:IntKind.signed .u8=false:=rfl
 simp only[Lit.wf,IntKind.min,IntKind.max,s,e]at h
 simp at h
 omega
section
variable{H:Type}{enc:TypeId×Value→H}{P:Program}{w:World}{held:Bool}
theorem open_b1{t e:TypeId}{fuel:Nat}{v:Value}{x:DataW H×List MemPlace}(ht:P.underlying t=some (.slice e))(he:P.underlying e=some (.int .u8))(hc:P.cellsOf e=1)(h:DataW.trod enc P w 0 (fun _=>true) held fuel t [v]=some x):
  ∃a xs,Rel (cx0 w (fun _=>False)) a v []∧isB a xs∧xs.length<2^63∧ ∀j,0≤atI xs j∧atI xs j<256:=by
 rcases open_ints ht he hc h with⟨hcs,_⟩|⟨ad,len,cap,zs,hcs,_,hl,hm,hz,_,hcell,hwf⟩
 ·simp only[List.cons.injEq,and_true]at hcs
  subst hcs
  exact⟨.sc (.slice none 0 0),[],.sc _ .nil,.inr ⟨rfl,_,_,rfl⟩,by simp,fun j=>by simp[atI]⟩
 ·simp only[List.cons.injEq,and_true]at hcs
  subst hcs
  simp only[if_true]at hz
  have hmx:cap<2^63:=Nat.lt_of_le_of_lt hm (by decide)
  rcases Nat.eq_zero_or_pos len with h0|hpos
  ·subst h0
   exact⟨.sc (.slice (some ad) 0 cap),[],.sc _ .nil,.inr ⟨rfl,_,_,rfl⟩,by simp,fun j=>by simp[atI]⟩
  ·have hc0:=hcell 0 (by omega)
   obtain⟨hs,hb⟩:=cell_spot hc0
   have hs':ad.spot=none:=by simpa [Addr.add]using hs
   have hb':ad.block<w.heap.size:=by simpa [Addr.add]using hb
   have hlen:(zs.take len).length=len:=by rw[List.length_take];omega
   have hlen2:((zs.take len).map (Value.int .u8)).length=len:=by rw[List.length_map,hlen]
   refine⟨.imm ((zs.take len).map u8),zs.take len,?_,.inl rfl,by omega,fun j=>?_⟩
   ·have hr:RelL (cx0 w (fun _=>False)) ((zs.take len).map u8) ((zs.take len).map (Value.int .u8)) []:=by
     have:=relL_sc (cx0 w (fun _=>False)) ((zs.take len).map (Value.int .u8))
     rwa [List.map_map]at this
    have:=RelL.imm (c:=cx0 w (fun _=>False)) ad.block ad.off cap hr ⟨fun h=>h,hb',fun i u hu=>?_⟩ (by rw[hlen2];exact hl) RelL.nil
    ·rw[hlen2]at this
     have e:(⟨ad.block,ad.off,none⟩:Addr)=ad:=by cases ad;simp_all
     rwa [e]at this
    ·show w.cell? ⟨ad.block,ad.off+i,none⟩=some u
     rw[←add_plain hs' i]
     have hi:i<len:=by
      have:=(List.getElem?_eq_some_iff.1 hu).1
      rwa [hlen2]at this
     rw[hcell i (by omega)]
     rw[List.getElem?_map,List.getElem?_take,if_pos hi]at hu
     cases hzi:zs[i]? with
     |none=>rw[hzi]at hu;cases hu
     |some z=>
      rw[hzi]at hu
      simp only[Option.map_some,Option.some.injEq]at hu
      rw[←hu]
      simp[List.getD_eq_getElem?_getD,hzi]
   ·rcases Nat.lt_or_ge j (zs.take len).length with hj|hj
    ·have hmem:atI (zs.take len) j∈zs:=by
      have:atI (zs.take len) j=(zs.take len)[j]:=by simp only[atI,List.getD_eq_getElem?_getD,List.getElem?_eq_getElem hj,Option.getD_some]
      rw[this]
      exact List.mem_of_mem_take (List.getElem_mem hj)
     exact wf8 (hwf _ hmem)
    ·rw[atI_out hj];exact⟨by decide,by decide⟩
end
end Go.Proofs.YtbakhfiibjkifaaGreat
