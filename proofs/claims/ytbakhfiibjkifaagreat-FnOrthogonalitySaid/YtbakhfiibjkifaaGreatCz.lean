/- Texts joined: Lk Wkc Ef3 Cz0 Cz3 Cz4 Eh0. -/
import Derived.ChangeOld
import Derived.Below
import Derived.Carry
import Derived.Deep.Slices
import Derived.ChangeSlices
import Derived.Lib.SmallJoins
import Derived.Test.YtbakhfiibjkifaaGreatMd
import Derived.Test.YtbakhfiibjkifaaGreatMg
import Derived.Test.YtbakhfiibjkifaaGreatCg
import Derived.Test.YtbakhfiibjkifaaGreatMj
import Derived.Test.YtbakhfiibjkifaaGreatCx
set_option linter.all false
/- Lists that are alike. -/
namespace Go.Proofs.YtbakhfiibjkifaaGreat
open Go.RowKit
set_option maxRecDepth 1000000
theorem isL_nil0:isL nilA []:= .inr ⟨rfl,rfl⟩
section
variable{a b:AV}
theorem cLikeI{X Y:List Int}(ha:isL a X)(hb:isL b Y)(lX:X.length≤maxN)(he:X=Y):CallOK Tryz.prog 25 [a,b] (bo true):=by
 subst he
 have lX':X.length≤4294967296:=lX
 refine call_of (fn:=Tryz.f25) (code:=bodyOf Tryz.f25) Tryz.func25 rfl (by kernel_rfl) (rfl) ?_
 intro sl hs
 have s0:sl 0=a:=hs 0
 have s1:sl 1=b:=hs 1
 dsimp only[Tryz.f25,bodyOf,Option.getD]
 simp(disch:=first|assumption|omega) only[go_sem, ↓reduceIte,Nat.reduceEqDiff,zc,s0,s1,ti31,isL_len ha,isL_len hb]
 refine WK_for (fun i st=>st.sl 0=a∧st.sl 1=b∧st.sl 5=i64 (i:Int)) X.length ?_ ?_ ?_
 ·refine Yae ?_
  first|done|exact rfl
 ·rintro i sl ro gn hi ⟨s0,s1,s5⟩
  dsimp only at s0 s1 s5
  have hi':(i:Int)<(X.length:Nat):=by omega
  simp(disch:=first|assumption|omega) only[go_sem, ↓reduceIte,Nat.reduceEqDiff,zc,s0,s1,s5,hi',hi,isL_len ha,isL_idx ha hi,isL_idx hb hi]
  refine FIN_of (by kernel_rfl) ?_
  simp(disch:=first|assumption|omega) only[go_sem, ↓reduceIte,Nat.reduceEqDiff,zc,s0,s1,s5,hi',hi]
  exact i64c (by omega)
 ·rintro sl ro gn ⟨s0,s1,s5⟩
  dsimp only at s0 s1 s5
  have hi': ¬((X.length:Nat):Int)<(X.length:Nat):=by omega
  simp(disch:=first|assumption|omega) only[go_sem, ↓reduceIte,Nat.reduceEqDiff,zc,s0,s1,s5,hi',isL_len ha]
  exact Yaa
end
def cutA:Nat→Code→Code
 |0,_=> .skip
 |n+1,.seq a b=> .seq a (cutA n b)
 |_+1,c=>c
def cutB:Nat→Code→Code
 |0,c=>c
 |n+1,.seq _ b=>cutB n b
 |_+1,_=> .skip
theorem WK_cut{X:WX}{Q:Exit→St→Prop}(I:St→Prop): ∀(n:Nat) {c:Code} {K:List Fr} {st:St},WK X (cutA n c) (.lp I::K) Q st→(∀sl ro gn,I ⟨sl,ro,gn⟩→WK X (cutB n c) K Q ⟨sl,ro,gn⟩)→WK X c K Q st
 |0,c,K,st,h,ht=>ht st.sl st.ro st.gn h
 |n+1,c,K,st,h,ht=>by
  cases c with
  |seq a b=>
   have h':WK X a (.sq (cutA n b):: .lp I::K) Q st:=by
    have:=h
    rw[show cutA (n+1) (Code.seq a b)=Code.seq a (cutA n b)from rfl,zan]at this
    exact this
   rw[zan]
   refine wk_mono a ?_ h'
   intro e st' he
   cases e with
   |normal=>exact WK_cut I n (c:=b) he ht
   |_=>exact he
  |_=>
   refine wk_mono _ ?_ h
   intro e st' he
   cases e with
   |normal=>exact ht st'.sl st'.ro st'.gn he
   |_=>exact he
theorem cBig{a:AV}{bs:List Int}(ha:isB a bs):CallOK Tryz.prog 6 [a] (bo (decide (4096<bs.length))):=by
 refine call_of (fn:=Tryz.f6) (code:=bodyOf Tryz.f6) Tryz.func6 rfl (by kernel_rfl) (rfl) ?_
 intro sl hs
 have s0:sl 0=a:=hs 0
 dsimp only[Tryz.f6,bodyOf,Option.getD]
 simp(maxSteps:=10000000) (disch:=first|assumption|omega) only[go_sem, ↓reduceIte,Nat.reduceEqDiff,reduceCtorEq,Nat.reduceAdd,Nat.reduceMul,Nat.reduceLeDiff,zc,Int.reduceToNat,s0,ha]
 refine Yab ?_
 simp only[decide_eq_decide];omega
theorem ShV.keepT{ro ro':Ro}{gn gn':Nat→Nat}{T:List (List (List Int))}{c:AV}(h:ShV ro gn T c)(hR:RdT ro gn T c)(hk: ∀x y,y≤gn x→x≠8288→x≠4096→ro' x y=ro x y)(hg: ∀x,gn x≤gn' x):ShV ro' gn' T c:=by
 obtain⟨s,u,n,o,m,rfl,h⟩:=h
 obtain⟨s',u',o',m',cv,e,⟨h1,h2,hm⟩,h3, -⟩:=hR
 obtain⟨rfl,rfl⟩:s=s'∧u=u':=by injection e with e1 e2;exact⟨e1,e2⟩
 refine⟨s,u,n,o,m,rfl,?_⟩
 rcases h with⟨F,k1,k2⟩|⟨k0,L,gb,F,k1,k2,k3,k4⟩
 ·exact .inl ⟨F,by rw[hk s u h3 h1 h2];exact k1,k2⟩
 ·exact .inr ⟨k0,L,gb,F,by rw[hk s u h3 h1 h2];exact k1,k2,fun x hx=>⟨by rw[hk 500000 _ (k3 x hx).2 (by decide) (by decide)];exact(k3 x hx).1,Nat.le_trans (k3 x hx).2 (hg _)⟩,k4⟩
structure LwM(T:List (List (List Int)))(X:List (List Int))(U V:List Int)(c:AV)(g3 g4 u1 u2:Nat)(ro:Ro)(gn:Nat→Nat):Prop where
 rd:RdT ro gn T c
 sh:ShV ro gn T c
 b3:ro 16416 g3=some (.bx [c])∧g3≤gn 16416
 x4:ro 20496 g4=some (rowLL X)∧g4≤gn 20496
 ru:ro 8192 u1=some (rowL U)∧u1≤gn 8192
 rv:ro 8192 u2=some (rowL V)∧u2≤gn 8192
section
variable{T:List (List (List Int))}{ro:Ro}{gn:Nat→Nat}{c:AV}
theorem mat_TL{L:List Nat}{F:C3}{n i:Nat}(hi:i<L.length):mat (TL L F n) i=plL F n (L.getD i 0):=by
 unfold mat TL
 rw[List.getD_eq_getElem?_getD,List.getElem?_map,List.getD_eq_getElem?_getD,List.getElem?_eq_getElem hi]
 rfl
theorem ShV.cube(h:ShV ro gn T c)(hT:CubeP T)(hm: ∀s u o m,c= .ref s u [] o m→T.length=m): ∃s u,c= .ref s u [] 0 T.length∧((∃F:C3,ro s u=some (cubeA F T.length)∧ ∀i j,i<T.length→j<T.length→row (mat T i) j=rws (F i j) T.length)∨(∃(L:List Nat) (gb:Nat) (F:C3),ro s u=some (.bx (L.map fun x=> .ref 500000 (gb+1+x) [] 0 T.length))∧T.length=L.length∧(∀x,x∈L→ro 500000 (gb+1+x)=some (plA F T.length x)∧gb+1+x≤gn 500000)∧ ∀i j,i<T.length→j<T.length→row (mat T i) j=rws (F (L.getD i 0) j) T.length)):=by
 obtain⟨s,u,n,o,m,rfl,h⟩:=h
 have lm:=hm s u o m rfl
 obtain⟨t1,t16,hcu⟩:=id hT
 rcases h with⟨F,k1,k2⟩|⟨rfl,L,gb,F,k1,k2,k3,k4⟩
 ·have hl:T.length=(((List.range n).drop o).take m).length:=by rw[k2];exact List.length_map _
  have h0:=(hcu 0 (by omega)).1
  rw[k2,mat_TL (by rw[←hl];omega),zfe, ←k2]at h0
  rw[List.length_take,List.length_drop,List.length_range]at hl
  have ho:o=0:=by omega
  subst ho
  have hm':m=T.length:=lm.symm
  subst hm'
  subst h0
  have e:((List.range T.length).drop 0).take T.length=List.range T.length:=by rw[List.drop_zero,List.take_of_length_le (by rw[List.length_range];exact Nat.le_refl _)]
  refine⟨s,u,rfl,.inl ⟨F,k1,fun i j hi hj=>?_⟩⟩
  have e2:mat T i=plL F T.length i:=by
   refine(congrArg (fun Z=>mat Z i) k2).trans ?_
   rw[e]
   refine(mat_TL (by rw[List.length_range];exact hi)).trans ?_
   rw[List.getD_eq_getElem?_getD,List.getElem?_range hi]
   rfl
  rw[e2]
  exact row_rws _ hj
 ·have hl:T.length=L.length:=by rw[k4];exact List.length_map _
  have h0:=(hcu 0 (by omega)).1
  rw[k4,mat_TL (by rw[←hl];omega),zfe, ←k4]at h0
  subst h0
  have hm':m=T.length:=lm.symm
  subst hm'
  refine⟨s,u,rfl,.inr ⟨L,gb,F,k1,hl,k3,fun i j hi hj=>?_⟩⟩
  have e2:mat T i=plL F T.length (L.getD i 0):=by
   refine(congrArg (fun Z=>mat Z i) k4).trans ?_
   exact mat_TL (by rw[←hl];exact hi)
  rw[e2]
  exact row_rws _ hj
def PrS(n:Nat)(q:Nat→Int)(r:AV)(ro:Ro)(gn:Nat→Nat):Prop:= ∃(S w:Nat) (P:List Int),r= .ref S w [] 0 n∧(S=57360∨S=86320)∧w≤gn S∧ro S w=some (rowL P)∧P.length=n∧NL P∧ ∀k,k<n→MM (atI P k) (q k)
def psm(T:List (List (List Int)))(U V:List Int)(i j k:Nat):Int:=sm (fun i'=>sm (fun j'=>atI U i'*atI V j'*at3 T i' j' k) T.length) i+sm (fun j'=>atI U i*atI V j'*at3 T i j' k) j
theorem psm_n(T:List (List (List Int)))(U V:List Int)(i k:Nat):psm T U V i T.length k=psm T U V (i+1) 0 k:=by
 unfold psm
 show _+_=(_+_)+0
 rw[Int.add_zero]
theorem psm_s(T:List (List (List Int)))(U V:List Int)(i j k:Nat):psm T U V i (j+1) k=psm T U V i j k+atI U i*atI V j*at3 T i j k:=by
 unfold psm
 show _+(_+_)=_
 rw[←Int.add_assoc]
theorem psm_step{U V P Q:List Int}{i j:Nat}(hQ: ∀k,k<T.length→atI Q k=at3 T i j k)(h: ∀k,k<T.length→MM (atI P k) (psm T U V i j k))(hl:P.length=T.length):
  ∀k,k<T.length→MM (atI (pl5 P Q (atI U i*atI V j % 55441)) k) (psm T U V i (j+1) k):=fun k hk=>by
 unfold pl5
 rw[atI_rws _ (by omega),psm_s,hQ k hk]
 exact(MM.mod _).trans ((h k hk).add ((MM.mod _).mul MM.rfl))
theorem pl5_NL(x y:List Int)(k:Int):NL (pl5 x y k):=fun j hj=>by
 rw[pl5_len]at hj
 unfold pl5
 rw[atI_rws _ hj]
 omega
def fpM(S s:Nat):List FP:=[e0,⟨some [16416],[]⟩,⟨some [16416],[]⟩,e0,⟨some [s],[]⟩,⟨some [s],[]⟩,e0,⟨some [s],[]⟩,⟨some [s],[]⟩,e0,e0,⟨some [8192],[]⟩,⟨some [8192],[]⟩,e0,e0,⟨some [8192],[]⟩,⟨some [8192],[]⟩,e0,e0,⟨some [S,s],[86320]⟩,e0]
def fpN(S s:Nat):List FP:=[e0,⟨some [16416],[]⟩,⟨some [16416],[]⟩,e0,⟨some [s],[]⟩,⟨some [s],[]⟩,e0,⟨some [500000],[]⟩,⟨some [500000],[]⟩,e0,e0,⟨some [8192],[]⟩,⟨some [8192],[]⟩,e0,e0,⟨some [8192],[]⟩,⟨some [8192],[]⟩,e0,e0,⟨some [S,500000],[86320]⟩,e0]
def fpO(r:Option (List Nat))(w:List Nat):List FP:=[⟨some [16416],[]⟩,e0,e0,⟨some [20496],[]⟩,⟨some [20496],[]⟩,⟨r,w⟩,e0,e0,e0,e0,e0]
def fpP(r:Option (List Nat)):List FP:=[⟨some [16416],[]⟩,e0,e0,⟨some [20496],[]⟩,⟨some [20496],[]⟩,e0,⟨r,[]⟩,e0,e0,e0,e0,e0]
end
structure OrM(T:List (List (List Int)))(x:List Int)(c:AV)(g3 s1 u1:Nat)(p1:List Nat)(ro:Ro)(gn:Nat→Nat):Prop where
 rd:RdT ro gn T c
 sh:ShV ro gn T c
 b3:ro 16480 g3=some (.bx [c])∧g3≤gn 16480
 rx:(s1=8192∨s1=16400)∧u1≤gn s1∧(∀ro2:Ro,ro2 s1 u1=ro s1 u1→exq 7 ro2 (.ref s1 u1 p1 0 x.length) (.imm (x.map i64))∧(ro2.cells s1 u1 p1).isSome=true)
theorem OrM.keep{T:List (List (List Int))}{x:List Int}{c:AV}{g3 s1 u1:Nat}{p1:List Nat}{ro ro':Ro}{gn gn':Nat→Nat}(h:OrM T x c g3 s1 u1 p1 ro gn)(hk: ∀x y,y≤gn x→ro' x y=ro x y)(hg: ∀x,gn x≤gn' x):OrM T x c g3 s1 u1 p1 ro' gn' where
 rd:=h.rd.keep (fun x y hy _ _=>hk x y hy) hg
 sh:=h.sh.keepT h.rd (fun x y hy _ _=>hk x y hy) hg
 b3:=⟨by rw[hk _ _ h.b3.2];exact h.b3.1,Nat.le_trans h.b3.2 (hg _)⟩
 rx:=⟨h.rx.1,Nat.le_trans h.rx.2.1 (hg _),fun ro2 e=>h.rx.2.2 ro2 (e.trans (hk _ _ h.rx.2.1))⟩
section
variable{T:List (List (List Int))}{ro:Ro}{gn:Nat→Nat}{c a b:AV}
def PrO(n:Nat)(q:Nat→Int)(r:AV)(ro:Ro)(gn:Nat→Nat):Prop:= ∃(S w:Nat) (P:List Int),r= .ref S w [] 0 n∧(S=81952∨S=110896)∧w≤gn S∧ro S w=some (rowL P)∧P.length=n∧NL P∧ ∀k,k<n→MM (atI P k) (q k)
def fpQ(S s:Nat):List FP:=[e0,⟨some [16480],[]⟩,⟨some [16480],[]⟩,e0,⟨some [s],[]⟩,⟨some [s],[]⟩,e0,⟨some [s],[]⟩,⟨some [s],[]⟩,e0,e0,⟨some [61472],[]⟩,⟨some [61472],[]⟩,e0,e0,⟨some [61472],[]⟩,⟨some [61472],[]⟩,e0,e0,⟨some [S,s],[110896]⟩,e0]
def fpR(S s:Nat):List FP:=[e0,⟨some [16480],[]⟩,⟨some [16480],[]⟩,e0,⟨some [s],[]⟩,⟨some [s],[]⟩,e0,⟨some [500000],[]⟩,⟨some [500000],[]⟩,e0,e0,⟨some [61472],[]⟩,⟨some [61472],[]⟩,e0,e0,⟨some [61472],[]⟩,⟨some [61472],[]⟩,e0,e0,⟨some [S,500000],[110896]⟩,e0]
theorem cLikeN{X Y:List Int}(ha:isL a X)(hb:isL b Y)(lX:X.length≤maxN)(he:X≠Y):CallOK Tryz.prog 25 [a,b] (bo false):=by
 have lX':X.length≤4294967296:=lX
 by_cases h1:X.length=Y.length
 ·have h1':(X.length:Int)=Y.length:=by omega
  refine call_of (fn:=Tryz.f25) (code:=bodyOf Tryz.f25) Tryz.func25 rfl (by kernel_rfl) (rfl) ?_
  intro sl hs
  have s0:sl 0=a:=hs 0
  have s1:sl 1=b:=hs 1
  dsimp only[Tryz.f25,bodyOf,Option.getD]
  simp(disch:=first|assumption|omega) only[go_sem, ↓reduceIte,Nat.reduceEqDiff,zc,s0,s1,ti31,isL_len ha,isL_len hb,eq_true h1']
  refine WK_for (fun i st=>st.sl 0=a∧st.sl 1=b∧st.sl 5=i64 (i:Int)∧(∀j,j<i→atI X j=atI Y j)) X.length ?_ ?_ ?_
  ·refine Yae ?_
   exact⟨rfl,fun j h=>absurd h (Nat.not_lt_zero _)⟩
  ·rintro i sl ro gn hi ⟨s0,s1,s5,q⟩
   dsimp only at s0 s1 s5
   have hi':(i:Int)<(X.length:Nat):=by omega
   have hiY:i<Y.length:=by omega
   by_cases e:atI X i=atI Y i
   ·refine Yel ?_
    refine FIN_of (by kernel_rfl) ?_
    simp(disch:=first|assumption|omega) only[go_sem, ↓reduceIte,Nat.reduceEqDiff,zc,s0,s1,s5,hi',hi,eq_true e]
    refine⟨i64c (by omega),fun j hj=>?_⟩
    rcases Nat.lt_or_eq_of_le (Nat.le_of_lt_succ hj)with h|h
    ·exact q j h
    ·rw[h];exact e
   ·refine Yel ?_
    refine FIN_of (by kernel_rfl) ?_
    simp(disch:=first|assumption|omega) only[go_sem, ↓reduceIte,Nat.reduceEqDiff,zc,s0,s1,s5,hi',hi,eq_false e]
    exact Yaa
  ·rintro sl ro gn ⟨s0,s1,s5,q⟩
   dsimp only at s0 s1 s5
   have hi': ¬((X.length:Nat):Int)<(X.length:Nat):=by omega
   exact absurd (eq_of_atI h1 q) he
 ·have h1': ¬(X.length:Int)=Y.length:=by omega
  refine call_of (fn:=Tryz.f25) (code:=bodyOf Tryz.f25) Tryz.func25 rfl (by kernel_rfl) (rfl) ?_
  intro sl hs
  have s0:sl 0=a:=hs 0
  have s1:sl 1=b:=hs 1
  dsimp only[Tryz.f25,bodyOf,Option.getD]
  simp(disch:=first|assumption|omega) only[go_sem, ↓reduceIte,Nat.reduceEqDiff,zc,s0,s1,ti31,isL_len ha,isL_len hb,eq_false h1']
  exact Yaa
theorem id_prod{x P:List Int}(hR:RngP T)(hC:CmP T)(hx:chP T x)(h0:cdg T x≠0)(lP:P.length=T.length)(nP:NL P)(h: ∀k,k<T.length→MM (atI P k) (psm T (idC T x) (idC T x) T.length 0 k)):P=idC T x:=by
 refine eq_of_atI (by rw[lP,len_idC]) fun k hk=>?_
 have h1:=h k (by omega)
 unfold psm at h1
 rw[show sm (fun j'=>atI (idC T x) T.length*atI (idC T x) j'*at3 T T.length j' k) 0=0 from rfl,Int.add_zero]at h1
 exact MM_num (h1.trans (id_idem hR hC hx h0 (by omega))) (NL_numL nP k) (num_idC x k)
theorem LC_idC(x:List Int):LC T (idC T x):=⟨len_idC x,fun j _=>by have:=num_idC (T:=T) x j;unfold num at this;omega⟩
theorem vl_id{x:List Int}(hL:LC T x)(h0:cdg T x≠0):vlC x (idC T x)=1:=by
 unfold vlC
 rw[hL.1]
 exact id_one h0
end
def OrQ(st:St):Prop:= ∃(T:List (List (List Int))) (x:List Int) (c:AV) (g3 s1 u1:Nat) (p1:List Nat),st.sl 3= .ptr 16480 g3 [] 0∧st.sl 4= .ref s1 u1 p1 0 x.length∧st.sl 10=i64 (cdg T x)∧OrM T x c g3 s1 u1 p1 st.ro st.gn∧RngP T∧CmP T∧LC T x∧chP T x
section
variable{a:AV}{bs:List Int}{sl:Nat→AV}{ro:Ro}{gn:Nat→Nat}
set_option maxHeartbeats 16000000 in
theorem orS1(hc:Cod a bs)(hb:isB a bs)(hl:bs.length≤4096)(s0:sl 0=a):WK XX (cutA 10 (bodyOf Tryz.f4)) [.lp OrQ] (RET ti0 [.tmp 2] (bo true)) ⟨sl,ro,gn⟩:=by
 have hpa:pureA a=true:=isB_pure hb
 have cB:=cBig hb
 rw[decide_eq_false (by omega)]at cB
 dsimp only[Tryz.f4,bodyOf,Option.getD,cutA]
 refine Yac ?_
 refine CLL_pure _ cB (by simp only[pureL,hpa,Bool.and_self]) rfl rfl ?_
 refine Yac ?_
 refine CLL_inS rfl (sDrawPr hc hl) ?_
 rintro _ ro1 gn1 ⟨fr1,T,c,r2,r3,rfl,hT,hV,hL1,hL2⟩
 obtain⟨s,u,o,m,cv,rfl,⟨n1,n2,nm1,nm2,rfl⟩,lu2,hbk,hcv,hz,hx⟩:=id hT
 obtain⟨s1,u1,p1,X,rfl,hs1,k11,k12,k13,k14⟩:=hL1
 obtain⟨s2,u2,p2,Y,rfl,hs2,k21,k22,k23,k24⟩:=hL2
 obtain⟨nS,nS1,nS2⟩:s≠16480∧s≠61472∧s≠65568:=by
  have:=nm2
  simp only[WRs,WDs,List.mem_cons,List.not_mem_nil,or_false]at this
  omega
 have lX:X.length≤maxN:=by unfold maxN;omega
 have lY:Y.length≤maxN:=by unfold maxN;omega
 have hqT: ∀(ro2:Ro),(∀x y,y≤gn1 x→x≠8288→x≠4096→ro2 x y=ro1 x y)→exq 8 ro2 (.agg [.ref s u [] o T.length]) (.agg [cv]):=fun ro2 h=>exq_agg (n:=7) (.cons (hx ro2 h) .nil)
 have hqX: ∀(ro2:Ro),(∀x y,y≤gn1 x→x≠8288→x≠4096→ro2 x y=ro1 x y)→exq 8 ro2 (.ref s1 u1 p1 0 X.length) (.imm (X.map i64)):=fun ro2 h=>exq_mono (k14 ro2 (h s1 u1 k12 (by omega) (by omega))).1 (by decide)
 have hqY: ∀(ro2:Ro),(∀x y,y≤gn1 x→x≠8288→x≠4096→ro2 x y=ro1 x y)→exq 8 ro2 (.ref s2 u2 p2 0 Y.length) (.imm (Y.map i64)):=fun ro2 h=>exq_mono (k24 ro2 (h s2 u2 k22 (by omega) (by omega))).1 (by decide)
 by_cases h0:ccV T X Y=0
 ·obtain⟨hR,hC,⟨hLx,hLy⟩,hX,hY⟩:=ccV_is0 h0
  have t16:=hR.1.2.1
  have k1:=cPo0 hcv hz hR hC hLx hLy hX hY
  have k2:=cPs0 hcv hR hC hLx hLy hX hY
  have k3:=cCgI hcv hz hR hC hLx hX
  have k4:=cPo0 hcv hz hR hC hLx hLx hX hX
  rw[pgC_self]at k4
  simp(disch:=first|assumption|omega) only[go_sem, ↓reduceIte,Nat.reduceEqDiff,zc,s0,nS,hbk,ti33]
  refine CLL_q _ k1 (.cons (hqT _ (by intro x y hy h1 h2;simp only[zdb];repeat' (first|rfl|rw[if_neg (by rintro⟨rfl,rfl⟩;omega)]))) (.cons (hqX _ (by intro x y hy h1 h2;simp only[zdb];repeat' (first|rfl|rw[if_neg (by rintro⟨rfl,rfl⟩;omega)]))) (.cons (hqY _ (by intro x y hy h1 h2;simp only[zdb];repeat' (first|rfl|rw[if_neg (by rintro⟨rfl,rfl⟩;omega)]))) .nil))) rfl rfl rfl ?_
  refine Yco ?_
  refine CLL_q _ k2 (.cons (hqT _ (by intro x y hy h1 h2;simp only[zdb];repeat' (first|rfl|rw[if_neg (by rintro⟨rfl,rfl⟩;omega)]))) (.cons (hqX _ (by intro x y hy h1 h2;simp only[zdb];repeat' (first|rfl|rw[if_neg (by rintro⟨rfl,rfl⟩;omega)]))) (.cons (hqY _ (by intro x y hy h1 h2;simp only[zdb];repeat' (first|rfl|rw[if_neg (by rintro⟨rfl,rfl⟩;omega)]))) .nil))) rfl rfl rfl ?_
  refine Yco ?_
  refine CLL_q _ k3 (.cons (hqT _ (by intro x y hy h1 h2;simp only[zdb];repeat' (first|rfl|rw[if_neg (by rintro⟨rfl,rfl⟩;omega)]))) (.cons (hqX _ (by intro x y hy h1 h2;simp only[zdb];repeat' (first|rfl|rw[if_neg (by rintro⟨rfl,rfl⟩;omega)]))) .nil)) rfl rfl rfl ?_
  refine Yco ?_
  refine CLL_q _ k4 (.cons (hqT _ (by intro x y hy h1 h2;simp only[zdb];repeat' (first|rfl|rw[if_neg (by rintro⟨rfl,rfl⟩;omega)]))) (.cons (hqX _ (by intro x y hy h1 h2;simp only[zdb];repeat' (first|rfl|rw[if_neg (by rintro⟨rfl,rfl⟩;omega)]))) (.cons (hqX _ (by intro x y hy h1 h2;simp only[zdb];repeat' (first|rfl|rw[if_neg (by rintro⟨rfl,rfl⟩;omega)]))) .nil))) rfl rfl rfl ?_
  have hlike: ∃t:Bool,CallOK Tryz.prog 25 [.imm (X.map i64),.imm (Y.map i64)] (bo t)∧(t=false→pgC T X Y=0):=by
   by_cases e:X=Y
   ·exact⟨true,cLikeI (isL_imm X) (isL_imm Y) lX e,fun h=>Bool.noConfusion h⟩
   ·refine⟨false,cLikeN (isL_imm X) (isL_imm Y) lX e,fun _=>?_⟩
    obtain⟨i,hi,hd⟩:=chs_dif (NL_numL hLx.2) (NL_numL hLy.2) hLx.1 hLy.1 e
    exact pr_zero hR hC hX hY hi hd
  obtain⟨t,k5,ht⟩:=hlike
  simp(disch:=first|assumption|omega) only[go_sem, ↓reduceIte,Nat.reduceEqDiff,zc,imp_tN]
  refine CLL_q _ k5 (.cons (hqX _ (by intro x y hy h1 h2;simp only[zdb];repeat' (first|rfl|rw[if_neg (by rintro⟨rfl,rfl⟩;omega)]))) (.cons (hqY _ (by intro x y hy h1 h2;simp only[zdb];repeat' (first|rfl|rw[if_neg (by rintro⟨rfl,rfl⟩;omega)]))) .nil)) rfl rfl rfl ?_
  generalize pgC T X Y=pXY at*
  refine Yfr ?_
  have hM: ∀(sl:Nat→AV) (ro2:Ro) (gn2:Nat→Nat),(∀x y,y≤gn1 x→x≠8288→x≠4096→ro2 x y=ro1 x y)→(∀x,gn1 x≤gn2 x)→ro2 16480 (gn1 16480+1)=some (.bx [.ref s u [] o T.length])→gn1 16480+1≤gn2 16480→sl 3= .ptr 16480 (gn1 16480+1) [] 0→sl 4= .ref s1 u1 p1 0 X.length→sl 10=i64 (cdg T X)→OrQ ⟨sl,ro2,gn2⟩:=fun sl ro2 gn2 hk hg hb hgb e3 e4 e10=>
   ⟨T,X,.ref s u [] o T.length,gn1 16480+1,s1,u1,p1,e3,e4,e10,⟨hT.keep hk hg,hV.keepT hT hk hg,⟨hb,hgb⟩,hs1,Nat.le_trans k12 (hg _),fun ro3 e=>k14 ro3 (e.trans (hk _ _ k12 (by omega) (by omega)))⟩,hR,hC,hLx,hX⟩
  cases t with
  |true=>
   refine Yfr ?_
   exact hM _ _ _ (by intro x y hy h1 h2;simp only[zdb];repeat' (first|rfl|rw[if_neg (by rintro⟨rfl,rfl⟩;omega)])) (fun x=>by simp only[zda];repeat' (first|exact Nat.le_refl _|(split;rename_i e;subst e;omega))) Ur Ur Ur Ur Ur
  |false=>
   obtain rfl:=ht rfl
   refine Yfr ?_
   exact hM _ _ _ (by intro x y hy h1 h2;simp only[zdb];repeat' (first|rfl|rw[if_neg (by rintro⟨rfl,rfl⟩;omega)])) (fun x=>by simp only[zda];repeat' (first|exact Nat.le_refl _|(split;rename_i e;subst e;omega))) Ur Ur Ur Ur Ur
 ·have k1:=cPo1 hcv hz lX lY h0
  have k2:=cPs1 hcv lX lY h0
  simp(disch:=first|assumption|omega) only[go_sem, ↓reduceIte,Nat.reduceEqDiff,zc,s0,nS,hbk,ti33]
  refine CLL_q _ k1 (.cons (hqT _ (by intro x y hy h1 h2;simp only[zdb];repeat' (first|rfl|rw[if_neg (by rintro⟨rfl,rfl⟩;omega)]))) (.cons (hqX _ (by intro x y hy h1 h2;simp only[zdb];repeat' (first|rfl|rw[if_neg (by rintro⟨rfl,rfl⟩;omega)]))) (.cons (hqY _ (by intro x y hy h1 h2;simp only[zdb];repeat' (first|rfl|rw[if_neg (by rintro⟨rfl,rfl⟩;omega)]))) .nil))) rfl rfl rfl ?_
  refine Yco ?_
  refine CLL_q _ k2 (.cons (hqT _ (by intro x y hy h1 h2;simp only[zdb];repeat' (first|rfl|rw[if_neg (by rintro⟨rfl,rfl⟩;omega)]))) (.cons (hqX _ (by intro x y hy h1 h2;simp only[zdb];repeat' (first|rfl|rw[if_neg (by rintro⟨rfl,rfl⟩;omega)]))) (.cons (hqY _ (by intro x y hy h1 h2;simp only[zdb];repeat' (first|rfl|rw[if_neg (by rintro⟨rfl,rfl⟩;omega)]))) .nil))) rfl rfl rfl ?_
  simp(disch:=first|assumption|omega) only[go_sem, ↓reduceIte,Nat.reduceEqDiff,zc,imp_tN,eq_false h0]
  exact Yaa
set_option maxHeartbeats 16000000 in
theorem orS2(hI:OrQ ⟨sl,ro,gn⟩):WK XX (cutA 4 (cutB 10 (bodyOf Tryz.f4))) [.lp OrQ] (RET ti0 [.tmp 2] (bo true)) ⟨sl,ro,gn⟩:=by
 obtain⟨T,x,c,g3,s1,u1,p1,e3,e4,e10,hM,hR,hC,hL,hX⟩:=hI
 dsimp only at e3 e4 e10 hM
 obtain⟨s,u,o,m,cv,rfl,⟨n1,n2,nm1,nm2,rfl⟩,lu2,hbk,hcv,hz,hx⟩:=id hM.rd
 obtain⟨hs1,k12,k14⟩:=hM.rx
 have q3:=hM.b3.1
 have t16:=hR.1.2.1
 have lx:x.length≤maxN:=by rw[hL.1];unfold maxN;omega
 obtain⟨nS1,nS2⟩:s≠61472∧s≠65568:=by
  have:=nm2
  simp only[WRs,WDs,List.mem_cons,List.not_mem_nil,or_false]at this
  omega
 have hqT: ∀(ro2:Ro),(∀x y,y≤gn x→x≠8288→x≠4096→ro2 x y=ro x y)→exq 8 ro2 (.agg [.ref s u [] o T.length]) (.agg [cv]):=fun ro2 h=>exq_agg (n:=7) (.cons (hx ro2 h) .nil)
 have hqX: ∀(ro2:Ro),(∀x y,y≤gn x→x≠8288→x≠4096→ro2 x y=ro x y)→exq 8 ro2 (.ref s1 u1 p1 0 x.length) (.imm (x.map i64)):=fun ro2 h=>exq_mono (k14 ro2 (h s1 u1 k12 (by omega) (by omega))).1 (by decide)
 dsimp only[Tryz.f4,bodyOf,Option.getD,cutA,cutB]
 by_cases h0:cdg T x=0
 ·have k1:=cIdI5 hcv hz hR hC hL hX h0
  have k2:=cIdS5 hcv hR hC hL hX h0
  simp(disch:=first|assumption|omega) only[go_sem, ↓reduceIte,Nat.reduceEqDiff,zc,e3,e4,q3,hbk,ti33]
  refine CLL_q _ k1 (.cons (hqT _ (by intro x y hy h1 h2;simp only[zdb];repeat' (first|rfl|rw[if_neg (by rintro⟨rfl,rfl⟩;omega)]))) (.cons (hqX _ (by intro x y hy h1 h2;simp only[zdb];repeat' (first|rfl|rw[if_neg (by rintro⟨rfl,rfl⟩;omega)]))) .nil)) rfl rfl rfl ?_
  simp(disch:=first|assumption|omega) only[go_sem, ↓reduceIte,Nat.reduceEqDiff,zc,imp_tN,e3,e4,q3,hbk,ti33]
  refine CLL_q _ k2 (.cons (hqT _ (by intro x y hy h1 h2;simp only[zdb];repeat' (first|rfl|rw[if_neg (by rintro⟨rfl,rfl⟩;omega)]))) (.cons (hqX _ (by intro x y hy h1 h2;simp only[zdb];repeat' (first|rfl|rw[if_neg (by rintro⟨rfl,rfl⟩;omega)]))) .nil)) rfl rfl rfl ?_
  simp(disch:=first|assumption|omega) only[go_sem, ↓reduceIte,Nat.reduceEqDiff,zc,imp_tN,e3,e4,e10]
  refine CLL_pure _ (cLikeI isL_nil0 isL_nil0 (Nat.zero_le _) rfl) rfl rfl rfl ?_
  simp(disch:=first|assumption|omega) only[go_sem, ↓reduceIte,Nat.reduceEqDiff,zc,e10,eq_true h0]
  exact⟨T,x,_,g3,s1,u1,p1,Ue e3,Ue e4,Ue e10,hM,hR,hC,hL,hX⟩
 ·obtain⟨E,eE⟩: ∃E,idC T x=E:=⟨_,rfl⟩
  have lE:E.length=T.length:=by rw[←eE];exact len_idC x
  have nE:numL E:=by rw[←eE];exact num_idC x
  have lcE:LC T E:=by rw[←eE];exact LC_idC x
  have k1:=cIdI hcv hz hR hC hL hX h0
  have k2:=cIdS hcv hR hC hL hX h0
  rw[eE]at k1 k2
  simp(disch:=first|assumption|omega) only[go_sem, ↓reduceIte,Nat.reduceEqDiff,zc,e3,e4,q3,hbk,ti33]
  refine CLL_q _ k1 (.cons (hqT _ (by intro x y hy h1 h2;simp only[zdb];repeat' (first|rfl|rw[if_neg (by rintro⟨rfl,rfl⟩;omega)]))) (.cons (hqX _ (by intro x y hy h1 h2;simp only[zdb];repeat' (first|rfl|rw[if_neg (by rintro⟨rfl,rfl⟩;omega)]))) .nil)) rfl rfl (noI_tL1 _ _) ?_
  simp(disch:=first|assumption|omega) only[go_sem, ↓reduceIte,Nat.reduceEqDiff,Nat.reduceAdd,Nat.reduceMul,zc,imp_tL,lE,e3,e4,q3,hbk,ti33,nS1]
  refine CLL_q _ k2 (.cons (hqT _ (by intro x y hy h1 h2;simp only[zdb];repeat' (first|rfl|rw[if_neg (by rintro⟨rfl,rfl⟩;omega)]))) (.cons (hqX _ (by intro x y hy h1 h2;simp only[zdb];repeat' (first|rfl|rw[if_neg (by rintro⟨rfl,rfl⟩;omega)]))) .nil)) rfl rfl (noI_tL1 _ _) ?_
  simp(disch:=first|assumption|omega) only[go_sem, ↓reduceIte,Nat.reduceEqDiff,zc,imp_tL,lE]
  refine CLL_q _ (cLikeI (isL_imm E) (isL_imm E) (by rw[lE];unfold maxN;omega) rfl) (.cons (exq_refL (xs:=E) Ur lE.symm (by decide)) (.cons (exq_refL (xs:=E) Ur lE.symm (by decide)) .nil)) rfl rfl rfl ?_
  have hTl:T.length≤4294967296:=by omega
  have hm':(T.length:Int)≤4294967296:=by omega
  have rrw: ∀k:Nat,List.replicate k (AV.sc (Value.int IntKind.i64 0))=(List.replicate k (0:Int)).map i64:=fun k=>by rw[List.map_replicate]
  simp(disch:=first|assumption|omega) only[go_sem, ↓reduceIte,Nat.reduceEqDiff,Nat.reduceAdd,Nat.reduceMul,zc,e10,eq_false h0,kMake,Int.natCast_nonneg,Int.le_refl,hm',hTl,List.getD_cons_zero]
  obtain⟨ge,ege⟩: ∃ge,ge=gn 61472+1:=⟨_,rfl⟩
  rw[←ege]
  refine WK_for (fun i st=>st.sl 3= .ptr 16480 g3 [] 0∧st.sl 4= .ref s1 u1 p1 0 x.length∧st.sl 10=i64 (cdg T x)∧st.sl 14= .ref 61472 ge [] 0 T.length∧st.sl 19=i64 (i:Int)∧(OrM T x (.ref s u [] o T.length) g3 s1 u1 p1 st.ro st.gn)∧(st.ro 61472 ge=some (rowL E)∧ge≤st.gn 61472)∧(PrO T.length (psm T E E i 0) (st.sl 18) st.ro st.gn)) T.length ?_ ?_ ?_
  ·simp only[↓za, ↓reduceIte,Nat.reduceEqDiff,zb,reduceCtorEq,rws_zero]
   refine⟨e3,e4,e10,rfl,hM.keep (fun x y hy=>by simp only[zdb];repeat' (first|rfl|rw[if_neg (by rintro⟨rfl,rfl⟩;omega)])) (fun x=>by simp only[zda];repeat' (first|exact Nat.le_refl _|(split;rename_i e;subst e;omega))),by first|exact Nat.le_refl _|(simp only[↓za, ↓reduceIte,Nat.reduceEqDiff,zb,reduceCtorEq];exact Nat.le_refl _),81952,gn 81952+1,List.replicate T.length 0,rfl,.inl rfl,Ur,by simp only[↓za, ↓reduceIte,Nat.reduceEqDiff,zb,reduceCtorEq,rrw,rowL],List.length_replicate,fun j hj=>?_,fun k hk=>?_⟩
   ·rw[List.length_replicate]at hj
    unfold atI
    rw[List.getD_eq_getElem?_getD,List.getElem?_replicate,if_pos hj]
    exact⟨by decide,by decide⟩
   ·unfold atI
    rw[List.getD_eq_getElem?_getD,List.getElem?_replicate,if_pos hk]
    exact MM.rfl
  ·rintro i sl ro gn hi ⟨s3,s4,s10,s14,s19,hM,hE,hP⟩
   dsimp only at s3 s4 s10 s14 s19
   have hi':(i:Int)<(T.length:Nat):=by omega
   dsimp only at hM hE hP
   have qe:=hE.1
   rw[rowL]at qe
   simp(disch:=first|assumption|omega) only[go_sem, ↓reduceIte,Nat.reduceEqDiff,zc,s3,s4,s10,s14,s19,hi',hi,qe]
   refine WK_for (fun j st=>st.sl 3= .ptr 16480 g3 [] 0∧st.sl 4= .ref s1 u1 p1 0 x.length∧st.sl 10=i64 (cdg T x)∧st.sl 14= .ref 61472 ge [] 0 T.length∧st.sl 19=i64 (i:Int)∧st.sl 20=i64 (j:Int)∧(OrM T x (.ref s u [] o T.length) g3 s1 u1 p1 st.ro st.gn)∧(st.ro 61472 ge=some (rowL E)∧ge≤st.gn 61472)∧(PrO T.length (psm T E E i j) (st.sl 18) st.ro st.gn)) T.length ?_ ?_ ?_
   ·simp only[↓za, ↓reduceIte,Nat.reduceEqDiff,zb,reduceCtorEq,rws_zero,s3,s4,s10,s14,s19,hi',hi]
    exact⟨rfl,hM,hE,hP⟩
   ·rintro j sl ro gn hj ⟨s3,s4,s10,s14,s19,s20,hM,hE,hP⟩
    dsimp only at s3 s4 s10 s14 s19 s20
    have hj':(j:Int)<(T.length:Nat):=by omega
    dsimp only at hM hE hP
    obtain⟨rE,lge⟩:=hE
    obtain⟨S,w,P,e18,hS,lw,rP,lP,nP,mP⟩:=hP
    obtain⟨s',u',e,hsh⟩:=hM.sh.cube hR.1 (fun s u o m e=>by injection e)
    obtain⟨rfl,rfl,rfl⟩:s=s'∧u=u'∧o=0:=by injection e with e1 e2 e3 e4;exact⟨e1,e2,e4⟩
    have q3:=hM.b3.1
    have qe:=rE
    have iu:i<E.length:=by omega
    have jv:j<E.length:=by omega
    rw[rowL]at qe
    have lr:=get_map iu
    have ls:=get_map jv
    have nu:=nE i
    have nv:=nE j
    unfold num at nu nv
    have hmul:=mulB nu.1 (show atI E i≤55440 by omega) nv.1 (show atI E j≤55440 by omega)
    have hm0:=Int.mul_nonneg nu.1 nv.1
    rcases hsh with⟨F,rF,hF⟩|⟨L,gb,F,rF,hL',rL,hF⟩
    ·have cub:=exq_cub (k:=8) rF hi hj (by decide)
     rw[←hF i j hi hj]at cub
     have lQ:(row (mat T i) j).length=T.length:=by rw[hF i j hi hj];exact zfe _ _
     have cp:=cPl5 (k:=atI E i*atI E j % 55441) (isL_imm P) (isL_imm (row (mat T i) j)) (by rw[lP,lQ]) (by omega) (NL_numL nP) (fun k=>at3_bnd hR.1 i j k) (num_mod _)
     simp(disch:=first|assumption|omega) only[go_sem, ↓reduceIte,Nat.reduceEqDiff,zc,s3,s4,s10,s14,s19,s20,hj',hj,e18,q3,rF,qe,lr,ls]
     refine CLLD_pure _ (cMod5 (by omega)) PUt rfl ?_
     refine Ycc ?_
     refine CLLD_q _ cp (.cons (exq_refL (xs:=P) rP lP.symm (by decide)) (.cons cub (.cons (exq_sc _ _ _ (by decide)) .nil))) rfl (noI_rowL _) ?_
     refine Ydu ?_
     have hsh:(shO (blkO (ro S w))&&shO (in2 i j (ro s u)))=true:=by
      rw[rP,rF,show blkO (some (rowL P))=some (P.map i64)from rfl,in2_rws hi hj]
      show (noRefL (P.map i64)&&noRefL (rws _ _))=true
      rw[nrf,noRefL_rws _ _ fun _=>rfl]
      rfl
     refine FIN_of (by rw[if_pos hsh];rcases hS with rfl|rfl<;>exact all_WRs (p:=fun s=>okD _ (fpQ _ s)) nm2 (by kernel_rfl)) ?_
     refine Ycc ?_
     refine⟨i64c (by omega),hM.keep (fun x y hy=>by rw[zdb,if_neg (by rintro⟨rfl,rfl⟩;omega)]) (fun x=>by simp only[zda];repeat' (first|exact Nat.le_refl _|(split;rename_i e;subst e;omega))),⟨rE,lge⟩,110896,gn 110896+1,_,rfl,.inr rfl,Ur,upr_same _ _ _ _,(pl5_len _ _ _).trans lP,pl5_NL _ _ _,psm_step (fun k _=>rfl) mP lP⟩
    ·have iL:i<L.length:=by omega
     obtain⟨x0,ex0⟩: ∃x0,x0=L.getD i 0:=⟨_,rfl⟩
     have hxm:x0∈L:=by rw[ex0,List.getD_eq_getElem?_getD,List.getElem?_eq_getElem iL];exact List.getElem_mem iL
     have hgi:(L.map fun x=>AV.ref 500000 (gb+1+x) [] 0 T.length)[i]?=some (.ref 500000 (gb+1+x0) [] 0 T.length):=by
      rw[List.getElem?_map,List.getElem?_eq_getElem iL,ex0,List.getD_eq_getElem?_getD,List.getElem?_eq_getElem iL];rfl
     have cPi:=(rL x0 hxm).1
     have hFi:=hF i j hi hj
     rw[←ex0]at hFi
     have cub:=exq_rowX (k:=8) (X:=plL F T.length x0) (x:=rws (F x0 j) T.length) (m:=T.length) (cPi.trans (congrArg some (rowLL_mat (F x0) T.length T.length).symm)) (rws_get _ _ _ hj) (zfe _ _).symm (by decide)
     rw[←hFi]at cub
     have lQ:(row (mat T i) j).length=T.length:=by rw[hFi];exact zfe _ _
     have cp:=cPl5 (k:=atI E i*atI E j % 55441) (isL_imm P) (isL_imm (row (mat T i) j)) (by rw[lP,lQ]) (by omega) (NL_numL nP) (fun k=>at3_bnd hR.1 i j k) (num_mod _)
     simp(disch:=first|assumption|omega) only[go_sem, ↓reduceIte,Nat.reduceEqDiff,zc,s3,s4,s10,s14,s19,s20,hj',hj,e18,q3,rF,hgi,cPi,qe,lr,ls]
     refine CLLD_pure _ (cMod5 (by omega)) PUt rfl ?_
     refine Ycc ?_
     refine CLLD_q _ cp (.cons (exq_refL (xs:=P) rP lP.symm (by decide)) (.cons cub (.cons (exq_sc _ _ _ (by decide)) .nil))) rfl (noI_rowL _) ?_
     refine Ydu ?_
     have hsh:(shO (blkO (ro S w))&&shO (inO j (ro 500000 (gb+1+x0))))=true:=by
      rw[rP,cPi,show blkO (some (rowL P))=some (P.map i64)from rfl]
      simp only[inO,rws_get _ _ _ hj,rowO_row]
      show (noRefL (P.map i64)&&noRefL (rws _ _))=true
      rw[nrf,noRefL_rws _ _ fun _=>rfl]
      rfl
     refine FIN_of (by rw[if_pos hsh];rcases hS with rfl|rfl<;>exact all_WRs (p:=fun s=>okD _ (fpR _ s)) nm2 (by kernel_rfl)) ?_
     refine Ycc ?_
     refine⟨i64c (by omega),hM.keep (fun x y hy=>by rw[zdb,if_neg (by rintro⟨rfl,rfl⟩;omega)]) (fun x=>by simp only[zda];repeat' (first|exact Nat.le_refl _|(split;rename_i e;subst e;omega))),⟨rE,lge⟩,110896,gn 110896+1,_,rfl,.inr rfl,Ur,upr_same _ _ _ _,(pl5_len _ _ _).trans lP,pl5_NL _ _ _,psm_step (fun k _=>rfl) mP lP⟩
   ·rintro sl ro gn ⟨s3,s4,s10,s14,s19,s20,hM,hE,hP⟩
    dsimp only at s3 s4 s10 s14 s19 s20
    have hj': ¬((T.length:Nat):Int)<(T.length:Nat):=by omega
    dsimp only at hM hE hP
    obtain⟨S,w,P,e18,hS,lw,rP,lP,nP,mP⟩:=hP
    have qe:=hE.1
    rw[rowL]at qe
    simp(disch:=first|assumption|omega) only[go_sem, ↓reduceIte,Nat.reduceEqDiff,zc,s3,s4,s10,s14,s19,s20,hj',e18,qe]
    exact⟨i64c (by omega),hM,hE.2,S,w,P,rfl,hS,lw,rP,lP,nP,fun k hk=>by rw[←psm_n];exact mP k hk⟩
  ·rintro sl ro gn ⟨s3,s4,s10,s14,s19,hM,hE,hP⟩
   dsimp only at s3 s4 s10 s14 s19
   have hi': ¬((T.length:Nat):Int)<(T.length:Nat):=by omega
   dsimp only at hM hE hP
   obtain⟨rE,lge⟩:=hE
   obtain⟨S,w,P,e18,hS,lw,rP,lP,nP,mP⟩:=hP
   have q3:=hM.b3.1
   have qe:=rE
   rw[rowL]at qe
   obtain⟨s',u',o',m',cv',e,⟨v1,v2,v3,v4,v5⟩,v6,v7,v8,v9,v10⟩:=hM.rd
   obtain⟨rfl,rfl,rfl,rfl⟩:s=s'∧u=u'∧o=o'∧T.length=m':=by injection e with e1 e2 e3 e4 e5;exact⟨e1,e2,e4,e5⟩
   obtain⟨-, b12,b14⟩:=hM.rx
   have kV:=cVlC v8 v9 hR hC hL hX lcE
   have hP1:P=E:=by rw[←eE]at mP ⊢;exact id_prod hR hC hX h0 lP nP mP
   have hv1:vlC x E=1:=by rw[←eE];exact vl_id hL h0
   rw[hv1]at kV
   subst hP1
   simp(disch:=first|assumption|omega) only[go_sem, ↓reduceIte,Nat.reduceEqDiff,zc,s3,s4,s10,s14,s19,hi',e18,q3,v7,qe]
   refine CLL_q _ kV (.cons (exq_agg (n:=7) (.cons (v10 _ (fun _ _ _ _ _=>rfl)) .nil)) (.cons (exq_mono (b14 _ rfl).1 (by decide)) (.cons (exq_refL (xs:=P) rE lP.symm (by decide)) .nil))) rfl rfl rfl ?_
   simp(disch:=first|assumption|omega) only[go_sem, ↓reduceIte,Nat.reduceEqDiff,zc,s3,s4,s10,s14,s19,hi',imp_tN,e18]
   refine CLL_q _ (cLikeI (isL_imm P) (isL_imm P) (by rw[lP];unfold maxN;omega) rfl) (.cons (exq_refL (xs:=P) rP lP.symm (by decide)) (.cons (exq_refL (xs:=P) rE lP.symm (by decide)) .nil)) rfl rfl rfl ?_
   simp(disch:=first|assumption|omega) only[go_sem, ↓reduceIte,Nat.reduceEqDiff,zc,s3,s4,s10,s14,s19,hi']
   exact⟨T,x,_,g3,s1,u1,p1,Ue s3,Ue s4,Ue s10,hM,hR,hC,hL,hX⟩
noncomputable def ttC(T:List (List (List Int)))(X:List (List Int))(i:Nat):Int:=sm (fun a=>pw (cdg T (X.getD a [])) 55439) i % 55441
theorem ttC_0(T:List (List (List Int)))(X:List (List Int)):ttC T X 0=0:=rfl
theorem cd_at{T:List (List (List Int))}{i:Nat}(hi:i<(chsI T).length):atI ((chsI T).map (cdg T)) i=cdg T ((chsI T).getD i []):=by
 unfold atI
 rw[List.getD_eq_getElem?_getD,List.getElem?_map,List.getD_eq_getElem?_getD,List.getElem?_eq_getElem hi]
 rfl
set_option maxHeartbeats 16000000 in
theorem orS3(hI:OrQ ⟨sl,ro,gn⟩):WK XX (cutB 4 (cutB 10 (bodyOf Tryz.f4))) [] (RET ti0 [.tmp 2] (bo true)) ⟨sl,ro,gn⟩:=by
 obtain⟨T,x,c,g3,s1,u1,p1,e3,e4,e10,hM,hR,hC,hL,hX⟩:=hI
 dsimp only at e3 e4 e10 hM
 obtain⟨s,u,o,m,cv,rfl,⟨n1,n2,nm1,nm2,rfl⟩,lu2,hbk,hcv,hz,hx⟩:=id hM.rd
 have q3:=hM.b3.1
 have t16:=hR.1.2.1
 obtain⟨nS1,nS2⟩:s≠126992∧s≠131088:=by
  have:=nm2
  simp only[WRs,WDs,List.mem_cons,List.not_mem_nil,or_false]at this
  omega
 have hqT: ∀(ro2:Ro),(∀x y,y≤gn x→x≠8288→x≠4096→ro2 x y=ro x y)→exq 8 ro2 (.agg [.ref s u [] o T.length]) (.agg [cv]):=fun ro2 h=>exq_agg (n:=7) (.cons (hx ro2 h) .nil)
 have hfew:=chs_few hR.1
 have k1:=cCdI0 hcv hR hC
 have k2:=cChI0 hcv hR hC
 obtain⟨L,eL⟩: ∃L,(chsI T).map (cdg T)=L:=⟨_,rfl⟩
 have lL:L.length=(chsI T).length:=by rw[←eL];exact List.length_map _
 have hLa: ∀i,i<(chsI T).length→atI L i=cdg T ((chsI T).getD i []):=fun i hi=>by rw[←eL];exact cd_at hi
 have hsum:=cdg_sum hR hC
 have hnz:=fun h i hi=>cdg_ne hR hC h (a:=i) hi
 have hxm:x∈chsI T:=(chsI_iff hR.1).2 ⟨hL.1,NL_numL hL.2,(chB_iff T x).2 hX⟩
 obtain⟨ix,hix,ex⟩:=List.mem_iff_getElem.1 hxm
 have eix:atI L ix=cdg T x:=by rw[hLa ix hix,List.getD_eq_getElem?_getD,List.getElem?_eq_getElem hix,ex];rfl
 have ncd: ∀y,num (cdg T y):=fun y=>num_mod _
 rw[eL]at k1
 obtain⟨X,eX⟩: ∃X,chsI T=X:=⟨_,rfl⟩
 rw[eX]at k2 hfew lL hLa hsum hnz hix
 dsimp only[Tryz.f4,bodyOf,Option.getD,cutA,cutB]
 simp(disch:=first|assumption|omega) only[go_sem, ↓reduceIte,Nat.reduceEqDiff,zc,e3,q3,hbk,ti33]
 refine CLL_q _ k1 (.cons (hqT _ (by intro x y hy h1 h2;simp only[zdb];repeat' (first|rfl|rw[if_neg (by rintro⟨rfl,rfl⟩;omega)]))) .nil) rfl rfl (noI_tL1 _ _) ?_
 simp(disch:=first|assumption|omega) only[go_sem, ↓reduceIte,Nat.reduceEqDiff,Nat.reduceAdd,Nat.reduceMul,zc,imp_tL,lL,e3,q3,hbk,ti33,nS1]
 refine CLL_q _ k2 (.cons (hqT _ (by intro x y hy h1 h2;simp only[zdb];repeat' (first|rfl|rw[if_neg (by rintro⟨rfl,rfl⟩;omega)]))) .nil) rfl rfl (noI_tLL _ _) ?_
 simp(disch:=first|assumption|omega) only[go_sem, ↓reduceIte,Nat.reduceEqDiff,Nat.reduceAdd,Nat.reduceMul,zc,imp_tLL,e10]
 refine CLL_q _ (cHasI (isL_imm L) (by rw[lL];unfold maxN;omega) (i:=ix) (by rw[lL];exact hix) eix) (.cons (exq_refL (xs:=L) Ur lL.symm (by decide)) (.cons (exq_sc _ _ _ (by decide)) .nil)) rfl rfl rfl ?_
 by_cases hlt:X.length<T.length
 ·have hlt':(X.length:Int)<(T.length:Int):=by omega
  simp(disch:=first|assumption|omega) only[go_sem, ↓reduceIte,Nat.reduceEqDiff,zc,e3,q3,hbk,nS1,nS2,eq_true hlt',ti33]
  exact Yaa
 ·have hlt': ¬(X.length:Int)<(T.length:Int):=by omega
  have hs:X.length=T.length:=by omega
  have hsum:=hsum hs
  have hnz:=hnz hs
  simp(disch:=first|assumption|omega) only[go_sem, ↓reduceIte,Nat.reduceEqDiff,zc,e3,q3,hbk,nS1,nS2,eq_false hlt',ti33]
  obtain⟨gL,egL⟩: ∃gL,gL=gn 126992+1:=⟨_,rfl⟩
  rw[←egL]
  refine WK_for (fun i st=>st.sl 23= .ref 126992 gL [] 0 X.length∧st.sl 27=i64 (ttC T X i)∧st.sl 28=i64 (i:Int)∧st.ro 126992 gL=some (rowL L)) T.length ?_ ?_ ?_
  ·simp only[↓za, ↓reduceIte,Nat.reduceEqDiff,zb,reduceCtorEq,rws_zero]
   exact⟨congrArg i64 (ttC_0 T X).symm,rfl⟩
  ·rintro i sl ro gn hi ⟨s23,s27,s28,r126992⟩
   dsimp only at s23 s27 s28 r126992
   have hi':(i:Int)<(T.length:Nat):=by omega
   have iX:i<X.length:=by omega
   have iX':(i:Int)<(X.length:Nat):=by omega
   have iL:i<L.length:=by omega
   have lr:=get_map iL
   have el:=hLa i iX
   have h0:=hnz i hi
   have nc:=ncd (X.getD i [])
   have cD:=cDivN (m:=1) (n:=cdg T (X.getD i [])) (by unfold num;decide) nc h0
   rw[qt_1, ←el]at cD
   have np:=num_pw (atI L i) 55439
   unfold num at np
   have n3:num (ttC T X i):=num_mod _
   unfold num at n3
   have es:(ttC T X i+pw (atI L i) 55439) % 55441=ttC T X (i+1):=by
    unfold ttC
    rw[sm_succ, ←el,Int.emod_add_emod]
   rw[rowL]at r126992
   simp(disch:=first|assumption|omega) only[go_sem, ↓reduceIte,Nat.reduceEqDiff,zc,s23,s27,s28,r126992,hi',hi,r126992,lr,iX']
   refine CLL_pure _ cD PUt rfl rfl ?_
   simp(disch:=first|assumption|omega) only[go_sem, ↓reduceIte,Nat.reduceEqDiff,zc,s23,s27,s28,r126992,hi',hi,imp_tN]
   refine CLL_pure _ (cMod5 (by omega)) rfl rfl rfl ?_
   simp(disch:=first|assumption|omega) only[go_sem, ↓reduceIte,Nat.reduceEqDiff,zc,s23,s27,s28,r126992,hi',hi]
   exact⟨congrArg i64 es,i64c (by omega)⟩
  ·rintro sl ro gn ⟨s23,s27,s28,r126992⟩
   dsimp only at s23 s27 s28 r126992
   have hi': ¬((T.length:Nat):Int)<(T.length:Nat):=by omega
   have iX': ¬(T.length:Int)<(X.length:Nat):=by omega
   have e1:ttC T X T.length=1:=hsum
   rw[rowL]at r126992
   simp(disch:=first|assumption|omega) only[go_sem, ↓reduceIte,Nat.reduceEqDiff,zc,s23,s27,s28,r126992,hi',r126992,eq_false iX',e1]
   exact Yaa
theorem cOrth(hb:isB a bs)(hr: ∀k,0≤atI bs k∧atI bs k<256):CallOK Tryz.prog 4 [a] (bo true):=by
 have hpa:pureA a=true:=isB_pure hb
 refine call_of (fn:=Tryz.f4) (code:=bodyOf Tryz.f4) Tryz.func4 rfl (by kernel_rfl) (rfl) ?_
 intro sl hs
 have s0:sl 0=a:=hs 0
 by_cases hl:4096<bs.length
 ·have cB:=cBig hb
  rw[decide_eq_true hl]at cB
  dsimp only[Tryz.f4,bodyOf,Option.getD]
  refine Yac ?_
  refine CLL_pure _ cB (by simp only[pureL,hpa,Bool.and_self]) rfl rfl ?_
  refine Yac ?_
  exact Yaa
 ·have hl':bs.length≤4096:=by omega
  have hc:Cod a bs:=⟨hb,fun k _=>hr k,by omega⟩
  refine WK_cut OrQ 10 (orS1 hc hb hl' s0) ?_
  intro sl ro gn h
  refine WK_cut OrQ 4 (orS2 h) ?_
  intro sl ro gn h
  exact orS3 h
end
end Go.Proofs.YtbakhfiibjkifaaGreat
/- What the law hands in, read by the machine: bytes. -/
namespace Go.Proofs.YtbakhfiibjkifaaGreat
open Go.RowKit Go.ChangeShapes Go.WideShapes Go.Deep Go.Joins
theorem wf8{n:Int}(h:(Lit.int .u8 n).wf=true):0≤n∧n<256:=by
 have e:IntKind.bits .u8=8:=rfl
 have s:IntKind.signed .u8=false:=rfl
 simp only[Lit.wf,IntKind.min,IntKind.max,s,e]at h
 simp at h
 omega
section
variable{H:Type}{enc:TypeId×Value→H}{P:Program}{w:World}{held:Bool}
theorem open_b1{t e:TypeId}{fuel:Nat}{v:Value}{x:DataW H×List MemPlace}(ht:P.underlying t=some (.slice e))(he:P.underlying e=some (.int .u8))(hc:P.cellsOf e=1)(h:DataW.trod enc P w 0 (fun _=>true) held fuel t [v]=some x):
  ∃a xs,Rel (cx0 w (fun _=>False)) a v []∧isB a xs∧xs.length<2^63∧ ∀j,0≤atI xs j∧atI xs j<256:=by
 rcases open_ints ht he hc h with⟨hcs,_⟩|⟨ad,len,cap,zs,hcs,_,hl,hm,hz,_,hcell,hwf⟩
 ·simp only[List.cons.injEq,and_true]at hcs
  subst hcs
  exact⟨.sc (.slice none 0 0),[],.sc _ .nil,.inr ⟨rfl,_,_,rfl⟩,by simp,fun j=>by simp[atI]⟩
 ·simp only[List.cons.injEq,and_true]at hcs
  subst hcs
  simp only[if_true]at hz
  have hmx:cap<2^63:=Nat.lt_of_le_of_lt hm (by decide)
  rcases Nat.eq_zero_or_pos len with h0|hpos
  ·subst h0
   exact⟨.sc (.slice (some ad) 0 cap),[],.sc _ .nil,.inr ⟨rfl,_,_,rfl⟩,by simp,fun j=>by simp[atI]⟩
  ·have hc0:=hcell 0 (by omega)
   obtain⟨hs,hb⟩:=cell_spot hc0
   have hs':ad.spot=none:=by simpa [Addr.add]using hs
   have hb':ad.block<w.heap.size:=by simpa [Addr.add]using hb
   have hlen:(zs.take len).length=len:=by rw[List.length_take];omega
   have hlen2:((zs.take len).map (Value.int .u8)).length=len:=by rw[List.length_map,hlen]
   refine⟨.imm ((zs.take len).map u8),zs.take len,?_,.inl rfl,by omega,fun j=>?_⟩
   ·have hr:RelL (cx0 w (fun _=>False)) ((zs.take len).map u8) ((zs.take len).map (Value.int .u8)) []:=by
     have:=relL_sc (cx0 w (fun _=>False)) ((zs.take len).map (Value.int .u8))
     rwa [List.map_map]at this
    have:=RelL.imm (c:=cx0 w (fun _=>False)) ad.block ad.off cap hr ⟨fun h=>h,hb',fun i u hu=>?_⟩ (by rw[hlen2];exact hl) RelL.nil
    ·rw[hlen2]at this
     have e:(⟨ad.block,ad.off,none⟩:Addr)=ad:=by cases ad;simp_all
     rwa [e]at this
    ·show w.cell? ⟨ad.block,ad.off+i,none⟩=some u
     rw[←add_plain hs' i]
     have hi:i<len:=by
      have:=(List.getElem?_eq_some_iff.1 hu).1
      rwa [hlen2]at this
     rw[hcell i (by omega)]
     rw[List.getElem?_map,List.getElem?_take,if_pos hi]at hu
     cases hzi:zs[i]? with
     |none=>rw[hzi]at hu;cases hu
     |some z=>
      rw[hzi]at hu
      simp only[Option.map_some,Option.some.injEq]at hu
      rw[←hu]
      simp[List.getD_eq_getElem?_getD,hzi]
   ·rcases Nat.lt_or_ge j (zs.take len).length with hj|hj
    ·have hmem:atI (zs.take len) j∈zs:=by
      have:atI (zs.take len) j=(zs.take len)[j]:=by simp only[atI,List.getD_eq_getElem?_getD,List.getElem?_eq_getElem hj,Option.getD_some]
      rw[this]
      exact List.mem_of_mem_take (List.getElem_mem hj)
     exact wf8 (hwf _ hmem)
    ·rw[atI_out hj];exact⟨by decide,by decide⟩
end
end Go.Proofs.YtbakhfiibjkifaaGreat
