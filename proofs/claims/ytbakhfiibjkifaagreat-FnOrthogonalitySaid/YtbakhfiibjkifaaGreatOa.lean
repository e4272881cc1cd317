/- Texts joined: Ea1 Ea2 S0 T2 Ea3. -/
import Derived.Test.YtbakhfiibjkifaaGreatMi
import Derived.Test.YtbakhfiibjkifaaGreatMh
import Derived.Test.YtbakhfiibjkifaaGreatMg
set_option linter.all false
/- Enumeration of rings: comparisons of lists, in the order of their numbers. -/
namespace Go.Proofs.YtbakhfiibjkifaaGreat
open Go.RowKit
set_option maxRecDepth 1000000
structure CmpO{α:Type}(f:α→α→Int):Prop where
 eq0: ∀x y,f x y=0↔x=y
 anti: ∀x y,f x y<0↔0<f y x
 trans: ∀x y z,f x y<0→f y z<0→f x z<0
def cmpI(x y:Int):Int:=if x<y then-1 else if y<x then 1 else 0
def cmpG{α:Type}(f:α→α→Int):List α→List α→Int
 | [],[]=>0
 | [],_::_=> -1
 |_::_,[]=>1
 |x::xs,y::ys=>if f x y=0 then cmpG f xs ys else f x y
abbrev cmp1:List Int→List Int→Int:=cmpG cmpI
abbrev cmp2:List (List Int)→List (List Int)→Int:=cmpG cmp1
abbrev cmp3:List (List (List Int))→List (List (List Int))→Int:=cmpG cmp2
theorem getD_some{α:Type}{xs:List α}{i:Nat}(d:α)(h:i<xs.length):xs[i]?=some (xs.getD i d):=by
 rw[List.getElem?_eq_getElem h,List.getD_eq_getElem?_getD,List.getElem?_eq_getElem h];rfl
theorem rws_self: ∀(xs:List Int),rws (fun i=>atI xs i) xs.length=xs:=fun xs=>by
 refine eq_of_atI (zfe _ _) fun i hi=>?_
 rw[zfe]at hi
 exact atI_rws _ hi
theorem cOwn1{xs:List Int}(hx:xs.length≤maxN):CallOK Tryz.prog 70 [immL xs] (rowL xs):=by
 have hx':0+xs.length≤4294967296:=by have:xs.length≤4294967296:=hx;omega
 have hall:(xs.map i64).all zez=true:=List.all_eq_true.2 fun x hx=>by obtain⟨y, -, rfl⟩:=List.mem_map.1 hx;rfl
 refine call_of (fn:=Tryz.f70) (code:=bodyOf Tryz.f70) Tryz.func70 rfl (by kernel_rfl) (noRef_rowL _) ?_
 intro sl hs
 have s0:sl 0=immL xs:=hs 0
 dsimp only[Tryz.f70,bodyOf,Option.getD]
 simp(disch:=first|assumption|omega) only[go_sem, ↓reduceIte,Nat.reduceEqDiff,zc,s0,hall,List.length_map,hx']
 exact Yaa
theorem cOwn0:CallOK Tryz.prog 70 [nilA] (rowL []):=by
 have hnil:isNilV (Value.slice none 0 0)=true:=rfl
 refine call_of (fn:=Tryz.f70) (code:=bodyOf Tryz.f70) Tryz.func70 rfl (by kernel_rfl) (noRef_rowL _) ?_
 intro sl hs
 have s0:sl 0=nilA:=hs 0
 dsimp only[Tryz.f70,bodyOf,Option.getD]
 simp(disch:=first|assumption|omega) only[go_sem, ↓reduceIte,Nat.reduceEqDiff,zc,s0,hnil]
 refine Yab ?_
 rfl
theorem cOwn{a:AV}{xs:List Int}(ha:isL a xs)(hx:xs.length≤maxN):CallOK Tryz.prog 70 [a] (rowL xs):=by
 rcases ha with rfl|⟨rfl,rfl⟩
 ·exact cOwn1 hx
 ·exact cOwn0
theorem cOwn2{a:AV}{S:List (List Int)}(ha:isLL a S)(hS:S.length≤maxN)(hR: ∀i,i<S.length→(row S i).length≤maxN):CallOK Tryz.prog 71 [a] (.row (rws (fun x=>rowL (row S x)) S.length)):=by
 have hS':S.length≤4294967296:=hS
 refine call_of (fn:=Tryz.f71) (code:=bodyOf Tryz.f71) Tryz.func71 rfl (by kernel_rfl) (noRef_row _ (noRefL_rws _ _ fun _=>noRef_rowL _)) ?_
 intro sl hs
 have s0:sl 0=a:=hs 0
 dsimp only[Tryz.f71,bodyOf,Option.getD]
 refine Yac ?_
 refine WK_for (fun i st=>st.sl 0=a∧st.sl 3= .ref 8192 (st.gn 8192) [] 0 i∧st.ro 8192 (st.gn 8192)=some (.row (rws (fun x=>rowL (row S x)) i))∧st.sl 4=i64 (i:Int)) S.length ?_ ?_ ?_
 ·refine Yad ?_
  exact rfl
 ·rintro i sl ro gn hi ⟨s0,s3,r8192,s4⟩
  dsimp only at s0 s3 r8192 s4
  have hi':(i:Int)<(S.length:Nat):=by omega
  have hi2:i+1≤4294967296:=by omega
  have hr:=isLL_row ha hi
  simp(disch:=first|assumption|omega) only[go_sem, ↓reduceIte,Nat.reduceEqDiff,zc,s0,s3,r8192,s4,hi',hi]
  refine CLL_pure _ (cOwn hr (hR i hi)) PUt rfl rfl ?_
  refine Yen ?_
  exact i64c (by omega)
 ·rintro sl ro gn ⟨s0,s3,r8192,s4⟩
  dsimp only at s0 s3 r8192 s4
  have hi': ¬((S.length:Nat):Int)<(S.length:Nat):=by omega
  simp(disch:=first|assumption|omega) only[go_sem, ↓reduceIte,Nat.reduceEqDiff,zc,s0,s3,r8192,s4,hi']
  exact Yai
theorem cOwn3{a:AV}{T:List (List (List Int))}(ha:isLLL a T)(hT:T.length≤maxN)(hT2: ∀i,i<T.length→(mat T i).length≤maxN∧ ∀j,j<(mat T i).length→(row (mat T i) j).length≤maxN):CallOK Tryz.prog 161 [a] (.row (rws (fun x=> .row (rws (fun y=>rowL (row (mat T x) y)) (mat T x).length)) T.length)):=by
 have hS':T.length≤4294967296:=hT
 refine call_of (fn:=Tryz.f161) (code:=bodyOf Tryz.f161) Tryz.func161 rfl (by kernel_rfl) (noRef_row _ (noRefL_rws _ _ fun _=>noRef_row _ (noRefL_rws _ _ fun _=>noRef_rowL _))) ?_
 intro sl hs
 have s0:sl 0=a:=hs 0
 dsimp only[Tryz.f161,bodyOf,Option.getD]
 refine Yac ?_
 refine WK_for (fun i st=>st.sl 0=a∧st.sl 3= .ref 8192 (st.gn 8192) [] 0 i∧st.ro 8192 (st.gn 8192)=some (.row (rws (fun x=> .row (rws (fun y=>rowL (row (mat T x) y)) (mat T x).length)) i))∧st.sl 4=i64 (i:Int)) T.length ?_ ?_ ?_
 ·refine Yad ?_
  exact rfl
 ·rintro i sl ro gn hi ⟨s0,s3,r8192,s4⟩
  dsimp only at s0 s3 r8192 s4
  have hi':(i:Int)<(T.length:Nat):=by omega
  have hi2:i+1≤4294967296:=by omega
  have hr:=isLLL_mat ha hi
  simp(disch:=first|assumption|omega) only[go_sem, ↓reduceIte,Nat.reduceEqDiff,zc,s0,s3,r8192,s4,hi',hi]
  refine CLL_pure _ (cOwn2 hr (hT2 i hi).1 (hT2 i hi).2) PUt rfl rfl ?_
  refine Yen ?_
  exact i64c (by omega)
 ·rintro sl ro gn ⟨s0,s3,r8192,s4⟩
  dsimp only at s0 s3 r8192 s4
  have hi': ¬((T.length:Nat):Int)<(T.length:Nat):=by omega
  simp(disch:=first|assumption|omega) only[go_sem, ↓reduceIte,Nat.reduceEqDiff,zc,s0,s3,r8192,s4,hi']
  exact Yai
theorem cClo{xs:List Int}(hx:xs.length≤maxN):CallOK Tryz.prog 88 [immL xs] (rowL xs):=by
 have hx':0+xs.length≤4294967296:=by have:xs.length≤4294967296:=hx;omega
 have hall:(xs.map i64).all zez=true:=List.all_eq_true.2 fun x hx=>by obtain⟨y, -, rfl⟩:=List.mem_map.1 hx;rfl
 refine call_of (fn:=Tryz.f88) (code:=bodyOf Tryz.f88) Tryz.func88 rfl (by kernel_rfl) (noRef_rowL _) ?_
 intro sl hs
 have s0:sl 0=immL xs:=hs 0
 dsimp only[Tryz.f88,bodyOf,Option.getD]
 simp(disch:=first|assumption|omega) only[go_sem, ↓reduceIte,Nat.reduceEqDiff,zc,s0,hall,List.length_map,hx']
 exact Yaa
theorem cCloP{a:AV}{xs:List Int}(ha:isL a xs)(hx:xs.length≤maxN)(hp:0<xs.length):CallOK Tryz.prog 88 [a] (rowL xs):=by
 rcases ha with rfl|⟨rfl,rfl⟩
 ·exact cClo hx
 ·exact absurd hp (by decide)
theorem cOpp{c:AV}{T:List (List (List Int))}(ha:isLLL c T)(hc:CubeP T):CallOK Tryz.prog 112 [.agg [c]] (.agg [cubeA (fun i j k=>at3 T j i k) T.length]):=by
 obtain⟨h1,h2,h3⟩:=id hc
 refine call_of (fn:=Tryz.f112) (code:=bodyOf Tryz.f112) Tryz.func112 rfl (by kernel_rfl) (by have:=noRef_cube (fun i j k=>at3 T j i k) T.length;simp only[noRef,noRefL,Bool.and_true]at this ⊢;exact this) ?_
 intro sl hs
 have s0:sl 0= .agg [c]:=hs 0
 dsimp only[Tryz.f112,bodyOf,Option.getD]
 refine Yer ?_
 refine WK_for (fun i st=>st.sl 1= .ptr 4096 1 [] 0∧st.ro 4096 1=some (.bx [c])∧st.sl 2= .ptr 4112 1 [] 0∧st.ro 4112 1=some (.bx [nilA])∧st.sl 3= .ptr 8208 1 [] 0∧st.sl 10=i64 (T.length:Nat)∧st.sl 11=i64 (i:Int)∧((i=0∧st.ro 8208 1=some (.bx [nilA]))∨(0<i∧st.ro 8208 1=some (.bx [.ref 49216 (st.gn 49216) [] 0 i])∧st.ro 49216 (st.gn 49216)=some (.row (rws (fun i=> .row (rws (fun j=> .row (rws (fun k=>i64 (at3 T j i k)) T.length)) T.length)) i))))) T.length ?_ ?_ ?_
 ·refine Yad ?_
  exact⟨rfl,.inl trivial⟩
 ·rintro i sl ro gn hi ⟨s1,r4096,s2,r4112,s3,s10,s11,q⟩
  dsimp only at s1 r4096 s2 r4112 s3 s10 s11
  have hi':(i:Int)<(T.length:Nat):=by omega
  dsimp only at q
  simp(disch:=first|assumption|omega) only[go_sem, ↓reduceIte,Nat.reduceEqDiff,Nat.reduceAdd,Nat.reduceMul,zc,s1,r4096,s2,r4112,s3,s10,s11,hi',hi,isLLL_len ha]
  refine WK_for (fun j st=>st.sl 1= .ptr 4096 1 [] 0∧st.ro 4096 1=some (.bx [c])∧st.sl 2= .ptr 4112 1 [] 0∧st.ro 4112 1=some (.bx [nilA])∧st.sl 3= .ptr 8208 1 [] 0∧st.sl 10=i64 (T.length:Nat)∧st.sl 11=i64 (i:Int)∧st.sl 4=i64 (i:Int)∧st.sl 17=i64 (T.length:Nat)∧st.sl 18=i64 (j:Int)∧st.sl 5= .ref 24576 (st.gn 24576) [] 0 j∧st.ro 24576 (st.gn 24576)=some (.row (rws (fun j=> .row (rws (fun k=>i64 (at3 T j i k)) T.length)) j))∧((i=0∧st.ro 8208 1=some (.bx [nilA]))∨(0<i∧st.ro 8208 1=some (.bx [.ref 49216 (st.gn 49216) [] 0 i])∧st.ro 49216 (st.gn 49216)=some (.row (rws (fun i=> .row (rws (fun j=> .row (rws (fun k=>i64 (at3 T j i k)) T.length)) T.length)) i))))) T.length ?_ ?_ ?_
  ·simp only[↓za, ↓reduceIte,Nat.reduceEqDiff,zb,reduceCtorEq,rws_zero,s1,r4096,s2,r4112,s3,s10,s11,hi',hi]
   exact⟨rfl,q⟩
  ·rintro j sl ro gn hj ⟨s1,r4096,s2,r4112,s3,s10,s11,s4,s17,s18,s5,r24576,q2⟩
   dsimp only at s1 r4096 s2 r4112 s3 s10 s11 s4 s17 s18 s5 r24576
   have hj':(j:Int)<(T.length:Nat):=by omega
   dsimp only at q2
   have hj2:j+1≤4294967296:=by omega
   have hm:=isLLL_mat ha hj
   have hij:i<(mat T j).length:=by rw[(h3 j hj).1];exact hi
   have hr:=isLL_row hm hij
   have lr:(row (mat T j) i).length=T.length:=((h3 j hj).2 i hi).1
   have cl:=cCloP hr (by rw[lr];unfold maxN;omega) (by omega)
   have er:rowL (row (mat T j) i)= .row (rws (fun k=>i64 (at3 T j i k)) T.length):=by
    show AV.row ((row (mat T j) i).map i64)=_
    congr 1
    rw[←lr, ←rws_map (fun k=>at3 T j i k),rws_self]
   rw[er]at cl
   simp(disch:=first|assumption|omega) only[go_sem, ↓reduceIte,Nat.reduceEqDiff,zc,s1,r4096,s2,r4112,s3,s10,s11,s4,s17,s18,s5,r24576,hj',hj]
   refine CLL_pure _ cl PUt rfl rfl ?_
   simp(disch:=first|assumption|omega) only[go_sem, ↓reduceIte,Nat.reduceEqDiff,Nat.reduceAdd,Nat.reduceMul,zc,s1,r4096,s2,r4112,s3,s10,s11,s4,s17,s18,s5,r24576,hj',hj,impE_row,zfe,hj2]
   exact⟨i64c (by omega),q2⟩
  ·rintro sl ro gn ⟨s1,r4096,s2,r4112,s3,s10,s11,s4,s17,s18,s5,r24576,q2⟩
   dsimp only at s1 r4096 s2 r4112 s3 s10 s11 s4 s17 s18 s5 r24576
   have hj': ¬((T.length:Nat):Int)<(T.length:Nat):=by omega
   dsimp only at q2
   have hi2:i+1≤4294967296:=by omega
   rcases q2 with⟨hi0,q3⟩|⟨hi0,q3,q4⟩
   ·simp(disch:=first|assumption|omega) only[go_sem, ↓reduceIte,Nat.reduceEqDiff,Nat.reduceAdd,Nat.reduceMul,zc,s1,r4096,s2,r4112,s3,s10,s11,s4,s17,s18,s5,r24576,hj',q3,zfe]
    refine⟨i64c (by omega),.inr ⟨by omega,?_⟩⟩
    subst hi0
    exact⟨rfl,rfl⟩
   ·simp(disch:=first|assumption|omega) only[go_sem, ↓reduceIte,Nat.reduceEqDiff,Nat.reduceAdd,Nat.reduceMul,zc,s1,r4096,s2,r4112,s3,s10,s11,s4,s17,s18,s5,r24576,hj',q3,q4,zfe,hi2]
    exact⟨i64c (by omega),.inr trivial⟩
 ·rintro sl ro gn ⟨s1,r4096,s2,r4112,s3,s10,s11,q⟩
  dsimp only at s1 r4096 s2 r4112 s3 s10 s11
  have hi': ¬((T.length:Nat):Int)<(T.length:Nat):=by omega
  dsimp only at q
  rcases q with⟨hi0,q3⟩|⟨hi0,q3,q4⟩
  ·omega
  ·simp(disch:=first|assumption|omega) only[go_sem, ↓reduceIte,Nat.reduceEqDiff,zc,s1,r4096,s2,r4112,s3,s10,s11,hi',q3,q4]
   simp only[zr,zb,retR,resL,outT,outL,zes,zez,oneV,zcp,zed,zfi,Ro.dl,St.ev,zhk, ↓za, ↓reduceIte,Nat.reduceEqDiff,Nat.reduceAdd,Nat.reduceLeDiff,s2,ti33,q3,q4]
section
variable{F G:Nat→Nat→Nat→Int}{n:Nat}{a b c p:AV}
theorem lenC(F:Nat→Nat→Nat→Int)(n:Nat):(cubeL F n).length=n:=zfe _ _
theorem lenM{i:Nat}(hi:i<n):(mat (cubeL F n) i).length=n:=by rw[mat_cube hi,zfe]
theorem lenR{i j:Nat}(hi:i<n)(hj:j<n):(row (mat (cubeL F n) i) j).length=n:=by rw[mat_cube hi,row_rws _ hj,zfe]
theorem rowC{i j:Nat}(hi:i<n)(hj:j<n):row (mat (cubeL F n) i) j=rws (fun k=>F i j k) n:=by rw[mat_cube hi,row_rws _ hj]
theorem cOwnC(ha:isLLL a (cubeL F n))(hn:n≤maxN):CallOK Tryz.prog 161 [a] (cubeA F n):=by
 have h:=cOwn3 ha (by rw[lenC];exact hn) (fun i hi=>by
  rw[lenC]at hi
  rw[lenM hi]
  exact⟨hn,fun j hj=>by rw[lenR hi hj];exact hn⟩)
 rw[lenC]at h
 have e:AV.row (rws (fun x=> .row (rws (fun y=>rowL (row (mat (cubeL F n) x) y)) (mat (cubeL F n) x).length)) n)=cubeA F n:=by
  refine congrArg AV.row (rws_congr fun i hi=>?_)
  rw[lenM hi]
  refine congrArg AV.row (rws_congr fun j hj=>?_)
  rw[rowC hi hj]
  show AV.row ((rws (fun k=>F i j k) n).map i64)=_
  rw[rws_map]
 rw[e]at h
 exact h
end
def unM(i j:Nat):Int:=if j=i then 1 else 0
theorem cUnit{n:Nat}(hn:n≤maxN):CallOK Tryz.prog 149 [i64 n] (matA unM n n):=by
 have hn':n≤4294967296:=hn
 have hm':(n:Int)≤((4294967296:Nat):Int):=by omega
 refine call_of (fn:=Tryz.f149) (code:=bodyOf Tryz.f149) Tryz.func149 rfl (by kernel_rfl) (noRef_mat _ _ _) ?_
 intro sl hs
 have s0:sl 0=i64 n:=hs 0
 dsimp only[Tryz.f149,bodyOf,Option.getD]
 refine Yac ?_
 refine WK_for (fun i st=>st.sl 0=i64 n∧st.sl 4=i64 (i:Int)∧st.sl 3= .ref 8192 (st.gn 8192) [] 0 i∧st.ro 8192 (st.gn 8192)=some (.row (rws (fun i=> .row (rws (fun j=>i64 (unM i j)) n)) i))) n ?_ ?_ ?_
 ·refine Yad ?_
  rfl
 ·rintro i sl ro gn hi ⟨s0,s4,s3,r8192⟩
  dsimp only at s0 s4 s3 r8192
  have hi':(i:Int)<(n:Nat):=by omega
  have hi2:i+1≤4294967296:=by omega
  have e0:(rws (fun _=>i64 0) n).set i (i64 1)=rws (fun j=>i64 (unM i j)) n:=by
   rw[rws_set]
   refine rws_congr fun j _=>?_
   unfold unM
   split<;>rfl
  simp(maxSteps:=10000000) (disch:=first|assumption|omega) only[go_sem, ↓reduceIte,Nat.reduceEqDiff,reduceCtorEq,Nat.reduceAdd,Nat.reduceMul,Nat.reduceLeDiff,zc,Int.reduceToNat,s0,s4,s3,r8192,hi',hi,kMake,Int.natCast_nonneg,Int.le_refl,hm',List.getD_cons_zero,rep_rws,hi2,e0]
  exact i64c (by omega)
 ·rintro sl ro gn ⟨s0,s4,s3,r8192⟩
  dsimp only at s0 s4 s3 r8192
  have hi': ¬((n:Nat):Int)<(n:Nat):=by omega
  simp only[go_sem, ↓reduceIte,Nat.reduceEqDiff,zc,s0,s4,s3,r8192,hi']
  exact Yai
def tmG(A B:List (List Int))(i k:Nat):Int:=sm (fun j=>atI (row A i) j*atI (row B j) k) B.length % 55441
theorem sm_step(f:Nat→Int)(k:Nat):(sm f k % 55441+f k) % 55441=sm f (k+1) % 55441:=by
 simp only[sm];omega
def plV(xs ys:List Int)(k:Int)(i:Nat):Int:=(atI xs i+k*atI ys i) % 55441
theorem cPlus{a b:AV}{xs ys:List Int}{k:Int}(ha:isL a xs)(hb:isL b ys)(hx:xs.length≤maxN)(hl:xs.length≤ys.length)(nx:numL xs)(ny:numL ys)(hk:num k):CallOK Tryz.prog 146 [a,b,i64 k] (.row (rws (fun i=>i64 (plV xs ys k i)) xs.length)):=by
 have hx':xs.length≤4294967296:=hx
 refine call_of (fn:=Tryz.f146) (code:=bodyOf Tryz.f146) Tryz.func146 rfl (by kernel_rfl) (noRef_row _ (noRefL_rws _ _ fun _=>rfl)) ?_
 intro sl hs
 have s0:sl 0=a:=hs 0
 have s1:sl 1=b:=hs 1
 have s2:sl 2=i64 k:=hs 2
 dsimp only[Tryz.f146,bodyOf,Option.getD]
 refine Ybl ?_
 refine WK_for (fun i st=>st.sl 0=a∧st.sl 1=b∧st.sl 2=i64 k∧st.sl 8=i64 (i:Int)∧st.sl 7= .ref 8192 (st.gn 8192) [] 0 i∧st.ro 8192 (st.gn 8192)=some (.row (rws (fun i=>i64 (plV xs ys k i)) i))) xs.length ?_ ?_ ?_
 ·refine Yat ?_
  rfl
 ·rintro i sl ro gn hi ⟨s0,s1,s2,s8,s7,r8192⟩
  dsimp only at s0 s1 s2 s8 s7 r8192
  have hi':(i:Int)<(xs.length:Nat):=by omega
  have hi2:i+1≤4294967296:=by omega
  have hb1:=num_mul hk (ny i)
  have hb3:=nx i
  unfold num at hb3
  simp(disch:=first|assumption|omega) only[go_sem, ↓reduceIte,Nat.reduceEqDiff,zc,s0,s1,s2,s8,s7,r8192,hi',hi,isL_len ha,isL_idx ha hi,isL_idx hb (Nat.lt_of_lt_of_le hi hl),isL_sites ha,isL_sites hb,Int.tmod_eq_emod_of_nonneg,hi2]
  refine FIN_of (by kernel_rfl) ?_
  simp(disch:=first|assumption|omega) only[go_sem, ↓reduceIte,Nat.reduceEqDiff,zc,s0,s1,s2,s8,s7,r8192,hi',hi]
  exact⟨i64c (by omega),congrArg some (congrArg AV.row (rws_succ (fun i=>i64 (plV xs ys k i)) i).symm)⟩
 ·rintro sl ro gn ⟨s0,s1,s2,s8,s7,r8192⟩
  dsimp only at s0 s1 s2 s8 s7 r8192
  have hi': ¬((xs.length:Nat):Int)<(xs.length:Nat):=by omega
  simp only[go_sem, ↓reduceIte,Nat.reduceEqDiff,zc,s0,s1,s2,s8,s7,r8192,hi',isL_len ha]
  exact Yai
theorem cScale{a:AV}{xs:List Int}{k:Int}(ha:isL a xs)(hx:xs.length≤maxN)(nx:numL xs)(hk:num k):CallOK Tryz.prog 62 [a,i64 k] (.row (rws (fun i=>i64 (atI xs i*k % 55441)) xs.length)):=by
 have hx':xs.length≤4294967296:=hx
 refine call_of (fn:=Tryz.f62) (code:=bodyOf Tryz.f62) Tryz.func62 rfl (by kernel_rfl) (noRef_row _ (noRefL_rws _ _ fun _=>rfl)) ?_
 intro sl hs
 have s0:sl 0=a:=hs 0
 have s1:sl 1=i64 k:=hs 1
 dsimp only[Tryz.f62,bodyOf,Option.getD]
 refine Yaj ?_
 refine WK_for (fun i st=>st.sl 0=a∧st.sl 1=i64 k∧st.sl 6=i64 (i:Int)∧st.sl 5= .ref 8192 (st.gn 8192) [] 0 i∧st.ro 8192 (st.gn 8192)=some (.row (rws (fun i=>i64 (atI xs i*k % 55441)) i))) xs.length ?_ ?_ ?_
 ·refine Yae ?_
  rfl
 ·rintro i sl ro gn hi ⟨s0,s1,s6,s5,r8192⟩
  dsimp only at s0 s1 s6 s5 r8192
  have hi':(i:Int)<(xs.length:Nat):=by omega
  have hi2:i+1≤4294967296:=by omega
  have hb1:=num_mul (nx i) hk
  simp(maxSteps:=10000000) (disch:=first|assumption|omega) only[go_sem, ↓reduceIte,Nat.reduceEqDiff,reduceCtorEq,Nat.reduceAdd,Nat.reduceMul,Nat.reduceLeDiff,zc,Int.reduceToNat,s0,s1,s6,s5,r8192,hi',hi,isL_len ha,isL_idx ha hi,Int.tmod_eq_emod_of_nonneg,hi2]
  exact i64c (by omega)
 ·rintro sl ro gn ⟨s0,s1,s6,s5,r8192⟩
  dsimp only at s0 s1 s6 s5 r8192
  have hi': ¬((xs.length:Nat):Int)<(xs.length:Nat):=by omega
  simp only[go_sem, ↓reduceIte,Nat.reduceEqDiff,zc,s0,s1,s6,s5,r8192,hi',isL_len ha]
  exact Yai
theorem cModS{x:Int}(h1: -4611686018427387904≤x)(h2:x≤4611686018427387904):CallOK Tryz.prog 107 [i64 x] (i64 (x % 55441)):=by
 have e1:=Int.tmod_eq_emod (a:=x) (b:=55441)
 have e2: -55441<x.tmod 55441∧x.tmod 55441<55441:=⟨by rw[e1];split<;>omega,by rw[e1];split<;>omega⟩
 have e3:(x.tmod 55441+55441).tmod 55441=x % 55441:=by
  rw[Int.tmod_eq_emod_of_nonneg (by omega),e1];split<;>omega
 refine call_of (fn:=Tryz.f107) (code:=bodyOf Tryz.f107) Tryz.func107 rfl (by kernel_rfl) (rfl) ?_
 intro sl hs
 have s0:sl 0=i64 x:=hs 0
 dsimp only[Tryz.f107,bodyOf,Option.getD]
 simp(disch:=first|assumption|omega) only[go_sem, ↓reduceIte,Nat.reduceEqDiff,zc,s0,e3]
 exact Yaa
theorem cModI{x:Int}(h1: -4611686018427387904≤x)(h2:x≤4611686018427387904):CallOK Tryz.prog 117 [i64 x] (i64 (x % 55441)):=by
 have e1:=Int.tmod_eq_emod (a:=x) (b:=55441)
 have e2: -55441<x.tmod 55441∧x.tmod 55441<55441:=⟨by rw[e1];split<;>omega,by rw[e1];split<;>omega⟩
 have e3:(x.tmod 55441+55441).tmod 55441=x % 55441:=by
  rw[Int.tmod_eq_emod_of_nonneg (by omega),e1];split<;>omega
 refine call_of (fn:=Tryz.f117) (code:=bodyOf Tryz.f117) Tryz.func117 rfl (by kernel_rfl) (rfl) ?_
 intro sl hs
 have s0:sl 0=i64 x:=hs 0
 dsimp only[Tryz.f117,bodyOf,Option.getD]
 simp(disch:=first|assumption|omega) only[go_sem, ↓reduceIte,Nat.reduceEqDiff,zc,s0,e3]
 exact Yaa
theorem cTrI{a:AV}{A:List (List Int)}(ha:isLL a A)(hA:A.length≤65536)(hl: ∀i,i<A.length→i<(row A i).length)(nA:numLL A):CallOK Tryz.prog 143 [a] (i64 (sm (fun i=>atI (row A i) i) A.length % 55441)):=by
 have hA':A.length≤4294967296:=by omega
 have hB:=fun k=>sm_bnd (f:=fun i=>atI (row A i) i) (B:=55440) (fun i=>by have:=nA i i;unfold num at this;omega) k
 refine call_of (fn:=Tryz.f143) (code:=bodyOf Tryz.f143) Tryz.func143 rfl (by kernel_rfl) (rfl) ?_
 intro sl hs
 have s0:sl 0=a:=hs 0
 dsimp only[Tryz.f143,bodyOf,Option.getD]
 simp only[go_sem, ↓reduceIte,Nat.reduceEqDiff,zc,s0,isLL_len ha]
 refine WK_for (fun i st=>st.sl 0=a∧st.sl 6=i64 A.length∧st.sl 7=i64 (i:Int)∧st.sl 3=i64 (sm (fun i=>atI (row A i) i) i)) A.length ?_ ?_ ?_
 ·refine Yad ?_
  exact⟨rfl,rfl⟩
 ·rintro i sl ro gn hi ⟨s0,s6,s7,s3⟩
  dsimp only at s0 s6 s7 s3
  have hi':(i:Int)<(A.length:Nat):=by omega
  have h1:=isLL_row ha hi
  have hb1:=nA i i
  unfold num at hb1
  have hb3:=hB i
  simp(disch:=first|assumption|omega) only[go_sem, ↓reduceIte,Nat.reduceEqDiff,zc,s0,s6,s7,s3,hi',hi,isLL_idx ha hi,isL_idx h1 (hl i hi)]
  exact⟨i64c (by omega),rfl⟩
 ·rintro sl ro gn ⟨s0,s6,s7,s3⟩
  dsimp only at s0 s6 s7 s3
  have hi': ¬((A.length:Nat):Int)<(A.length:Nat):=by omega
  have hb3:=hB A.length
  simp(disch:=first|assumption|omega) only[go_sem, ↓reduceIte,Nat.reduceEqDiff,zc,s0,s6,s7,s3,hi',Int.tmod_eq_emod_of_nonneg]
  exact Yaa
section
variable{F G:Nat→Nat→Nat→Int}{n:Nat}{a b c p:AV}
def sgE(xs:List Int)(i:Nat):Nat:=(atI xs i).toNat
structure PrmI(xs:List Int)(n:Nat):Prop where
 l:xs.length=n
 r: ∀i,i<n→atI xs i=(sgE xs i:Nat)∧sgE xs i<n
 i: ∀i,i<n→sgE xs (sgE xs i)=i
def imgF(xs:List Int)(F:Nat→Nat→Nat→Int):Nat→Nat→Nat→Int:=fun x y z=>F (sgE xs x) (sgE xs y) (sgE xs z)
def pgB(xs:List Int)(B F:Nat→Nat→Nat→Int)(i j k:Nat):Nat→Nat→Nat→Int:=fun x y z=>if sgE xs x<i∨(sgE xs x=i∧(sgE xs y<j∨(sgE xs y=j∧sgE xs z<k)))then F (sgE xs x) (sgE xs y) (sgE xs z)else B x y z
end
end Go.Proofs.YtbakhfiibjkifaaGreat
