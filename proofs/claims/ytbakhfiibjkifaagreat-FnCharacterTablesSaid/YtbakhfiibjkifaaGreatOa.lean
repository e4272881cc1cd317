/- Texts joined: Ea1 Ea2 S0 T2 Ea3. -/
import Derived.Test.YtbakhfiibjkifaaGreatMi
import Derived.Test.YtbakhfiibjkifaaGreatMh
import Derived.Test.YtbakhfiibjkifaaGreatMg
set_option linter.all false
/- Enumeration of rings: comparisons of lists, in the order of their numbers. -/
namespace Go.Proofs.YtbakhfiibjkifaaGreat
open Go.RowKit
set_option maxRecDepth 1000000
structure CmpO{α:Type}(f:α→α→Int):Prop where
 eq0: ∀x y,f x y=0↔x=y
 anti: ∀x y,f x y<0↔0<f y x
 trans: ∀x y z,f x y<0→f y z<0→f x z<0
def cmpI(x y:Int):Int:=if x<y then-1 else if y<x then 1 else 0
def c3O{α:Type}(f:α→α→Int):List α→List α→Int
 | [],[]=>0
 | [],_::_=> -1
 |_::_,[]=>1
 |x::xs,y::ys=>if f x y=0 then c3O f xs ys else f x y
abbrev cmp1:List Int→List Int→Int:=c3O cmpI
abbrev cmp2:List (List Int)→List (List Int)→Int:=c3O cmp1
abbrev cmp3:List (List (List Int))→List (List (List Int))→Int:=c3O cmp2
theorem getD_some{α:Type}{xs:List α}{i:Nat}(d:α)(h:i<xs.length):xs[i]?=some (xs.getD i d):=by
 rw[List.getElem?_eq_getElem h,List.getD_eq_getElem?_getD,List.getElem?_eq_getElem h];rfl
theorem a4l: ∀(xs:List Int),rws (fun i=>atI xs i) xs.length=xs:=fun xs=>by
 refine a3s (zfe _ _) fun i hi=>?_
 rw[zfe]at hi
 exact a0P _ hi
theorem c4G{xs:List Int}(hx:xs.length≤a0G):a0d Tryz.prog 70 [a3q xs] (a0H xs):=by
 have hx':0+xs.length≤4294967296:=by have:xs.length≤4294967296:=hx;omega
 have hall:(xs.map i64).all zez=true:=List.all_eq_true.2 fun x hx=>by obtain⟨y, -, rfl⟩:=List.mem_map.1 hx;rfl
 refine a0e (fn:=Tryz.f70) (code:=a0b Tryz.f70) Tryz.func70 rfl (by kernel_rfl) (a1b _) ?_
 intro sl hs
 have s0:sl 0=a3q xs:=hs 0
 dsimp only[Tryz.f70,a0b,Option.getD]
 simp(disch:=first|assumption|omega) only[go_sem,s0,hall,List.length_map]
 exact Yaa
theorem c4D:a0d Tryz.prog 70 [a1q] (a0H []):=by
 have hnil:a2F (Value.slice none 0 0)=true:=rfl
 refine a0e (fn:=Tryz.f70) (code:=a0b Tryz.f70) Tryz.func70 rfl (by kernel_rfl) (a1b _) ?_
 intro sl hs
 have s0:sl 0=a1q:=hs 0
 dsimp only[Tryz.f70,a0b,Option.getD]
 simp(disch:=first|assumption|omega) only[go_sem,s0,hnil]
 refine Yab ?_
 rfl
theorem c2j{a:AV}{xs:List Int}(ha:isL a xs)(hx:xs.length≤a0G):a0d Tryz.prog 70 [a] (a0H xs):=by
 rcases ha with rfl|⟨rfl,rfl⟩
 ·exact c4G hx
 ·exact c4D
theorem b0B{a:AV}{S:List (List Int)}(ha:a2t a S)(hS:S.length≤a0G)(hR: ∀i,i<S.length→(row S i).length≤a0G):a0d Tryz.prog 71 [a] (.row (rws (fun x=>a0H (row S x)) S.length)):=by
 have hS':S.length≤4294967296:=hS
 refine a0e (fn:=Tryz.f71) (code:=a0b Tryz.f71) Tryz.func71 rfl (by kernel_rfl) (a1i _ (a1a _ _ fun _=>a1b _)) ?_
 intro sl hs
 have s0:sl 0=a:=hs 0
 dsimp only[Tryz.f71,a0b,Option.getD]
 refine Yae ?_
 refine a0f (fun i st=>st.sl 0=a∧st.sl 3= .ref 8192 (st.gn 8192) [] 0 i∧st.ro 8192 (st.gn 8192)=some (.row (rws (fun x=>a0H (row S x)) i))∧st.sl 4=i64 (i:Int)) S.length ?_ ?_ ?_
 ·refine Yaf ?_
  exact rfl
 ·rintro i sl ro gn hi ⟨s0,s3,r8192,s4⟩
  dsimp only at s0 s3 r8192 s4
  have hi':(i:Int)<(S.length:Nat):=by omega
  have hi2:i+1≤4294967296:=by omega
  have hr:=a0m ha hi
  simp(disch:=first|assumption|omega) only[go_sem,s0,s3,s4,hi']
  refine a0c _ (c2j hr (hR i hi)) PUt rfl rfl ?_
  refine Yfa ?_
  exact a0w (by omega)
 ·rintro sl ro gn ⟨s0,s3,r8192,s4⟩
  dsimp only at s0 s3 r8192 s4
  have hi': ¬((S.length:Nat):Int)<(S.length:Nat):=by omega
  simp(disch:=first|assumption|omega) only[go_sem,s0,s3,s4,hi']
  exact Yak
theorem c5h{a:AV}{T:List (List (List Int))}(ha:a0F a T)(hT:T.length≤a0G)(hT2: ∀i,i<T.length→(mat T i).length≤a0G∧ ∀j,j<(mat T i).length→(row (mat T i) j).length≤a0G):a0d Tryz.prog 161 [a] (.row (rws (fun x=> .row (rws (fun y=>a0H (row (mat T x) y)) (mat T x).length)) T.length)):=by
 have hS':T.length≤4294967296:=hT
 refine a0e (fn:=Tryz.f161) (code:=a0b Tryz.f161) Tryz.func161 rfl (by kernel_rfl) (a1i _ (a1a _ _ fun _=>a1i _ (a1a _ _ fun _=>a1b _))) ?_
 intro sl hs
 have s0:sl 0=a:=hs 0
 dsimp only[Tryz.f161,a0b,Option.getD]
 refine Yae ?_
 refine a0f (fun i st=>st.sl 0=a∧st.sl 3= .ref 8192 (st.gn 8192) [] 0 i∧st.ro 8192 (st.gn 8192)=some (.row (rws (fun x=> .row (rws (fun y=>a0H (row (mat T x) y)) (mat T x).length)) i))∧st.sl 4=i64 (i:Int)) T.length ?_ ?_ ?_
 ·refine Yaf ?_
  exact rfl
 ·rintro i sl ro gn hi ⟨s0,s3,r8192,s4⟩
  dsimp only at s0 s3 r8192 s4
  have hi':(i:Int)<(T.length:Nat):=by omega
  have hi2:i+1≤4294967296:=by omega
  have hr:=a0o ha hi
  simp(disch:=first|assumption|omega) only[go_sem,s0,s3,s4,hi']
  refine a0c _ (b0B hr (hT2 i hi).1 (hT2 i hi).2) PUt rfl rfl ?_
  refine Yfa ?_
  exact a0w (by omega)
 ·rintro sl ro gn ⟨s0,s3,r8192,s4⟩
  dsimp only at s0 s3 r8192 s4
  have hi': ¬((T.length:Nat):Int)<(T.length:Nat):=by omega
  simp(disch:=first|assumption|omega) only[go_sem,s0,s3,s4,hi']
  exact Yak
theorem cClo{xs:List Int}(hx:xs.length≤a0G):a0d Tryz.prog 88 [a3q xs] (a0H xs):=by
 have hx':0+xs.length≤4294967296:=by have:xs.length≤4294967296:=hx;omega
 have hall:(xs.map i64).all zez=true:=List.all_eq_true.2 fun x hx=>by obtain⟨y, -, rfl⟩:=List.mem_map.1 hx;rfl
 refine a0e (fn:=Tryz.f88) (code:=a0b Tryz.f88) Tryz.func88 rfl (by kernel_rfl) (a1b _) ?_
 intro sl hs
 have s0:sl 0=a3q xs:=hs 0
 dsimp only[Tryz.f88,a0b,Option.getD]
 simp(disch:=first|assumption|omega) only[go_sem,s0,hall,List.length_map]
 exact Yaa
theorem c0z{a:AV}{xs:List Int}(ha:isL a xs)(hx:xs.length≤a0G)(hp:0<xs.length):a0d Tryz.prog 88 [a] (a0H xs):=by
 rcases ha with rfl|⟨rfl,rfl⟩
 ·exact cClo hx
 ·exact absurd hp (by decide)
theorem cOpp{c:AV}{T:List (List (List Int))}(ha:a0F c T)(hc:a1e T):a0d Tryz.prog 112 [.agg [c]] (.agg [a0t (fun i j k=>at3 T j i k) T.length]):=by
 obtain⟨h1,h2,h3⟩:=id hc
 refine a0e (fn:=Tryz.f112) (code:=a0b Tryz.f112) Tryz.func112 rfl (by kernel_rfl) (by have:=a0J (fun i j k=>at3 T j i k) T.length;simp only[a0C,a0j,Bool.and_true]at this ⊢;exact this) ?_
 intro sl hs
 have s0:sl 0= .agg [c]:=hs 0
 dsimp only[Tryz.f112,a0b,Option.getD]
 refine Yfg ?_
 refine a0f (fun i st=>st.sl 1= .ptr 4096 1 [] 0∧st.ro 4096 1=some (.bx [c])∧st.sl 2= .ptr 4112 1 [] 0∧st.ro 4112 1=some (.bx [a1q])∧st.sl 3= .ptr 8208 1 [] 0∧st.sl 10=i64 (T.length:Nat)∧st.sl 11=i64 (i:Int)∧((i=0∧st.ro 8208 1=some (.bx [a1q]))∨(0<i∧st.ro 8208 1=some (.bx [.ref 49216 (st.gn 49216) [] 0 i])∧st.ro 49216 (st.gn 49216)=some (.row (rws (fun i=> .row (rws (fun j=> .row (rws (fun k=>i64 (at3 T j i k)) T.length)) T.length)) i))))) T.length ?_ ?_ ?_
 ·refine Yaf ?_
  exact⟨rfl,.inl trivial⟩
 ·rintro i sl ro gn hi ⟨s1,r4096,s2,r4112,s3,s10,s11,q⟩
  dsimp only at s1 r4096 s2 r4112 s3 s10 s11
  have hi':(i:Int)<(T.length:Nat):=by omega
  dsimp only at q
  simp(disch:=first|assumption|omega) only[go_sem,s1,r4096,s10,s11,hi',a0v ha]
  refine a0f (fun j st=>st.sl 1= .ptr 4096 1 [] 0∧st.ro 4096 1=some (.bx [c])∧st.sl 2= .ptr 4112 1 [] 0∧st.ro 4112 1=some (.bx [a1q])∧st.sl 3= .ptr 8208 1 [] 0∧st.sl 10=i64 (T.length:Nat)∧st.sl 11=i64 (i:Int)∧st.sl 4=i64 (i:Int)∧st.sl 17=i64 (T.length:Nat)∧st.sl 18=i64 (j:Int)∧st.sl 5= .ref 24576 (st.gn 24576) [] 0 j∧st.ro 24576 (st.gn 24576)=some (.row (rws (fun j=> .row (rws (fun k=>i64 (at3 T j i k)) T.length)) j))∧((i=0∧st.ro 8208 1=some (.bx [a1q]))∨(0<i∧st.ro 8208 1=some (.bx [.ref 49216 (st.gn 49216) [] 0 i])∧st.ro 49216 (st.gn 49216)=some (.row (rws (fun i=> .row (rws (fun j=> .row (rws (fun k=>i64 (at3 T j i k)) T.length)) T.length)) i))))) T.length ?_ ?_ ?_
  ·simp only[↓za, ↓reduceIte,Nat.reduceEqDiff,zb,a1v,s1,r4096,s2,r4112,s3,s10,s11]
   exact⟨rfl,q⟩
  ·rintro j sl ro gn hj ⟨s1,r4096,s2,r4112,s3,s10,s11,s4,s17,s18,s5,r24576,q2⟩
   dsimp only at s1 r4096 s2 r4112 s3 s10 s11 s4 s17 s18 s5 r24576
   have hj':(j:Int)<(T.length:Nat):=by omega
   dsimp only at q2
   have hj2:j+1≤4294967296:=by omega
   have hm:=a0o ha hj
   have hij:i<(mat T j).length:=by rw[(h3 j hj).1];exact hi
   have hr:=a0m hm hij
   have lr:(row (mat T j) i).length=T.length:=((h3 j hj).2 i hi).1
   have cl:=c0z hr (by rw[lr];unfold a0G;omega) (by omega)
   have er:a0H (row (mat T j) i)= .row (rws (fun k=>i64 (at3 T j i k)) T.length):=by
    show AV.row ((row (mat T j) i).map i64)=_
    congr 1
    rw[←lr, ←a0y (fun k=>at3 T j i k),a4l]
   rw[er]at cl
   simp(disch:=first|assumption|omega) only[go_sem,s1,r4096,s4,s17,s18,s5,hj']
   refine a0c _ cl PUt rfl rfl ?_
   simp(disch:=first|assumption|omega) only[go_sem,s1,r4096,s2,r4112,s3,s10,s11,s4,s17,s18,r24576,a0i,zfe,hj2]
   exact⟨a0w (by omega),q2⟩
  ·rintro sl ro gn ⟨s1,r4096,s2,r4112,s3,s10,s11,s4,s17,s18,s5,r24576,q2⟩
   dsimp only at s1 r4096 s2 r4112 s3 s10 s11 s4 s17 s18 s5 r24576
   have hj': ¬((T.length:Nat):Int)<(T.length:Nat):=by omega
   dsimp only at q2
   have hi2:i+1≤4294967296:=by omega
   rcases q2 with⟨hi0,q3⟩|⟨hi0,q3,q4⟩
   ·simp(disch:=first|assumption|omega) only[go_sem,s1,r4096,s2,r4112,s3,s10,s11,s17,s18,s5,r24576,hj',q3,zfe]
    refine⟨a0w (by omega),.inr ⟨by omega,?_⟩⟩
    subst hi0
    exact⟨rfl,rfl⟩
   ·simp(disch:=first|assumption|omega) only[go_sem,s1,r4096,s2,r4112,s3,s10,s11,s17,s18,s5,r24576,hj',q3,q4,zfe,hi2]
    exact⟨a0w (by omega),.inr trivial⟩
 ·rintro sl ro gn ⟨s1,r4096,s2,r4112,s3,s10,s11,q⟩
  dsimp only at s1 r4096 s2 r4112 s3 s10 s11
  have hi': ¬((T.length:Nat):Int)<(T.length:Nat):=by omega
  dsimp only at q
  rcases q with⟨hi0,q3⟩|⟨hi0,q3,q4⟩
  ·omega
  ·simp(disch:=first|assumption|omega) only[go_sem,s2,r4112,s3,s10,s11,hi',q3,q4]
   exact Ydr
section
variable{F G:Nat→Nat→Nat→Int}{n:Nat}{a b c p:AV}
theorem c1B(F:Nat→Nat→Nat→Int)(n:Nat):(a0L F n).length=n:=zfe _ _
theorem c2I{i:Nat}(hi:i<n):(mat (a0L F n) i).length=n:=by rw[a1o hi,zfe]
theorem c4a{i j:Nat}(hi:i<n)(hj:j<n):(row (mat (a0L F n) i) j).length=n:=by rw[a1o hi,a1A _ hj,zfe]
theorem rowC{i j:Nat}(hi:i<n)(hj:j<n):row (mat (a0L F n) i) j=rws (fun k=>F i j k) n:=by rw[a1o hi,a1A _ hj]
theorem c4N(ha:a0F a (a0L F n))(hn:n≤a0G):a0d Tryz.prog 161 [a] (a0t F n):=by
 have h:=c5h ha (by rw[c1B];exact hn) (fun i hi=>by
  rw[c1B]at hi
  rw[c2I hi]
  exact⟨hn,fun j hj=>by rw[c4a hi hj];exact hn⟩)
 rw[c1B]at h
 have e:AV.row (rws (fun x=> .row (rws (fun y=>a0H (row (mat (a0L F n) x) y)) (mat (a0L F n) x).length)) n)=a0t F n:=by
  refine congrArg AV.row (a0g fun i hi=>?_)
  rw[c2I hi]
  refine congrArg AV.row (a0g fun j hj=>?_)
  rw[rowC hi hj]
  show AV.row ((rws (fun k=>F i j k) n).map i64)=_
  rw[a0y]
 rw[e]at h
 exact h
end
def unM(i j:Nat):Int:=if j=i then 1 else 0
theorem c2D{n:Nat}(hn:n≤a0G):a0d Tryz.prog 149 [i64 n] (a2o unM n n):=by
 have hn':n≤4294967296:=hn
 have hm':(n:Int)≤((4294967296:Nat):Int):=by omega
 refine a0e (fn:=Tryz.f149) (code:=a0b Tryz.f149) Tryz.func149 rfl (by kernel_rfl) (a1h _ _ _) ?_
 intro sl hs
 have s0:sl 0=i64 n:=hs 0
 dsimp only[Tryz.f149,a0b,Option.getD]
 refine Yae ?_
 refine a0f (fun i st=>st.sl 0=i64 n∧st.sl 4=i64 (i:Int)∧st.sl 3= .ref 8192 (st.gn 8192) [] 0 i∧st.ro 8192 (st.gn 8192)=some (.row (rws (fun i=> .row (rws (fun j=>i64 (unM i j)) n)) i))) n ?_ ?_ ?_
 ·refine Yaf ?_
  rfl
 ·rintro i sl ro gn hi ⟨s0,s4,s3,r8192⟩
  dsimp only at s0 s4 s3 r8192
  have hi':(i:Int)<(n:Nat):=by omega
  have hi2:i+1≤4294967296:=by omega
  have e0:(rws (fun _=>i64 0) n).set i (i64 1)=rws (fun j=>i64 (unM i j)) n:=by
   rw[a0X]
   refine a0g fun j _=>?_
   unfold unM
   split<;>rfl
  simp(maxSteps:=10000000) (disch:=first|assumption|omega) only[go_sem,s0,s4,s3,r8192,hi',hi,b0i,Int.natCast_nonneg,Int.le_refl,hm',List.getD_cons_zero,a5o,hi2,e0]
  exact a0w (by omega)
 ·rintro sl ro gn ⟨s0,s4,s3,r8192⟩
  dsimp only at s0 s4 s3 r8192
  have hi': ¬((n:Nat):Int)<(n:Nat):=by omega
  simp only[go_sem,s0,s4,s3,hi']
  exact Yak
def tmG(A B:List (List Int))(i k:Nat):Int:=sm (fun j=>atI (row A i) j*atI (row B j) k) B.length % 55441
theorem b9R(f:Nat→Int)(k:Nat):(sm f k % 55441+f k) % 55441=sm f (k+1) % 55441:=by
 simp only[sm];omega
def plV(xs ys:List Int)(k:Int)(i:Nat):Int:=(atI xs i+k*atI ys i) % 55441
theorem b5p{a b:AV}{xs ys:List Int}{k:Int}(ha:isL a xs)(hb:isL b ys)(hx:xs.length≤a0G)(hl:xs.length≤ys.length)(nx:a2s xs)(ny:a2s ys)(hk:num k):a0d Tryz.prog 146 [a,b,i64 k] (.row (rws (fun i=>i64 (plV xs ys k i)) xs.length)):=by
 have hx':xs.length≤4294967296:=hx
 refine a0e (fn:=Tryz.f146) (code:=a0b Tryz.f146) Tryz.func146 rfl (by kernel_rfl) (a1i _ (a1a _ _ fun _=>rfl)) ?_
 intro sl hs
 have s0:sl 0=a:=hs 0
 have s1:sl 1=b:=hs 1
 have s2:sl 2=i64 k:=hs 2
 dsimp only[Tryz.f146,a0b,Option.getD]
 refine Ydc ?_
 refine a0f (fun i st=>st.sl 0=a∧st.sl 1=b∧st.sl 2=i64 k∧st.sl 8=i64 (i:Int)∧st.sl 7= .ref 8192 (st.gn 8192) [] 0 i∧st.ro 8192 (st.gn 8192)=some (.row (rws (fun i=>i64 (plV xs ys k i)) i))) xs.length ?_ ?_ ?_
 ·refine Ycz ?_
  rfl
 ·rintro i sl ro gn hi ⟨s0,s1,s2,s8,s7,r8192⟩
  dsimp only at s0 s1 s2 s8 s7 r8192
  have hi':(i:Int)<(xs.length:Nat):=by omega
  have hi2:i+1≤4294967296:=by omega
  have hb1:=a3d hk (ny i)
  have hb3:=nx i
  unfold num at hb3
  simp(disch:=first|assumption|omega) only[go_sem,s0,s1,s2,s8,s7,r8192,hi',a0B ha,a0s ha hi,a0s hb (Nat.lt_of_lt_of_le hi hl),a2r ha,a2r hb,Int.tmod_eq_emod_of_nonneg,hi2]
  refine a0r (by kernel_rfl) ?_
  simp(disch:=first|assumption|omega) only[go_sem,s0,s1,s2,s8]
  exact⟨a0w (by omega),congrArg some (congrArg AV.row (a8b (fun i=>i64 (plV xs ys k i)) i).symm)⟩
 ·rintro sl ro gn ⟨s0,s1,s2,s8,s7,r8192⟩
  dsimp only at s0 s1 s2 s8 s7 r8192
  have hi': ¬((xs.length:Nat):Int)<(xs.length:Nat):=by omega
  simp only[go_sem,s0,s8,s7,hi',a0B ha]
  exact Yak
theorem c3f{a:AV}{xs:List Int}{k:Int}(ha:isL a xs)(hx:xs.length≤a0G)(nx:a2s xs)(hk:num k):a0d Tryz.prog 62 [a,i64 k] (.row (rws (fun i=>i64 (atI xs i*k % 55441)) xs.length)):=by
 have hx':xs.length≤4294967296:=hx
 refine a0e (fn:=Tryz.f62) (code:=a0b Tryz.f62) Tryz.func62 rfl (by kernel_rfl) (a1i _ (a1a _ _ fun _=>rfl)) ?_
 intro sl hs
 have s0:sl 0=a:=hs 0
 have s1:sl 1=i64 k:=hs 1
 dsimp only[Tryz.f62,a0b,Option.getD]
 refine Yah ?_
 refine a0f (fun i st=>st.sl 0=a∧st.sl 1=i64 k∧st.sl 6=i64 (i:Int)∧st.sl 5= .ref 8192 (st.gn 8192) [] 0 i∧st.ro 8192 (st.gn 8192)=some (.row (rws (fun i=>i64 (atI xs i*k % 55441)) i))) xs.length ?_ ?_ ?_
 ·refine Yac ?_
  rfl
 ·rintro i sl ro gn hi ⟨s0,s1,s6,s5,r8192⟩
  dsimp only at s0 s1 s6 s5 r8192
  have hi':(i:Int)<(xs.length:Nat):=by omega
  have hi2:i+1≤4294967296:=by omega
  have hb1:=a3d (nx i) hk
  simp(maxSteps:=10000000) (disch:=first|assumption|omega) only[go_sem,s0,s1,s6,s5,r8192,hi',a0B ha,a0s ha hi,Int.tmod_eq_emod_of_nonneg,hi2]
  exact a0w (by omega)
 ·rintro sl ro gn ⟨s0,s1,s6,s5,r8192⟩
  dsimp only at s0 s1 s6 s5 r8192
  have hi': ¬((xs.length:Nat):Int)<(xs.length:Nat):=by omega
  simp only[go_sem,s0,s6,s5,hi',a0B ha]
  exact Yak
theorem a8s{x:Int}(h1: -4611686018427387904≤x)(h2:x≤4611686018427387904):a0d Tryz.prog 107 [i64 x] (i64 (x % 55441)):=by
 have e1:=Int.tmod_eq_emod (a:=x) (b:=55441)
 have e2: -55441<x.tmod 55441∧x.tmod 55441<55441:=⟨by rw[e1];split<;>omega,by rw[e1];split<;>omega⟩
 have e3:(x.tmod 55441+55441).tmod 55441=x % 55441:=by
  rw[Int.tmod_eq_emod_of_nonneg (by omega),e1];split<;>omega
 refine a0e (fn:=Tryz.f107) (code:=a0b Tryz.f107) Tryz.func107 rfl (by kernel_rfl) (rfl) ?_
 intro sl hs
 have s0:sl 0=i64 x:=hs 0
 dsimp only[Tryz.f107,a0b,Option.getD]
 simp(disch:=first|assumption|omega) only[go_sem,s0,e3]
 exact Yaa
theorem b0s{x:Int}(h1: -4611686018427387904≤x)(h2:x≤4611686018427387904):a0d Tryz.prog 117 [i64 x] (i64 (x % 55441)):=by
 have e1:=Int.tmod_eq_emod (a:=x) (b:=55441)
 have e2: -55441<x.tmod 55441∧x.tmod 55441<55441:=⟨by rw[e1];split<;>omega,by rw[e1];split<;>omega⟩
 have e3:(x.tmod 55441+55441).tmod 55441=x % 55441:=by
  rw[Int.tmod_eq_emod_of_nonneg (by omega),e1];split<;>omega
 refine a0e (fn:=Tryz.f117) (code:=a0b Tryz.f117) Tryz.func117 rfl (by kernel_rfl) (rfl) ?_
 intro sl hs
 have s0:sl 0=i64 x:=hs 0
 dsimp only[Tryz.f117,a0b,Option.getD]
 simp(disch:=first|assumption|omega) only[go_sem,s0,e3]
 exact Yaa
theorem cTrI{a:AV}{A:List (List Int)}(ha:a2t a A)(hA:A.length≤65536)(hl: ∀i,i<A.length→i<(row A i).length)(nA:a7u A):a0d Tryz.prog 143 [a] (i64 (sm (fun i=>atI (row A i) i) A.length % 55441)):=by
 have hA':A.length≤4294967296:=by omega
 have hB:=fun k=>a5z (f:=fun i=>atI (row A i) i) (B:=55440) (fun i=>by have:=nA i i;unfold num at this;omega) k
 refine a0e (fn:=Tryz.f143) (code:=a0b Tryz.f143) Tryz.func143 rfl (by kernel_rfl) (rfl) ?_
 intro sl hs
 have s0:sl 0=a:=hs 0
 dsimp only[Tryz.f143,a0b,Option.getD]
 simp only[go_sem,s0,a0R ha]
 refine a0f (fun i st=>st.sl 0=a∧st.sl 6=i64 A.length∧st.sl 7=i64 (i:Int)∧st.sl 3=i64 (sm (fun i=>atI (row A i) i) i)) A.length ?_ ?_ ?_
 ·refine Yaf ?_
  exact⟨rfl,rfl⟩
 ·rintro i sl ro gn hi ⟨s0,s6,s7,s3⟩
  dsimp only at s0 s6 s7 s3
  have hi':(i:Int)<(A.length:Nat):=by omega
  have h1:=a0m ha hi
  have hb1:=nA i i
  unfold num at hb1
  have hb3:=hB i
  simp(disch:=first|assumption|omega) only[go_sem,s0,s6,s7,s3,hi',a0S ha hi,a0s h1 (hl i hi)]
  exact⟨a0w (by omega),rfl⟩
 ·rintro sl ro gn ⟨s0,s6,s7,s3⟩
  dsimp only at s0 s6 s7 s3
  have hi': ¬((A.length:Nat):Int)<(A.length:Nat):=by omega
  have hb3:=hB A.length
  simp(disch:=first|assumption|omega) only[go_sem,s6,s7,s3,hi',Int.tmod_eq_emod_of_nonneg]
  exact Yaa
section
variable{F G:Nat→Nat→Nat→Int}{n:Nat}{a b c p:AV}
def sgE(xs:List Int)(i:Nat):Nat:=(atI xs i).toNat
structure PrmI(xs:List Int)(n:Nat):Prop where
 l:xs.length=n
 r: ∀i,i<n→atI xs i=(sgE xs i:Nat)∧sgE xs i<n
 i: ∀i,i<n→sgE xs (sgE xs i)=i
def imgF(xs:List Int)(F:Nat→Nat→Nat→Int):Nat→Nat→Nat→Int:=fun x y z=>F (sgE xs x) (sgE xs y) (sgE xs z)
def pgB(xs:List Int)(B F:Nat→Nat→Nat→Int)(i j k:Nat):Nat→Nat→Nat→Int:=fun x y z=>if sgE xs x<i∨(sgE xs x=i∧(sgE xs y<j∨(sgE xs y=j∧sgE xs z<k)))then F (sgE xs x) (sgE xs y) (sgE xs z)else B x y z
end
end Go.Proofs.YtbakhfiibjkifaaGreat
