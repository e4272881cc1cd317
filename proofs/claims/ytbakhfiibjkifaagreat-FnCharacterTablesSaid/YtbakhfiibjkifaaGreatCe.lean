/- Texts joined: Cj1 Ch7 Cs1 Cs2 Ck1. -/
import Derived.Test.YtbakhfiibjkifaaGreatOa
import Derived.Test.YtbakhfiibjkifaaGreatCc
import Derived.Test.YtbakhfiibjkifaaGreatCd
set_option linter.all false
/- Commutative rings: by the program and by the reference. -/
namespace Go.Proofs.YtbakhfiibjkifaaGreat
open Go.RowKit
set_option maxRecDepth 1000000
def CmP(T:List (List (List Int))):Prop:= ∀i,i<T.length→ ∀j,j<i→row (mat T i) j=row (mat T j) i
theorem b4w{T:List (List (List Int))}(hc:a1e T):T=a0L (fun i j k=>at3 T j i k) T.length↔CmP T:=by
 obtain⟨h1,h2,h3⟩:=hc
 have lr: ∀ {i j},i<T.length→j<T.length→(row (mat T i) j).length=T.length:=fun hi hj=>((h3 _ hi).2 _ hj).1
 constructor
 ·intro h i hi j hj
  refine a3s (by rw[lr hi (by omega),lr (by omega) hi]) fun k hk=>?_
  rw[lr hi (by omega)]at hk
  have h4:at3 T i j k=at3 (a0L (fun i j k=>at3 T j i k) T.length) i j k:=by rw[←h]
  rw[a1c hi (by omega) hk]at h4
  exact h4
 ·intro h
  have hc: ∀i j,i<T.length→j<T.length→row (mat T i) j=row (mat T j) i:=fun i j hi hj=>by
   rcases Nat.lt_trichotomy i j with e|e|e
   ·exact(h j hj i e).symm
   ·rw[e]
   ·exact h i hi j e
  have hl:(a0L (fun i j k=>at3 T j i k) T.length).length=T.length:=zfe _ _
  refine c5k hl.symm fun i hi=>?_
  rw[a1o hi]
  refine a7w (by rw[zfe];exact(h3 i hi).1) fun j hj=>?_
  rw[(h3 i hi).1]at hj
  have er:row (rws (fun j=>rws (fun k=>at3 T j i k) T.length) T.length) j=rws (fun k=>at3 T j i k) T.length:=a1A _ hj
  show row (mat T i) j=row _ j
  rw[er,hc i j hi hj, ←lr hj hi,a4l]
theorem a5B{c:AV}{T:List (List (List Int))}(ha:a0F c T)(hc:a1e T){t:Bool}(ht:t=true↔CmP T):a0d Tryz.prog 78 [.agg [c]] (bo t):=by
 have co:=cOpp ha hc
 have ce:=c3g ha (a0V (fun i j k=>at3 T j i k) T.length) hc.sz
 have e:decide (T=a0L (fun i j k=>at3 T j i k) T.length)=t:=by
  cases t with
  |true=>exact decide_eq_true ((b4w hc).2 (ht.1 rfl))
  |false=>exact decide_eq_false fun h=>by have:=ht.2 ((b4w hc).1 h);cases this
 rw[e]at ce
 have hnr:a0j (rws (fun i=>AV.row (rws (fun j=>AV.row (rws (fun k=>i64 (at3 T j i k)) T.length)) T.length)) T.length)=true:=a0J (fun i j k=>at3 T j i k) T.length
 refine a0e (fn:=Tryz.f78) (code:=a0b Tryz.f78) Tryz.func78 rfl (by kernel_rfl) (rfl) ?_
 intro sl hs
 have s0:sl 0= .agg [c]:=hs 0
 dsimp only[Tryz.f78,a0b,Option.getD]
 refine Yan ?_
 refine a0A _ co PUt rfl ?_
 simp(disch:=first|assumption|omega) only[go_sem,a0t,a4N,zfe,hnr]
 refine a1V _ ce (.cons (a4A ha (by decide)) (.cons (a1k Ur (by decide)) .nil)) rfl rfl ?_
 refine Yae ?_
 refine a0r (by kernel_rfl) ?_
 refine Yae ?_
 exact Yaa
def CodP(T:List (List (List Int)))(z:Int):Prop:=(a2j T∧CmP T∧z=0)∨(a2j T∧ ¬CmP T∧z=5)∨(¬a2j T∧z=1)
theorem b1A{o o':AV}{O O':List Int}(ho:isL o O)(ho':isL o' O')(hO:O.length≤a0G)(hO':O'.length≤a0G){t:Bool}(ht:t=true↔O=O'):a0d Tryz.prog 104 [o,o'] (bo t):=by
 have hx2:O.length≤4294967296:=hO
 by_cases h1:O.length=O'.length
 ·have h1':(O.length:Int)=O'.length:=by omega
  refine a0e (fn:=Tryz.f104) (code:=a0b Tryz.f104) Tryz.func104 rfl (by kernel_rfl) (rfl) ?_
  intro sl hs
  have s0:sl 0=o:=hs 0
  have s1:sl 1=o':=hs 1
  dsimp only[Tryz.f104,a0b,Option.getD]
  simp(disch:=first|assumption|omega) only[go_sem,s0,s1,eq_true h1']
  refine a0f (fun x st=>st.sl 0=o∧st.sl 1=o'∧st.sl 5=i64 (x:Int)∧(∀j,j<x→atI O j=atI O' j)) O.length ?_ ?_ ?_
  ·refine Yac ?_
   exact⟨rfl,fun x' h=>absurd h (Nat.not_lt_zero _)⟩
  ·rintro x sl ro gn hx ⟨s0,s1,s5,q⟩
   dsimp only at s0 s1 s5
   have hx':(x:Int)<(O.length:Nat):=by omega
   have hx2:x<O'.length:=by omega
   by_cases h2:atI O x=atI O' x
   ·simp(disch:=first|assumption|omega) only[go_sem,s0,s1,s5,hx']
    refine a0r (by kernel_rfl) ?_
    simp(disch:=first|assumption|omega) only[go_sem,s0,s1,s5]
    refine⟨a0w (by omega),fun y' h=>?_⟩
    rcases Nat.lt_or_ge y' x with h'|h'
    ·exact q y' h'
    ·rw[show y'=x by omega];exact h2
   ·simp(disch:=first|assumption|omega) only[go_sem,s0,s1,s5,hx']
    refine a0r (by kernel_rfl) ?_
    simp(disch:=first|assumption|omega) only[go_sem]
    refine Yab ?_
    exact a0N ht fun h=>h2 (by rw[h])
  ·rintro sl ro gn ⟨s0,s1,s5,q⟩
   dsimp only at s0 s1 s5
   have hx': ¬((O.length:Nat):Int)<(O.length:Nat):=by omega
   simp(disch:=first|assumption|omega) only[go_sem,s0,s5,hx']
   refine Yab ?_
   exact(ht.2 (a3s h1 q)).symm
 ·have h1': ¬(O.length:Int)=O'.length:=by omega
  refine a0e (fn:=Tryz.f104) (code:=a0b Tryz.f104) Tryz.func104 rfl (by kernel_rfl) (rfl) ?_
  intro sl hs
  have s0:sl 0=o:=hs 0
  have s1:sl 1=o':=hs 1
  dsimp only[Tryz.f104,a0b,Option.getD]
  simp(disch:=first|assumption|omega) only[go_sem,s0,s1,eq_false h1']
  refine Yab ?_
  exact a0N ht fun h=>h1 (by rw[h])
theorem a4F{c:AV}{T:List (List (List Int))}(ha:a0F c T)(hc:a1e T){t:Bool}(ht:t=true↔CmP T):a0d Tryz.prog 67 [.agg [c]] (bo t):=by
 obtain⟨h1,h2,h3⟩:=id hc
 have lr: ∀ {i j},i<T.length→j<T.length→(row (mat T i) j).length=T.length:=fun hi hj=>((h3 _ hi).2 _ hj).1
 refine a0e (fn:=Tryz.f67) (code:=a0b Tryz.f67) Tryz.func67 rfl (by kernel_rfl) (rfl) ?_
 intro sl hs
 have s0:sl 0= .agg [c]:=hs 0
 dsimp only[Tryz.f67,a0b,Option.getD]
 refine Yan ?_
 refine a0f (fun i st=>st.sl 1= .ptr 4096 1 [] 0∧st.ro 4096 1=some (.bx [c])∧st.sl 3=i64 (i:Int)∧(∀x,x<i→ ∀j,j<x→row (mat T x) j=row (mat T j) x)) T.length ?_ ?_ ?_
 ·refine Yaf ?_
  exact⟨rfl,lt0⟩
 ·rintro i sl ro gn hi ⟨s1,r4096,s3,q⟩
  dsimp only at s1 r4096 s3
  have hi':(i:Int)<(T.length:Nat):=by omega
  have hmi:=a0o ha hi
  simp(disch:=first|assumption|omega) only[go_sem,s1,r4096,s3,hi',a0v ha]
  refine a0f (fun j st=>st.sl 1= .ptr 4096 1 [] 0∧st.ro 4096 1=some (.bx [c])∧st.sl 3=i64 (i:Int)∧st.sl 4=i64 (j:Int)∧(∀y,y<j→row (mat T i) y=row (mat T y) i)) i ?_ ?_ ?_
  ·simp only[↓za, ↓reduceIte,Nat.reduceEqDiff,zb,s1,r4096,s3]
   exact⟨rfl,lt0⟩
  ·rintro j sl ro gn hj ⟨s1,r4096,s3,s4,q2⟩
   dsimp only at s1 r4096 s3 s4
   have hj':(j:Int)<(i:Nat):=by omega
   have hjn:j<T.length:=by omega
   have hmj:=a0o ha hjn
   have a1:j<(mat T i).length:=by rw[(h3 i hi).1];omega
   have a2:i<(mat T j).length:=by rw[(h3 j hjn).1];omega
   have r1:=a0m hmi a1
   have r2:=a0m hmj a2
   have b1:(row (mat T i) j).length≤a0G:=by rw[lr hi hjn];unfold a0G;omega
   have b2:(row (mat T j) i).length≤a0G:=by rw[lr hjn hi];unfold a0G;omega
   by_cases h:row (mat T i) j=row (mat T j) i
   ·have cs:=b1A r1 r2 b1 b2 (t:=true) ⟨fun _=>h,fun _=>rfl⟩
    refine Ybo ?_
    refine a0A _ cs PUt rfl ?_
    refine Ybo ?_
    refine a0r (by kernel_rfl) ?_
    refine Ybo ?_
    exact⟨a0w (by omega),ltS q2 h⟩
   ·have cs:=b1A r1 r2 b1 b2 (t:=false) ⟨fun h=>(nomatch h),fun h'=>absurd h' h⟩
    refine Ybo ?_
    refine a0A _ cs PUt rfl ?_
    refine Ybo ?_
    refine a0r (by kernel_rfl) ?_
    refine Ybo ?_
    refine Yab ?_
    exact a0N ht fun h'=>h (h' i hi j hj)
  ·rintro sl ro gn ⟨s1,r4096,s3,s4,q2⟩
   dsimp only at s1 r4096 s3 s4
   have hj': ¬((i:Nat):Int)<(i:Nat):=by omega
   simp(disch:=first|assumption|omega) only[go_sem,s1,r4096,s3,s4,hj']
   exact⟨a0w (by omega),ltS q q2⟩
 ·rintro sl ro gn ⟨s1,r4096,s3,q⟩
  dsimp only at s1 r4096 s3
  have hi': ¬((T.length:Nat):Int)<(T.length:Nat):=by omega
  simp(disch:=first|assumption|omega) only[go_sem,s1,r4096,s3,hi',a0v ha]
  refine Yab ?_
  exact(ht.2 q).symm
theorem c3b{T:List (List (List Int))}{l:List Int}(h:RF T=some l):0<l.length:=by
 have k1: ∀ {v},F1 T=some v→0<v.length:=fun h=>by
  obtain⟨i, -, h⟩:=a3M h
  obtain⟨k, -, h⟩:=a3M h
  unfold p1 at h
  split at h
  ·cases h
  ·obtain rfl:=Option.some.inj h;simp
 have k2: ∀ {v},F2 T=some v→0<v.length:=fun h=>by
  obtain⟨i, -, h⟩:=a3M h
  unfold p2 at h
  split at h
  ·obtain rfl:=Option.some.inj h;simp
  ·cases h
 have k3: ∀ {v},F3 T=some v→0<v.length:=fun h=>by
  obtain⟨i, -, h⟩:=a3M h
  obtain⟨j, -, h⟩:=a3M h
  obtain⟨k, -, h⟩:=a3M h
  unfold p3 at h
  split at h
  ·cases h
  ·obtain rfl:=Option.some.inj h;simp
 have k4: ∀ {v},F4 T=some v→0<v.length:=fun h=>by
  obtain⟨i, -, h⟩:=a3M h
  obtain⟨j, -, h⟩:=a3M h
  obtain⟨k, -, h⟩:=a3M h
  obtain⟨l, -, h⟩:=a3M h
  unfold p4 at h
  split at h
  ·cases h
  ·obtain rfl:=Option.some.inj h;simp
 unfold RF at h
 split at h
 ·rename_i v hv;obtain rfl:=Option.some.inj h;exact k1 hv
 ·split at h
  ·rename_i v hv;obtain rfl:=Option.some.inj h;exact k2 hv
  ·split at h
   ·rename_i v hv;obtain rfl:=Option.some.inj h;exact k3 hv
   ·exact k4 h
theorem b6y{c:AV}{T:List (List (List Int))}(ha:a0F c T){t:Bool}(ht:t=true↔a2j T):a0d Tryz.prog 66 [.agg [c]] (bo t):=by
 refine a0e (fn:=Tryz.f66) (code:=a0b Tryz.f66) Tryz.func66 rfl (by kernel_rfl) (rfl) ?_
 intro sl hs
 have s0:sl 0= .agg [c]:=hs 0
 by_cases hc:a1e T
 ·have cc:=c130 ha (t:=true) ⟨fun _=>hc,fun _=>rfl⟩
  have cf:=c131 ha hc
  cases hr:RF T with
  |none=>
   rw[hr]at cf
   have ht':t=true:=ht.2 ⟨hc,hr⟩
   dsimp only[Tryz.f66,a0b,Option.getD]
   refine Yan ?_
   refine a0c _ cc PUt rfl rfl ?_
   refine Yae ?_
   refine a0c _ cf PUt rfl rfl ?_
   simp(disch:=first|assumption|omega) only[go_sem,b3c,b1k]
   exact Yag
  |some l=>
   have ht':t=false:=by
    cases t with
    |false=>rfl
    |true=>have:=(ht.1 rfl).2;rw[hr]at this;cases this
   have hl:0<l.length:=c3b hr
   rw[hr]at cf
   have hl': ¬(l.length:Int)=0:=by omega
   dsimp only[Tryz.f66,a0b,Option.getD]
   refine Yan ?_
   refine a0c _ cc PUt rfl rfl ?_
   refine Yae ?_
   refine a0c _ cf PUt rfl rfl ?_
   simp(disch:=first|assumption|omega) only[go_sem,b3c,a0H,a0i,List.length_map,eq_false hl']
   exact Yag
 ·have cc:=c130 ha (t:=false) ⟨fun h=>(nomatch h),fun h=>absurd h hc⟩
  have ht':t=false:=by
   cases t with
   |false=>rfl
   |true=>exact absurd (ht.1 rfl).1 hc
  dsimp only[Tryz.f66,a0b,Option.getD]
  refine Yan ?_
  refine a0c _ cc PUt rfl rfl ?_
  simp(disch:=first|assumption|omega) only[go_sem,undef]
  exact Yag
end Go.Proofs.YtbakhfiibjkifaaGreat
/- The reference's polynomials of the upper left parts; its eigenvalues. -/
namespace Go.Proofs.YtbakhfiibjkifaaGreat
theorem a7C{α:Type}(f:Nat→α)(m:Nat):rws f (m+1)=f 0::rws (fun j=>f (j+1)) m:=by
 unfold rws
 rw[List.range_succ_eq_map,List.map_cons,List.map_map]
 rfl
theorem a8O(x:List Int):rws (fun j=>atI x j) x.length=x:=by
 apply List.ext_getElem?
 intro j
 by_cases hj:j<x.length
 ·rw[a0l _ _ _ hj,List.getElem?_eq_getElem hj]
  unfold atI
  rw[List.getD_eq_getElem?_getD,List.getElem?_eq_getElem hj]
  rfl
 ·rw[List.getElem?_eq_none (by rw[zfe];omega),List.getElem?_eq_none (by omega)]
theorem b8S(z c:Int): ∀(m:Nat) (f g h:Nat→Int),(∀j,j<m→MM (f j) (g j+c*h j))→MM (hv z (rws f m)) (hv z (rws g m)+c*hv z (rws h m))
 |0,f,g,h,_=>by
  show MM (0:Int) (0+c*0)
  exact MM.of_eq (by omega)
 |m+1,f,g,h,H=>by
  have ih:=b8S z c m (fun j=>f (j+1)) (fun j=>g (j+1)) (fun j=>h (j+1)) fun j hj=>H (j+1) (by omega)
  have h0:=H 0 (by omega)
  rw[a7C f,a7C g,a7C h]
  show MM ((hv z (rws (fun j=>f (j+1)) m)*z+f 0) % 55441) ((hv z (rws (fun j=>g (j+1)) m)*z+g 0) % 55441+c*((hv z (rws (fun j=>h (j+1)) m)*z+h 0) % 55441))
  have e1:MM ((hv z (rws (fun j=>f (j+1)) m)*z+f 0) % 55441) ((hv z (rws (fun j=>g (j+1)) m)+c*hv z (rws (fun j=>h (j+1)) m))*z+(g 0+c*h 0)):=(MM.mod _).trans (MM.add (MM.mul ih MM.rfl) h0)
  have e2:MM ((hv z (rws (fun j=>g (j+1)) m)*z+g 0) % 55441+c*((hv z (rws (fun j=>h (j+1)) m)*z+h 0) % 55441)) (hv z (rws (fun j=>g (j+1)) m)*z+g 0+c*(hv z (rws (fun j=>h (j+1)) m)*z+h 0)):=MM.add (MM.mod _) (MM.mul MM.rfl (MM.mod _))
  refine e1.trans (MM.trans (MM.of_eq ?_) e2.symm)
  generalize hv z (rws (fun j=>g (j+1)) m)=x
  generalize hv z (rws (fun j=>h (j+1)) m)=y
  rw[Int.add_mul,Int.mul_add c,Int.mul_assoc]
  omega
theorem b9c(z c:Int){xs ys:List Int}{m:Nat}(hx:xs.length=m)(hy:ys.length=m):MM (hv z (rws (plV xs ys c) m)) (hv z xs+c*hv z ys):=by
 have h:=b8S z c m (plV xs ys c) (atI xs) (atI ys) fun j _=>MM.mod _
 have e1:rws (atI xs) m=xs:=by rw[←hx];exact a8O xs
 have e2:rws (atI ys) m=ys:=by rw[←hy];exact a8O ys
 rw[e1,e2]at h
 exact h
theorem b1b(z:Int): ∀r:Nat,hv z (List.replicate r 0)=0
 |0=>rfl
 |r+1=>by
  show (hv z (List.replicate r 0)*z+0) % 55441=0
  rw[b1b z r,Int.zero_mul]
  rfl
theorem b3B(z:Int)(r:Nat): ∀P:List Int,hv z (P++List.replicate r 0)=hv z P
 | []=>b1b z r
 |c::P=>by
  show (hv z (P++List.replicate r 0)*z+c) % 55441=(hv z P*z+c) % 55441
  rw[b3B z r P]
section
variable (H:Nat→Nat→Int)
def hpr(k:Nat):Nat→Int
 |0=>1
 |t+1=>hpr k t*H (k-1-t+1) (k-1-t) % 55441
def hnx(L:List (List Int))(k:Nat):Nat→List Int
 |0=>rws (plV (0::L.getD k []) (L.getD k []++ [0]) ((0-H k k) % 55441)) (k+2)
 |t+1=>rws (plV (hnx L k t) (L.getD (k-1-t) []++List.replicate (t+2) 0) ((0-hpr H k (t+1)*H (k-1-t) k % 55441) % 55441)) (k+2)
def hpl:Nat→List (List Int)
 |0=>[[1]]
 |k+1=>hpl k++ [hnx H (hpl k) k k]
end
section
variable{H:Nat→Nat→Int}
theorem a5j: ∀k,(hpl H k).length=k+1
 |0=>rfl
 |k+1=>by
  show (hpl H k++ [_]).length=_
  rw[List.length_append,a5j k]
  rfl
theorem a5i(L:List (List Int))(k:Nat): ∀t,(hnx H L k t).length=k+2
 |0=>zfe _ _
 |_+1=>zfe _ _
theorem b3f(L:List (List Int))(k:Nat): ∀t,a2s (hnx H L k t)
 |0=>a1T _ _ fun _ _=>a0E _
 |_+1=>a1T _ _ fun _ _=>a0E _
theorem b4f(k:Nat): ∀t,num (hpr H k t)
 |0=>by show num 1;unfold num;decide
 |_+1=>a0E _
def hpp(H:Nat→Nat→Int)(k:Nat):List Int:=(hpl H k).getD k []
theorem a5y: ∀ {m k:Nat},k≤m→(hpl H m).getD k []=hpp H k
 |0,k,h=>by
  obtain rfl:k=0:=by omega
  rfl
 |m+1,k,h=>by
  by_cases e:k=m+1
  ·rw[e];rfl
  ·have hl:=a5j (H:=H) m
   show (hpl H m++ [_]).getD k []=_
   rw[List.getD_eq_getElem?_getD,List.getElem?_append_left (by omega), ←List.getD_eq_getElem?_getD]
   exact a5y (by omega)
theorem a7t(k:Nat):hpp H (k+1)=hnx H (hpl H k) k k:=by
 have hl:=a5j (H:=H) k
 show (hpl H k++ [_]).getD (k+1) []=_
 rw[List.getD_eq_getElem?_getD,List.getElem?_append_right (by omega),hl,Nat.sub_self]
 rfl
theorem a5s: ∀k,(hpp H k).length=k+1
 |0=>rfl
 |k+1=>by rw[a7t,a5i]
theorem b0h: ∀k,a2s (hpp H k)
 |0=>fun j=>by
  show num (atI [1] j)
  by_cases h:j=0
  ·subst h;show num 1;unfold num;decide
  ·rw[a2c (by simp;omega)];unfold num;decide
 |k+1=>by rw[a7t];exact b3f _ _ _
theorem b3Q{k:Nat}: ∀t,t≤k→MM (hpr H k t) (prd H (k-t) k)
 |0,_=>by rw[Nat.sub_zero,a8V (Nat.le_refl k)];exact MM.rfl
 |t+1,h=>by
  have ih:=b3Q (k:=k) t (by omega)
  have e:k-1-t+1=k-t:=by omega
  have e2:k-1-t=k-(t+1):=by omega
  show MM (hpr H k t*H (k-1-t+1) (k-1-t) % 55441) _
  rw[a7J (i:=k-(t+1)) (by omega),e,e2,show k-(t+1)+1=k-t from by omega]
  exact(MM.mod _).trans ((MM.mul ih MM.rfl).trans (MM.of_eq (Int.mul_comm _ _)))
theorem b3u(f:Nat→Int): ∀n,sm f (n+1)=f 0+sm (fun j=>f (j+1)) n
 |0=>by show 0+f 0=f 0+0;omega
 |n+1=>by
  rw[a2e,b3u f n,a2e]
  omega
theorem b8j(f:Nat→Int): ∀n,sm (fun t=>f (n-1-t)) n=sm f n
 |0=>rfl
 |n+1=>by
  rw[b3u,a2e f n, ←b8j f n]
  have e:sm (fun j=>f (n+1-1-(j+1))) n=sm (fun t=>f (n-1-t)) n:=a0k fun j _=>by congr 1;omega
  rw[e]
  show f (n+1-1-0)+_=_
  rw[show n+1-1-0=n from by omega]
  omega
theorem b8G(z:Int){k:Nat}: ∀t,t≤k→MM (hv z (hnx H (hpl H k) k t)) ((z-H k k)*hv z (hpp H k)-sm (fun s=>prd H (k-1-s) k*H (k-1-s) k*hv z (hpp H (k-1-s))) t)
 |0,_=>by
  have hl:=a5s (H:=H) k
  show MM (hv z (rws (plV (0::(hpl H k).getD k []) ((hpl H k).getD k []++ [0]) ((0-H k k) % 55441)) (k+2))) _
  rw[a5y (Nat.le_refl k)]
  have h1:=b9c z ((0-H k k) % 55441) (xs:=0::hpp H k) (ys:=hpp H k++ [0]) (m:=k+2) (by rw[List.length_cons,hl]) (by rw[List.length_append,hl];rfl)
  have e:hpp H k++ [0]=hpp H k++List.replicate 1 0:=rfl
  rw[e,b3B]at h1
  refine h1.trans ?_
  show MM ((hv z (hpp H k)*z+0) % 55441+(0-H k k) % 55441*hv z (hpp H k)) _
  refine(MM.add (MM.mod _) (MM.mul (MM.mod _) MM.rfl)).trans (MM.of_eq ?_)
  show _=_-0
  rw[Int.sub_mul,Int.sub_mul,Int.mul_comm z]
  omega
 |t+1,h=>by
  have ih:=b8G z (k:=k) t (by omega)
  have hl:=a5s (H:=H) (k-1-t)
  show MM (hv z (rws (plV (hnx H (hpl H k) k t) ((hpl H k).getD (k-1-t) []++List.replicate (t+2) 0) ((0-hpr H k (t+1)*H (k-1-t) k % 55441) % 55441)) (k+2))) _
  rw[a5y (show k-1-t≤k by omega)]
  have h1:=b9c z ((0-hpr H k (t+1)*H (k-1-t) k % 55441) % 55441) (xs:=hnx H (hpl H k) k t) (ys:=hpp H (k-1-t)++List.replicate (t+2) 0) (m:=k+2) (a5i _ _ _) (by rw[List.length_append,hl,List.length_replicate];omega)
  rw[b3B]at h1
  refine h1.trans ?_
  rw[a2e]
  have h2:=b3Q (H:=H) (k:=k) (t+1) h
  rw[show k-(t+1)=k-1-t from by omega]at h2
  have h3:MM ((0-hpr H k (t+1)*H (k-1-t) k % 55441) % 55441) (0-prd H (k-1-t) k*H (k-1-t) k):=(MM.mod _).trans (MM.sub MM.rfl ((MM.mod _).trans (MM.mul h2 MM.rfl)))
  refine(MM.add ih (MM.mul h3 MM.rfl)).trans (MM.of_eq ?_)
  generalize prd H (k-1-t) k*H (k-1-t) k=x
  generalize hv z (hpp H (k-1-t))=y
  rw[Int.sub_mul 0 x y,Int.zero_mul]
  omega
theorem c4m(z:Int)(n:Nat):c3P H n z fun k=>hv z (hpp H k) where
 p0:=by
  show MM ((0*z+1) % 55441) 1
  rw[Int.zero_mul]
  exact MM.rfl
 ps:=fun k hk=>by
  show MM (hv z (hpp H (k+1))) _
  rw[a7t]
  have h:=b8G (H:=H) z (k:=k) k (Nat.le_refl k)
  rw[b8j (fun i=>prd H i k*H i k*hv z (hpp H i)) k]at h
  exact h
end
theorem b7X{A:Nat→Nat→Int}{n:Nat}{v:Int}(hA:a1G A)(h:Eig A n v):hv v (hpp (hes n A (n-2)) n)=0:=
 a8j (c1f hA h (c4m v n)) (a7b _ _)
def evS:Nat→List Int→List Int
 |0,_=>[]
 |x+1,P=>evS x P++(if hv (x:Int) P=0 then [(x:Int)]else [])
theorem a6h{P:List Int}{v:Int}: ∀ {m:Nat},v∈evS m P↔0≤v∧v<m∧hv v P=0
 |0=>by
  simp only[evS,List.not_mem_nil,false_iff]
  omega
 |m+1=>by
  unfold evS
  rw[List.mem_append,a6h]
  constructor
  ·rintro(⟨a,b,c⟩|h)
   ·exact⟨a,by omega,c⟩
   ·split at h
    ·rename_i h0
     simp at h
     subst h
     exact⟨by omega,by omega,h0⟩
    ·cases h
  ·rintro⟨a,b,c⟩
   by_cases e:v<m
   ·exact .inl ⟨a,e,c⟩
   ·have:v=(m:Int):=by omega
    subst this
    right
    rw[if_pos c]
    simp
theorem b8u(P:List Int): ∀m,(evS m P).Pairwise (· <·)
 |0=>List.Pairwise.nil
 |m+1=>by
  unfold evS
  rw[List.pairwise_append]
  refine⟨b8u P m,?_,fun a ha b hb=>?_⟩
  ·split
   ·exact List.pairwise_singleton _ _
   ·exact List.Pairwise.nil
  ·have:=(a6h.1 ha).2.1
   split at hb
   ·simp at hb;omega
   ·cases hb
theorem a7Y(P:List Int): ∀m,(evS m P).length≤m
 |0=>Nat.le_refl _
 |m+1=>by
  have:=a7Y P m
  unfold evS
  rw[List.length_append]
  split
  ·simp;omega
  ·simp;omega
end Go.Proofs.YtbakhfiibjkifaaGreat
/- The reference's characteristic polynomial: in its caller's memory. -/
namespace Go.Proofs.YtbakhfiibjkifaaGreat
open Go.RowKit
set_option maxRecDepth 1000000
theorem Arr.up{ro:Ro}{gn:Nat→Nat}{S g n w:Nat}{σ:Nat→Nat×Nat}{M:Nat→Nat→Int}(A:Arr ro gn S g σ M n w){T x:Nat}{v:AV}(hT:T≠S)(hs: ∀i,i<n→(σ i).1≠T):Arr (upr ro T x v) gn S g σ M n w:=
 A.frame (a1Y fun e=>hT e.symm) (fun i hi=>a1Y (hs i hi)) fun i _=>Nat.le_refl _
theorem Arr.ug{ro:Ro}{gn:Nat→Nat}{S g n w:Nat}{σ:Nat→Nat×Nat}{M:Nat→Nat→Int}(A:Arr ro gn S g σ M n w){T v:Nat}(h:gn T≤v):Arr ro (upg gn T v) S g σ M n w:=
 A.frame rfl (fun i _=>rfl) fun i _=>by
  unfold upg
  split
  ·rename_i e;rw[e];exact h
  ·exact Nat.le_refl _
theorem b5S{H:Nat→Nat→Int}(h:a1G H)(f d:Nat):a1G (csw H f d):=fun _ _=>h _ _
theorem a7Z{n k:Nat}{fac:Int}{H:Nat→Nat→Int}(h:a1G H): ∀t,a1G (hin n k fac H t)
 |0=>h
 |t+1=>b6l (a8m (a7Z h t) _ _ _) _ _ _ _
theorem b9w{n k:Nat}{H:Nat→Nat→Int}(h:a1G H):a1G (hst n k H):=by
 unfold hst
 split
 ·exact h
 ·exact a7Z (b5S h _ _) _
theorem b0v{n:Nat}{H:Nat→Nat→Int}(h:a1G H): ∀k,a1G (hes n H k)
 |0=>h
 |k+1=>b9w (b0v h k)
def ccs(G:Nat→Nat→Int)(f d x i j:Nat):Int:=if i<x then csw G f d i j else G (sgm f d i) j
theorem c3d(ro:Ro)(s g:Nat)(a b:AV):upr (upr ro s g a) s g b=upr ro s g b:=by
 funext s' g'
 unfold upr
 split<;>rfl
theorem a2E{ro:Ro}{s g:Nat}{p:List Nat}{off n k:Nat}{a1:Nat}{a2:Bool}{a3:List Value}{e:Nat}{a5:List (Nat×Nat)}{a6:Option IntKind}{a7 a8:Bool}{a9 a10:Option (Nat×Nat)}:a5J (some ⟨a1,a2,a3,some e,a5,a6,a7,a8,a9,a10⟩) ro (.ref s g p off n) (.sc (.int .i64 ((k:Int)+1)))=if k+1<n∧(ro.cells s g p).isSome=true then some ⟨.ptr s g p (off+(k+1)),none,[],[]⟩else none:=
 zen (k:=k+1)
theorem b7S{ro:Ro}{gn:Nat→Nat}{s g off n m:Nat}{cs:List AV}(h:ro s g=some (.row cs))(hm:0<m)(hn:n+m≤4294967296):
  b6X ti0 37 3 ro gn (.ref s g [] off n) (i64 (m:Int))=some ⟨.ref s (gn s+1) [] 0 (n+m),none,[(s,g)],[(s,.row ((cs.drop off).take n++List.replicate m (i64 0)))]⟩:=by
 have h1:(0:Int)<(m:Nat):=by omega
 have h2:n+m≤a0G:=hn
 have h3:a1O ([Value.int .i64 0].getD 0 undef)=true:=rfl
 simp only[b6X,a4D,ti3,ti2,Option.bind_some,h,Int.toNat_natCast,h1,h2,h3,and_self,if_true]
 rfl
theorem c0m{ro:Ro}{gn:Nat→Nat}{s g off n m:Nat}{cs:List AV}(hm:0<m)(hn:n+m≤4294967296):
  b6X ti0 37 3 (upr ro s g (.row cs)) gn (.ref s g [] off n) (.sc (.int .i64 (m:Int)))=some ⟨.ref s (gn s+1) [] 0 (n+m),none,[(s,g)],[(s,.row ((cs.drop off).take n++List.replicate m (i64 0)))]⟩:=b7S a3J hm hn
theorem nrf(xs:List Int):a0j (xs.map i64)=true:=by
 induction xs with
 |nil=>rfl
 |cons x xs ih=>exact ih
theorem nrf_c(v:Int)(xs:List Int):a0j (AV.sc (Value.int IntKind.i64 v)::xs.map i64)=true:=nrf xs
theorem c4q(v:Int)(xs:List Int):a0j (xs.map i64++ [AV.sc (Value.int IntKind.i64 v)])=true:=by
 have:=nrf (xs++ [v])
 rw[List.map_append]at this
 exact this
theorem c1k{xs:List Int}(h:a2s xs):a2s (0::xs):=fun j=>by
 cases j with
 |zero=>show num 0;unfold num;decide
 |succ j=>exact h j
theorem b3w{xs:List Int}(h:a2s xs):a2s (xs++ [0]):=a8a h (by unfold num;decide)
theorem b3h{xs:List Int}(h:a2s xs): ∀m,a2s (xs++List.replicate m 0)
 |0=>by simpa using h
 |m+1=>by
  rw[List.replicate_succ', ←List.append_assoc]
  exact b3w (b3h h m)
theorem c4S(xs:List Int):(xs.map i64).all zez=true:=List.all_eq_true.2 fun x hx=>by obtain⟨y, -, rfl⟩:=List.mem_map.1 hx;rfl
set_option maxHeartbeats 4000000 in
theorem c2r{a:AV}{n:Nat}{A0:Nat→Nat→Int}{ro:Ro}{gn:Nat→Nat}(hl:a2t a (a1r A0 n n))(h0:0<n)(hn:n≤1000)(hA:a1G A0):
  InS Tryz.prog 123 [a] ro gn (fun r ro' gn'=> ∃g',r= .ref 135184 g' [n] 0 (n+1)∧ro' 135184 g'=some (a0I (hpl (hes n A0 (n-2)) n))):=by
 have c1:=b0B hl (by rw[a0x];unfold a0G;omega) (fun i hi=>by rw[a0x]at hi;rw[a1t hi];unfold a0G;omega)
 rw[a3v]at c1
 have h0':(0:Int)<n:=by omega
 refine a1U (fn:=Tryz.f123) (code:=a0b Tryz.f123) Tryz.func123 rfl (by kernel_rfl) ?_
 intro sl hs
 have s0:sl 0=a:=hs 0
 dsimp only[Tryz.f123,a0b,Option.getD]
 refine Yae ?_
 refine a0c _ c1 PUt rfl rfl ?_
 simp(disch:=first|assumption|omega) only[go_sem,a0i,zfe]
 refine a6y (fun k st=>st.sl 3= .ref 8208 (st.gn 8208) [] 0 n∧st.sl 4=i64 (n:Nat)∧st.sl 5=i64 (k:Int)∧(∃σ,(∀i,i<n→(σ i).1=3∨(σ i).1=110816)∧Arr st.ro st.gn 8208 (st.gn 8208) σ (hes n A0 k) n n)) ((n-2)) (Arr.unp (S:=8208) (g:=gn 8208+1) (b:=3) (n:=n) (w:=n) (M:=A0) (by decide) Ur).1 ?_ ?_ ?_
 ·simp only[b1i,b1S (show (8208:Nat)≠3 by decide), ↓za, ↓reduceIte,Nat.reduceEqDiff,zb]
  exact⟨rfl,_,fun i _=> .inl rfl,(Arr.unp (S:=8208) (g:=gn 8208+1) (b:=3) (n:=n) (w:=n) (M:=A0) (by decide) Ur).2⟩
 ·rintro k sl ro gn hk ⟨s3,s4,s5,q⟩
  dsimp only at s3 s4 s5
  have hk':(k:Int)<((n-2):Nat):=by omega
  obtain⟨σ,hs,A⟩:=q
  dsimp only at A
  have hG:=b0v (n:=n) hA k
  have hS:hes n A0 (k+1)=hst n k (hes n A0 k):=rfl
  have hk2:k+2<n:=by omega
  have hk2':((k:Nat):Int)+2<n:=by omega
  obtain⟨f1,f2,f3,f4⟩:=a2z (hes n A0 k) (k:=k) (n:=n) (d:=k+1) (by omega)
  generalize hGe:hes n A0 k=G at*
  generalize hf:fdf G k n (k+1)=f at f1 f2 f3 f4
  simp(disch:=first|assumption|omega) only[go_sem,s4,s5,hk2']
  refine a0f (fun x st=>st.sl 3= .ref 8208 (st.gn 8208) [] 0 n∧st.sl 4=i64 (n:Nat)∧st.sl 5=i64 (k:Int)∧st.sl 6=i64 ((k+1+x:Nat):Int)∧(Arr st.ro st.gn 8208 (st.gn 8208) σ G n n)) ((f-(k+1))) ?_ ?_ ?_
  ·refine Ybp ?_
   exact⟨s3,s4,s5,a0w (by omega),A⟩
  ·rintro x sl ro gn hx ⟨s3,s4,s5,s6,A⟩
   dsimp only at s3 s4 s5 s6
   have hx':(x:Int)<((f-(k+1)):Nat):=by omega
   dsimp only at A
   have hx1:k+1+x<n:=by omega
   have hx2:((k+1+x:Nat):Int)<n:=by omega
   have a1:=A.arr
   have a3:=A.rw (k+1+x) hx1
   have e1:=f3 (k+1+x) (by omega) (by omega)
   refine Yfh ?_
   exact⟨a0w (by omega),A⟩
  ·rintro sl ro gn ⟨s3,s4,s5,s6,A⟩
   dsimp only at s3 s4 s5 s6
   have hx': ¬(((f-(k+1)):Nat):Int)<((f-(k+1)):Nat):=by omega
   dsimp only at A
   have a1:=A.arr
   have ef:k+1+(f-(k+1))=f:=by omega
   rw[ef]at s6
   by_cases hfn:f=n
   ·have e0:hst n k G=G:=by unfold hst;rw[if_pos (hf.trans hfn)]
    subst hfn
    have hnn: ¬((f:Nat):Int)<f:=by omega
    simp(disch:=first|assumption|omega) only[go_sem,s3,s4,s5,s6,hnn,undef]
    rw[hS,e0]
    exact⟨a0w (by omega),σ,hs,A⟩
   ·have hlt:f<n:=by omega
    have hlt':(f:Int)<n:=by omega
    have hk1:k+1<n:=by omega
    have hkn:k<n:=by omega
    have a3:=A.rw f hlt
    have a4:=A.rw (k+1) hk1
    have n3:=A.ne f hlt
    have n4:=A.ne (k+1) hk1
    have e1:=f4 hlt
    have hne: ¬(f:Int)=n:=by omega
    have hnn: ¬((n:Nat):Int)<n:=by omega
    have e0:hst n k G=hin n k (pw (csw G f (k+1) (k+1) k) 55439) (csw G f (k+1)) (n-(k+2)):=by unfold hst;rw[if_neg (by rw[hf];exact hfn),hf]
    rw[e0]at hS
    rw[hS]
    have hW:a1G (csw G f (k+1)):=b5S hG _ _
    have hk11:k+1+1≤n:=by omega
    by_cases hgt:k+1<f
    ·have hgt':((k:Nat):Int)+1<f:=by omega
     have e5:f+1≤n:=hlt
     simp(disch:=first|assumption|omega) only[go_sem,s3,s4,s5,s6,a1,a3,a4,a0l,hlt,hlt',hk1,eq_false e1,hne,hgt',hkn,a2E,hk11,e5,List.length_set,eq_false n3]
     refine a0f (fun i st=>st.sl 3= .ref 8208 (st.gn 8208) [] 0 n∧st.sl 4=i64 (n:Nat)∧st.sl 5=i64 (k:Int)∧st.sl 6=i64 (f:Int)∧st.sl 8=i64 (i:Int)∧(∃τ,(∀i,i<n→(τ i).1=3∨(τ i).1=110816)∧Arr st.ro st.gn 8208 (st.gn 8208) τ (ccs G f (k+1) i) n n)) n ?_ ?_ ?_
     ·simp only[↓za, ↓reduceIte,Nat.reduceEqDiff,zb,s3,s4,s5,s6]
      refine⟨rfl,_,fun i hi=>hs _ (by split;exact hk1;split;exact hlt;exact hi),(A.swap (d:=f) (f:=k+1) hlt hk1).congr fun i _ j _=>?_⟩
      unfold ccs swp sgm
      rw[if_neg (Nat.not_lt_zero _)]
      by_cases u1:i=k+1
      ·rw[if_pos u1,if_neg (by omega),if_pos u1]
      ·rw[if_neg u1]
       by_cases u2:i=f
       ·rw[if_pos u2,if_pos u2]
       ·rw[if_neg u2,if_neg u2,if_neg u1]
     ·rintro i sl ro gn hi ⟨s3,s4,s5,s6,s8,q⟩
      dsimp only at s3 s4 s5 s6 s8
      have hi':(i:Int)<(n:Nat):=by omega
      obtain⟨τ,ht,B⟩:=q
      dsimp only at B
      have b1:=B.arr
      have b3:=B.rw i hi
      have m3:=B.ne i hi
      have eg: ∀j,ccs G f (k+1) i i j=G (sgm f (k+1) i) j:=fun j=>if_neg (Nat.lt_irrefl _)
      simp only[eg]at b3
      simp(disch:=first|assumption|omega) only[go_sem,s3,s4,s5,s6,s8,hi',hi,b1,b3,a0l,hlt,hk1,hk11,e5,a2E,zfe,List.length_set]
      refine⟨a0w (by omega),τ,ht,?_⟩
      rw[c3d]
      refine B.wr hi ?_ fun i' h1 h2 j hj=>?_
      ·rw[a0X,a0X]
       refine a0g fun j hj=>?_
       unfold ccs csw
       rw[if_pos (Nat.lt_succ_self i)]
       show _=i64 (G (sgm f (k+1) i) (if j=k+1 then f else if j=f then k+1 else j))
       split
       ·rfl
       ·split<;>rfl
      ·unfold ccs
       by_cases u:i'<i
       ·rw[if_pos u,if_pos (by omega)]
       ·rw[if_neg u,if_neg (by omega)]
     ·rintro sl ro gn ⟨s3,s4,s5,s6,s8,q⟩
      dsimp only at s3 s4 s5 s6 s8
      have hi': ¬((n:Nat):Int)<(n:Nat):=by omega
      obtain⟨τB,hsB,B⟩:=q
      dsimp only at B
      replace B:=B.congr (M':=csw G f (k+1)) fun i hi j _=>by unfold ccs;rw[if_pos hi]
      generalize csw G f (k+1)=W at*
      have b1:=B.arr
      have b2:=B.rw (k+1) hk1
      simp(disch:=first|assumption|omega) only[go_sem,s3,s4,s5,s8,hi',b1,b2,a0l,hk1,hkn,a2E]
      refine a0c _ (c59 (hW (k+1) k).1 (hW (k+1) k).2) PUt rfl rfl ?_
      simp(disch:=first|assumption|omega) only[go_sem,s5]
      refine a0f (fun t st=>st.sl 3= .ref 8208 (st.gn 8208) [] 0 n∧st.sl 4=i64 (n:Nat)∧st.sl 5=i64 (k:Int)∧st.sl 11=i64 (pw (W (k+1) k) 55439)∧st.sl 12=i64 ((k+2+t:Nat):Int)∧(∃τ,(∀i,i<n→(τ i).1=3∨(τ i).1=110816)∧Arr st.ro st.gn 8208 (st.gn 8208) τ (hin n k (pw (W (k+1) k) 55439) W t) n n)) ((n-(k+2))) ?_ ?_ ?_
      ·try simp only[↓za, ↓reduceIte,Nat.reduceEqDiff,zb,s3,s4,s5]
       exact⟨a0w (by omega),τB,hsB,B⟩
      ·rintro t sl ro gn ht ⟨s3,s4,s5,s11,s12,q⟩
       dsimp only at s3 s4 s5 s11 s12
       have ht':(t:Int)<((n-(k+2)):Nat):=by omega
       obtain⟨τ,ht2,C⟩:=q
       dsimp only at C
       have hx:k+2+t<n:=by omega
       have hx':((k+2+t:Nat):Int)<n:=by omega
       have hx5:k+2+t+1≤n:=hx
       have hxk:k+1≠k+2+t:=by omega
       have hQ:=a7Z (n:=n) (k:=k) (fac:=pw (W (k+1) k) 55439) hW t
       have eQ:hin n k (pw (W (k+1) k) 55439) W (t+1)=cop (rop (hin n k (pw (W (k+1) k) 55439) W t) (k+2+t) (k+1) (hin n k (pw (W (k+1) k) 55439) W t (k+2+t) k*pw (W (k+1) k) 55439 % 55441)) (k+2+t) (k+1) (hin n k (pw (W (k+1) k) 55439) W t (k+2+t) k*pw (W (k+1) k) 55439 % 55441) n:=rfl
       rw[eQ]
       clear eQ
       have nf:=a6I (W (k+1) k) 55439
       generalize hin n k (pw (W (k+1) k) 55439) W t=Q at*
       generalize pw (W (k+1) k) 55439=fc at*
       have ext:((k+2+(t+1):Nat):Int)=((k+2+t:Nat):Int)+1:=by omega
       rw[ext]
       generalize hxe:k+2+t=x at*
       have d1:=C.arr
       have d2:=C.rw x hx
       have d3:=C.rw (k+1) hk1
       have m2:=C.ne x hx
       have m3:=C.ne (k+1) hk1
       have nQ:=hQ x k
       have nQ':=nQ
       unfold num at nQ' nf
       have hmul:=a6N nQ'.1 (show Q x k≤55440 by omega) nf.1 (show fc≤55440 by omega)
       have htm:Int.tmod (Q x k*fc) 55441=Q x k*fc % 55441:=Int.tmod_eq_emod_of_nonneg (by omega)
       have hcc:=a0E (Q x k*fc)
       refine Ydt ?_
       generalize hce:Q x k*fc % 55441=cc at*
       have hcc':=hcc
       unfold num at hcc'
       refine a0A _ (a8s (x:=0-cc) (by omega) (by omega)) PUt rfl ?_
       simp(disch:=first|assumption|omega) only[go_sem]
       have l1:(rws (fun j=>Q x j) n).length=n:=zfe _ _
       have l2:(rws (fun j=>Q (k+1) j) n).length=n:=zfe _ _
       have cP:=b5p (a0n (rws (fun j=>Q x j) n)) (a0n (rws (fun j=>Q (k+1) j) n)) (by rw[l1];unfold a0G;omega) (by rw[l1,l2];exact Nat.le_refl _) (a1T _ _ fun j _=>hQ x j) (a1T _ _ fun j _=>hQ (k+1) j) (a0E (0-cc))
       have e2:(rws (fun j=>i64 (plV (rws (fun j=>Q x j) n) (rws (fun j=>Q (k+1) j) n) ((0-cc) % 55441) j)) n)=rws (fun j=>i64 (rop Q x (k+1) cc x j)) n:=by
        refine a0g fun j hj=>?_
        unfold plV rop
        rw[a0P _ hj,a0P _ hj,if_pos rfl,show (0-cc)= -cc by omega]
       rw[l1,e2]at cP
       refine a1V _ cP (.cons (a0q (by rw[d2,a0H,a0y]) l1.symm (by decide)) (.cons (a0q (by rw[d3,a0H,a0y]) l2.symm (by decide)) (.cons (a1f _ _ _ (by decide)) .nil))) rfl (a2K _ (a1K _ (fun _=>rfl) _)) ?_
       refine Ydm ?_
       refine a8d [false,false,false,false,false,false,false,false,false,false,false,false,false,false,true,false,true] (by kernel_rfl) ?_
       simp(disch:=first|assumption|omega) only[go_sem]
       refine a0f (fun j st=>st.sl 3= .ref 8208 (st.gn 8208) [] 0 n∧st.sl 4=i64 (n:Nat)∧st.sl 5=i64 (k:Int)∧st.sl 11=i64 fc∧st.sl 12=i64 (x:Int)∧st.sl 13=i64 cc∧st.sl 14=i64 (j:Int)∧(∃τ,(∀i,i<n→(τ i).1=3∨(τ i).1=110816)∧Arr st.ro st.gn 8208 (st.gn 8208) τ (cop (rop Q x (k+1) cc) x (k+1) cc j) n n)) n ?_ ?_ ?_
       ·try simp only[↓za, ↓reduceIte,Nat.reduceEqDiff,zb,s3,s4,s5]
        refine⟨s11,s12,rfl,_,fun i hi=>?_,(C.set (x:=x) (T:=110816) (M':=rop Q x (k+1) cc) (by decide) rfl fun i h1 h2 j hj=>if_neg h1).congr fun i hi j hj=>?_⟩
        ·show (if i=x then _ else τ i:Nat×Nat).1=3∨(if i=x then _ else τ i:Nat×Nat).1=110816
         split
         ·exact .inr rfl
         ·exact ht2 i hi
        ·unfold cop
         exact if_neg fun h=>Nat.not_lt_zero _ h.2
       ·rintro j sl ro gn hj ⟨s3,s4,s5,s11,s12,s13,s14,q⟩
        dsimp only at s3 s4 s5 s11 s12 s13 s14
        have hj':(j:Int)<(n:Nat):=by omega
        obtain⟨υ,hu,D⟩:=q
        dsimp only at D
        have d1:=D.arr
        have d2:=D.rw j hj
        have m2:=D.ne j hj
        have hR:=a8m hQ x (k+1) cc
        have eg: ∀y,cop (rop Q x (k+1) cc) x (k+1) cc j j y=rop Q x (k+1) cc j y:=fun y=>if_neg fun h=>Nat.lt_irrefl _ h.2
        simp only[eg]at d2
        have n1:=hR j (k+1)
        have n2:=hR j x
        unfold num at n1 n2
        have hmu:=a6N hcc'.1 (show cc≤55440 by omega) n2.1 (show rop Q x (k+1) cc j x≤55440 by omega)
        have hmo:Int.tmod (rop Q x (k+1) cc j (k+1)+cc*rop Q x (k+1) cc j x) 55441=(rop Q x (k+1) cc j (k+1)+cc*rop Q x (k+1) cc j x) % 55441:=Int.tmod_eq_emod_of_nonneg (by omega)
        refine Ydf ?_
        refine a8d [false,false,false,false,false,false,true,true,false,false,false,true,true,false,false,false,true,true] (by kernel_rfl) ?_
        refine Ygr ?_
        refine⟨a0w (by omega),υ,hu,D.wr hj ?_ fun i' h1 h2 y hy=>?_⟩
        ·rw[a0X]
         refine a0g fun y hy=>?_
         unfold cop
         by_cases e:y=k+1
         ·rw[if_pos e,if_pos ⟨e,Nat.lt_succ_self j⟩]
         ·rw[if_neg e,if_neg fun h=>e h.1]
        ·unfold cop
         by_cases e:y=k+1
         ·by_cases u:i'<j
          ·rw[if_pos ⟨e,by omega⟩,if_pos ⟨e,u⟩]
          ·rw[if_neg (fun h=>u (by have:=h.2;omega)),if_neg fun h=>u h.2]
         ·rw[if_neg fun h=>e h.1,if_neg fun h=>e h.1]
       ·rintro sl ro gn ⟨s3,s4,s5,s11,s12,s13,s14,q⟩
        dsimp only at s3 s4 s5 s11 s12 s13 s14
        have hj': ¬((n:Nat):Int)<(n:Nat):=by omega
        obtain⟨υ,hu,D⟩:=q
        dsimp only at D
        simp(disch:=first|assumption|omega) only[go_sem,s3,s4,s5,s11,s12,s14,hj']
        exact⟨υ,hu,D⟩
      ·rintro sl ro gn ⟨s3,s4,s5,s11,s12,q⟩
       dsimp only at s3 s4 s5 s11 s12
       have ht': ¬(((n-(k+2)):Nat):Int)<((n-(k+2)):Nat):=by omega
       obtain⟨τ,ht2,C⟩:=q
       dsimp only at C
       have hxx:k+2+(n-(k+2))=n:=by omega
       rw[hxx]at s12
       simp(disch:=first|assumption|omega) only[go_sem,s3,s4,s5,s12,hnn]
       exact⟨a0w (by omega),τ,ht2,C⟩
    ·have hfk:f=k+1:=by omega
     have hgt': ¬((k:Nat):Int)+1<f:=by omega
     have hWG:csw G f (k+1)=G:=by
      funext i j
      unfold csw sgm
      rw[hfk]
      have e: ∀x,(if x=k+1 then k+1 else if x=k+1 then k+1 else x)=x:=fun x=>by split;exact(‹x=k+1›).symm;rfl
      rw[e,e]
     generalize csw G f (k+1)=W at*
     subst hWG
     obtain⟨τB,hτB⟩: ∃τ,τ=σ:=⟨σ,rfl⟩
     have B:=A
     have hsB:=hs
     rw[←hτB]at B hsB
     simp(disch:=first|assumption|omega) only[go_sem,s3,s4,s5,s6,a1,a3,a4,a0l,hlt,hlt',hk1,eq_false e1,hne,hgt',hkn,a2E]
     refine a0c _ (c59 (hW (k+1) k).1 (hW (k+1) k).2) PUt rfl rfl ?_
     simp(disch:=first|assumption|omega) only[go_sem,s5]
     refine a0f (fun t st=>st.sl 3= .ref 8208 (st.gn 8208) [] 0 n∧st.sl 4=i64 (n:Nat)∧st.sl 5=i64 (k:Int)∧st.sl 11=i64 (pw (W (k+1) k) 55439)∧st.sl 12=i64 ((k+2+t:Nat):Int)∧(∃τ,(∀i,i<n→(τ i).1=3∨(τ i).1=110816)∧Arr st.ro st.gn 8208 (st.gn 8208) τ (hin n k (pw (W (k+1) k) 55439) W t) n n)) ((n-(k+2))) ?_ ?_ ?_
     ·try simp only[↓za, ↓reduceIte,Nat.reduceEqDiff,zb,s3,s4,s5]
      exact⟨a0w (by omega),τB,hsB,B⟩
     ·rintro t sl ro gn ht ⟨s3,s4,s5,s11,s12,q⟩
      dsimp only at s3 s4 s5 s11 s12
      have ht':(t:Int)<((n-(k+2)):Nat):=by omega
      obtain⟨τ,ht2,C⟩:=q
      dsimp only at C
      have hx:k+2+t<n:=by omega
      have hx':((k+2+t:Nat):Int)<n:=by omega
      have hx5:k+2+t+1≤n:=hx
      have hxk:k+1≠k+2+t:=by omega
      have hQ:=a7Z (n:=n) (k:=k) (fac:=pw (W (k+1) k) 55439) hW t
      have eQ:hin n k (pw (W (k+1) k) 55439) W (t+1)=cop (rop (hin n k (pw (W (k+1) k) 55439) W t) (k+2+t) (k+1) (hin n k (pw (W (k+1) k) 55439) W t (k+2+t) k*pw (W (k+1) k) 55439 % 55441)) (k+2+t) (k+1) (hin n k (pw (W (k+1) k) 55439) W t (k+2+t) k*pw (W (k+1) k) 55439 % 55441) n:=rfl
      rw[eQ]
      clear eQ
      have nf:=a6I (W (k+1) k) 55439
      generalize hin n k (pw (W (k+1) k) 55439) W t=Q at*
      generalize pw (W (k+1) k) 55439=fc at*
      have ext:((k+2+(t+1):Nat):Int)=((k+2+t:Nat):Int)+1:=by omega
      rw[ext]
      generalize hxe:k+2+t=x at*
      have d1:=C.arr
      have d2:=C.rw x hx
      have d3:=C.rw (k+1) hk1
      have m2:=C.ne x hx
      have m3:=C.ne (k+1) hk1
      have nQ:=hQ x k
      have nQ':=nQ
      unfold num at nQ' nf
      have hmul:=a6N nQ'.1 (show Q x k≤55440 by omega) nf.1 (show fc≤55440 by omega)
      have htm:Int.tmod (Q x k*fc) 55441=Q x k*fc % 55441:=Int.tmod_eq_emod_of_nonneg (by omega)
      have hcc:=a0E (Q x k*fc)
      refine Ydt ?_
      generalize hce:Q x k*fc % 55441=cc at*
      have hcc':=hcc
      unfold num at hcc'
      refine a0A _ (a8s (x:=0-cc) (by omega) (by omega)) PUt rfl ?_
      simp(disch:=first|assumption|omega) only[go_sem]
      have l1:(rws (fun j=>Q x j) n).length=n:=zfe _ _
      have l2:(rws (fun j=>Q (k+1) j) n).length=n:=zfe _ _
      have cP:=b5p (a0n (rws (fun j=>Q x j) n)) (a0n (rws (fun j=>Q (k+1) j) n)) (by rw[l1];unfold a0G;omega) (by rw[l1,l2];exact Nat.le_refl _) (a1T _ _ fun j _=>hQ x j) (a1T _ _ fun j _=>hQ (k+1) j) (a0E (0-cc))
      have e2:(rws (fun j=>i64 (plV (rws (fun j=>Q x j) n) (rws (fun j=>Q (k+1) j) n) ((0-cc) % 55441) j)) n)=rws (fun j=>i64 (rop Q x (k+1) cc x j)) n:=by
       refine a0g fun j hj=>?_
       unfold plV rop
       rw[a0P _ hj,a0P _ hj,if_pos rfl,show (0-cc)= -cc by omega]
      rw[l1,e2]at cP
      refine a1V _ cP (.cons (a0q (by rw[d2,a0H,a0y]) l1.symm (by decide)) (.cons (a0q (by rw[d3,a0H,a0y]) l2.symm (by decide)) (.cons (a1f _ _ _ (by decide)) .nil))) rfl (a2K _ (a1K _ (fun _=>rfl) _)) ?_
      refine Ydm ?_
      refine a8d [false,false,false,false,false,false,false,false,false,false,false,false,false,false,true,false,true] (by kernel_rfl) ?_
      simp(disch:=first|assumption|omega) only[go_sem]
      refine a0f (fun j st=>st.sl 3= .ref 8208 (st.gn 8208) [] 0 n∧st.sl 4=i64 (n:Nat)∧st.sl 5=i64 (k:Int)∧st.sl 11=i64 fc∧st.sl 12=i64 (x:Int)∧st.sl 13=i64 cc∧st.sl 14=i64 (j:Int)∧(∃τ,(∀i,i<n→(τ i).1=3∨(τ i).1=110816)∧Arr st.ro st.gn 8208 (st.gn 8208) τ (cop (rop Q x (k+1) cc) x (k+1) cc j) n n)) n ?_ ?_ ?_
      ·try simp only[↓za, ↓reduceIte,Nat.reduceEqDiff,zb,s3,s4,s5]
       refine⟨s11,s12,rfl,_,fun i hi=>?_,(C.set (x:=x) (T:=110816) (M':=rop Q x (k+1) cc) (by decide) rfl fun i h1 h2 j hj=>if_neg h1).congr fun i hi j hj=>?_⟩
       ·show (if i=x then _ else τ i:Nat×Nat).1=3∨(if i=x then _ else τ i:Nat×Nat).1=110816
        split
        ·exact .inr rfl
        ·exact ht2 i hi
       ·unfold cop
        exact if_neg fun h=>Nat.not_lt_zero _ h.2
      ·rintro j sl ro gn hj ⟨s3,s4,s5,s11,s12,s13,s14,q⟩
       dsimp only at s3 s4 s5 s11 s12 s13 s14
       have hj':(j:Int)<(n:Nat):=by omega
       obtain⟨υ,hu,D⟩:=q
       dsimp only at D
       have d1:=D.arr
       have d2:=D.rw j hj
       have m2:=D.ne j hj
       have hR:=a8m hQ x (k+1) cc
       have eg: ∀y,cop (rop Q x (k+1) cc) x (k+1) cc j j y=rop Q x (k+1) cc j y:=fun y=>if_neg fun h=>Nat.lt_irrefl _ h.2
       simp only[eg]at d2
       have n1:=hR j (k+1)
       have n2:=hR j x
       unfold num at n1 n2
       have hmu:=a6N hcc'.1 (show cc≤55440 by omega) n2.1 (show rop Q x (k+1) cc j x≤55440 by omega)
       have hmo:Int.tmod (rop Q x (k+1) cc j (k+1)+cc*rop Q x (k+1) cc j x) 55441=(rop Q x (k+1) cc j (k+1)+cc*rop Q x (k+1) cc j x) % 55441:=Int.tmod_eq_emod_of_nonneg (by omega)
       refine Ydf ?_
       refine a8d [false,false,false,false,false,false,true,true,false,false,false,true,true,false,false,false,true,true] (by kernel_rfl) ?_
       refine Ygr ?_
       refine⟨a0w (by omega),υ,hu,D.wr hj ?_ fun i' h1 h2 y hy=>?_⟩
       ·rw[a0X]
        refine a0g fun y hy=>?_
        unfold cop
        by_cases e:y=k+1
        ·rw[if_pos e,if_pos ⟨e,Nat.lt_succ_self j⟩]
        ·rw[if_neg e,if_neg fun h=>e h.1]
       ·unfold cop
        by_cases e:y=k+1
        ·by_cases u:i'<j
         ·rw[if_pos ⟨e,by omega⟩,if_pos ⟨e,u⟩]
         ·rw[if_neg (fun h=>u (by have:=h.2;omega)),if_neg fun h=>u h.2]
        ·rw[if_neg fun h=>e h.1,if_neg fun h=>e h.1]
      ·rintro sl ro gn ⟨s3,s4,s5,s11,s12,s13,s14,q⟩
       dsimp only at s3 s4 s5 s11 s12 s13 s14
       have hj': ¬((n:Nat):Int)<(n:Nat):=by omega
       obtain⟨υ,hu,D⟩:=q
       dsimp only at D
       simp(disch:=first|assumption|omega) only[go_sem,s3,s4,s5,s11,s12,s14,hj']
       exact⟨υ,hu,D⟩
     ·rintro sl ro gn ⟨s3,s4,s5,s11,s12,q⟩
      dsimp only at s3 s4 s5 s11 s12
      have ht': ¬(((n-(k+2)):Nat):Int)<((n-(k+2)):Nat):=by omega
      obtain⟨τ,ht2,C⟩:=q
      dsimp only at C
      have hxx:k+2+(n-(k+2))=n:=by omega
      rw[hxx]at s12
      simp(disch:=first|assumption|omega) only[go_sem,s3,s4,s5,s12,hnn]
      exact⟨a0w (by omega),τ,ht2,C⟩
 ·rintro sl ro gn ⟨s3,s4,s5,q⟩
  dsimp only at s3 s4 s5
  have hk': ¬(((n-2):Nat):Int)<((n-2):Nat):=by omega
  obtain⟨σ,hs,A⟩:=q
  dsimp only at A
  have hk2': ¬(((n-2:Nat):Int)+2<n):=by omega
  have hH:=b0v (n:=n) hA (n-2)
  generalize hes n A0 (n-2)=H at*
  simp(disch:=first|assumption|omega) only[go_sem,s4,s5,hk2']
  refine a0f (fun k st=>st.sl 3= .ref 8208 (st.gn 8208) [] 0 n∧st.sl 4=i64 (n:Nat)∧st.sl 17=i64 (k:Int)∧st.sl 16= .ref 135184 (st.gn 135184) [] 0 (k+1)∧st.ro 135184 (st.gn 135184)=some (a0I (hpl H k))∧(Arr st.ro st.gn 8208 (st.gn 8208) σ H n n)) n ?_ ?_ ?_
  ·simp only[↓za, ↓reduceIte,Nat.reduceEqDiff,zb,s3,s4]
   refine⟨rfl,rfl,?_⟩
   repeat' first|exact A|refine Arr.up ?_ (by decide) (fun i hi=>by have:=hs i hi;omega)|refine Arr.ug ?_ (by simp only[↓za, ↓reduceIte,Nat.reduceEqDiff];omega)|refine Arr.ug ?_ (by omega)
  ·rintro k sl ro gn hk ⟨s3,s4,s17,s16,r135184,A⟩
   dsimp only at s3 s4 s17 s16 r135184
   have hk':(k:Int)<(n:Nat):=by omega
   dsimp only at A
   have hkn:k+1≤4294967296:=by omega
   have a1:=A.arr
   have a2:=A.rw k hk
   have hLl:=a5j (H:=H) k
   have hPl:=a5s (H:=H) k
   have hPn:=b0h (H:=H) k
   have hPg:((hpl H k).map a0H)[k]?=some (.row ((hpp H k).map i64)):=by
    have e:hpp H k=(hpl H k).getD k []:=rfl
    rw[e,List.getElem?_map,List.getD_eq_getElem?_getD,List.getElem?_eq_getElem (show k<(hpl H k).length by omega)]
    rfl
   have nH:=hH k k
   unfold num at nH
   have hPt:((hpp H k).map i64).take (k+1)=(hpp H k).map i64:=List.take_of_length_le (by rw[List.length_map];omega)
   have hPa:=c4S (hpp H k)
   have hk1:1+(k+1)≤4294967296:=by omega
   have hk2:k+1+1≤4294967296:=by omega
   have hX:(hpl H k)[k]?=some (hpp H k):=by
    have e:hpp H k=(hpl H k).getD k []:=rfl
    rw[e,List.getD_eq_getElem?_getD,List.getElem?_eq_getElem (show k<(hpl H k).length by omega)]
    rfl
   simp(disch:=first|assumption|omega) only[go_sem,s4,s17,s16,r135184,hk',hPg,List.length_map,hPl,hPt,hPa,hk1]
   refine a1V _ (c2j (a0n (hpp H k)) (by rw[hPl];unfold a0G;omega)) (.cons (a4L (X:=hpl H k) (Ue r135184) hX hPl.symm (by decide)) .nil) rfl (a1j _) ?_
   have qsF: ∀i,i<n→ ∀T,T≠3→T≠110816→((σ i).1=T)=False:=fun i hi T h1 h2=>eq_false fun e=>by have:=hs i hi;omega
   have qk:=qsF k hk
   simp(disch:=first|assumption|omega) only[go_sem,s3,s17,hk,a1,a2,a0l,List.length_map,hPl,hPt,hk2,a0i,qk]
   refine a0A _ (a8s (x:=0-H k k) (by omega) (by omega)) PUt rfl ?_
   simp(disch:=first|assumption|omega) only[go_sem]
   have lP0:(0::hpp H k).length=k+2:=by rw[List.length_cons,hPl]
   have lP1:(hpp H k++ [0]).length=k+2:=by rw[List.length_append,hPl];rfl
   have cP:=b5p (a0n (0::hpp H k)) (a0n (hpp H k++ [0])) (by rw[lP0];unfold a0G;omega) (by rw[lP0,lP1];exact Nat.le_refl _) (c1k hPn) (b3w hPn) (a0E (0-H k k))
   have eP:AV.row (rws (fun i=>i64 (plV (0::hpp H k) (hpp H k++ [0]) ((0-H k k) % 55441) i)) (k+2))=a0H (hnx H (hpl H k) k 0):=by
    show _=AV.row ((rws (plV (0::(hpl H k).getD k []) ((hpl H k).getD k []++ [0]) ((0-H k k) % 55441)) (k+2)).map i64)
    rw[a0y]
    rfl
   rw[lP0,eP]at cP
   refine a1V _ cP (.cons (a0q (xs:=0::hpp H k) Ur (by rw[lP0];omega) (by decide)) (.cons (a0q (xs:=hpp H k++ [0]) (by simp only[↓za, ↓reduceIte,zb];exact congrArg some (by show AV.row _=AV.row _;rw[List.map_append];rfl)) lP1.symm (by decide)) (.cons (a1f _ _ _ (by decide)) .nil))) rfl (a1j _) ?_
   have hNl:=a5i (H:=H) (hpl H k) k
   simp(disch:=first|assumption|omega) only[go_sem,a0i,List.length_map,hNl,c4q]
   refine a0r (by rcases hs k hk with e|e<;>rw[e]<;>kernel_rfl) ?_
   simp(disch:=first|assumption|omega) only[go_sem,s17]
   refine a0f (fun t st=>st.sl 3= .ref 8208 (st.gn 8208) [] 0 n∧st.sl 4=i64 (n:Nat)∧st.sl 17=i64 (k:Int)∧st.sl 16= .ref 135184 (st.gn 135184) [] 0 (k+1)∧st.ro 135184 (st.gn 135184)=some (a0I (hpl H k))∧st.sl 19=i64 (hpr H k t)∧st.sl 20=i64 ((k:Int)-1-t)∧(Arr st.ro st.gn 8208 (st.gn 8208) σ H n n)∧(∃s g,(s=155920∨s=184544)∧st.sl 18= .ref s g [] 0 (k+2)∧st.ro s g=some (a0H (hnx H (hpl H k) k t)))) k ?_ ?_ ?_
   ·simp only[↓za, ↓reduceIte,Nat.reduceEqDiff,zb,s3,s4,s16,s17]
    refine⟨r135184,rfl,a0w (by omega),?_,155920,gn 155920+1,.inl rfl,rfl,if_pos ⟨rfl,rfl⟩⟩
    repeat' first|exact A|refine Arr.up ?_ (by decide) (fun i hi=>by have:=hs i hi;omega)|refine Arr.ug ?_ (by simp only[↓za, ↓reduceIte,Nat.reduceEqDiff];omega)|refine Arr.ug ?_ (by omega)
   ·rintro t sl ro gn ht ⟨s3,s4,s17,s16,r135184,s19,s20,A,q⟩
    dsimp only at s3 s4 s17 s16 r135184 s19 s20
    have ht':(t:Int)<(k:Nat):=by omega
    obtain⟨s,g,hsg,p18,pr⟩:=q
    dsimp only at A p18 pr
    obtain⟨i,hik⟩: ∃i,i=k-1-t:=⟨_,rfl⟩
    have e20:(k:Int)-1-t=(i:Nat):=by omega
    rw[e20]at s20
    have hi0:(0:Int)≤(i:Nat):=by omega
    have hin:i<n:=by omega
    have hin1:i+1<n:=by omega
    have hik1:i+1≤k:=by omega
    have hik2:i<k+1:=by omega
    have a1:=A.arr
    have a2:=A.rw (i+1) hin1
    have a3:=A.rw i hin
    have hQl:=a5s (H:=H) i
    have hQg:((hpl H k).map a0H)[i]?=some (.row ((hpp H i).map i64)):=by
     rw[←a5y (show i≤k by omega),List.getElem?_map,List.getD_eq_getElem?_getD,List.getElem?_eq_getElem (show i<(hpl H k).length by omega)]
     rfl
    have hQX:(hpl H k)[i]?=some (hpp H i):=by
     rw[←a5y (show i≤k by omega),List.getD_eq_getElem?_getD,List.getElem?_eq_getElem (show i<(hpl H k).length by omega)]
     rfl
    have nh1:=hH (i+1) i
    have nh2:=hH i k
    have np:=b4f (H:=H) k t
    have np1:=b4f (H:=H) k (t+1)
    have ehp:hpr H k (t+1)=hpr H k t*H (i+1) i % 55441:=by rw[hik];rfl
    have hnl:=a5i (H:=H) (hpl H k) k t
    have nhn:=b3f (H:=H) (hpl H k) k t
    unfold num at nh1 nh2 np np1
    have mu1:=a6N np.1 (show hpr H k t≤55440 by omega) nh1.1 (show H (i+1) i≤55440 by omega)
    have tm1:Int.tmod (hpr H k t*H (i+1) i) 55441=hpr H k (t+1):=by rw[ehp];exact Int.tmod_eq_emod_of_nonneg (by omega)
    have mu2:=a6N np1.1 (show hpr H k (t+1)≤55440 by omega) nh2.1 (show H i k≤55440 by omega)
    have tm2:Int.tmod (hpr H k (t+1)*H i k) 55441=hpr H k (t+1)*H i k % 55441:=Int.tmod_eq_emod_of_nonneg (by omega)
    have qi:=qsF i hin
    have qi1:=qsF (i+1) hin1
    have hQt:((hpp H i).map i64).take (i+1)=(hpp H i).map i64:=List.take_of_length_le (by rw[List.length_map];omega)
    have hsub:((k+2:Nat):Int)-((i+1:Nat):Int)=((t+2:Nat):Int):=by omega
    have qT: ∀T,T≠155920→T≠184544→(s=T)=False:=fun T h1 h2=>eq_false fun e=>by omega
    simp(disch:=first|assumption|omega) only[go_sem,s3,s16,r135184,s19,s20,a1,a2,a0l,hin,hin1,hik2,a2E,tm1,hQg,List.length_map,hQl]
    refine a1V _ (c2j (a0n (hpp H i)) (by rw[hQl];unfold a0G;omega)) (.cons (a4L (X:=hpl H k) (by first|exact r135184|(simp only[↓za, ↓reduceIte,Nat.reduceEqDiff,zb,reduceCtorEq];exact r135184)) hQX hQl.symm (by decide)) .nil) rfl (a1j _) ?_
    simp(disch:=first|assumption|omega) only[go_sem,s16,r135184,s20,hik2,hQg,hQt,List.length_map,hQl,a0i,p18,pr,qT,hsub,c0m]
    refine a0r (by rcases hsg with e|e<;>rw[e]<;>kernel_rfl) ?_
    have qi':=qi
    have q1:(s=180288)=False:=qT _ (by decide) (by decide)
    simp(disch:=first|assumption|omega) only[go_sem,s3,s17,s20,a1,a3,a0l,hin,tm2,p18,qi,hk]
    refine a0c _ (a8s (x:=0-hpr H k (t+1)*H i k % 55441) (by omega) (by omega)) PUt rfl rfl ?_
    have lZ:(hpp H i++List.replicate (t+2) 0).length=k+2:=by rw[List.length_append,hQl,List.length_replicate];omega
    have cP:=b5p (a0n (hnx H (hpl H k) k t)) (a0n (hpp H i++List.replicate (t+2) 0)) (by rw[hnl];unfold a0G;omega) (by rw[hnl,lZ];exact Nat.le_refl _) nhn (b3h (b0h i) _) (a0E (0-hpr H k (t+1)*H i k % 55441))
    have eP:AV.row (rws (fun j=>i64 (plV (hnx H (hpl H k) k t) (hpp H i++List.replicate (t+2) 0) ((0-hpr H k (t+1)*H i k % 55441) % 55441) j)) (k+2))=a0H (hnx H (hpl H k) k (t+1)):=by
     show _=AV.row ((rws (plV (hnx H (hpl H k) k t) ((hpl H k).getD (k-1-t) []++List.replicate (t+2) 0) ((0-hpr H k (t+1)*H (k-1-t) k % 55441) % 55441)) (k+2)).map i64)
     rw[←hik,a5y (show i≤k by omega),a0y]
    rw[hnl,eP]at cP
    have hnl':=a5i (H:=H) (hpl H k) k (t+1)
    simp(disch:=first|assumption|omega) only[go_sem]
    refine a0z _ cP (.cons (a0q (xs:=hnx H (hpl H k) k t) (by simp only[↓za, ↓reduceIte,zb,q1];exact pr) hnl.symm (by decide)) (.cons (a0q (xs:=hpp H i++List.replicate (t+2) 0) (by simp only[↓za, ↓reduceIte,zb];exact congrArg some (by show AV.row _=AV.row _;rw[List.map_append,List.map_replicate];rfl)) (by rw[lZ];omega) (by decide)) (.cons (a1f _ _ _ (by decide)) .nil))) rfl rfl (a1j _) ?_
    simp(disch:=first|assumption|omega) only[go_sem,s3,s4,s17,s16,r135184,s20,a0i,List.length_map,hnl']
    refine⟨a0w (by omega),?_,184544,gn 184544+1,.inr rfl,rfl,if_pos ⟨rfl,rfl⟩⟩
    repeat' first|exact A|refine Arr.up ?_ (by decide) (fun i hi=>by have:=hs i hi;omega)|refine Arr.ug ?_ (by simp only[↓za, ↓reduceIte,Nat.reduceEqDiff];omega)|refine Arr.ug ?_ (by omega)
   ·rintro sl ro gn ⟨s3,s4,s17,s16,r135184,s19,s20,A,q⟩
    dsimp only at s3 s4 s17 s16 r135184 s19 s20
    have ht': ¬((k:Nat):Int)<(k:Nat):=by omega
    obtain⟨s,g,hsg,p18,pr⟩:=q
    dsimp only at A p18 pr
    have hX2:((k:Nat):Int)-1-(k:Nat)<0:=by omega
    have hX3: ¬(0:Int)≤(k:Int)-1-(k:Nat):=by omega
    have qT: ∀T,T≠155920→T≠184544→(s=T)=False:=fun T h1 h2=>eq_false fun e=>by omega
    have hnl:=a5i (H:=H) (hpl H k) k k
    have qS:(135184=s)=False:=eq_false (by omega)
    have hk3:k+1+1≤4294967296:=by omega
    have hLt:((hpl H k).map a0H).take (k+1)=(hpl H k).map a0H:=List.take_of_length_le (by rw[List.length_map];omega)
    simp(disch:=first|assumption|omega) only[go_sem,s3,s4,s17,s16,r135184,s20,p18,pr,qS,List.length_map,hnl,hLt,hk3]
    refine⟨a0w (by omega),?_,?_⟩
    ·show some (AV.row _)=some (AV.row ((hpl H k++ [hnx H (hpl H k) k k]).map a0H))
     rw[List.map_append]
     rfl
    ·repeat' first|exact A|refine Arr.up ?_ (by omega) (fun i hi=>by have:=hs i hi;omega)|refine Arr.ug ?_ (by simp only[↓za, ↓reduceIte,Nat.reduceEqDiff];omega)|refine Arr.ug ?_ (by omega)
  ·rintro sl ro gn ⟨s3,s4,s17,s16,r135184,A⟩
   dsimp only at s3 s4 s17 s16 r135184
   have hk': ¬((n:Nat):Int)<(n:Nat):=by omega
   dsimp only at A
   have hLl:=a5j (H:=H) n
   have hPl:=a5s (H:=H) n
   have hn1:n<n+1:=Nat.lt_succ_self n
   have hPg:((hpl H n).map a0H)[n]?=some (.row ((hpp H n).map i64)):=by
    have e:hpp H n=(hpl H n).getD n []:=rfl
    rw[e,List.getElem?_map,List.getD_eq_getElem?_getD,List.getElem?_eq_getElem (show n<(hpl H n).length by omega)]
    rfl
   simp(disch:=first|assumption|omega) only[go_sem,s4,s17,s16,r135184,hk',hn1,hPg,hPl,List.length_map]
   refine a0Y (.ref 135184 (gn 135184) [n] 0 (n+1)) Ur ⟨_,rfl,r135184⟩
theorem c0d{P:List Int}{k:Nat}(h:k<P.length):(P.map i64)[k]?=some (i64 (atI P k)):=by
 rw[List.getElem?_map,List.getElem?_eq_getElem h]
 unfold atI
 rw[List.getD_eq_getElem?_getD,List.getElem?_eq_getElem h]
 rfl
theorem a2J{X:List (List Int)}{k:Nat}(h:k<X.length):(X.map a0H)[k]?=some (.row ((X.getD k []).map i64)):=by
 rw[List.getElem?_map,List.getD_eq_getElem?_getD,List.getElem?_eq_getElem h]
 rfl
theorem c5l{a:AV}{n:Nat}{A0:Nat→Nat→Int}(hl:a2t a (a1r A0 n n))(h0:0<n)(hn:n≤1000)(hA:a1G A0):a0d Tryz.prog 92 [a] (a0H (evS 55441 (hpp (hes n A0 (n-2)) n))):=by
 have ci: ∀ {ro:Ro} {gn:Nat→Nat},_:=fun {ro gn}=>c2r (ro:=ro) (gn:=gn) hl h0 hn hA
 generalize hes n A0 (n-2)=H at*
 have hLl:=a5j (H:=H) n
 have hPl:=a5s (H:=H) n
 have hPn:=b0h (H:=H) n
 have hPg:((hpl H n).map a0H)[n]?=some (.row ((hpp H n).map i64)):=a2J (by omega)
 generalize hP:hpp H n=P at*
 refine a0e (fn:=Tryz.f92) (code:=a0b Tryz.f92) Tryz.func92 rfl (by kernel_rfl) (a1b _) ?_
 intro sl hs
 have s0:sl 0=a:=hs 0
 dsimp only[Tryz.f92,a0b,Option.getD]
 refine Yae ?_
 refine a0p rfl ci ?_
 rintro r ro' gn' ⟨g',rfl,pr⟩
 refine Yae ?_
 refine a0f (fun x st=>st.sl 3= .ref 135184 g' [n] 0 (n+1)∧st.sl 5=i64 (x:Int)∧st.sl 4= .ref 8224 (st.gn 8224) [] 0 (evS x P).length∧st.ro 8224 (st.gn 8224)=some (a0H (evS x P))∧(st.ro 135184 g'=some (a0I (hpl H n)))) 55441 ?_ ?_ ?_
 ·refine Yaf ?_
  exact⟨rfl,rfl,rfl,pr⟩
 ·rintro x sl ro gn hx ⟨s3,s5,s4,r8224,pr⟩
  dsimp only at s3 s5 s4 r8224
  have hx':(x:Int)<(55441:Nat):=by omega
  dsimp only at pr
  have hel:=a7Y P x
  have hel2:(evS x P).length+1≤4294967296:=by omega
  simp(disch:=first|assumption|omega) only[go_sem,s3,s5,pr,hPg]
  refine a0f (fun t st=>st.sl 3= .ref 135184 g' [n] 0 (n+1)∧st.sl 5=i64 (x:Int)∧st.sl 4= .ref 8224 (st.gn 8224) [] 0 (evS x P).length∧st.ro 8224 (st.gn 8224)=some (a0H (evS x P))∧(st.ro 135184 g'=some (a0I (hpl H n)))∧st.sl 6=i64 (hv (x:Int) (P.drop (n+1-t)))∧st.sl 7=i64 ((n:Int)-t)) ((n+1)) ?_ ?_ ?_
  ·simp only[↓za, ↓reduceIte,Nat.reduceEqDiff,zb,s3,s5,s4,r8224]
   refine⟨pr,?_,a0w (by omega)⟩
   rw[List.drop_of_length_le (by omega)]
   rfl
  ·rintro t sl ro gn ht ⟨s3,s5,s4,r8224,pr,s6,s7⟩
   dsimp only at s3 s5 s4 r8224 s6 s7
   have ht':(t:Int)<((n+1):Nat):=by omega
   dsimp only at pr
   obtain⟨k,hk⟩: ∃k,k=n-t:=⟨_,rfl⟩
   have e7:(n:Int)-t=(k:Nat):=by omega
   rw[e7]at s7
   have hk0:(0:Int)≤(k:Nat):=by omega
   have hk1:k<n+1:=by omega
   have hg:=c0d (P:=P) (k:=k) (by omega)
   have ek:n+1-t=k+1:=by omega
   rw[ek]at s6
   have ek2:n+1-(t+1)=k:=by omega
   rw[ek2,b6f (show k<P.length by omega)]
   have nh:=a7b (x:Int) (P.drop (k+1))
   have np:=hPn k
   unfold num at nh np
   have mu:=a6N nh.1 (show hv (x:Int) (P.drop (k+1))≤55440 by omega) (show (0:Int)≤x by omega) (show (x:Int)≤55440 by omega)
   have tm:Int.tmod (hv (x:Int) (P.drop (k+1))*x+atI P k) 55441=(hv (x:Int) (P.drop (k+1))*x+atI P k) % 55441:=Int.tmod_eq_emod_of_nonneg (by omega)
   simp(disch:=first|assumption|omega) only[go_sem,s3,s5,s4,r8224,s6,s7,pr,hPg,hg,tm]
   exact⟨rfl,a0w (by omega)⟩
  ·rintro sl ro gn ⟨s3,s5,s4,r8224,pr,s6,s7⟩
   dsimp only at s3 s5 s4 r8224 s6 s7
   have ht': ¬(((n+1):Nat):Int)<((n+1):Nat):=by omega
   dsimp only at pr
   have h9: ¬(0:Int)≤(n:Int)-((n+1:Nat):Int):=by omega
   have hd:P.drop (n+1-(n+1))=P:=by rw[Nat.sub_self];rfl
   rw[hd]at s6
   by_cases hz:hv (x:Int) P=0
   ·simp(disch:=first|assumption|omega) only[go_sem,s3,s5,s4,r8224,s6,s7,eq_true hz,hel2]
    have e:evS (x+1) P=evS x P++ [(x:Int)]:=by show evS x P++(if hv (x:Int) P=0 then [(x:Int)]else [])=_;rw[if_pos hz]
    rw[e]
    refine⟨a0w (by omega),by rw[List.length_append];rfl,?_,pr⟩
    rw[List.take_of_length_le (by rw[List.length_map];exact Nat.le_refl _)]
    show some (AV.row _)=some (AV.row ((evS x P++ [(x:Int)]).map i64))
    rw[List.map_append]
    rfl
   ·simp(disch:=first|assumption|omega) only[go_sem,s3,s5,s4,r8224,s6,s7,eq_false hz]
    have e:evS (x+1) P=evS x P:=by show evS x P++(if hv (x:Int) P=0 then [(x:Int)]else [])=_;rw[if_neg hz,List.append_nil]
    rw[e]
    exact⟨a0w (by omega),rfl,rfl,pr⟩
 ·rintro sl ro gn ⟨s3,s5,s4,r8224,pr⟩
  dsimp only at s3 s5 s4 r8224
  have hx': ¬((55441:Nat):Int)<(55441:Nat):=by omega
  simp(disch:=first|assumption|omega) only[go_sem,s5,s4]
  simp only[zr,a1Z,a1H,a2g,zes,zhk, ↓za, ↓reduceIte,r8224]
theorem b3p{F G:Nat→Nat→Int}{n m:Nat}(h: ∀x,x<n→ ∀j,j<m→F x j=G x j):a2o F n m=a2o G n m:=
 congrArg AV.row (a0g fun x hx=>congrArg AV.row (a0g fun j hj=>by rw[h x hx j hj]))
theorem c3w{a:AV}{n:Nat}{A:Nat→Nat→Int}{v:Int}(ha:a2t a (a1r A n n))(hn:n≤65536)(hA:a1G A)(hv:num v):a0d Tryz.prog 148 [a,i64 v] (a2o (lsM A v) n n):=by
 have c1:=b0B ha (by rw[a0x];unfold a0G;omega) (fun i hi=>by rw[a0x]at hi;rw[a1t hi];unfold a0G;omega)
 rw[a3v]at c1
 refine a0e (fn:=Tryz.f148) (code:=a0b Tryz.f148) Tryz.func148 rfl (by kernel_rfl) (a1h _ _ _) ?_
 intro sl hs
 have s0:sl 0=a:=hs 0
 have s1:sl 1=i64 v:=hs 1
 dsimp only[Tryz.f148,a0b,Option.getD]
 refine Yah ?_
 refine a0c _ c1 PUt rfl rfl ?_
 simp(disch:=first|assumption|omega) only[go_sem,a0i,zfe]
 refine a0f (fun i st=>st.sl 1=i64 v∧st.sl 5= .ref 8208 (st.gn 8208) [] 0 n∧st.ro 8208 (st.gn 8208)=some (a2o (fun x j=>if x<i then lsM A v x j else A x j) n n)∧st.sl 6=i64 (i:Int)) n ?_ ?_ ?_
 ·refine Yac ?_
  refine⟨?_,rfl⟩
  refine congrArg some (congrArg AV.row (a0g fun x _=>congrArg AV.row (a0g fun j _=>?_)))
  show i64 (A x j)=i64 (if x<0 then lsM A v x j else A x j)
  rw[if_neg (Nat.not_lt_zero _)]
 ·rintro i sl ro gn hi ⟨s1,s5,r8208,s6⟩
  dsimp only at s1 s5 r8208 s6
  have hi':(i:Int)<(n:Nat):=by omega
  have nv:=hA i i
  unfold num at nv hv
  have hii:(i<i)=False:=eq_false (Nat.lt_irrefl i)
  simp(disch:=first|assumption|omega) only[go_sem,s1,s5,r8208,s6,hi',hi,a0l,zfe,hii]
  refine a0c _ (a8s (x:=A i i-v) (by omega) (by omega)) PUt rfl rfl ?_
  simp(disch:=first|assumption|omega) only[go_sem,s1,s5,r8208,s6,hi,a0l,zfe,hii]
  refine⟨congrArg some (b3p fun x _ j _=>?_),a0w (by omega)⟩
  unfold c3l lsM
  dsimp only
  by_cases e1:x=i
  ·subst e1
   rw[if_neg (Nat.lt_irrefl x),if_pos (Nat.lt_succ_self x)]
   by_cases e2:j=x
   ·rw[if_pos ⟨rfl,e2⟩,if_pos e2]
   ·rw[if_neg (fun h=>e2 h.2),if_neg e2]
  ·rw[if_neg (fun h=>e1 h.1)]
   by_cases e2:x<i
   ·rw[if_pos e2,if_pos (show x<i+1 by omega)]
   ·rw[if_neg e2,if_neg (show ¬x<i+1 by omega)]
 ·rintro sl ro gn ⟨s1,s5,r8208,s6⟩
  dsimp only at s1 s5 r8208 s6
  have hi': ¬((n:Nat):Int)<(n:Nat):=by omega
  simp(disch:=first|assumption|omega) only[go_sem,s5,r8208,s6,hi']
  refine Yei ?_
  exact b3p fun x hx j _=>if_pos hx
end Go.Proofs.YtbakhfiibjkifaaGreat
/- Characters: both ways lead to the same lists. -/
namespace Go.Proofs.YtbakhfiibjkifaaGreat
def kvc(R:Nat→Nat→Int)(p:Nat→Nat)(k:Nat):Nat→Nat→Int
 |0,j=>if j=k then 1 else 0
 |i+1,j=>if j=p i then(0-R i k) % 55441 else kvc R p k i j
def isP(p:Nat→Nat)(r k:Nat):Bool:=(List.range r).any fun i=>decide (p i=k)
theorem a9Z{p:Nat→Nat}{r k:Nat}:isP p r k=true↔ ∃i,i<r∧p i=k:=by
 unfold isP
 rw[List.any_eq_true]
 constructor
 ·rintro⟨i,h1,h2⟩
  exact⟨i,List.mem_range.1 h1,of_decide_eq_true h2⟩
 ·rintro⟨i,h1,h2⟩
  exact⟨i,List.mem_range.2 h1,decide_eq_true h2⟩
def frc(p:Nat→Nat)(r:Nat):Nat→List Nat
 |0=>[]
 |k+1=>frc p r k++(if isP p r k=true then []else [k])
theorem b0O(p:Nat→Nat)(r:Nat): ∀k,(frc p r k).length≤k
 |0=>Nat.le_refl _
 |k+1=>by
  have:=b0O p r k
  unfold frc
  rw[List.length_append]
  split<;>simp<;>omega
theorem b4a{p:Nat→Nat}{r:Nat}: ∀ {n k:Nat},k<n→isP p r k=false→k∈frc p r n
 |0,k,h,_=>by omega
 |n+1,k,h,h2=>by
  unfold frc
  by_cases e:k=n
  ·subst e
   rw[h2]
   simp
  ·exact List.mem_append.2 (.inl (b4a (by omega) h2))
theorem b5M{R:Nat→Nat→Int}{p:Nat→Nat}{k:Nat}: ∀i j,num (kvc R p k i j)
 |0,j=>by unfold kvc num;split<;>decide
 |i+1,j=>by
  unfold kvc
  split
  ·exact a0E _
  ·exact b5M i j
theorem b8r{R:Nat→Nat→Int}{p:Nat→Nat}{k:Nat}: ∀ {i:Nat},(∀x,x<i→p x≠k)→kvc R p k i k=1
 |0,_=>by unfold kvc;rw[if_pos rfl]
 |i+1,h=>by
  unfold kvc
  rw[if_neg (fun e=>h i (Nat.lt_succ_self _) e.symm)]
  exact b8r fun x hx=>h x (by omega)
def krM(R:Nat→Nat→Int)(p:Nat→Nat)(r n:Nat)(x:Nat):Nat→Int:=kvc R p ((frc p r n).getD x 0) r
def krN(R:Nat→Nat→Int)(r n:Nat):Nat:=(gj (frc (fsr R n) r n).length (krM R (fsr R n) r n) n).2.1
theorem c0w(R:Nat→Nat→Int)(p:Nat→Nat)(r n:Nat):a1G (krM R p r n):=fun _ _=>b5M _ _
theorem c0q{R:Nat→Nat→Int}{r n:Nat}(h:r<n):0<krN R r n:=by
 obtain⟨k,hk,hp⟩:=b1D (p:=fsr R n) h
 have h0:isP (fsr R n) r k=false:=by
  cases he:isP (fsr R n) r k with
  |false=>rfl
  |true=>
   obtain⟨i,hi,e⟩:=a9Z.1 he
   exact absurd e (hp i hi)
 obtain⟨x,hx,e⟩:=List.getElem_of_mem (b4a hk h0)
 have e1:(frc (fsr R n) r n).getD x 0=k:=by rw[List.getD_eq_getElem?_getD,List.getElem?_eq_getElem hx,e];rfl
 have h1:=c2h (M:=krM R (fsr R n) r n) (n:=(frc (fsr R n) r n).length) (w:=n) hx hk (by
  unfold krM
  rw[e1,b8r hp]
  decide)
 exact h1
section
variable (T:List (List (List Int)))
def vlS(k:Nat):List Int:=evS 55441 (hpp (hes T.length (a1R T k) (T.length-2)) T.length)
def cmS(z:List Int):(Nat→Nat→Int)×Nat:=cmn T.length (fun k=>lsM (a1R T k) (atI z k)) z.length
def cmQ(n:Nat)(q:(Nat→Nat→Int)×Nat):Nat:=if q.2=0 then n else krN (gj q.2 q.1 n).1 (gj q.2 q.1 n).2.1 n
def cmR(z:List Int):Nat:=cmQ T.length (cmS T z)
def okS(z:List Int):Bool:=decide (0<cmR T z)
def b2T:List (List Int):=(lvl (vlI T) (okI T) [1] (T.length-1)).filter (chB T)
def c0E:List (List Int):=grw (vlS T) (okS T) (chB T) T.length []
end
theorem a8L{T:List (List (List Int))}{z:List Int}(h:chP T z){i:Nat}(hi:i<T.length): ∀l,l<T.length→MM (sm (fun j=>a1R T i l j*atI z j) T.length) (atI z i*atI z l):=fun l hl=>h.1 i hi l hl
theorem b8p{T:List (List (List Int))}{z:List Int}(h0:0<T.length)(h:chP T z){i:Nat}(hi:i<T.length):Eig (a1R T i) T.length (atI z i):=
 ⟨atI z,⟨0,h0,by rw[h.2];intro hc;unfold MM at hc;omega⟩,a8L h hi⟩
theorem b7x{T:List (List (List Int))}{z:List Int}(h0:0<T.length)(h:chP T z): ∃j,j<T.length∧ ¬MM (atI z j) 0:=⟨0,h0,by rw[h.2];intro hc;unfold MM at hc;omega⟩
theorem b7d{z:List Int}{m k:Nat}(h:k<m):atI (z.take m) k=atI z k:=by
 unfold atI
 rw[List.getD_eq_getElem?_getD,List.getElem?_take,if_pos h,List.getD_eq_getElem?_getD]
theorem c0p{T:List (List (List Int))}{z:List Int}(hT:a1e T)(h:chP T z)(nz:a2s z){i:Nat}(hi:i<T.length):atI z i∈vlI T i:=by
 have h1:=b7U hT.2.1 (b8p hT.1 h hi)
 have n:=nz i
 unfold num at n
 exact a9N 55441 0 _ (Int.le_refl _) (by omega) (b5U _ _) _ n.1 (by omega) h1
theorem c0n{T:List (List (List Int))}{z:List Int}(hT:a1e T)(h:chP T z)(nz:a2s z){i:Nat}(hi:i<T.length):atI z i∈vlS T i:=by
 have h1:=b7X (a1Q hT i) (b8p hT.1 h hi)
 have n:=nz i
 unfold num at n
 exact a6h.2 ⟨n.1,by omega,h1⟩
theorem c2e{T:List (List (List Int))}{z:List Int}(hT:a1e T)(h:chP T z)(hl:z.length=T.length){j:Nat}(h1:1≤j)(hj:j<T.length):okI T (z.take (j+1))=true:=by
 unfold okI
 have e:(z.take (j+1)).length=j+1:=by rw[List.length_take];omega
 rw[e]
 refine decide_eq_true ((a9Q (x:=atI z) (fun k=>a3C (a1Q hT _) _) fun k hk=>?_).2 (by omega) (b7x hT.1 h))
 have ea:atI ((z.take (j+1)).drop 1) k=atI z (k+1):=by
  unfold atI
  rw[List.getD_eq_getElem?_getD,List.getElem?_drop,List.getElem?_take,if_pos (by omega),List.getD_eq_getElem?_getD,Nat.add_comm]
 rw[ea]
 exact b4u (a8L h (by omega))
theorem c1L{T:List (List (List Int))}{z:List Int}(hT:a1e T)(h:chP T z)(hl:z.length=T.length){j:Nat}(hj:j<T.length):okS T (z.take (j+1))=true:=by
 have e:(z.take (j+1)).length=j+1:=by rw[List.length_take];omega
 have hr:(cmS T (z.take (j+1))).2<T.length:=by
  unfold cmS
  rw[e]
  refine(a9Q (x:=atI z) (fun k=>a3C (a1Q hT _) _) fun k hk=>?_).2 (by omega) (b7x hT.1 h)
  rw[b7d hk]
  exact b4u (a8L h (by omega))
 have hM:a1G (cmS T (z.take (j+1))).1:=a2v (fun k=>a3C (a1Q hT _) _) _
 unfold okS cmR cmQ
 refine decide_eq_true ?_
 split
 ·exact hT.1
 ·exact c0q (Nat.lt_of_le_of_lt (a3o (n:=(cmS T (z.take (j+1))).2) hM T.length).2.1 hr)
theorem b5z{vals:Nat→List Int}{ok chr:List Int→Bool}: ∀ {m:Nat} {x z:List Int},z∈grw vals ok chr m x→ ∀j,x.length≤j→j<x.length+m→atI z j∈vals j
 |0,x,z,_,j,h1,h2=>by omega
 |m+1,x,z,h,j,h1,h2=>by
  unfold grw at h
  obtain⟨v,hv,h⟩:=List.mem_flatMap.1 h
  split at h
  ·by_cases e:j=x.length
   ·rw[e,(b4x h).2];exact hv
   ·exact b5z h j (by simp;omega) (by simp;omega)
  ·cases h
theorem a8e{T:List (List (List Int))}(hT:a1e T){z:List Int}:z∈c0E T↔z.length=T.length∧a2s z∧chB T z=true:=by
 constructor
 ·intro h
  obtain⟨h1,h2, -⟩:=b0c h
  refine⟨by simpa using h2,fun j=>?_,h1⟩
  by_cases hj:j<T.length
  ·have:=(a6h.1 (b5z h j (Nat.zero_le _) (by simpa using hj)))
   unfold num
   omega
  ·rw[a2c (by rw[h2];simp;omega)];unfold num;decide
 ·rintro⟨h1,h2,h3⟩
  have hc:=(a3B T z).1 h3
  have:=b8A (vals:=vlS T) (ok:=okS T) (chr:=chB T) T.length [] z h1 (fun j _ hj=>?_) h3
  ·exact this
  ·simp only[List.length_nil,Nat.zero_add]at hj
   exact⟨c0n hT hc h2 hj,c1L hT hc h1 hj⟩
theorem a7I{T:List (List (List Int))}(hT:a1e T){z:List Int}:z∈b2T T↔z.length=T.length∧a2s z∧chB T z=true:=by
 have h0:=hT.1
 unfold b2T
 rw[List.mem_filter]
 constructor
 ·rintro⟨h,h3⟩
  have hl:=a2P h
  simp only[List.length_singleton]at hl
  exact⟨by omega,a4J h,h3⟩
 ·rintro⟨h1,h2,h3⟩
  refine⟨?_,h3⟩
  have hc:=(a3B T z).1 h3
  have hz:z.take ([1]:List Int).length=[1]:=by
   cases z with
   |nil=>simp at h1;omega
   |cons a z=>
    have:a=1:=hc.2
    rw[this];rfl
  have:=b9n (vals:=vlI T) (ok:=okI T) hz (T.length-1) (by simp;omega) fun j a b=>by
   simp only[List.length_singleton]at a b
   exact⟨c0p hT hc h2 (by omega),c2e hT hc h1 a (by omega)⟩
  rw[List.take_of_length_le (by simp;omega)]at this
  exact this
theorem a7H{T:List (List (List Int))}(hT:a1e T):b2T T=c0E T:=
 b4T a8X (List.Pairwise.filter _ (b2r (fun k=>(a5m 55441 0 _).1) _)) (b8D (fun k=>b8u _ _) _ _) fun z=>(a7I hT).trans (a8e hT).symm
theorem b0m{T:List (List (List Int))}(hT:a1e T):(b2T T).length≤T.length:=Nat.le_trans (List.length_filter_le _ _) (b5P hT _)
end Go.Proofs.YtbakhfiibjkifaaGreat
