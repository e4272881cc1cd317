/- Texts joined: T3 T4 T5 Ci1 Rg1 RgL Rb2 Rb3 Ci2 Ci3. -/
import Derived.OrdersIn
import Derived.TacticsIn
import Derived.ControlIn
import Derived.RangeFuncCalls
import Derived.RangeFuncBox
import Derived.RangeFuncLeaves
import Derived.Shelf.Abstract
import Derived.WalkKit
import Derived.OwnWalkIn
import Derived.TacticsInMore
import Derived.LoopNIn
import Derived.LoopIn
import Derived.Test.YtbakhfiibjkifaaGreatProg
import Derived.Test.YtbakhfiibjkifaaGreatMc
import Derived.Test.YtbakhfiibjkifaaGreatMd
import Derived.Test.YtbakhfiibjkifaaGreatCa
import Derived.Test.YtbakhfiibjkifaaGreatOa
import Derived.Test.YtbakhfiibjkifaaGreatOb
set_option linter.all false
/- Reduced bases: arrays of aliases. -/
namespace Go.Proofs.YtbakhfiibjkifaaGreat
open Go.RowKit
set_option maxRecDepth 1000000
structure Arr(ro:Ro)(gn:Nat→Nat)(S g:Nat)(σ:Nat→Nat×Nat)(M:Nat→Nat→Int)(n w:Nat):Prop where
 arr:ro S g=some (.bx (rws (fun i=> .ref (σ i).1 (σ i).2 [] 0 w) n))
 rw: ∀i,i<n→ro (σ i).1 (σ i).2=some (.row (rws (fun j=>i64 (M i j)) w))
 gnn: ∀i,i<n→(σ i).2≤gn (σ i).1
 ne: ∀i,i<n→(σ i).1≠S
 inj: ∀i j,i<n→j<n→σ i=σ j→i=j
theorem Arr.unp{st:St}{S g b n w:Nat}{M:Nat→Nat→Int}(hb:S≠b)(h:st.ro S g=some (a2o M n w)):
  Gh st (unp st S g b n fun i=>rws (fun j=>i64 (M i j)) w)∧
  Arr (unp st S g b n fun i=>rws (fun j=>i64 (M i j)) w).ro (unp st S g b n fun i=>rws (fun j=>i64 (M i j)) w).gn S g (fun i=>(b,st.gn b+1+i)) M n w:=by
 refine⟨.unp S g b n _ hb h,⟨?_,fun i hi=>?_,fun i hi=>?_,fun i _=>fun e=>hb e.symm,fun i j _ _ e=>?_⟩⟩
 ·show (if S=S∧g=g then _ else _)=_
  rw[if_pos ⟨rfl,rfl⟩]
  simp only[zfe]
  rfl
 ·show (if b=S∧st.gn b+1+i=g then _ else if _ then _ else _)=_
  rw[if_neg (fun e=>hb e.1.symm),if_pos ⟨rfl,by omega,by omega⟩]
  have:st.gn b+1+i-(st.gn b+1)=i:=by omega
  rw[this]
 ·show st.gn b+1+i≤upg st.gn b (st.gn b+n) b
  simp only[upg,if_true];omega
 ·simp only[Prod.mk.injEq,true_and]at e;omega
theorem a9a{st:St}{S g b n:Nat}{R:Nat→List AV}{s' g':Nat}(h1:s'≠S)(h2:s'≠b):(unp st S g b n R).ro s' g'=st.ro s' g':=by
 show (if s'=S∧g'=g then _ else if _ then _ else _)=_
 rw[if_neg (fun e=>h1 e.1),if_neg (fun e=>h2 e.1)]
theorem b1S{st:St}{S g b n:Nat}{R:Nat→List AV}{s':Nat}(h2:s'≠b):(unp st S g b n R).gn s'=st.gn s':=if_neg h2
theorem b1i{st:St}{S g b n:Nat}{R:Nat→List AV}(k:Nat):(unp st S g b n R).sl k=st.sl k:=nr _
theorem a4W{ro:Ro}{s g:Nat}{p:List Nat}{off n:Nat}{a1:Nat}{a2:Bool}{a3:List Value}{e:Nat}{a5:List (Nat×Nat)}{a6:Option IntKind}{a7 a8:Bool}{a9 a10:Option (Nat×Nat)}:a5J (some ⟨a1,a2,a3,some e,a5,a6,a7,a8,a9,a10⟩) ro (.ref s g p off n) (.sc (.int .i64 0))=if 0<n∧(ro.cells s g p).isSome=true then some ⟨.ptr s g p (off+0),none,[],[]⟩else none:=
 zen (k:=0)
theorem a1Y{ro:Ro}{s g:Nat}{a:AV}{s' g':Nat}(h:s'≠s):upr ro s g a s' g'=ro s' g':=if_neg fun e=>h e.1
theorem a3J{ro:Ro}{s g:Nat}{a:AV}:upr ro s g a s g=some a:=if_pos ⟨rfl,rfl⟩
def b6K:List Bool→List FP→List FP
 |true::bs,a::l=>⟨none,a.wr⟩::b6K bs l
 |false::bs,a::l=>a::b6K bs l
 |_,l=>l
theorem a5l: ∀(bs:List Bool) (l:List FP),a5I l (b6K bs l)
 | [],l=>by cases l<;>exact a5I.refl _
 |true::bs,[]=>trivial
 |false::bs,[]=>trivial
 |true::bs,a::l=>⟨⟨trivial,fun _ h=>h⟩,a5l bs l⟩
 |false::bs,a::l=>⟨FP.le_refl a,a5l bs l⟩
theorem a5I.get: ∀ {l m:List FP},a5I l m→ ∀(i:Nat),(l[i]?=none∧m[i]?=none)∨ ∃a b,l[i]?=some a∧m[i]?=some b∧FP.le a b
 | [],[],_,i=> .inl ⟨rfl,rfl⟩
 |a::l,b::m,h,0=> .inr ⟨a,b,rfl,rfl,h.1⟩
 |a::l,b::m,h,i+1=>by simpa using a5I.get h.2 i
 | [],_::_,h,_=>h.elim
 |_::_,[],h,_=>h.elim
theorem a9n{q r w w':List Nat}(h1: ∀s,s∈q→s∈r)(h2: ∀s,s∈w→s∈w')(h:a8C r w'=true):a8C q w=true:=by
 unfold a8C at*
 rw[List.all_eq_true]at*
 intro x hx
 have:=h x (h1 x hx)
 simp only[Bool.not_eq_true',List.contains_eq_mem,decide_eq_false_iff_not]at*
 exact fun hm=>this (h2 x hm)
theorem FP.half{a b a' b':FP}(ha:FP.le a a')(hb:FP.le b b')(h:(match a'.rd with|some r=>a8C r b'.wr|none=>b'.wr.isEmpty)=true):(match a.rd with|some r=>a8C r b.wr|none=>b.wr.isEmpty)=true:=by
 have h1:=ha.1
 cases hr:a'.rd with
 |none=>
  rw[hr]at h
  have e:b.wr=[]:=by
   cases hw:b.wr with
   |nil=>rfl
   |cons x l=>
    have:=hb.2 x (by rw[hw];simp)
    rw[List.isEmpty_iff.1 h]at this
    cases this
  rw[e]
  cases a.rd with
  |none=>rfl
  |some r=>simp[a8C]
 |some r=>
  rw[hr]at h h1
  obtain⟨q,e,hq⟩:=h1
  rw[e]
  exact a9n hq hb.2 h
theorem FP.apart_mono{a b a' b':FP}(ha:FP.le a a')(hb:FP.le b b')(h:a'.apart b'=true):a.apart b=true:=by
 unfold FP.apart at*
 simp only[Bool.and_eq_true]at*
 exact⟨⟨FP.half ha hb h.1.1,FP.half hb ha h.1.2⟩,a9n ha.2 hb.2 h.2⟩
theorem c2v{ops:Array Oper}{fp fin:List FP}(h:a5I fp fin)(hok:okD ops fin=true):okD ops fp=true:=by
 unfold okD at*
 rw[List.all_eq_true]at*
 intro i hi
 have:=hok i hi
 rw[Bool.and_eq_true]at*
 refine⟨this.1,?_⟩
 have h2:=this.2
 rw[List.all_eq_true]at*
 intro j hj
 have h3:=h2 j hj
 unfold a7r at*
 cases hx:ops[j]? with
 |none=>simp[hx]at h3
 |some x=>
  cases hy:ops[i]? with
  |none=>simp[hx,hy]at h3
  |some y=>
   simp only[hx,hy]at h3 ⊢
   rcases h.get j with⟨g1,g2⟩|⟨a,a',g1,g2,ga⟩
   ·simp[g2]at h3
   ·rcases h.get i with⟨k1,k2⟩|⟨b,b',k1,k2,gb⟩
    ·simp[g2,k2]at h3
    ·simp only[g1,g2,k1,k2,Bool.or_eq_true,Bool.and_eq_true]at h3 ⊢
     rcases h3 with⟨h4,h5⟩|h4
     ·exact .inl ⟨h4,FP.apart_mono ga gb h5⟩
     ·exact .inr h4
theorem a8d{X:WX}{ops:Array Oper}{fp:List FP}{K:List Fr}{Q:Exit→St→Prop}{st:St}(bs:List Bool)(h:okD ops (b6K bs fp)=true)(h2:AFT X K Q .normal st):FIN X ops fp K Q st:=⟨c2v (a5l bs fp) h,h2⟩
theorem Arr.exq{ro:Ro}{gn:Nat→Nat}{S g n w:Nat}{σ:Nat→Nat×Nat}{M:Nat→Nat→Int}(h:Arr ro gn S g σ M n w){off m k:Nat}(hm:off+m≤n)(hk:3≤k):
  exq k ro (.ref S g [] off m) (a2x (a1r (fun i j=>M (off+i) j) m w)):=by
 refine⟨fun q hq=>?_,fun hp=>by simp[a0W]at hp⟩
 obtain⟨j,rfl⟩: ∃j,q=j+3:=⟨q-3,by omega⟩
 simp only[ex,zef,h.arr,zei]
 have e:((rws (fun i=>AV.ref (σ i).1 (σ i).2 [] 0 w) n).drop off).take m=rws (fun i=>AV.ref (σ (off+i)).1 (σ (off+i)).2 [] 0 w) m:=by
  apply List.ext_getElem?
  intro i
  rw[List.getElem?_take]
  split
  ·rename_i hi
   rw[List.getElem?_drop,a0l _ _ _ (by omega),a0l _ _ _ hi]
  ·rename_i hi
   exact(List.getElem?_eq_none (by rw[zfe];omega)).symm
 rw[e,a0y]
 show AV.imm (rws _ m)=AV.imm ((a1r _ m w).map a3q)
 rw[show a1r (fun i j=>M (off+i) j) m w=rws (fun i=>rws (fun j=>M (off+i) j) w) m from rfl,a0y]
 congr 1
 refine a0g fun i hi=>?_
 have hr:=h.rw (off+i) (by omega)
 simp only[zef,hr,zeh,List.drop_zero]
 rw[List.take_of_length_le (by rw[zfe];exact Nat.le_refl _)]
 show AV.imm _=AV.imm _
 rw[a0y,a0y]
theorem c3e{gn:Nat→Nat}{T s m:Nat}(h:m≤gn s):m≤upg gn T (gn T+1) s:=by
 unfold upg
 split
 ·rename_i e;subst e;omega
 ·exact h
theorem Arr.set{ro:Ro}{gn:Nat→Nat}{S g n w:Nat}{σ:Nat→Nat×Nat}{M M':Nat→Nat→Int}(A:Arr ro gn S g σ M n w){x T:Nat}{R:List AV}(hT:T≠S)(hR:R=rws (fun j=>i64 (M' x j)) w)
  (hM: ∀i,i≠x→i<n→ ∀j,j<w→M' i j=M i j):
  Arr (upr (upr ro T (gn T+1) (.row R)) S g (.bx ((rws (fun i=>AV.ref (σ i).1 (σ i).2 [] 0 w) n).set x (.ref T (gn T+1) [] 0 w)))) (upg gn T (gn T+1)) S g (fun i=>if i=x then(T,gn T+1)else σ i) M' n w:=by
 have new: ∀i,i<n→ ¬((σ i).1=T∧(σ i).2=gn T+1):=by
  rintro i hi ⟨e1,e2⟩
  have:=A.gnn i hi
  rw[e1,e2]at this;omega
 refine⟨?_,fun i hi=>?_,fun i hi=>?_,fun i hi=>?_,fun i j hi hj e=>?_⟩
 ·rw[a3J,a0X]
  congr 2
  refine a0g fun i _=>?_
  split<;>rfl
 ·by_cases e:i=x
  ·subst e
   simp only[if_true]
   rw[a1Y hT,a3J,hR]
  ·simp only[if_neg e]
   rw[a1Y (A.ne i hi)]
   unfold upr
   rw[if_neg (new i hi),A.rw i hi]
   congr 2
   exact a0g fun j hj=>by rw[hM i e hi j hj]
 ·by_cases e:i=x
  ·simp only[if_pos e,upg,if_true];exact Nat.le_refl _
  ·simp only[if_neg e,upg]
   have:=A.gnn i hi
   split
   ·rename_i e2;rw[e2]at this;omega
   ·exact this
 ·by_cases e:i=x
  ·simp only[if_pos e];exact hT
  ·simp only[if_neg e];exact A.ne i hi
 ·by_cases e1:i=x<;>by_cases e2:j=x
  ·omega
  ·simp only[if_pos e1,if_neg e2]at e
   exact absurd ⟨by rw[←e],by rw[←e]⟩ (new j hj)
  ·simp only[if_neg e1,if_pos e2]at e
   exact absurd ⟨by rw[e],by rw[e]⟩ (new i hi)
  ·simp only[if_neg e1,if_neg e2]at e
   exact A.inj i j hi hj e
theorem Arr.piv{ro:Ro}{gn:Nat→Nat}{S g n w:Nat}{σ:Nat→Nat×Nat}{M M':Nat→Nat→Int}(A:Arr ro gn S g σ M n w){d f T:Nat}{R:List AV}{X1:AV}(hd:d<n)(hf:f<n)(hT:T≠S)(hR:R=rws (fun j=>i64 (M' d j)) w)
  (hM: ∀i,i≠d→i<n→ ∀j,j<w→M' i j=M (if i=f then d else i) j):
  Arr (upr (upr (upr ro S g X1) T (gn T+1) (.row R)) S g (.bx (((rws (fun i=>AV.ref (σ i).1 (σ i).2 [] 0 w) n).set f (.ref (σ d).1 (σ d).2 [] 0 w)).set d (.ref T (gn T+1) [] 0 w)))) (upg gn T (gn T+1)) S g
   (fun i=>if i=d then(T,gn T+1)else if i=f then σ d else σ i) M' n w:=by
 have new: ∀i,i<n→ ¬((σ i).1=T∧(σ i).2=gn T+1):=by
  rintro i hi ⟨e1,e2⟩
  have:=A.gnn i hi
  rw[e1,e2]at this;omega
 have old: ∀i,i≠d→i<n→(if i=f then σ d else σ i)=σ (if i=f then d else i):=fun i _ _=>by split<;>rfl
 have lt: ∀i,i<n→(if i=f then d else i)<n:=fun i hi=>by split<;>omega
 refine⟨?_,fun i hi=>?_,fun i hi=>?_,fun i hi=>?_,fun i j hi hj e=>?_⟩
 ·rw[a3J,a0X,a0X]
  congr 2
  refine a0g fun i _=>?_
  split
  ·rfl
  ·split<;>rfl
 ·by_cases e:i=d
  ·subst e
   simp only[if_true]
   rw[a1Y hT,a3J,hR]
  ·simp only[if_neg e]
   rw[old i e hi,a1Y (A.ne _ (lt i hi))]
   have:=new _ (lt i hi)
   have h3:upr (upr ro S g X1) T (gn T+1) (.row R) (σ (if i=f then d else i)).1 (σ (if i=f then d else i)).2=upr ro S g X1 (σ (if i=f then d else i)).1 (σ (if i=f then d else i)).2:=if_neg this
   rw[h3,a1Y (A.ne _ (lt i hi)),A.rw _ (lt i hi)]
   congr 2
   exact a0g fun j hj=>by rw[hM i e hi j hj]
 ·by_cases e:i=d
  ·simp only[if_pos e,upg,if_true];exact Nat.le_refl _
  ·simp only[if_neg e]
   rw[old i e hi]
   exact c3e (A.gnn _ (lt i hi))
 ·by_cases e:i=d
  ·simp only[if_pos e];exact hT
  ·simp only[if_neg e];rw[old i e hi];exact A.ne _ (lt i hi)
 ·by_cases e1:i=d<;>by_cases e2:j=d
  ·omega
  ·simp only[if_pos e1,if_neg e2]at e
   rw[old j e2 hj]at e
   exact absurd ⟨by rw[←e],by rw[←e]⟩ (new _ (lt j hj))
  ·simp only[if_neg e1,if_pos e2]at e
   rw[old i e1 hi]at e
   exact absurd ⟨by rw[e],by rw[e]⟩ (new _ (lt i hi))
  ·simp only[if_neg e1,if_neg e2]at e
   rw[old i e1 hi,old j e2 hj]at e
   have:=A.inj _ _ (lt i hi) (lt j hj) e
   split at this<;>split at this<;>omega
theorem Arr.wr{ro:Ro}{gn:Nat→Nat}{S g n w:Nat}{σ:Nat→Nat×Nat}{M M':Nat→Nat→Int}(A:Arr ro gn S g σ M n w){x:Nat}(hx:x<n){R:List AV}(hR:R=rws (fun j=>i64 (M' x j)) w)(hM: ∀i,i≠x→i<n→ ∀j,j<w→M' i j=M i j):
  Arr (upr ro (σ x).1 (σ x).2 (.row R)) gn S g σ M' n w:=by
 refine⟨?_,fun i hi=>?_,A.gnn,A.ne,A.inj⟩
 ·rw[a1Y (fun e=>A.ne x hx e.symm)];exact A.arr
 ·by_cases e:i=x
  ·subst e;rw[a3J,hR]
  ·have: ¬((σ i).1=(σ x).1∧(σ i).2=(σ x).2):=fun h=>e (A.inj i x hi hx (Prod.ext h.1 h.2))
   have h3:upr ro (σ x).1 (σ x).2 (.row R) (σ i).1 (σ i).2=ro (σ i).1 (σ i).2:=if_neg this
   rw[h3,A.rw i hi]
   congr 2
   exact a0g fun j hj=>by rw[hM i e hi j hj]
theorem Arr.swap{ro:Ro}{gn:Nat→Nat}{S g n w:Nat}{σ:Nat→Nat×Nat}{M:Nat→Nat→Int}(A:Arr ro gn S g σ M n w){d f:Nat}{X1:AV}(hd:d<n)(hf:f<n):
  Arr (upr (upr ro S g X1) S g (.bx (((rws (fun i=>AV.ref (σ i).1 (σ i).2 [] 0 w) n).set d (.ref (σ f).1 (σ f).2 [] 0 w)).set f (.ref (σ d).1 (σ d).2 [] 0 w)))) gn S g (fun i=>σ (if i=d then f else if i=f then d else i)) (swp M f d) n w:=by
 have lt: ∀i,i<n→(if i=d then f else if i=f then d else i)<n:=fun i hi=>by split<;>(try split)<;>omega
 refine⟨?_,fun i hi=>?_,fun i hi=>A.gnn _ (lt i hi),fun i hi=>A.ne _ (lt i hi),fun i j hi hj e=>?_⟩
 ·rw[a3J,a0X,a0X]
  congr 2
  refine a0g fun i _=>?_
  by_cases h1:i=f
  ·rw[if_pos h1]
   by_cases h2:i=d
   ·rw[if_pos h2];subst h1;subst h2;rfl
   ·rw[if_neg h2,if_pos h1]
  ·rw[if_neg h1]
   by_cases h2:i=d
   ·rw[if_pos h2,if_pos h2]
   ·rw[if_neg h2,if_neg h2,if_neg h1]
 ·show upr (upr ro S g X1) S g _ _ _=_
  rw[a1Y (A.ne _ (lt i hi)),a1Y (A.ne _ (lt i hi)),A.rw _ (lt i hi)]
  rfl
 ·have:=A.inj _ _ (lt i hi) (lt j hj) e
  split at this<;>split at this<;>(try split at this)<;>(try split at this)<;>omega
theorem Arr.congr{ro:Ro}{gn:Nat→Nat}{S g n w:Nat}{σ:Nat→Nat×Nat}{M M':Nat→Nat→Int}(A:Arr ro gn S g σ M n w)(h: ∀i,i<n→ ∀j,j<w→M' i j=M i j):Arr ro gn S g σ M' n w:=
 ⟨A.arr,fun i hi=>by rw[A.rw i hi];congr 2;exact a0g fun j hj=>by rw[h i hi j hj],A.gnn,A.ne,A.inj⟩
theorem Arr.frame{ro ro':Ro}{gn gn':Nat→Nat}{S g n w:Nat}{σ:Nat→Nat×Nat}{M:Nat→Nat→Int}(A:Arr ro gn S g σ M n w)(h1:ro' S g=ro S g)(h2: ∀i,i<n→ro' (σ i).1 (σ i).2=ro (σ i).1 (σ i).2)(h3: ∀i,i<n→gn (σ i).1≤gn' (σ i).1):Arr ro' gn' S g σ M n w:=
 ⟨h1.trans A.arr,fun i hi=>(h2 i hi).trans (A.rw i hi),fun i hi=>Nat.le_trans (A.gnn i hi) (h3 i hi),A.ne,A.inj⟩
theorem a7U{w:Nat}{σ:Nat→Nat×Nat}{R:Nat→List AV}: ∀(l:List Nat) {ro:Ro},l.Nodup→(∀i j,i∈l→j∈l→σ i=σ j→i=j)→(∀i,i∈l→ro (σ i).1 (σ i).2=some (.row (R i))∧(R i).length=w)→
  a2S ro (l.map fun i=> .ref (σ i).1 (σ i).2 [] 0 w)=some (l.map fun i=> .row (R i),l.map σ)
 | [],ro,_,_,_=>rfl
 |i::l,ro,hn,hi,hr=>by
  obtain⟨h1,h2⟩:=hr i (by simp)
  have hn':=List.nodup_cons.1 hn
  have ih:=a7U (w:=w) (σ:=σ) (R:=R) l (ro:=ro.dl [((σ i).1,(σ i).2)]) hn'.2 (fun a b ha hb=>hi a b (by simp[ha]) (by simp[hb])) (fun a ha=>by
   refine⟨?_,(hr a (by simp[ha])).2⟩
   show upr ro (σ i).1 (σ i).2 .dead (σ a).1 (σ a).2=_
   unfold upr
   rw[if_neg]
   ·exact(hr a (by simp[ha])).1
   ·rintro⟨e1,e2⟩
    have:=hi a i (by simp[ha]) (by simp) (Prod.ext e1 e2)
    subst this
    exact hn'.1 ha)
  simp only[List.map_cons,a2S,zes,h1,h2,if_true,ih]
  rfl
theorem Arr.out{ro:Ro}{gn:Nat→Nat}{S g n w:Nat}{σ:Nat→Nat×Nat}{M:Nat→Nat→Int}(h:Arr ro gn S g σ M n w){d:Nat}(hd:d≤n): ∃dl,zhk ro (.ref S g [] 0 d)=some (a2o M d w,dl):=by
 have key: ∀m,m≤n→a2S (upr ro S g .dead) (rws (fun i=>AV.ref (σ i).1 (σ i).2 [] 0 w) m)=some (rws (fun i=> .row (rws (fun j=>i64 (M i j)) w)) m,(List.range m).map σ):=by
  intro m hm
  refine a7U (R:=fun i=>rws (fun j=>i64 (M i j)) w) (List.range m) List.nodup_range (fun i j hi hj=>h.inj i j (by simp at hi;omega) (by simp at hj;omega)) (fun i hi=>?_)
  have hi:i<n:=by simp at hi;omega
  refine⟨?_,zfe _ _⟩
  unfold upr
  rw[if_neg (fun e=>h.ne i hi e.1)]
  exact h.rw i hi
 have e:(rws (fun i=>AV.ref (σ i).1 (σ i).2 [] 0 w) n).take d=rws (fun i=>AV.ref (σ i).1 (σ i).2 [] 0 w) d:=by
  apply List.ext_getElem?
  intro i
  rw[List.getElem?_take]
  split
  ·rename_i hi
   rw[a0l _ _ _ (by omega),a0l _ _ _ hi]
  ·rename_i hi
   exact(List.getElem?_eq_none (by rw[zfe];omega)).symm
 refine⟨(S,g)::(List.range d).map σ,?_⟩
 simp only[zhk,h.arr,zfe]
 by_cases hdn:d=n
 ·subst hdn
  rw[if_pos rfl,key d (Nat.le_refl _)]
 ·rw[if_neg hdn,if_pos hd,e,key d hd]
theorem a0x(G:Nat→Nat→Int)(k l:Nat):(a1r G k l).length=k:=zfe _ _
theorem a1t{G:Nat→Nat→Int}{k l x:Nat}(hx:x<k):(row (a1r G k l) x).length=l:=by rw[a2V hx,zfe]
theorem a3v{M:Nat→Nat→Int}{n w:Nat}:AV.row (rws (fun x=>a0H (row (a1r M n w) x)) (a1r M n w).length)=a2o M n w:=by
 rw[a0x]
 congr 1
 refine a0g fun x hx=>?_
 rw[a2V hx,a0H,a0y]
theorem b2m{a:AV}{n w:Nat}{M:Nat→Nat→Int}(ha:a2t a (a1r M n w))(h0:0<n)(hn:n≤65536)(hw:w≤65536)(hM:a1G M):a0d Tryz.prog 147 [a] (a2o (gj n M w).1 (gj n M w).2.1 w):=by
 have c1:=b0B ha (by rw[a0x];exact Nat.le_trans hn (by decide)) (fun i hi=>by rw[a0x]at hi;rw[a1t hi];exact Nat.le_trans hw (by decide))
 rw[a3v]at c1
 have h0':(0:Int)<n:=by omega
 refine a0e (fn:=Tryz.f147) (code:=a0b Tryz.f147) Tryz.func147 rfl (by kernel_rfl) (a1h _ _ _) ?_
 intro sl hs
 have s0:sl 0=a:=hs 0
 dsimp only[Tryz.f147,a0b,Option.getD]
 refine Ybm ?_
 refine a0c _ c1 PUt rfl rfl ?_
 simp only[go_sem,a0i]
 refine a6y (fun k st=>st.sl 3= .ref 8208 (st.gn 8208) [] 0 n∧st.sl 4=i64 ((gj n M k).2.1:Nat)∧st.sl 5=i64 (k:Int)∧(∃σ,Arr st.ro st.gn 8208 (st.gn 8208) σ (gj n M k).1 n w)) w (Arr.unp (S:=8208) (g:=1) (b:=3) (n:=n) (w:=w) (M:=M) (by decide) Ur).1 ?_ ?_ ?_
 ·simp only[b1i,b1S (show (8208:Nat)≠3 by decide), ↓za, ↓reduceIte,Nat.reduceEqDiff,zb]
  exact⟨rfl,rfl,_,(Arr.unp (S:=8208) (g:=1) (b:=3) (n:=n) (w:=w) (M:=M) (by decide) Ur).2⟩
 ·rintro k sl ro gn hk ⟨s3,s4,s5,q⟩
  dsimp only at s3 s4 s5
  have hk':(k:Int)<(w:Nat):=by omega
  obtain⟨σ,A⟩:=q
  have ok:=a3o (n:=n) hM k
  obtain⟨G,d,z,hX⟩: ∃G d z,gj n M k=(G,d,z):=⟨_,_,_,rfl⟩
  have hS:gj n M (k+1)=gst n k (G,d,z):=by rw[gj,hX]
  rw[hX]at A s4 ok
  dsimp only at A s4 ok
  obtain⟨hG,hd, -⟩:=ok
  obtain⟨f1,f2,f3,f4⟩:=a2z G (k:=k) hd
  generalize hf:fdf G k n d=f at f1 f2 f3 f4
  have a1:=A.arr
  have a2:=A.rw 0 h0
  simp only[go_sem,s3,s4,s5,hk',a1,a2,a0l,h0',h0,a4W]
  refine a0f (fun x st=>st.sl 3= .ref 8208 (st.gn 8208) [] 0 n∧st.sl 4=i64 (d:Nat)∧st.sl 5=i64 (k:Int)∧st.sl 6=i64 ((d+x:Nat):Int)∧(Arr st.ro st.gn 8208 (st.gn 8208) σ G n w)) ((f-d)) ?_ ?_ ?_
  ·refine Ybp ?_
   exact⟨s3,s4,s5,rfl,A⟩
  ·rintro x sl ro gn hx ⟨s3,s4,s5,s6,A⟩
   dsimp only at s3 s4 s5 s6
   have hx':(x:Int)<((f-d):Nat):=by omega
   dsimp only at A
   have hx1:d+x<n:=by omega
   have hx2:((d+x:Nat):Int)<n:=by omega
   have a1:=A.arr
   have a3:=A.rw (d+x) hx1
   have e1:=f3 (d+x) (by omega) (by omega)
   refine Yfh ?_
   exact⟨a0w (by omega),A⟩
  ·rintro sl ro gn ⟨s3,s4,s5,s6,A⟩
   dsimp only at s3 s4 s5 s6
   have hx': ¬(((f-d):Nat):Int)<((f-d):Nat):=by omega
   dsimp only at A
   have a1:=A.arr
   have ef:d+(f-d)=f:=by omega
   rw[ef]at s6
   by_cases hfn:f=n
   ·have e0:gst n k (G,d,z)=(G,d,0):=by simp only[gst,hf,hfn,if_true]
    subst hfn
    simp(disch:=first|assumption|omega) only[go_sem,s3,s4,s5,s6,a1]
    rw[hS,e0]
    exact⟨rfl,a0w (by omega),σ,A⟩
   ·have hlt:f<n:=by omega
    have hlt':(f:Int)<n:=by omega
    have hlt2:f+1≤n:=hlt
    have hdn:d<n:=by omega
    have hdn2:d+1≤n:=hdn
    have a3:=A.rw f hlt
    have a4:=A.rw d hdn
    have n3:=A.ne f hlt
    have n4:=A.ne d hdn
    have e1:=f4 hlt
    have hE:elm (swp G f d) d k=elm (swp G f d) d k:=rfl
    simp(disch:=first|assumption|omega) only[go_sem,s3,s4,s5,s6,a1,a3,a4,a0l,hlt,hlt',hlt2,hdn,eq_false e1,eq_false n3,hk]
    refine a0c _ (c59 (hG f k).1 (hG f k).2) PUt rfl rfl ?_
    simp only[go_sem]
    refine a0z _ (c3f (a0n _) (by rw[zfe];exact Nat.le_trans hw (by decide)) (fun j=>?_) (a6I (G f k) 55439)) (.cons (a0q (xs:=rws (fun j=>G f j) w) (by rw[a1Y n3,a3,a0H,a0y]) (zfe _ _).symm (by decide)) (.cons (a1f _ _ _ (by decide)) .nil)) rfl rfl (a2K _ (a1K _ (fun _=>rfl) _)) ?_
    ·exact a1T _ _ (fun i _=>hG f i) j
    simp only[go_sem,s3,s4,a0i,hdn,hdn2,zfe,List.length_set]
    refine a0f (fun x st=>st.sl 3= .ref 8208 (st.gn 8208) [] 0 n∧st.sl 4=i64 (d:Nat)∧st.sl 5=i64 (k:Int)∧st.sl 8=i64 (x:Int)∧(∃σ',st.sl 7= .ref (σ' d).1 (σ' d).2 [] 0 w∧Arr st.ro st.gn 8208 (st.gn 8208) σ' (elx G f d k x) n w)) n ?_ ?_ ?_
    ·simp only[↓za, ↓reduceIte,Nat.reduceEqDiff,zb,s3,s4,s5]
     refine⟨rfl,_,?_,A.piv (M':=elx G f d k 0) hdn hlt (by decide) (a0g fun j hj=>by rw[a9g,b9P,a0P _ hj]) fun i h1 h2 j hj=>by rw[a6L h1 (Nat.zero_le _)];unfold swp;rw[if_neg h1]⟩
     simp only[if_true]
    ·rintro x sl ro gn hx ⟨s3,s4,s5,s8,q⟩
     dsimp only at s3 s4 s5 s8
     have hx':(x:Int)<(n:Nat):=by omega
     obtain⟨τ,s7,B⟩:=q
     dsimp only at s7 B
     have b1:=B.arr
     have b3:=B.rw x hx
     have b4:=B.rw d hdn
     have m3:=B.ne x hx
     have m4:=B.ne d hdn
     have hx2:x+1≤n:=hx
     by_cases hxd:x=d
     ·have hxd':(x:Int)=d:=by omega
      simp(disch:=first|assumption|omega) only[go_sem,s3,s4,s5,s8,b1,hxd']
      refine⟨a0w (by omega),τ,s7,?_⟩
      rw[hxd]
      rw[hxd]at B
      have:elx G f d k (d+1)=elx G f d k d:=by funext i j;exact a4Q
      rw[this];exact B
     ·have hxd': ¬(x:Int)=d:=by omega
      have eg: ∀j,elx G f d k x x j=swp G f d x j:=fun j=>a6L hxd (Nat.le_refl _)
      simp only[eg,a9g]at b3 b4
      have hq:=a2M hG f d x k
      have hq2:=hq
      unfold num at hq2
      simp(disch:=first|assumption|omega) only[go_sem,s3,s4,s5,s8,hx',hx,b1,b3,s7,eq_false hxd',a0l,hk]
      refine a0A _ (a8s (by omega) (by omega)) PUt rfl ?_
      simp(disch:=first|assumption|omega) only[go_sem]
      have l1:(rws (fun j=>swp G f d x j) w).length=w:=zfe _ _
      have l2:(rws (fun j=>nrm (swp G f d) d k j) w).length=w:=zfe _ _
      have cP:=b5p (a0n (rws (fun j=>swp G f d x j) w)) (a0n (rws (fun j=>nrm (swp G f d) d k j) w)) (by rw[l1];exact Nat.le_trans hw (by decide)) (by rw[l1,l2];exact Nat.le_refl _) (a1T _ _ fun j _=>a2M hG f d x j) (a1T _ _ fun j _=>a8r _ _ _ _) (a0E (0-swp G f d x k))
      have e2:(rws (fun j=>i64 (plV (rws (fun j=>swp G f d x j) w) (rws (fun j=>nrm (swp G f d) d k j) w) ((0-swp G f d x k) % 55441) j)) w)=rws (fun j=>i64 (elx G f d k (x+1) x j)) w:=by
       refine a0g fun j hj=>?_
       unfold plV
       rw[a0P _ hj,a0P _ hj,b5X hxd,show (0-swp G f d x k)= -swp G f d x k by omega,a8R]
      rw[l1,e2]at cP
      refine a1V _ cP (.cons (a0q (by rw[b3,a0H,a0y]) l1.symm (by decide)) (.cons (a0q (by rw[b4,a0H,a0y]) l2.symm (by decide)) (.cons (a1f _ _ _ (by decide)) .nil))) rfl (a2K _ (a1K _ (fun _=>rfl) _)) ?_
      simp only[go_sem,hx,a0i,b1,hx2,zfe]
      refine a8d [false,false,false,false,false,false,false,false,false,false,false,false,true,true,false,false,true] (by kernel_rfl) ?_
      simp(disch:=first|assumption|omega) only[go_sem,s3,s4,s5,s8,s7]
      have nd: ¬d=x:=fun e=>hxd e.symm
      refine⟨a0w (by omega),_,?_,B.set (by decide) rfl fun i h1 h2 j hj=>b1o h1⟩
      simp only[if_neg nd]
    ·rintro sl ro gn ⟨s3,s4,s5,s8,q⟩
     dsimp only at s3 s4 s5 s8
     have hx': ¬((n:Nat):Int)<(n:Nat):=by omega
     obtain⟨τ,s7,B⟩:=q
     dsimp only at s7 B
     have b1:=B.arr
     simp(disch:=first|assumption|omega) only[go_sem,s3,s4,s5,s8,hx',b1]
     have e3:gst n k (G,d,z)=(elm (swp G f d) d k,d+1,(if d<f then-z % 55441 else z)*G f k % 55441):=by simp only[gst,hf,hfn,if_false]
     rw[hS,e3]
     dsimp only
     refine⟨a0w (by omega),a0w (by omega),τ,⟨B.arr,fun i hi=>?_,B.gnn,B.ne,B.inj⟩⟩
     rw[B.rw i hi]
     congr 2
     exact a0g fun j _=>by rw[b0E hi]
 ·rintro sl ro gn ⟨s3,s4,s5,q⟩
  dsimp only at s3 s4 s5
  have hk': ¬((w:Nat):Int)<(w:Nat):=by omega
  obtain⟨σ,A⟩:=q
  dsimp only at A
  have ok:=a3o (n:=n) hM w
  have a1:=A.arr
  have a2:=A.rw 0 h0
  have hd':((gj n M w).2.1:Int)≤n:=by have:=ok.2.1;omega
  simp only[go_sem,s3,s4,s5,hk',a1,a2,a0l,h0',h0,a4W,ok.2.1,Option.map_none,Option.map_some,a3p]
  obtain⟨dl,ho⟩:=A.out ok.2.1
  simp only[a1Z,a1H,a2g, ↓za, ↓reduceIte,ho]
theorem c4R{x:AV}{xs:List Int}{k:Nat}(hx:isL x xs)(hk:k<xs.length):a0d Tryz.prog 145 [x,.iptr [i64 k]] (bo (!decide (atI xs k=0))):=by
 refine a0e (fn:=Tryz.f145) (code:=a0b Tryz.f145) Tryz.func145 rfl (by kernel_rfl) (rfl) ?_
 intro sl hs
 have s0:sl 0=x:=hs 0
 have s1:sl 1= .iptr [i64 k]:=hs 1
 by_cases h:atI xs k=0
 ·dsimp only[Tryz.f145,a0b,Option.getD]
  simp(disch:=first|assumption|omega) only[go_sem,s0,s1,a0s hx hk,h]
  exact Yaa
 ·dsimp only[Tryz.f145,a0b,Option.getD]
  simp(disch:=first|assumption|omega) only[go_sem,s0,s1,a0s hx hk,eq_false h]
  exact Yaa
def nmx(G:Nat→Nat→Int)(d k x i j:Nat):Int:=if i=d∧j<x then nrm G d k j else G i j
def pex(G:Nat→Nat→Int)(f d k x y i j:Nat):Int:=if i=x∧j<y then elm (swp G f d) d k x j else elx G f d k x i j
theorem a5R(G:Nat→Nat→Int)(d k i j:Nat):nmx G d k 0 i j=G i j:=if_neg (fun h=>Nat.not_lt_zero _ h.2)
theorem b9d(G:Nat→Nat→Int)(d k x:Nat):nmx G d k x d x=G d x:=if_neg (fun h=>Nat.lt_irrefl _ h.2)
theorem b1V{G:Nat→Nat→Int}{d k x i j:Nat}(h: ¬(i=d∧j=x)):nmx G d k (x+1) i j=nmx G d k x i j:=by
 unfold nmx
 by_cases h1:i=d∧j<x
 ·rw[if_pos h1,if_pos ⟨h1.1,by omega⟩]
 ·rw[if_neg h1,if_neg]
  rintro⟨a,b⟩
  by_cases e:j=x
  ·exact h ⟨a,e⟩
  ·exact h1 ⟨a,by omega⟩
theorem b4S(G:Nat→Nat→Int)(d k x:Nat):nmx G d k (x+1) d x=nrm G d k x:=if_pos ⟨rfl,by omega⟩
theorem b4Q{G:Nat→Nat→Int}{f d k w i j:Nat}(h:j<w):elx G f d k 0 i j=nmx (swp G f d) d k w i j:=by
 unfold nmx
 by_cases e:i=d
 ·subst e;rw[a9g,if_pos ⟨rfl,h⟩]
 ·rw[a6L e (Nat.zero_le _),if_neg (fun h=>e h.1)]
theorem b2e(G:Nat→Nat→Int)(f d k x i j:Nat):pex G f d k x 0 i j=elx G f d k x i j:=if_neg (fun h=>Nat.not_lt_zero _ h.2)
theorem b9i{G:Nat→Nat→Int}{f d k x y:Nat}(h:x≠d):pex G f d k x y x y=swp G f d x y:=by
 unfold pex;rw[if_neg (fun h=>Nat.lt_irrefl _ h.2),a6L h (Nat.le_refl _)]
theorem c2m{G:Nat→Nat→Int}{f d k x y j:Nat}(h:x≠d):pex G f d k x y d j=nrm (swp G f d) d k j:=by
 unfold pex;rw[if_neg (fun e=>h e.1.symm),a9g]
theorem b1K{G:Nat→Nat→Int}{f d k x y i j:Nat}(h: ¬(i=x∧j=y)):pex G f d k x (y+1) i j=pex G f d k x y i j:=by
 unfold pex
 by_cases h1:i=x∧j<y
 ·rw[if_pos h1,if_pos ⟨h1.1,by omega⟩]
 ·rw[if_neg h1,if_neg]
  rintro⟨a,b⟩
  by_cases e:j=y
  ·exact h ⟨a,e⟩
  ·exact h1 ⟨a,by omega⟩
theorem b6c(G:Nat→Nat→Int)(f d k x y:Nat)(h:x≠d):pex G f d k x (y+1) x y=(swp G f d x y-swp G f d x k*nrm (swp G f d) d k y) % 55441:=by
 unfold pex elm;rw[if_pos ⟨rfl,by omega⟩,if_neg h]
theorem b5k{G:Nat→Nat→Int}{f d k x w i j:Nat}(hx:x≠d)(h:j<w):elx G f d k (x+1) i j=pex G f d k x w i j:=by
 unfold pex
 by_cases e:i=x
 ·subst e;rw[if_pos ⟨rfl,h⟩,b5X hx];unfold elm;rw[if_neg hx]
 ·rw[if_neg (fun h=>e h.1),b1o e]
theorem b1T{G:Nat→Nat→Int}{f d k x i j:Nat}(hG: ∀i j,num (G i j))(hx:x≠d)(h0:swp G f d x k=0):elx G f d k (x+1) i j=elx G f d k x i j:=by
 by_cases e:i=x
 ·subst e
  rw[b5X hx,a6L hx (Nat.le_refl _),h0,Int.zero_mul,Int.sub_zero]
  have:=a2M hG f d i j
  exact Int.emod_eq_of_lt this.1 this.2
 ·exact b1o e
theorem b7i(G:Nat→Nat→Int)(d:Nat):swp G d d=G:=by
 funext i j
 unfold swp
 by_cases e:i=d
 ·rw[if_pos e,e]
 ·rw[if_neg e,if_neg e]
set_option maxHeartbeats 4000000 in
theorem b5C{a:AV}{n w:Nat}{M:Nat→Nat→Int}(ha:a2t a (a1r M n w))(h0:0<n)(hn:n≤65536)(hw0:0<w)(hw:w≤65536)(hM:a1G M):a0d Tryz.prog 122 [a] (.tup [a2o (gj n M w).1 (gj n M w).2.1 w,i64 (gj n M w).2.2]):=by
 have h0':(0:Int)<n:=by omega
 refine a0e (fn:=Tryz.f122) (code:=a0b Tryz.f122) Tryz.func122 rfl (by kernel_rfl) (by have:=a1h (gj n M w).1 (gj n M w).2.1 w;simp only[a0C,a0j,Bool.and_true]at *; exact this) ?_
 intro sl hs
 have s0:sl 0=a:=hs 0
 dsimp only[Tryz.f122,a0b,Option.getD]
 simp(disch:=first|assumption|omega) only[go_sem,s0,a0R ha,a0x]
 refine a0f (fun i st=>st.sl 19=a∧st.sl 20=i64 (n:Nat)∧st.sl 21=i64 (i:Int)∧st.sl 5=i64 1∧st.sl 4= .ref 8192 (st.gn 8192) [] 0 i∧st.ro 8192 (st.gn 8192)=some (.row (rws (fun i=> .row (rws (fun j=>i64 (M i j)) w)) i))) n ?_ ?_ ?_
 ·refine Yaf ?_
  rfl
 ·rintro i sl ro gn hi ⟨s19,s20,s21,s5,s4,r8192⟩
  dsimp only at s19 s20 s21 s5 s4 r8192
  have hi':(i:Int)<(n:Nat):=by omega
  have hi1:i<(a1r M n w).length:=by rw[a0x];exact hi
  have hr:=a0m ha hi1
  have hi2:i+1≤4294967296:=by omega
  have e1:a0H (row (a1r M n w) i)= .row (rws (fun j=>i64 (M i j)) w):=by rw[a2V hi,a0H,a0y]
  have c1:=c0z hr (by rw[a1t hi];exact Nat.le_trans hw (by decide)) (by rw[a1t hi];exact hw0)
  rw[e1]at c1
  simp(disch:=first|assumption|omega) only[go_sem,s19,s20,s21,s4,hi',a0S ha hi1]
  refine a0c _ c1 PUt rfl rfl ?_
  simp(disch:=first|assumption|omega) only[go_sem,s19,s20,s21,s5,r8192,a0i,hi2]
  exact a0w (by omega)
 ·rintro sl ro gn ⟨s19,s20,s21,s5,s4,r8192⟩
  dsimp only at s19 s20 s21 s5 s4 r8192
  have hi': ¬((n:Nat):Int)<(n:Nat):=by omega
  simp(disch:=first|assumption|omega) only[go_sem,s20,s21,hi']
  refine a6y (fun k st=>st.sl 4= .ref 8192 (st.gn 8192) [] 0 n∧st.sl 8=i64 ((gj n M k).2.1:Nat)∧st.sl 5=i64 (gj n M k).2.2∧(∃u v,st.sl 9= .ptr u v [] 0∧st.ro u v=some (.bx [i64 (k:Int)])∧v≤st.gn u∧u≠8192∧u≠3)∧(∃τ:Nat→Nat,Arr st.ro st.gn 8192 (st.gn 8192) (fun i=>(3,τ i)) (gj n M k).1 n w)) w (Arr.unp (S:=8192) (g:=gn 8192) (b:=3) (n:=n) (w:=w) (M:=M) (by decide) (Ue r8192)).1 ?_ ?_ ?_
  ·simp only[b1i,b1S (show (8192:Nat)≠3 by decide), ↓za, ↓reduceIte,Nat.reduceEqDiff,zb]
   refine⟨s4,rfl,s5,⟨36864,gn 36864+1,rfl,?_,?_,by decide,by decide⟩,_,(Arr.unp (S:=8192) (g:=gn 8192) (b:=3) (n:=n) (w:=w) (M:=M) (by decide) (Ue r8192)).2⟩
   ·rw[a9a (by decide) (by decide)];simp only[↓za, ↓reduceIte,zb];rfl
   ·rw[b1S (by decide)];simp only[↓za, ↓reduceIte];exact Nat.le_refl _
  ·rintro k sl ro gn hk ⟨s4,s8,s5,q9,q⟩
   dsimp only at s4 s8 s5
   have hk':(k:Int)<(w:Nat):=by omega
   obtain⟨u,v,s9,r9,g9,u1,u3⟩:=q9
   obtain⟨τ,A⟩:=q
   dsimp only at s9 r9 g9 A
   have ok:=a3o (n:=n) hM k
   obtain⟨G,d,z,hX⟩: ∃G d z,gj n M k=(G,d,z):=⟨_,_,_,rfl⟩
   have hS:gj n M (k+1)=gst n k (G,d,z):=by rw[gj,hX]
   rw[hX]at A s8 s5 ok
   dsimp only at A s8 s5 ok
   obtain⟨hG,hd,hz⟩:=ok
   obtain⟨f1,f2,f3,f4⟩:=a2z G (k:=k) hd
   generalize hf:fdf G k n d=f at f1 f2 f3 f4
   have a1:=A.arr
   have a2:=A.rw 0 h0
   dsimp only at a1 a2
   simp(disch:=first|assumption|omega) only[go_sem,s4,hk',a1,a2,a0l,h0',h0,a4W,s9,r9]
   refine a8d [false,false,false,false,true] (by kernel_rfl) ?_
   simp(disch:=first|assumption|omega) only[go_sem,s4,s8,a1,s9,Option.map_some,Option.map_none,a4P,hd]
   have cI: ∀q:Int,(f=n→q= -1)→(f<n→q=((f-d:Nat):Int))→a0d Tryz.prog 108 [a2x (a1r (fun i j=>G (d+i) j) (n-d) w),.fn 145 [.iptr [i64 k]]] (i64 q):=by
    intro q q1 q2
    refine c3U (p:=fun x=>!decide (G (d+x) k=0)) (a1d _) (by rw[a0x];exact Nat.le_trans (Nat.le_trans (Nat.sub_le _ _) hn) (by decide)) rfl rfl (fun x hx=>?_) (fun h=>?_) (fun x hx h1 h2=>?_)
    ·have hx':x<n-d:=by rw[a0x]at hx;exact hx
     have:=c4R (a0m (a1d _) hx) (k:=k) (by rw[a1t hx'];exact hk)
     rw[a2V hx',a0P _ hk]at this
     exact this
    ·refine q1 (Decidable.byContradiction fun hne=>?_)
     have:=h (f-d) (by rw[a0x];omega)
     simp only[Bool.not_eq_false',decide_eq_true_eq]at this
     exact f4 (by omega) (by rw[show d+(f-d)=f by omega]at this;exact this)
    ·have hx':x<n-d:=by rw[a0x]at hx;exact hx
     simp only[Bool.not_eq_true',decide_eq_false_iff_not]at h1
     have:fdf G k n d=d+x:=b7N (by omega) (by omega) (fun y g1 g2=>by
      have:=h2 (y-d) (by omega)
      simp only[Bool.not_eq_false',decide_eq_true_eq]at this
      rw[show d+(y-d)=y by omega]at this;exact this) (fun _=>h1)
     rw[hf]at this
     rw[q2 (by omega)];omega
   by_cases hfn:f=n
   ·have e0:gst n k (G,d,z)=(G,d,0):=by simp only[gst,hf,hfn,if_true]
    refine a0z _ (cI (-1) (fun _=>rfl) (fun h=>by omega)) (.cons (A.exq (by omega) (by decide)) (.cons (a4o (.cons (b6b r9 (by decide)) .nil)) .nil)) rfl rfl rfl ?_
    simp(disch:=first|assumption|omega) only[go_sem,s4,s8,s9,r9]
    rw[hS,e0]
    refine⟨rfl,rfl,⟨159744,gn 159744+1,rfl,?_,?_,by decide,by decide⟩,τ,A.frame Ur (fun i hi=>by simp only[↓za, ↓reduceIte,Nat.reduceEqDiff,zb]) (fun i hi=>by simp only[↓za, ↓reduceIte,Nat.reduceEqDiff];exact Nat.le_refl _)⟩
    ·refine Ybp ?_
     exact congrArg (fun x=>some (AV.bx [x])) (a0w (by omega))
    ·exact Ur
   ·have hlt:f<n:=by omega
    refine a0z _ (cI ((f-d:Nat):Int) (fun h=>absurd h hfn) (fun _=>rfl)) (.cons (A.exq (by omega) (by decide)) (.cons (a4o (.cons (b6b r9 (by decide)) .nil)) .nil)) rfl rfl rfl ?_
    have e3:gst n k (G,d,z)=(elm (swp G f d) d k,d+1,(if d<f then-z % 55441 else z)*G f k % 55441):=by simp only[gst,hf,hfn,if_false]
    by_cases hfd:f=d
    ·have hz1:=hz
     have e4:(if d<f then-z % 55441 else z)=z:=if_neg (by omega)
     rw[e4]at e3
     have B:=A
     rw[←b7i G d]at B
     have e5:((f-d:Nat):Int)=0:=by omega
     rw[show swp G d d=swp G f d by rw[hfd]]at B
     have hdn0:d<n:=by omega
     have bd0:=A.rw d hdn0
     dsimp only at bd0
     simp(disch:=first|assumption|omega) only[go_sem,s4,s8,e5]
     have hdn:d<n:=by omega
     have b1:=B.arr
     have bd:=B.rw d hdn
     dsimp only at b1 bd
     have hl:swp G f d d k=G f k:=by unfold swp;rw[if_pos rfl]
     have hl2:=hG f k
     have hz2:=a3d hz1 hl2
     refine Yfp ?_
     refine a8d [false,false,false,false,true] (by kernel_rfl) ?_
     refine Yfk ?_
     refine a0c _ (c65 (a:=1) (b:=G f k) (by decide) (by decide) hl2.1 hl2.2) PUt rfl rfl ?_
     rw[c3W]
     refine Ygk ?_
     refine a0f (fun x st=>st.sl 4= .ref 8192 (st.gn 8192) [] 0 n∧st.sl 8=i64 (d:Nat)∧st.sl 5=i64 (z*G f k % 55441)∧st.sl 9= .ptr u v [] 0∧st.sl 12=i64 (pw (G f k) 55439)∧st.sl 91=i64 (w:Nat)∧st.sl 92=i64 (x:Int)∧(st.ro u v=some (.bx [i64 (k:Int)]))∧(v≤st.gn u)∧(Arr st.ro st.gn 8192 (st.gn 8192) (fun i=>(3,τ i)) (nmx (swp G f d) d k x) n w)) w ?_ ?_ ?_
     ·simp only[↓za, ↓reduceIte,Nat.reduceEqDiff,zb,s4,s8,s9]
      first|exact⟨rfl,g9,B.congr fun i _ j _=>a5R _ _ _ _ _⟩|exact⟨rfl,r9,g9,B.congr fun i _ j _=>a5R _ _ _ _ _⟩
     ·rintro x sl ro gn hx ⟨s4,s8,s5,s9,s12,s91,s92,r9,g9,B⟩
      dsimp only at s4 s8 s5 s9 s12 s91 s92
      have hx':(x:Int)<(w:Nat):=by omega
      dsimp only at r9 g9 B
      have b1:=B.arr
      have bd:=B.rw d hdn
      dsimp only at b1 bd
      have e7:=b9d (swp G f d) d k x
      have hq:=a3d (a2M hG f d d x) (a6I (G f k) 55439)
      have hx2:x+1≤w:=hx
      refine Ydg ?_
      refine a0r (by kernel_rfl) ?_
      refine Yfl ?_
      refine⟨a0w (by omega),g9,(B.wr (M':=nmx (swp G f d) d k (x+1)) hdn ?_ fun i h1 _ j _=>b1V fun h=>h1 h.1)⟩
      rw[a0X]
      refine a0g fun j _=>?_
      split
      ·rename_i e;subst e;rw[b4S];unfold nrm;rw[hl]
      ·rename_i e;rw[b1V fun h=>e h.2]
     ·rintro sl ro gn ⟨s4,s8,s5,s9,s12,s91,s92,r9,g9,B⟩
      dsimp only at s4 s8 s5 s9 s12 s91 s92
      have hx': ¬((w:Nat):Int)<(w:Nat):=by omega
      dsimp only at r9 g9 B
      replace B:=B.congr fun i _ j hj=>b4Q hj
      have b1:=B.arr
      simp(disch:=first|assumption|omega) only[go_sem,s4,s91,s92,hx',b1]
      refine a0f (fun x st=>st.sl 4= .ref 8192 (st.gn 8192) [] 0 n∧st.sl 8=i64 (d:Nat)∧st.sl 5=i64 (z*G f k % 55441)∧st.sl 9= .ptr u v [] 0∧st.sl 112= .ref 8192 (st.gn 8192) [] 0 n∧st.sl 113=i64 (n:Nat)∧st.sl 114=i64 (x:Int)∧(st.ro u v=some (.bx [i64 (k:Int)]))∧(v≤st.gn u)∧(Arr st.ro st.gn 8192 (st.gn 8192) (fun i=>(3,τ i)) (elx G f d k x) n w)) n ?_ ?_ ?_
      ·simp only[↓za, ↓reduceIte,Nat.reduceEqDiff,zb,s4,s8,s9,s5]
       first|exact⟨rfl,g9,B⟩|exact⟨rfl,r9,g9,B⟩
      ·rintro x sl ro gn hx ⟨s4,s8,s5,s9,s112,s113,s114,r9,g9,B⟩
       dsimp only at s4 s8 s5 s9 s112 s113 s114
       have hx':(x:Int)<(n:Nat):=by omega
       dsimp only at r9 g9 B
       have b1:=B.arr
       have bx:=B.rw x hx
       have bd:=B.rw d hdn
       dsimp only at b1 bx bd
       by_cases hxd:x=d
       ·have hxd':(x:Int)=d:=by omega
        refine Yer ?_
        first|exact⟨a0w (by omega),g9,B.congr fun i _ j _=>by rw[hxd];exact a4Q⟩|exact⟨a0w (by omega),r9,g9,B.congr fun i _ j _=>by rw[hxd];exact a4Q⟩
       ·have hxd': ¬(x:Int)=d:=by omega
        have eg: ∀j,elx G f d k x x j=swp G f d x j:=fun j=>a6L hxd (Nat.le_refl _)
        simp only[eg,a9g]at bx bd
        by_cases h0:swp G f d x k=0
        ·refine Ydn ?_
         exact⟨a0w (by omega),g9,B.congr fun i _ j _=>b1T hG hxd h0⟩
        ·refine Ydj ?_
         refine a0f (fun y st=>st.sl 4= .ref 8192 (st.gn 8192) [] 0 n∧st.sl 8=i64 (d:Nat)∧st.sl 5=i64 (z*G f k % 55441)∧st.sl 9= .ptr u v [] 0∧st.sl 112= .ref 8192 (st.gn 8192) [] 0 n∧st.sl 113=i64 (n:Nat)∧st.sl 114=i64 (x:Int)∧st.sl 15= .ref 3 (τ x) [] 0 w∧st.sl 16=i64 (swp G f d x k)∧st.sl 134=i64 (w:Nat)∧st.sl 135=i64 (y:Int)∧(st.ro u v=some (.bx [i64 (k:Int)]))∧(v≤st.gn u)∧(Arr st.ro st.gn 8192 (st.gn 8192) (fun i=>(3,τ i)) (pex G f d k x y) n w)) w ?_ ?_ ?_
         ·simp only[↓za, ↓reduceIte,Nat.reduceEqDiff,zb,s4,s8,s9,s5,s112,s113,s114]
          exact⟨rfl,r9,g9,B.congr fun i _ j _=>b2e _ _ _ _ _ _ _⟩
         ·rintro y sl ro gn hy ⟨s4,s8,s5,s9,s112,s113,s114,s15,s16,s134,s135,r9,g9,B⟩
          dsimp only at s4 s8 s5 s9 s112 s113 s114 s15 s16 s134 s135
          have hy':(y:Int)<(w:Nat):=by omega
          dsimp only at r9 g9 B
          have b1:=B.arr
          have bx:=B.rw x hx
          have bd:=B.rw d hdn
          dsimp only at b1 bx bd
          simp only[c2m hxd]at bd
          have e7:=b9i (G:=G) (f:=f) (d:=d) (k:=k) (y:=y) hxd
          have q1:=a2M hG f d x y
          have q2:=a2M hG f d x k
          have q3:=a8r (swp G f d) d k y
          have q4:=a3d q2 q3
          unfold num at q1
          have hy2:y+1≤w:=hy
          refine Ybh ?_
          refine a0A _ (b0s (by omega) (by omega)) PUt rfl ?_
          refine Ybh ?_
          refine a0r (by kernel_rfl) ?_
          refine Ydx ?_
          refine⟨a0w (by omega),g9,(B.wr (M':=pex G f d k x (y+1)) hx ?_ fun i h1 _ j _=>b1K fun h=>h1 h.1)⟩
          rw[a0X]
          refine a0g fun j _=>?_
          split
          ·rename_i e;subst e;rw[b6c _ _ _ _ _ _ hxd]
          ·rename_i e;rw[b1K fun h=>e h.2]
         ·rintro sl ro gn ⟨s4,s8,s5,s9,s112,s113,s114,s15,s16,s134,s135,r9,g9,B⟩
          dsimp only at s4 s8 s5 s9 s112 s113 s114 s15 s16 s134 s135
          have hy': ¬((w:Nat):Int)<(w:Nat):=by omega
          dsimp only at r9 g9 B
          refine Yfe ?_
          exact⟨a0w (by omega),r9,g9,B.congr fun i _ j hj=>b5k hxd hj⟩
      ·rintro sl ro gn ⟨s4,s8,s5,s9,s112,s113,s114,r9,g9,B⟩
       dsimp only at s4 s8 s5 s9 s112 s113 s114
       have hx': ¬((n:Nat):Int)<(n:Nat):=by omega
       dsimp only at r9 g9 B
       have b1:=B.arr
       refine Yeh ?_
       rw[hS,e3]
       dsimp only
       refine⟨a0w (by omega),rfl,⟨159744,gn 159744+1,rfl,?_,?_,by decide,by decide⟩,τ,(B.congr fun i hi j _=>(b0E hi).symm).frame Ur (fun i hi=>by simp only[↓za, ↓reduceIte,Nat.reduceEqDiff,zb]) (fun i hi=>by simp only[↓za, ↓reduceIte,Nat.reduceEqDiff];exact Nat.le_refl _)⟩
       ·refine Ybp ?_
        exact congrArg (fun x=>some (AV.bx [x])) (a0w (by omega))
       ·exact Ur
    ·have hp:(0:Int)<((f-d:Nat):Int):=by omega
     have hp2: ¬((f-d:Nat):Int)<0:=by omega
     have e1:(d:Int)+((f-d:Nat):Int)=(f:Nat):=by omega
     have e4:(if d<f then-z % 55441 else z)= -z % 55441:=if_pos (by omega)
     rw[e4,show-z % 55441=(0-z) % 55441 by rw[Int.zero_sub]]at e3
     have hdn0:d<n:=by omega
     have hdn2:d+1≤n:=hdn0
     have hlt2:f+1≤n:=hlt
     have bd0:=A.rw d hdn0
     have bf0:=A.rw f hlt
     dsimp only at bd0 bf0
     simp(disch:=first|assumption|omega) only[go_sem,s4,s8,a1,hp,hp2,e1,bd0,bf0,a0l,hdn2,hlt2,zfe,List.length_set,hdn0,hlt]
     refine a0r (by kernel_rfl) ?_
     have hz0:=hz
     unfold num at hz0
     simp(disch:=first|assumption|omega) only[go_sem,s5]
     refine a0c _ (b0s (by omega) (by omega)) PUt rfl rfl ?_
     have B:=A.swap (d:=d) (f:=f) (X1:= .bx ((rws (fun i=>AV.ref 3 (τ i) [] 0 w) n).set d (AV.ref 3 (τ f) [] 0 w))) hdn0 hlt
     dsimp only at B
     generalize hr2:upr (upr ro 8192 (gn 8192) (.bx ((rws (fun i=>AV.ref 3 (τ i) [] 0 w) n).set d (AV.ref 3 (τ f) [] 0 w)))) 8192 (gn 8192) (.bx (((rws (fun i=>AV.ref 3 (τ i) [] 0 w) n).set d (AV.ref 3 (τ f) [] 0 w)).set f (AV.ref 3 (τ d) [] 0 w)))=ro2 at B ⊢
     replace r9:ro2 u v=some (.bx [i64 k]):=by rw[←hr2,a1Y u1,a1Y u1];exact r9
     have hz1:=a0E (0-z)
     obtain⟨ρ,B⟩: ∃ρ:Nat→Nat,Arr ro2 gn 8192 (gn 8192) (fun i=>(3,ρ i)) (swp G f d) n w:=⟨_,B⟩
     have hdn:d<n:=by omega
     have b1:=B.arr
     have bd:=B.rw d hdn
     dsimp only at b1 bd
     have hl:swp G f d d k=G f k:=by unfold swp;rw[if_pos rfl]
     have hl2:=hG f k
     have hz2:=a3d hz1 hl2
     refine Yfp ?_
     refine a8d [false,false,false,false,true] (by kernel_rfl) ?_
     refine Yfk ?_
     refine a0c _ (c65 (a:=1) (b:=G f k) (by decide) (by decide) hl2.1 hl2.2) PUt rfl rfl ?_
     rw[c3W]
     refine Ygk ?_
     refine a0f (fun x st=>st.sl 4= .ref 8192 (st.gn 8192) [] 0 n∧st.sl 8=i64 (d:Nat)∧st.sl 5=i64 (((0-z) % 55441)*G f k % 55441)∧st.sl 9= .ptr u v [] 0∧st.sl 12=i64 (pw (G f k) 55439)∧st.sl 91=i64 (w:Nat)∧st.sl 92=i64 (x:Int)∧(st.ro u v=some (.bx [i64 (k:Int)]))∧(v≤st.gn u)∧(Arr st.ro st.gn 8192 (st.gn 8192) (fun i=>(3,ρ i)) (nmx (swp G f d) d k x) n w)) w ?_ ?_ ?_
     ·simp only[↓za, ↓reduceIte,Nat.reduceEqDiff,zb,s4,s8,s9]
      first|exact⟨rfl,g9,B.congr fun i _ j _=>a5R _ _ _ _ _⟩|exact⟨rfl,r9,g9,B.congr fun i _ j _=>a5R _ _ _ _ _⟩
     ·rintro x sl ro gn hx ⟨s4,s8,s5,s9,s12,s91,s92,r9,g9,B⟩
      dsimp only at s4 s8 s5 s9 s12 s91 s92
      have hx':(x:Int)<(w:Nat):=by omega
      dsimp only at r9 g9 B
      have b1:=B.arr
      have bd:=B.rw d hdn
      dsimp only at b1 bd
      have e7:=b9d (swp G f d) d k x
      have hq:=a3d (a2M hG f d d x) (a6I (G f k) 55439)
      have hx2:x+1≤w:=hx
      refine Ydg ?_
      refine a0r (by kernel_rfl) ?_
      refine Yfl ?_
      refine⟨a0w (by omega),g9,(B.wr (M':=nmx (swp G f d) d k (x+1)) hdn ?_ fun i h1 _ j _=>b1V fun h=>h1 h.1)⟩
      rw[a0X]
      refine a0g fun j _=>?_
      split
      ·rename_i e;subst e;rw[b4S];unfold nrm;rw[hl]
      ·rename_i e;rw[b1V fun h=>e h.2]
     ·rintro sl ro gn ⟨s4,s8,s5,s9,s12,s91,s92,r9,g9,B⟩
      dsimp only at s4 s8 s5 s9 s12 s91 s92
      have hx': ¬((w:Nat):Int)<(w:Nat):=by omega
      dsimp only at r9 g9 B
      replace B:=B.congr fun i _ j hj=>b4Q hj
      have b1:=B.arr
      simp(disch:=first|assumption|omega) only[go_sem,s4,s91,s92,hx',b1]
      refine a0f (fun x st=>st.sl 4= .ref 8192 (st.gn 8192) [] 0 n∧st.sl 8=i64 (d:Nat)∧st.sl 5=i64 (((0-z) % 55441)*G f k % 55441)∧st.sl 9= .ptr u v [] 0∧st.sl 112= .ref 8192 (st.gn 8192) [] 0 n∧st.sl 113=i64 (n:Nat)∧st.sl 114=i64 (x:Int)∧(st.ro u v=some (.bx [i64 (k:Int)]))∧(v≤st.gn u)∧(Arr st.ro st.gn 8192 (st.gn 8192) (fun i=>(3,ρ i)) (elx G f d k x) n w)) n ?_ ?_ ?_
      ·simp only[↓za, ↓reduceIte,Nat.reduceEqDiff,zb,s4,s8,s9,s5]
       first|exact⟨rfl,g9,B⟩|exact⟨rfl,r9,g9,B⟩
      ·rintro x sl ro gn hx ⟨s4,s8,s5,s9,s112,s113,s114,r9,g9,B⟩
       dsimp only at s4 s8 s5 s9 s112 s113 s114
       have hx':(x:Int)<(n:Nat):=by omega
       dsimp only at r9 g9 B
       have b1:=B.arr
       have bx:=B.rw x hx
       have bd:=B.rw d hdn
       dsimp only at b1 bx bd
       by_cases hxd:x=d
       ·have hxd':(x:Int)=d:=by omega
        refine Yer ?_
        first|exact⟨a0w (by omega),g9,B.congr fun i _ j _=>by rw[hxd];exact a4Q⟩|exact⟨a0w (by omega),r9,g9,B.congr fun i _ j _=>by rw[hxd];exact a4Q⟩
       ·have hxd': ¬(x:Int)=d:=by omega
        have eg: ∀j,elx G f d k x x j=swp G f d x j:=fun j=>a6L hxd (Nat.le_refl _)
        simp only[eg,a9g]at bx bd
        by_cases h0:swp G f d x k=0
        ·refine Ydn ?_
         exact⟨a0w (by omega),g9,B.congr fun i _ j _=>b1T hG hxd h0⟩
        ·refine Ydj ?_
         refine a0f (fun y st=>st.sl 4= .ref 8192 (st.gn 8192) [] 0 n∧st.sl 8=i64 (d:Nat)∧st.sl 5=i64 (((0-z) % 55441)*G f k % 55441)∧st.sl 9= .ptr u v [] 0∧st.sl 112= .ref 8192 (st.gn 8192) [] 0 n∧st.sl 113=i64 (n:Nat)∧st.sl 114=i64 (x:Int)∧st.sl 15= .ref 3 (ρ x) [] 0 w∧st.sl 16=i64 (swp G f d x k)∧st.sl 134=i64 (w:Nat)∧st.sl 135=i64 (y:Int)∧(st.ro u v=some (.bx [i64 (k:Int)]))∧(v≤st.gn u)∧(Arr st.ro st.gn 8192 (st.gn 8192) (fun i=>(3,ρ i)) (pex G f d k x y) n w)) w ?_ ?_ ?_
         ·simp only[↓za, ↓reduceIte,Nat.reduceEqDiff,zb,s4,s8,s9,s5,s112,s113,s114]
          exact⟨rfl,r9,g9,B.congr fun i _ j _=>b2e _ _ _ _ _ _ _⟩
         ·rintro y sl ro gn hy ⟨s4,s8,s5,s9,s112,s113,s114,s15,s16,s134,s135,r9,g9,B⟩
          dsimp only at s4 s8 s5 s9 s112 s113 s114 s15 s16 s134 s135
          have hy':(y:Int)<(w:Nat):=by omega
          dsimp only at r9 g9 B
          have b1:=B.arr
          have bx:=B.rw x hx
          have bd:=B.rw d hdn
          dsimp only at b1 bx bd
          simp only[c2m hxd]at bd
          have e7:=b9i (G:=G) (f:=f) (d:=d) (k:=k) (y:=y) hxd
          have q1:=a2M hG f d x y
          have q2:=a2M hG f d x k
          have q3:=a8r (swp G f d) d k y
          have q4:=a3d q2 q3
          unfold num at q1
          have hy2:y+1≤w:=hy
          refine Ybh ?_
          refine a0A _ (b0s (by omega) (by omega)) PUt rfl ?_
          refine Ybh ?_
          refine a0r (by kernel_rfl) ?_
          refine Ydx ?_
          refine⟨a0w (by omega),g9,(B.wr (M':=pex G f d k x (y+1)) hx ?_ fun i h1 _ j _=>b1K fun h=>h1 h.1)⟩
          rw[a0X]
          refine a0g fun j _=>?_
          split
          ·rename_i e;subst e;rw[b6c _ _ _ _ _ _ hxd]
          ·rename_i e;rw[b1K fun h=>e h.2]
         ·rintro sl ro gn ⟨s4,s8,s5,s9,s112,s113,s114,s15,s16,s134,s135,r9,g9,B⟩
          dsimp only at s4 s8 s5 s9 s112 s113 s114 s15 s16 s134 s135
          have hy': ¬((w:Nat):Int)<(w:Nat):=by omega
          dsimp only at r9 g9 B
          refine Yfe ?_
          exact⟨a0w (by omega),r9,g9,B.congr fun i _ j hj=>b5k hxd hj⟩
      ·rintro sl ro gn ⟨s4,s8,s5,s9,s112,s113,s114,r9,g9,B⟩
       dsimp only at s4 s8 s5 s9 s112 s113 s114
       have hx': ¬((n:Nat):Int)<(n:Nat):=by omega
       dsimp only at r9 g9 B
       have b1:=B.arr
       refine Yeh ?_
       rw[hS,e3]
       dsimp only
       refine⟨a0w (by omega),rfl,⟨159744,gn 159744+1,rfl,?_,?_,by decide,by decide⟩,ρ,(B.congr fun i hi j _=>(b0E hi).symm).frame Ur (fun i hi=>by simp only[↓za, ↓reduceIte,Nat.reduceEqDiff,zb]) (fun i hi=>by simp only[↓za, ↓reduceIte,Nat.reduceEqDiff];exact Nat.le_refl _)⟩
       ·refine Ybp ?_
        exact congrArg (fun x=>some (AV.bx [x])) (a0w (by omega))
       ·exact Ur
  ·rintro sl ro gn ⟨s4,s8,s5,q9,q⟩
   dsimp only at s4 s8 s5
   have hk': ¬((w:Nat):Int)<(w:Nat):=by omega
   obtain⟨u,v,s9,r9,g9,u1,u3⟩:=q9
   obtain⟨τ,A⟩:=q
   dsimp only at s9 r9 g9 A
   have ok:=a3o (n:=n) hM w
   have a1:=A.arr
   have a2:=A.rw 0 h0
   dsimp only at a1 a2
   simp(disch:=first|assumption|omega) only[go_sem,s4,hk',a1,a2,a0l,h0',h0,a4W,s9,r9]
   refine a8d [false,false,false,false,true] (by kernel_rfl) ?_
   simp(disch:=first|assumption|omega) only[go_sem,s4,s8,s5,a1,Option.map_none,Option.map_some,a3p,ok.2.1]
   obtain⟨dl,ho⟩:=A.out ok.2.1
   simp only[a1Z,a1H,a2g, ↓za, ↓reduceIte,Nat.reduceEqDiff,ho]
   rfl
def mlC(n:Nat)(A B:Nat→Nat→Int)(i j:Nat):Int:=sm (fun k=>A i k*B k j) n % 55441
theorem a4B(n:Nat)(A B:Nat→Nat→Int):a1G (mlC n A B):=fun _ _=>a0E _
theorem a7X{n m:Nat}{A:Nat→Nat→Int}(hA:a1G A):a7u (a1r A n m):=fun i j=>by
 by_cases hi:i<n
 ·by_cases hj:j<m
  ·rw[a6B hi hj];exact hA i j
  ·rw[a2V hi]
   have:atI (rws (fun j=>A i j) m) j=0:=by unfold atI;rw[List.getD_eq_getElem?_getD,List.getElem?_eq_none (by rw[zfe];omega)];rfl
   rw[this];unfold num;decide
 ·have:row (a1r A n m) i=[]:=by unfold row;rw[List.getD_eq_getElem?_getD,List.getElem?_eq_none (by rw[a0x];omega)];rfl
  rw[this]
  show num (atI [] j)
  unfold num atI
  simp
theorem c3S{a b:AV}{n:Nat}{A B:Nat→Nat→Int}(ha:a2t a (a1r A n n))(hb:a2t b (a1r B n n))(h0:0<n)(hn:n≤65536)(hA:a1G A)(hB:a1G B):a0d Tryz.prog 142 [a,b] (a2o (mlC n A B) n n):=by
 have hN:n≤a0G:=Nat.le_trans hn (by decide)
 have h:=c92 ha hb (by rw[a0x];exact h0) (by rw[a0x];exact hN) (by rw[a0x];exact hN) (fun i hi=>by rw[a0x]at hi ⊢;rw[a1t hi]) (fun i hi=>by rw[a0x]at hi ⊢;rw[a1t hi];exact Nat.le_refl _) (a7X hA) (a7X hB)
 have e:a0I (tms (a1r A n n) (a1r B n n))=a2o (mlC n A B) n n:=by
  show a0I (a1r (fun i j=>tmE (a1r A n n) (a1r B n n) i j) (a1r A n n).length (a1r B n n).length)=_
  rw[a4Z,a0x,a0x]
  refine b5r fun i j hi hj=>?_
  unfold tmE mlC
  rw[a0x]
  exact congrArg (· % 55441) (a0k fun k hk=>by rw[a6B hi hk,a6B hk hj])
 rw[e]at h;exact h
theorem b3m{a:AV}{n:Nat}{A:Nat→Nat→Int}{v:Int}(ha:a2t a (a1r A n n))(hn:n≤65536)(hA:a1G A)(hv:num v):a0d Tryz.prog 121 [a,i64 v] (a2o (lsM A v) n n):=by
 have hN:n≤4294967296:=by omega
 have hl:(a1r A n n).length=n:=a0x _ _ _
 refine a0e (fn:=Tryz.f121) (code:=a0b Tryz.f121) Tryz.func121 rfl (by kernel_rfl) (a1h _ _ _) ?_
 intro sl hs
 have s0:sl 0=a:=hs 0
 have s1:sl 1=i64 v:=hs 1
 dsimp only[Tryz.f121,a0b,Option.getD]
 simp(disch:=first|assumption|omega) only[go_sem,s0,a0R ha,hl]
 refine a0f (fun i st=>st.sl 0=a∧st.sl 1=i64 v∧st.sl 10=a∧st.sl 11=i64 (n:Nat)∧st.sl 12=i64 (i:Int)∧st.sl 5= .ref 8192 (st.gn 8192) [] 0 i∧st.ro 8192 (st.gn 8192)=some (.row (rws (fun i=> .row (rws (fun j=>i64 (lsM A v i j)) n)) i))) n ?_ ?_ ?_
 ·refine Yac ?_
  rfl
 ·rintro i sl ro gn hi ⟨s0,s1,s10,s11,s12,s5,r8192⟩
  dsimp only at s0 s1 s10 s11 s12 s5 r8192
  have hi':(i:Int)<(n:Nat):=by omega
  have hi2:i+1≤4294967296:=by omega
  have hr:=a0m ha (k:=i) (by rw[hl];exact hi)
  have lr:(row (a1r A n n) i).length=n:=a1t hi
  have er:row (a1r A n n) i=rws (fun j=>A i j) n:=a2V hi
  have nv:=hA i i
  unfold num at nv hv
  have c:=c0z hr (by rw[lr];unfold a0G;omega) (by omega)
  have cm:=b0s (x:=A i i-v) (by omega) (by omega)
  simp(disch:=first|assumption|omega) only[go_sem,s10,s11,s12,hi']
  refine a0c _ c PUt rfl rfl ?_
  rw[er]
  simp(disch:=first|assumption|omega) only[go_sem,s1,a0i,zfe,a0y,a0l,hi]
  refine a0c _ cm PUt rfl rfl ?_
  simp(disch:=first|assumption|omega) only[go_sem,s0,s1,s10,s11,s12,s5,r8192,hi,a0X,hi2]
  refine⟨a0w (by omega),?_⟩
  have e:(AV.row (rws (fun j=>if j=i then AV.sc (Value.int IntKind.i64 ((A i i-v) % 55441))else i64 (A i j)) n))= .row (rws (fun j=>i64 (lsM A v i j)) n):=congrArg AV.row (a0g fun j _=>by unfold lsM;split<;>rfl)
  rw[e]
  exact congrArg (fun z=>some (AV.row z)) (zfm (fun i=>AV.row (rws (fun j=>i64 (lsM A v i j)) n)) i)
 ·rintro sl ro gn ⟨s0,s1,s10,s11,s12,s5,r8192⟩
  dsimp only at s0 s1 s10 s11 s12 s5 r8192
  have hi': ¬((n:Nat):Int)<(n:Nat):=by omega
  simp(disch:=first|assumption|omega) only[go_sem,s11,s12,s5,hi']
  exact Yak
def flm(A:Nat→Nat→Int)(n:Nat):Nat→(Nat→Nat→Int)×Int
 |0=>(fun _ _=>0,1)
 |k+1=>(lsM (mlC n A (flm A n k).1) (-(flm A n k).2 % 55441),qt (-(sm (fun i=>mlC n A (lsM (mlC n A (flm A n k).1) (-(flm A n k).2 % 55441)) i i) n % 55441) % 55441) ((k+1:Nat):Int))
theorem c2f(a b:Int):num (qt a b):=a0E _
theorem a7x(A:Nat→Nat→Int)(n:Nat): ∀k,a1G (flm A n k).1∧num (flm A n k).2
 |0=>⟨fun _ _=>by show num 0;unfold num;decide,by show num 1;unfold num;decide⟩
 |k+1=>⟨a3C (a4B _ _ _) _,c2f _ _⟩
def chL(A:Nat→Nat→Int)(n:Nat):List Int:=rws (fun j=>(flm A n (n-j)).2) (n+1)
theorem c0C(A:Nat→Nat→Int){n:Nat}(hn:n≤16):Fad A n (fun k=>(flm A n k).1) (fun k=>(flm A n k).2) where
 m0:=fun x y _ _=>MM.rfl
 c0:=MM.rfl
 ms:=fun k hk x y hx hy=>by
  show MM (lsM (mlC n A (flm A n k).1) (-(flm A n k).2 % 55441) x y) _
  unfold lsM
  by_cases e:y=x
  ·subst e
   rw[if_pos rfl,if_pos rfl]
   refine(MM.mod _).trans ((MM.sub (MM.mod _) (MM.mod _)).trans (MM.of_eq ?_))
   omega
  ·rw[if_neg e,if_neg (fun h=>e h.symm),Int.add_zero]
   exact MM.mod _
 cs:=fun k hk=>by
  show MM (((k+1:Nat):Int)*qt (-(sm (fun i=>mlC n A (flm A n (k+1)).1 i i) n % 55441) % 55441) ((k+1:Nat):Int)) _
  have hb:num ((k+1:Nat):Int):=by unfold num;omega
  have e1:=a4y hb (by omega)
  generalize ((k+1:Nat):Int)=b at*
  have e2:MM (-(sm (fun i=>mlC n A (flm A n (k+1)).1 i i) n % 55441) % 55441) (-sm (fun i=>sm (fun z=>A i z*(flm A n (k+1)).1 z i) n) n):=
   (MM.mod _).trans ((MM.mod _).trans (a1P fun i _=>MM.mod _)).neg
  generalize-(sm (fun i=>mlC n A (flm A n (k+1)).1 i i) n % 55441) % 55441=t at e2 ⊢
  refine MM.trans ?_ e2
  have e3:MM (b*qt t b) (b*(t*pw b 55439)):=MM.mul MM.rfl (MM.mod _)
  refine e3.trans ?_
  have e4:b*(t*pw b 55439)=t*(pw b 55439*b):=by rw[Int.mul_left_comm,Int.mul_comm b]
  rw[e4]
  exact(MM.mul MM.rfl e1).trans (MM.of_eq (Int.mul_one _))
theorem c2H(c:Nat→Int)(v:Int): ∀m:Nat,MM (hv v (rws (fun j=>c (m-j)) (m+1))) (muH c v (m+1))
 |0=>by
  show MM ((0*v+c 0) % 55441) (v*0+c 0)
  refine(MM.mod _).trans (MM.of_eq ?_)
  omega
 |m+1=>by
  have e:rws (fun j=>c (m+1-j)) (m+1+1)=c (m+1)::rws (fun j=>c (m-j)) (m+1):=by
   unfold rws
   rw[List.range_succ_eq_map,List.map_cons,List.map_map]
   congr 1
   refine List.map_congr_left fun j _=>?_
   show c (m+1-(j+1))=c (m-j)
   congr 1
   omega
  rw[e]
  show MM ((hv v (rws (fun j=>c (m-j)) (m+1))*v+c (m+1)) % 55441) (v*muH c v (m+1)+c (m+1))
  refine(MM.mod _).trans (MM.add ((MM.mul (c2H c v m) MM.rfl).trans (MM.of_eq (Int.mul_comm _ _))) MM.rfl)
theorem b7U{A:Nat→Nat→Int}{n:Nat}{v:Int}(hn:n≤16)(h:Eig A n v):hv v (chL A n)=0:=by
 obtain⟨w,⟨x,hx,h0⟩,hw⟩:=h
 have h1:=b6L (c0C A hn) hn hw hx h0
 exact a8j ((c2H (fun k=>(flm A n k).2) v n).trans h1) (a7b _ _)
theorem b5U(A:Nat→Nat→Int)(n:Nat):Mon (chL A n):=by
 unfold Mon chL rws
 rw[List.range_succ,List.map_append]
 simp
 rfl
theorem c0R(A:Nat→Nat→Int)(n:Nat):(chL A n).length=n+1:=zfe _ _
theorem cTrM{a:AV}{n:Nat}{M:Nat→Nat→Int}(ha:a2t a (a1r M n n))(hn:n≤65536)(hM:a1G M):a0d Tryz.prog 143 [a] (i64 (sm (fun i=>M i i) n % 55441)):=by
 have c:=cTrI ha (by rw[a0x];exact hn) (fun i hi=>by rw[a0x]at hi;rw[a1t hi];exact hi) (a7X hM)
 rw[a0x,a0k (g:=fun i=>M i i) fun i hi=>a6B hi hi]at c
 exact c
theorem c5j{a:AV}{n:Nat}{A:Nat→Nat→Int}(ha:a2t a (a1r A n n))(h0:0<n)(hn:n≤1000)(hA:a1G A):a0d Tryz.prog 118 [a] (a0H (chL A n)):=by
 have hN:n≤4294967296:=by omega
 have hl:(a1r A n n).length=n:=a0x _ _ _
 have e0:a0H (chL A n)= .row (rws (fun j=>i64 (flm A n (n-j)).2) (n+1)):=by unfold chL;simp only[a0H,a0y]
 have hz:=c4k (n:=n) (m:=n) hN hN
 refine a0e (fn:=Tryz.f118) (code:=a0b Tryz.f118) Tryz.func118 rfl (by kernel_rfl) (a1b _) ?_
 intro sl hs
 have s0:sl 0=a:=hs 0
 rw[e0]
 have en:(n:Int)+1=((n+1:Nat):Int):=by omega
 have hm':((n+1:Nat):Int)≤((4294967296:Nat):Int):=by omega
 dsimp only[Tryz.f118,a0b,Option.getD]
 simp(disch:=first|assumption|omega) only[go_sem,s0,a0R ha,hl,en,b0i,Int.natCast_nonneg,Int.le_refl,Int.toNat_natCast,hm',List.getD_cons_zero,a5o,a0X]
 refine a0c _ hz PUt rfl rfl ?_
 simp(disch:=first|assumption|omega) only[go_sem,a0i,zfe]
 refine a0f (fun k st=>st.sl 0=a∧st.sl 3=i64 (n:Nat)∧st.sl 4= .ref 12320 1 [] 0 (n+1)∧st.ro 12320 1=some (.row (rws (fun j=>i64 (if n-k≤j then(flm A n (n-j)).2 else 0)) (n+1)))∧st.sl 6=i64 ((k:Int)+1)∧((k=0∧st.sl 5= .ref 20512 1 [] 0 n∧st.ro 20512 1=some (a2o (fun _ _=>0) n n))∨(0<k∧st.sl 5= .ref 37056 (st.gn 37056) [] 0 n∧st.ro 37056 (st.gn 37056)=some (a2o (flm A n k).1 n n)))) n ?_ ?_ ?_
 ·refine Yaf ?_
  refine⟨congrArg (fun z=>some (AV.row z)) (a0g fun j hj=>?_),a0w (by omega),.inl trivial⟩
  by_cases e:j=n
  ·subst e
   rw[if_pos rfl,if_pos (by omega),Nat.sub_self]
   rfl
  ·rw[if_neg e,if_neg (by omega)]
 ·rintro k sl ro gn hk ⟨s0,s3,s4,r12320,s6,q⟩
  dsimp only at s0 s3 s4 r12320 s6
  have hk':(k:Int)<(n:Nat):=by omega
  dsimp only at q
  have nk:=(a7x A n k).2
  have nk':=nk
  unfold num at nk'
  have f1:(k:Int)+1≤(n:Int):=by omega
  have f2:(n:Int)-((k:Int)+1)=((n-(k+1):Nat):Int):=by omega
  have f3:((n-(k+1):Nat):Int)+1=((n-k:Nat):Int):=by omega
  have f4:(if n-k≤n-k then(flm A n (n-(n-k))).2 else 0)=(flm A n k).2:=by rw[if_pos (Nat.le_refl _)];congr 1;congr 1;omega
  have f5:n-k<n+1:=by omega
  have f6:n-(k+1)<n+1:=by omega
  have f7:((k:Int)+1)=((k+1:Nat):Int):=by omega
  have cmod:=b0s (x:=0-(flm A n k).2) (by omega) (by omega)
  have nl:num (-(flm A n k).2 % 55441):=a0E _
  have n2:num (sm (fun i=>mlC n A (lsM (mlC n A (flm A n k).1) (-(flm A n k).2 % 55441)) i i) n % 55441):=a0E _
  have n2':=n2
  unfold num at n2'
  have cmod2:=b0s (x:=0-sm (fun i=>mlC n A (lsM (mlC n A (flm A n k).1) (-(flm A n k).2 % 55441)) i i) n % 55441) (by omega) (by omega)
  have n3:num (-(sm (fun i=>mlC n A (lsM (mlC n A (flm A n k).1) (-(flm A n k).2 % 55441)) i i) n % 55441) % 55441):=a0E _
  have cdv:=c65 (a:= -(sm (fun i=>mlC n A (lsM (mlC n A (flm A n k).1) (-(flm A n k).2 % 55441)) i i) n % 55441) % 55441) (b:=((k+1:Nat):Int)) n3.1 n3.2 (by omega) (by omega)
  rcases q with⟨k0,q5,qr⟩|⟨k0,q5,qr⟩
  ·have qr':ro 20512 1=some (a2o (flm A n k).1 n n):=by rw[k0];exact qr
   simp(disch:=first|assumption|omega) only[go_sem,s0,s3,s6,q5,qr']
   refine a1V _ (c3S ha (a1g (flm A n k).1 n n) h0 (by omega) hA (a7x A n k).1) AXt rfl (a2a _ _ _) ?_
   simp(disch:=first|assumption|omega) only[go_sem,s3,s4,r12320,s6,a0i,zfe,f2,f3,a0l,f5,f4]
   refine a0A _ cmod rfl rfl ?_
   simp(disch:=first|assumption|omega) only[go_sem,Int.zero_sub]
   refine a1V _ (b3m (a1g (mlC n A (flm A n k).1) n n) (by omega) (a4B _ _ _) nl) AXt rfl (a2a _ _ _) ?_
   refine Ycb ?_
   refine a0r (by kernel_rfl) ?_
   simp(disch:=first|assumption|omega) only[go_sem,s0,s3,s4,s6,f2]
   refine a0z _ (c3S ha (a1g (lsM (mlC n A (flm A n k).1) (-(flm A n k).2 % 55441)) n n) h0 (by omega) hA (a3C (a4B _ _ _) _)) AXt rfl rfl (a2a _ _ _) ?_
   refine Ycb ?_
   refine a0z _ (cTrM (a1g (mlC n A (lsM (mlC n A (flm A n k).1) (-(flm A n k).2 % 55441))) n n) (by omega) (a4B _ _ _)) AXt rfl rfl rfl ?_
   simp(disch:=first|assumption|omega) only[go_sem]
   refine a0c _ cmod2 rfl rfl rfl ?_
   refine Yfy ?_
   refine a0c _ cdv rfl rfl rfl ?_
   refine Yea ?_
   refine⟨congrArg (fun z=>some (AV.row z)) (a0g fun j hj=>?_),by first|exact .inr ⟨by omega,rfl⟩|exact .inr rfl⟩
   by_cases e:j=n-(k+1)
   ·rw[if_pos e,if_pos (by omega)]
    have e2:n-j=k+1:=by omega
    rw[e2]
    rfl
   ·rw[if_neg e]
    by_cases e3:n-k≤j
    ·rw[if_pos e3,if_pos (by omega)]
    ·rw[if_neg e3,if_neg (by omega)]
  ·simp(disch:=first|assumption|omega) only[go_sem,s0,s3,s6,q5,qr]
   refine a1V _ (c3S ha (a1g (flm A n k).1 n n) h0 (by omega) hA (a7x A n k).1) AXt rfl (a2a _ _ _) ?_
   simp(disch:=first|assumption|omega) only[go_sem,s3,s4,r12320,s6,a0i,zfe,f2,f3,a0l,f5,f4]
   refine a0A _ cmod rfl rfl ?_
   simp(disch:=first|assumption|omega) only[go_sem,Int.zero_sub]
   refine a1V _ (b3m (a1g (mlC n A (flm A n k).1) n n) (by omega) (a4B _ _ _) nl) AXt rfl (a2a _ _ _) ?_
   refine Ycb ?_
   refine a0r (by kernel_rfl) ?_
   simp(disch:=first|assumption|omega) only[go_sem,s0,s3,s4,s6,f2]
   refine a0z _ (c3S ha (a1g (lsM (mlC n A (flm A n k).1) (-(flm A n k).2 % 55441)) n n) h0 (by omega) hA (a3C (a4B _ _ _) _)) AXt rfl rfl (a2a _ _ _) ?_
   refine Ycb ?_
   refine a0z _ (cTrM (a1g (mlC n A (lsM (mlC n A (flm A n k).1) (-(flm A n k).2 % 55441))) n n) (by omega) (a4B _ _ _)) AXt rfl rfl rfl ?_
   simp(disch:=first|assumption|omega) only[go_sem]
   refine a0c _ cmod2 rfl rfl rfl ?_
   refine Yfy ?_
   refine a0c _ cdv rfl rfl rfl ?_
   refine Yea ?_
   refine⟨congrArg (fun z=>some (AV.row z)) (a0g fun j hj=>?_),by first|exact .inr ⟨by omega,rfl⟩|exact .inr rfl⟩
   by_cases e:j=n-(k+1)
   ·rw[if_pos e,if_pos (by omega)]
    have e2:n-j=k+1:=by omega
    rw[e2]
    rfl
   ·rw[if_neg e]
    by_cases e3:n-k≤j
    ·rw[if_pos e3,if_pos (by omega)]
    ·rw[if_neg e3,if_neg (by omega)]
 ·rintro sl ro gn ⟨s0,s3,s4,r12320,s6,q⟩
  dsimp only at s0 s3 s4 r12320 s6
  have hk': ¬((n:Nat):Int)<(n:Nat):=by omega
  have f1: ¬(n:Int)+1≤(n:Int):=by omega
  have e:rws (fun j=>i64 (if n-n≤j then(flm A n (n-j)).2 else 0)) (n+1)=rws (fun j=>i64 (flm A n (n-j)).2) (n+1):=a0g fun j _=>by rw[if_pos (by omega)]
  rw[e]at r12320
  simp(disch:=first|assumption|omega) only[go_sem,s3,s4,s6]
  simp only[zr,a1Z,a1H,a2g,zes,zhk, ↓za, ↓reduceIte,r12320]
theorem b7y{P:Program}{row:String}{args:Array Value}{w:World}{R:Value→World→Prop}{m l:Nat}(h:Rows P row args w R):RowsIn (Fence.wide.inRound l) m P row args w R:=by
 intro c cs _
 obtain⟨v,w',h1,h2⟩:=h c cs
 exact⟨v,w',h1,stepsIn_wide.2 h2⟩
theorem a3l{o:Oper}{P:Program}{l m:Nat}{a:Act}{w:World}{K:Act→World→Prop}{Q:Exit→Act→World→Prop}(h: ∀c,o.op≠ .defer c)(hw:o.wp P a w K Q):o.wpIn (Fence.wide.inRound l) m P a w K Q:=by
 refine⟨fun _ _=>trivial,?_⟩
 rw[Oper.semAt_eq _ _ _ h]
 unfold Oper.wp at hw
 cases hr:(execOp a.eval o).run P w with
 |ok x w'=>
  rw[hr]at hw
  cases x with
  |value v=>exact hw
  |skip=>exact hw
  |defer d=>exact hw
  |enter f args=>exact⟨fun hd=>(by cases hd),CallsIn.inRound l (callsIn_wide.2 hw)⟩
  |row row args=>exact⟨fun hd=>(by cases hd),b7y hw⟩
  |_=>exact hw.elim
 |halt x w'=>
  rw[hr]at hw
  cases x<;>exact hw
section
variable{C:Cfg}{rid:Nat}{ops:Array Oper}{w0:World}{A0:Nat→Prop}{F0:List Nat}{cS:Cx}{n:Nat}{lR:Nat}{m:Nat}
theorem b3R(hC9: ∀o,o∈ops.toList→ ∀c,o.op≠ .defer c)(T:TOK C.P C.ti){X:Nat→Option Eff}{G:Nat→FP}{Q:Exit→Act→World→Prop}(hdst: ∀o,o∈ops.toList→ ∀t,o.dst=some t→t<n)
  (hbk: ∀i o,ops[i]?=some o→ ∀e,e∈o.after→Region.binds .any e=true→e.on<i)
  (hok: ∀i j o p,j<i→ops[j]?=some o→ops[i]?=some p→(o.apart ops p=true∧(G j).apart (G i)=true)∨a7R ops ops.size j i=true) {stE:St}
  (hQ: ∀a c Φ,SR w0 A0 F0 cS n stE a c Φ→Q .normal a c.w): ∀(fuel:Nat) (L:List Nat) (listed:Array Bool) {st:St} {a:Act} {c:Cx} {Φ:Nat→Nat→List Nat},L.length=fuel→listed.size=ops.size→L.Pairwise (· <·)→
  (∀i,i∈L↔i<ops.size∧listed.getD i false=false)→(∀k o,ops[k]?=some o→listed.getD k false=true→ ∀e,e∈o.after→Region.binds .any e=true→listed.getD e.on false=true)→
  TrD C rid ops X G L st stE→SR w0 A0 F0 cS n st a c Φ→wpAnyIn (Fence.wide.inRound lR) m C.P .any ops Q fuel listed a c.w
 |0,L,listed,st,a,c,Φ,hlen,hsz,hpw,hL,hcl,ht,hs=>by
  obtain rfl:=List.length_eq_zero_iff.1 hlen
  refine⟨?_,?_⟩
  ·unfold Region.ready
   rw[List.filter_eq_nil_iff]
   intro i hi
   have hi':i<ops.size:=by simpa using hi
   have:listed.getD i false=true:=by
    cases hb:listed.getD i false with
    |true=>rfl
    |false=>have:=(hL i).2 ⟨hi',hb⟩;cases this
   have h2:listed.getD i true=true:=by
    have hlt:i<listed.size:=by omega
    simp only[Array.getD,hlt,dif_pos]at this ⊢;exact this
   simp[h2]
  ·have:stE=st:=ht
   subst this
   exact hQ _ _ _ hs
 |fuel+1,L,listed,st,a,c,Φ,hlen,hsz,hpw,hL,hcl,ht,hs=>by
  have hY9: ∀i,i∈Region.ready .any ops listed↔i∈L∧ ∀o,ops[i]?=some o→ ∀e,e∈o.after→Region.binds .any e=true→listed.getD e.on false=true:=by
   intro i
   unfold Region.ready
   rw[List.mem_filter,hL,List.mem_range]
   constructor
   ·rintro⟨hi,h⟩
    simp only[Bool.and_eq_true,Bool.not_eq_true']at h
    refine⟨⟨hi,?_⟩,?_⟩
    ·have hlt:i<listed.size:=by omega
     have:=h.1
     simp only[Array.getD,hlt,dif_pos]at this ⊢;exact this
    ·intro o ho e he hb
     have h2:=h.2
     rw[ho]at h2
     simp only[Option.map_some,Option.getD_some,Array.all_eq_true_iff_forall_mem,Bool.or_eq_true,Bool.not_eq_true']at h2
     rcases h2 e he with h3|h3
     ·rw[hb]at h3;cases h3
     ·exact h3
   ·rintro⟨⟨hi,h1⟩,h2⟩
    refine⟨hi,?_⟩
    simp only[Bool.and_eq_true,Bool.not_eq_true']
    refine⟨?_,?_⟩
    ·have hlt:i<listed.size:=by omega
     simp only[Array.getD,hlt,dif_pos]at h1 ⊢;exact h1
    ·have ho:ops[i]?=some ops[i]:=by simp[hi]
     rw[ho]
     simp only[Option.map_some,Option.getD_some,Array.all_eq_true_iff_forall_mem,Bool.or_eq_true,Bool.not_eq_true']
     intro e he
     cases hb:Region.binds .any e with
     |false=>exact .inl rfl
     |true=>exact .inr (h2 _ ho e he hb)
  refine⟨fun hnil=>?_,fun i hi=>?_⟩
  ·exfalso
   cases L with
   |nil=>simp at hlen
   |cons x t=>
    have hx:x∈Region.ready .any ops listed:=by
     rw[hY9]
     refine⟨by simp,fun o ho e he hb=>?_⟩
     have hlt:=hbk x o ho e he hb
     have hxs:x<ops.size:=((hL x).1 (by simp)).1
     cases hl:listed.getD e.on false with
     |true=>rfl
     |false=>
      have hm:=(hL e.on).2 ⟨by omega,hl⟩
      rcases List.mem_cons.1 hm with h|h
      ·omega
      ·have:=(List.pairwise_cons.1 hpw).1 _ h;omega
    rw[hnil]at hx;cases hx
  ·obtain⟨hiL,hie⟩:=(hY9 i).1 hi
   have his:=((hL i).1 hiL).1
   have hio:ops[i]?=some ops[i]:=by simp[his]
   obtain⟨l1,l2,rfl⟩:=List.append_of_mem hiL
   have hpw':=List.pairwise_append.1 hpw
   have hb:=b4s hio l1 l2 (fun j hj=>by
    have hji:j<i:=hpw'.2.2 j hj i (by simp)
    have hjs:j<ops.size:=by omega
    have hjo:ops[j]?=some ops[j]:=by simp[hjs]
    refine⟨_,hjo,?_⟩
    rcases hok i j _ _ hji hjo hio with h|h
    ·exact h
    ·have h1:=a2H hcl _ _ _ h hie
     have h2:=((hL j).1 (by simp[hj])).2
     rw[h1]at h2;cases h2) ht
   obtain⟨o,ho,hc,ht'⟩:=hb
   rw[hio]at ho
   obtain rfl:=Option.some.inj ho
   have hrec: ∀a' c' Φ',SR w0 A0 F0 cS n (doD ops[i] st (X i)) a' c' Φ'→wpAnyIn (Fence.wide.inRound lR) m C.P .any ops Q fuel (listed.setIfInBounds i true) a' c'.w:=fun a' c' Φ' h'=>
    b3R hC9 T hdst hbk hok hQ fuel (l1++l2) (listed.setIfInBounds i true) (by simp at hlen ⊢;omega) (by simp[hsz])
     (hpw.sublist (List.Sublist.append (List.Sublist.refl _) (List.sublist_cons_self _ _)))
     (fun k=>by
      have hk:=hL k
      have hnd:=hpw.imp (fun {a b} (h:a<b)=>Nat.ne_of_lt h)
      have hil:i<listed.size:=by omega
      by_cases e:k=i
      ·subst e
       have h1:k∉l1++l2:=by
        intro hm
        rcases List.mem_append.1 hm with hm|hm
        ·exact absurd (hpw'.2.2 k hm k (by simp)) (by omega)
        ·exact absurd ((List.pairwise_cons.1 hpw'.2.1).1 k hm) (by omega)
       refine⟨fun h=>absurd h h1,fun h=>?_⟩
       have:=h.2
       simp[Array.getD_eq_getD_getElem?,hil]at this
      ·have h1:(k∈l1++l2)↔k∈l1++i::l2:=by simp[e]
       rw[h1,hk]
       have:(listed.setIfInBounds i true).getD k false=listed.getD k false:=by
        simp only[Array.getD_eq_getD_getElem?,Array.getElem?_setIfInBounds_ne (fun h=>e h.symm)]
       rw[this])
     (fun k o2 hok2 hk e he hb'=>by
      have hil:i<listed.size:=by omega
      have hM9: ∀m,listed.getD m false=true→(listed.setIfInBounds i true).getD m false=true:=by
       intro m hm
       by_cases e:m=i
       ·subst e;simp[Array.getD_eq_getD_getElem?,hil]
       ·simp only[Array.getD_eq_getD_getElem?,Array.getElem?_setIfInBounds_ne (fun h=>e h.symm)]at hm ⊢;exact hm
      by_cases ek:k=i
      ·subst ek
       exact hM9 _ (hie o2 hok2 e he hb')
      ·refine hM9 _ (hcl k o2 hok2 ?_ e he hb')
       simp only[Array.getD_eq_getD_getElem?,Array.getElem?_setIfInBounds_ne (fun h=>ek h.symm)]at hk ⊢;exact hk)
     ht' h'
   have hst:=a5n T hs (hdst ops[i] (by simp)) (a4X hc) (K:=wpAnyIn (Fence.wide.inRound lR) m C.P .any ops Q fuel (listed.setIfInBounds i true)) (Q:=Q) hrec
   unfold wpOpIn
   simp only[hio]
   split
   ·rename_i hw;rw[if_pos hw]at hst;exact a3l (hC9 _ (by simp)) hst
   ·rename_i hw;rw[if_neg hw]at hst;exact⟨fun _ _=>trivial,hst⟩
theorem b6S(hC9: ∀o,o∈ops.toList→ ∀c,o.op≠ .defer c)(T:TOK C.P C.ti)(hm:C.P.follows .mixedOrders=true){K:Exit→Act→World→Prop}{Q:St→Prop}{st:St}{a:Act}{c:Cx}{Φ:Nat→Nat→List Nat}(h:SR w0 A0 F0 cS n st a c Φ)
  (hdst: ∀o,o∈ops.toList→ ∀t,o.dst=some t→t<n) (hq:a7j C rid ops ops.toList 0 [] (fun st fp=>okD ops fp=true∧Q st) st)
  (hK: ∀st' a' c' Φ',SR w0 A0 F0 cS n st' a' c' Φ'→Q st'→K .normal a' c'.w):(Code.region rid ops true).wpIn (Fence.wide.inRound lR) m C.P K a c.w:=by
 obtain⟨X,fps,stE,hlen,ht,hok,hQ⟩:=b0w ops.toList 0 (fun k o hk=>by simpa using hk) hq
 simp only[List.reverse_nil,List.nil_append]at hok
 obtain⟨c',Φ',hw',hs'⟩:=h.drawn (c.w.drawn+1) (Nat.le_succ _)
 refine wpIn_region_any hm ?_
 rw[←hw']
 simp only[Nat.sub_zero]at ht
 unfold okD at hok
 rw[List.all_eq_true]at hok
 have hlen':fps.length=ops.size:=by simpa using hlen
 refine b3R hC9 (X:=X) (G:=fun k=>fps.getD k fp0) (stE:=stE) T hdst ?_ ?_ (fun a' c' Φ' h'=>hK _ _ _ _ h' hQ) ops.size (List.range' 0 ops.toList.length) _ (by simp) (by simp) (List.pairwise_lt_range' ..) ?_ ?_ ht hs'
 ·intro i o ho e he hb
  have hi:i<ops.size:=by
   rcases Nat.lt_or_ge i ops.size with h|h
   ·exact h
   ·rw[Array.getElem?_eq_none h]at ho;cases ho
  have:=hok i (by simpa using hi)
  simp only[ho,Bool.and_eq_true]at this
  have:=List.all_eq_true.1 this.1 e (by simpa using he)
  simpa [hb]using this
 ·intro i j o p hji hj hi
  have his:i<ops.size:=by
   rcases Nat.lt_or_ge i ops.size with h|h
   ·exact h
   ·rw[Array.getElem?_eq_none h]at hi;cases hi
  have:=hok i (by simpa using his)
  simp only[hi,Bool.and_eq_true]at this
  have:=List.all_eq_true.1 this.2 j (by simpa using hji)
  unfold a7r at this
  have e1:fps[j]?=some (fps[j]'(by omega)):=List.getElem?_eq_getElem _
  have e2:fps[i]?=some (fps[i]'(by omega)):=List.getElem?_eq_getElem _
  simp only[hi,hj,e1,e2,Bool.or_eq_true,Bool.and_eq_true]at this
  simp only[List.getD_eq_getElem?_getD,e1,e2,Option.getD_some]
  exact this
 ·intro i
  rw[List.mem_range'_1]
  simp only[Array.length_toList,Array.getD_eq_getD_getElem?,Array.getElem?_replicate]
  constructor
  ·intro h;exact⟨by omega,by split<;>rfl⟩
  ·intro h;omega
 ·intro k o _ hk
  simp only[Array.getD_eq_getD_getElem?,Array.getElem?_replicate]at hk
  split at hk<;>cases hk
theorem a8t(T:TOK C.P C.ti)(hI:a4w C)(rid:Nat)(ops:Array Oper){K:Exit→Act→World→Prop}: ∀(l:List Oper) (i:Nat) {Q:St→Prop} {st:St} {a:Act} {c:Cx} {Φ:Nat→Nat→List Nat},(∀o,o∈l→ ∀c,o.op≠ .defer c)→SR w0 A0 F0 cS n st a c Φ→
  (∀o,o∈l→ ∀t,o.dst=some t→t<n)→a6T C rid ops l i Q st→(∀st' a' c' Φ',SR w0 A0 F0 cS n st' a' c' Φ'→Q st'→K .normal a' c'.w)→wpListIn (Fence.wide.inRound lR) m C.P ops K l a c.w
 | [],i,Q,st,a,c,Φ,_,h,_,hq,hK=>hK _ _ _ _ h hq
 |o::rest,i,Q,st,a,c,Φ,hC9,h,hd,hq,hK=>by
  have main: ∀st',a6V C rid ops i o st st'→a6T C rid ops rest (i+1) Q st'→wpListIn (Fence.wide.inRound lR) m C.P ops K (o::rest) a c.w:=by
   intro st' hs hrest
   have:=a5n (w0:=w0) (A0:=A0) (F0:=F0) T h (hd o (by simp)) hs (K:=wpListIn (Fence.wide.inRound lR) m C.P ops K rest) (Q:=K) (fun a' c' Φ' h'=>a8t T hI rid ops rest (i+1) (fun o ho=>hC9 o (by simp[ho])) h' (fun o ho=>hd o (by simp[ho])) hrest hK)
   unfold wpListIn
   split
   ·rename_i hw;rw[if_pos hw]at this;exact a3l (hC9 o (by simp)) this
   ·rename_i hw;rw[if_neg hw]at this;exact⟨fun _ _=>trivial,this⟩
  simp only[a6T]at hq
  cases hw:zbl ops o st with
  |none=>simp[hw]at hq
  |some t=>
   cases t
   ·simp only[hw]at hq;exact main _ (by unfold a6V;rw[hw]) hq
   ·simp only[hw]at hq
    rcases hq with⟨e,h1,h2⟩|⟨Po,h1,h2⟩
    ·exact main _ (by unfold a6V;rw[hw];exact⟨e,h1,rfl⟩) h2
    ·have:=a4e (w0:=w0) (A0:=A0) (F0:=F0) (o:=o) hI h (hd o (by simp)) h1 (K:=wpListIn (Fence.wide.inRound lR) m C.P ops K rest) (Q:=K) (fun r ro' gn' hP a' c' Φ' h'=>a8t T hI rid ops rest (i+1) (fun o ho=>hC9 o (by simp[ho])) h' (fun o ho=>hd o (by simp[ho])) (h2 r ro' gn' hP) hK)
     unfold wpListIn
     rw[if_pos (a5g h hw)]
     exact a3l (hC9 o (by simp)) this
theorem b6i(hC9: ∀o,o∈ops.toList→ ∀c,o.op≠ .defer c)(T:TOK C.P C.ti)(hI:a4w C){G:Nat→FP}{Qs:St→Prop}{Q:Exit→Act→World→Prop}(hdst: ∀o,o∈ops.toList→ ∀t,o.dst=some t→t<n)
  (hbk: ∀i o,ops[i]?=some o→ ∀e,e∈o.after→Region.binds .any e=true→e.on<i)
  (hok: ∀i j o p,j<i→ops[j]?=some o→ops[i]?=some p→(o.apart ops p=true∧(G j).apart (G i)=true)∨a7R ops ops.size j i=true)
  (hQ: ∀st a c Φ,Qs st→SR w0 A0 F0 cS n st a c Φ→Q .normal a c.w): ∀(fuel:Nat) (L:List Nat) (listed:Array Bool) {st:St} {a:Act} {c:Cx} {Φ:Nat→Nat→List Nat},L.length=fuel→listed.size=ops.size→L.Pairwise (· <·)→
  (∀i,i∈L↔i<ops.size∧listed.getD i false=false)→(∀k o,ops[k]?=some o→listed.getD k false=true→ ∀e,e∈o.after→Region.binds .any e=true→listed.getD e.on false=true)→
  PD C rid ops G Qs L st→SR w0 A0 F0 cS n st a c Φ→wpAnyIn (Fence.wide.inRound lR) m C.P .any ops Q fuel listed a c.w
 |0,L,listed,st,a,c,Φ,hlen,hsz,hpw,hL,hcl,ht,hs=>by
  obtain rfl:=List.length_eq_zero_iff.1 hlen
  refine⟨?_,?_⟩
  ·unfold Region.ready
   rw[List.filter_eq_nil_iff]
   intro i hi
   have hi':i<ops.size:=by simpa using hi
   have:listed.getD i false=true:=by
    cases hb:listed.getD i false with
    |true=>rfl
    |false=>have:=(hL i).2 ⟨hi',hb⟩;cases this
   have h2:listed.getD i true=true:=by
    have hlt:i<listed.size:=by omega
    simp only[Array.getD,hlt,dif_pos]at this ⊢;exact this
   simp[h2]
  ·exact hQ _ _ _ _ ht hs
 |fuel+1,L,listed,st,a,c,Φ,hlen,hsz,hpw,hL,hcl,ht,hs=>by
  have hY9: ∀i,i∈Region.ready .any ops listed↔i∈L∧ ∀o,ops[i]?=some o→ ∀e,e∈o.after→Region.binds .any e=true→listed.getD e.on false=true:=by
   intro i
   unfold Region.ready
   rw[List.mem_filter,hL,List.mem_range]
   constructor
   ·rintro⟨hi,h⟩
    simp only[Bool.and_eq_true,Bool.not_eq_true']at h
    refine⟨⟨hi,?_⟩,?_⟩
    ·have hlt:i<listed.size:=by omega
     have:=h.1
     simp only[Array.getD,hlt,dif_pos]at this ⊢;exact this
    ·intro o ho e he hb
     have h2:=h.2
     rw[ho]at h2
     simp only[Option.map_some,Option.getD_some,Array.all_eq_true_iff_forall_mem,Bool.or_eq_true,Bool.not_eq_true']at h2
     rcases h2 e he with h3|h3
     ·rw[hb]at h3;cases h3
     ·exact h3
   ·rintro⟨⟨hi,h1⟩,h2⟩
    refine⟨hi,?_⟩
    simp only[Bool.and_eq_true,Bool.not_eq_true']
    refine⟨?_,?_⟩
    ·have hlt:i<listed.size:=by omega
     simp only[Array.getD,hlt,dif_pos]at h1 ⊢;exact h1
    ·have ho:ops[i]?=some ops[i]:=by simp[hi]
     rw[ho]
     simp only[Option.map_some,Option.getD_some,Array.all_eq_true_iff_forall_mem,Bool.or_eq_true,Bool.not_eq_true']
     intro e he
     cases hb:Region.binds .any e with
     |false=>exact .inl rfl
     |true=>exact .inr (h2 _ ho e he hb)
  refine⟨fun hnil=>?_,fun i hi=>?_⟩
  ·exfalso
   cases L with
   |nil=>simp at hlen
   |cons x t=>
    have hx:x∈Region.ready .any ops listed:=by
     rw[hY9]
     refine⟨by simp,fun o ho e he hb=>?_⟩
     have hlt:=hbk x o ho e he hb
     have hxs:x<ops.size:=((hL x).1 (by simp)).1
     cases hl:listed.getD e.on false with
     |true=>rfl
     |false=>
      have hm:=(hL e.on).2 ⟨by omega,hl⟩
      rcases List.mem_cons.1 hm with h|h
      ·omega
      ·have:=(List.pairwise_cons.1 hpw).1 _ h;omega
    rw[hnil]at hx;cases hx
  ·obtain⟨hiL,hie⟩:=(hY9 i).1 hi
   have his:=((hL i).1 hiL).1
   have hio:ops[i]?=some ops[i]:=by simp[his]
   obtain⟨l1,l2,rfl⟩:=List.append_of_mem hiL
   have hpw':=List.pairwise_append.1 hpw
   have hb:=b0b hio l1 l2 (fun j hj=>by
    have hji:j<i:=hpw'.2.2 j hj i (by simp)
    have hjs:j<ops.size:=by omega
    have hjo:ops[j]?=some ops[j]:=by simp[hjs]
    have hnb:a7R ops ops.size j i=false:=by
     cases h:a7R ops ops.size j i with
     |false=>rfl
     |true=>
      have h1:=a2H hcl _ _ _ h hie
      have h2:=((hL j).1 (by simp[hj])).2
      rw[h1]at h2;cases h2
    refine⟨hji,hnb,_,hjo,?_⟩
    rcases hok i j _ _ hji hjo hio with h|h
    ·exact h
    ·rw[hnb]at h;cases h) ht
   obtain⟨o,ho,hb⟩:=hb
   rw[hio]at ho
   obtain rfl:=Option.some.inj ho
   have hrec: ∀st' a' c' Φ',PD C rid ops G Qs (l1++l2) st'→SR w0 A0 F0 cS n st' a' c' Φ'→wpAnyIn (Fence.wide.inRound lR) m C.P .any ops Q fuel (listed.setIfInBounds i true) a' c'.w:=fun st' a' c' Φ' ht' h'=>
    b6i hC9 T hI hdst hbk hok hQ fuel (l1++l2) (listed.setIfInBounds i true) (by simp at hlen ⊢;omega) (by simp[hsz])
     (hpw.sublist (List.Sublist.append (List.Sublist.refl _) (List.sublist_cons_self _ _)))
     (fun k=>by
      have hk:=hL k
      have hnd:=hpw.imp (fun {a b} (h:a<b)=>Nat.ne_of_lt h)
      have hil:i<listed.size:=by omega
      by_cases e:k=i
      ·subst e
       have h1:k∉l1++l2:=by
        intro hm
        rcases List.mem_append.1 hm with hm|hm
        ·exact absurd (hpw'.2.2 k hm k (by simp)) (by omega)
        ·exact absurd ((List.pairwise_cons.1 hpw'.2.1).1 k hm) (by omega)
       refine⟨fun h=>absurd h h1,fun h=>?_⟩
       have:=h.2
       simp[Array.getD_eq_getD_getElem?,hil]at this
      ·have h1:(k∈l1++l2)↔k∈l1++i::l2:=by simp[e]
       rw[h1,hk]
       have:(listed.setIfInBounds i true).getD k false=listed.getD k false:=by
        simp only[Array.getD_eq_getD_getElem?,Array.getElem?_setIfInBounds_ne (fun h=>e h.symm)]
       rw[this])
     (fun k o2 hok2 hk e he hb'=>by
      have hil:i<listed.size:=by omega
      have hM9: ∀m,listed.getD m false=true→(listed.setIfInBounds i true).getD m false=true:=by
       intro m hm
       by_cases e:m=i
       ·subst e;simp[Array.getD_eq_getD_getElem?,hil]
       ·simp only[Array.getD_eq_getD_getElem?,Array.getElem?_setIfInBounds_ne (fun h=>e h.symm)]at hm ⊢;exact hm
      by_cases ek:k=i
      ·subst ek
       exact hM9 _ (hie o2 hok2 e he hb')
      ·refine hM9 _ (hcl k o2 hok2 ?_ e he hb')
       simp only[Array.getD_eq_getD_getElem?,Array.getElem?_setIfInBounds_ne (fun h=>ek h.symm)]at hk ⊢;exact hk)
     ht' h'
   unfold wpOpIn
   simp only[hio]
   rcases hb with⟨x,hc,ht'⟩|⟨Po,R,W,hw,hin,_,ht'⟩
   ·have hst:=a5n T hs (hdst ops[i] (by simp)) (a4X hc.choose_spec.1) (K:=wpAnyIn (Fence.wide.inRound lR) m C.P .any ops Q fuel (listed.setIfInBounds i true)) (Q:=Q) (fun a' c' Φ' h'=>hrec _ a' c' Φ' ht' h')
    split
    ·rename_i hw;rw[if_pos hw]at hst;exact a3l (hC9 _ (by simp)) hst
    ·rename_i hw;rw[if_neg hw]at hst;exact⟨fun _ _=>trivial,hst⟩
   ·have hir:=hin.1 st.ro st.gn (fun _ _=>rfl) fun _ _=>rfl
    rw[b3n]at hir
    have hst:=a4e (o:=ops[i]) hI hs (hdst ops[i] (by simp)) (.inl hir) (K:=wpAnyIn (Fence.wide.inRound lR) m C.P .any ops Q fuel (listed.setIfInBounds i true)) (Q:=Q) (fun r ro' gn' hP a' c' Φ' h'=>by
     obtain⟨ro2,gn2,k,rfl,rfl⟩:=hP
     have k2:=hin.2.1 r ro2 gn2 k
     rw[a3h fun s hs=>(k2 s hs).1,a3h fun s hs=>(k2 s hs).2]at h'
     exact hrec _ a' c' Φ' (ht' r ro2 gn2 k) h')
    rw[if_pos (a5g hs hw)]
    exact a3l (hC9 _ (by simp)) hst
theorem b6U(hC9: ∀o,o∈ops.toList→ ∀c,o.op≠ .defer c)(T:TOK C.P C.ti)(hI:a4w C)(hm:C.P.follows .mixedOrders=true){K:Exit→Act→World→Prop}{Q:St→Prop}{st:St}{a:Act}{c:Cx}{Φ:Nat→Nat→List Nat}(h:SR w0 A0 F0 cS n st a c Φ)
  (hdst: ∀o,o∈ops.toList→ ∀t,o.dst=some t→t<n) {fps:List FP} (hlen':fps.length=ops.size) (hok:okD ops fps=true) (hq:a9C C rid ops fps ops.toList 0 Q st)
  (hK: ∀st' a' c' Φ',SR w0 A0 F0 cS n st' a' c' Φ'→Q st'→K .normal a' c'.w):(Code.region rid ops true).wpIn (Fence.wide.inRound lR) m C.P K a c.w:=by
 have ht:=a3X ops.toList 0 (fun k o hk=>by simpa using hk) hq
 obtain⟨c',Φ',hw',hs'⟩:=h.drawn (c.w.drawn+1) (Nat.le_succ _)
 refine wpIn_region_any hm ?_
 rw[←hw']
 unfold okD at hok
 rw[List.all_eq_true]at hok
 refine b6i hC9 T hI (G:=fun k=>fps.getD k fp0) (Qs:=Q) hdst ?_ ?_ (fun st' a' c' Φ' hq' h'=>hK _ _ _ _ h' hq') ops.size (List.range' 0 ops.toList.length) _ (by simp) (by simp) (List.pairwise_lt_range' ..) ?_ ?_ ht hs'
 ·intro i o ho e he hb
  have hi:i<ops.size:=by
   rcases Nat.lt_or_ge i ops.size with h|h
   ·exact h
   ·rw[Array.getElem?_eq_none h]at ho;cases ho
  have:=hok i (by simpa using hi)
  simp only[ho,Bool.and_eq_true]at this
  have:=List.all_eq_true.1 this.1 e (by simpa using he)
  simpa [hb]using this
 ·intro i j o p hji hj hi
  have his:i<ops.size:=by
   rcases Nat.lt_or_ge i ops.size with h|h
   ·exact h
   ·rw[Array.getElem?_eq_none h]at hi;cases hi
  have:=hok i (by simpa using his)
  simp only[hi,Bool.and_eq_true]at this
  have:=List.all_eq_true.1 this.2 j (by simpa using hji)
  unfold a7r at this
  have e1:fps[j]?=some (fps[j]'(by omega)):=List.getElem?_eq_getElem _
  have e2:fps[i]?=some (fps[i]'(by omega)):=List.getElem?_eq_getElem _
  simp only[hi,hj,e1,e2,Bool.or_eq_true,Bool.and_eq_true]at this
  simp only[List.getD_eq_getElem?_getD,e1,e2,Option.getD_some]
  exact this
 ·intro i
  rw[List.mem_range'_1]
  simp only[Array.length_toList,Array.getD_eq_getD_getElem?,Array.getElem?_replicate]
  constructor
  ·intro h;exact⟨by omega,by split<;>rfl⟩
  ·intro h;omega
 ·intro k o _ hk
  simp only[Array.getD_eq_getD_getElem?,Array.getElem?_replicate]at hk
  split at hk<;>cases hk
def a2T:Code→Bool
 | .skip=>true
 | .region _ ops _=>ops.toList.all fun o=>match o.op with| .defer _=>false|_=>true
 | .seq a b=>a2T a&&a2T b
 | .cond _ x y=>a2T x&&a2T y
 | .block _ c=>a2T c
 | .exit _=>true
 |_=>false
def a6R(C:Cfg):Code→(Exit→St→Prop)→St→Prop
 | .skip,Q,st=>Q .normal st
 | .region id ops false,Q,st=>a6T C id ops ops.toList 0 (Q .normal) st
 | .region id ops true,Q,st=>a7j C id ops ops.toList 0 [] (fun st fp=>okD ops fp=true∧Q .normal st) st∨(ops.toList.any (fun o=>isV o.op)=true∧ ∃fin:List FP,fin.length=ops.size∧okD ops fin=true∧a9C C id ops fin ops.toList 0 (Q .normal) st)
 | .seq a b,Q,st=>a6R C a (fun e st'=>match e with
  | .normal=>a6R C b Q st'
  |e=>Q e st') st
 | .cond c x y,Q,st=> ∃t,st.ev c= .sc (.bool t)∧(t=true→a6R C x Q st)∧(t=false→a6R C y Q st)
 | .block id c,Q,st=>a6R C c (fun e st'=>match e with
  | .exit j=>if j=id then Q .normal st' else Q (.exit j) st'
  |e=>Q e st') st
 | .exit id,Q,st=>Q (.exit id) st
 |_,_,_=>False
theorem b2B: ∀(code:Code) {Q Q':Exit→St→Prop} {st:St},(∀e st,Q e st→Q' e st)→a6R C code Q st→a6R C code Q' st:=by
 have hops: ∀(rid:Nat) (ops:Array Oper) (l:List Oper) (i:Nat) {Q Q':St→Prop} {st:St},(∀st,Q st→Q' st)→a6T C rid ops l i Q st→a6T C rid ops l i Q' st:=by
  intro rid ops l
  induction l with
  |nil=>intro i Q Q' st hq h;exact hq _ h
  |cons o l ih=>
   intro i Q Q' st hq h
   simp only[a6T]at h ⊢
   revert h
   cases zbl ops o st with
   |none=>exact fun h=>h
   |some t=>
    cases t
    ·exact fun h=>ih _ hq h
    ·rintro(⟨e,h1,h2⟩|⟨Po,h1,h2⟩)
     ·exact .inl ⟨e,h1,ih _ hq h2⟩
     ·exact .inr ⟨Po,h1,fun r ro' gn' hP=>ih _ hq (h2 r ro' gn' hP)⟩
 have hopsD: ∀(rid:Nat) (ops:Array Oper) (l:List Oper) (i:Nat) (acc:List FP) {Q Q':St→List FP→Prop} {st:St},(∀st fp,Q st fp→Q' st fp)→a7j C rid ops l i acc Q st→a7j C rid ops l i acc Q' st:=by
  intro rid ops l
  induction l with
  |nil=>intro i acc Q Q' st hq h;exact hq _ _ h
  |cons o l ih=>
   intro i acc Q Q' st hq h
   simp only[a7j]at h ⊢
   revert h
   cases zbl ops o st with
   |none=>exact fun h=>h
   |some t=>
    cases t
    ·exact fun h=>ih _ _ hq h
    ·rintro⟨e,h1,h2⟩;exact⟨e,h1,ih _ _ hq h2⟩
 intro code
 induction code with
 |region id ops d=>
  intro Q Q' st hq h
  cases d with
  |false=>exact hops _ _ _ _ (fun st h=>hq _ _ h) h
  |true=>
   rcases h with h|⟨hv,fin,h1,h2,h3⟩
   ·exact .inl (hopsD _ _ _ _ _ (fun st fp h=>⟨h.1,hq _ _ h.2⟩) h)
   ·exact .inr ⟨hv,fin,h1,h2,a4G _ _ _ _ _ (fun st h=>hq _ _ h) h3⟩
 |seq x y ihx ihy=>
  intro Q Q' st hq h
  refine ihx ?_ h
  intro e st h
  cases e<;>first|exact ihy hq h|exact hq _ _ h
 |cond c x y ihx ihy=>
  intro Q Q' st hq h
  obtain⟨t,h1,h2,h3⟩:=h
  exact⟨t,h1,fun e=>ihx hq (h2 e),fun e=>ihy hq (h3 e)⟩
 |block id x ih=>
  intro Q Q' st hq h
  refine ih ?_ h
  intro e st h
  cases e with
  |exit j=>
   dsimp only at h ⊢
   split
   ·rename_i hj;rw[if_pos hj]at h;exact hq _ _ h
   ·rename_i hj;rw[if_neg hj]at h;exact hq _ _ h
  |_=>exact hq _ _ h
 |skip=>intro Q Q' st hq h;exact hq _ _ h
 |exit id=>intro Q Q' st hq h;exact hq _ _ h
 |_=>intros;rename_i h;exact h.elim
theorem b6D{X:WX}: ∀(code:Code) {Q:Exit→St→Prop} {st:St},a2T code=true→wk X code Q st→a6R X.cfg code Q st:=by
 intro code
 induction code with
 |region id ops d=>
  intro Q st _ h
  cases d with
  |false=>exact b0L _ _ _ _ h
  |true=>
   rcases a9w id ops ops.toList 0 (acc:=[]) rfl h with h|⟨k1,fin,k2,k3,_,k5⟩
   ·exact .inl h
   ·exact .inr ⟨k1,fin,k2,k3,a4G _ _ _ _ _ (fun st h=>h.2) k5⟩
 |seq x y ihx ihy=>
  intro Q st hk h
  simp only[a2T,Bool.and_eq_true]at hk
  refine b2B x ?_ (ihx hk.1 h)
  intro e st h
  cases e<;>first|exact ihy hk.2 h|exact h
 |cond c x y ihx ihy=>
  intro Q st hk h
  simp only[a2T,Bool.and_eq_true]at hk
  simp only[wk]at h
  split at h
  ·rename_i t ht
   exact⟨t,ht,fun e=>ihx hk.1 (h.1 e),fun e=>ihy hk.2 (h.2 e)⟩
  ·exact h.elim
 |block id x ih=>intro Q st hk h;exact ih hk h
 |skip=>intro Q st _ h;exact h
 |exit id=>intro Q st _ h;exact h
 |_=>intros;rename_i h _;first|exact absurd h (by simp[a2T])|(rename_i h _ _;cases h)
theorem b5j(T:TOK C.P C.ti)(hI:a4w C)(hm:C.P.follows .mixedOrders=true): ∀(code:Code) {Q:Exit→St→Prop} {st:St} {a:Act} {c:Cx} {Φ:Nat→Nat→List Nat},a2T code=true→SR w0 A0 F0 cS n st a c Φ→a1z n code=true→a6R C code Q st→
  code.wpIn (Fence.wide.inRound lR) m C.P (b5R w0 A0 F0 cS n Q) a c.w:=by
 intro code
 induction code with
 |skip=>intro Q st a c Φ _ h _ hq;exact wpIn_skip ⟨st,c,Φ,rfl,h,hq⟩
 |region id ops d=>
  intro Q st a c Φ hk h hd hq
  have hdst: ∀o,o∈ops.toList→ ∀t,o.dst=some t→t<n:=by
   intro o ho t ht
   simp only[a1z]at hd
   have:=List.all_eq_true.1 hd o ho
   simpa [ht]using this
  have hkc: ∀o,o∈ops.toList→ ∀c,o.op≠ .defer c:=fun o ho c e=>by
   simp only[a2T]at hk
   have:=List.all_eq_true.1 hk o ho
   rw[e]at this
   cases this
  cases d with
  |false=>exact wpIn_region_list (a8t T hI id ops ops.toList 0 hkc h hdst hq fun st' a' c' Φ' h' hq'=>⟨st',c',Φ',rfl,h',hq'⟩)
  |true=>
   rcases hq with hq|⟨_,fin,hl,hok,hq⟩
   ·exact b6S hkc T hm h hdst hq fun st' a' c' Φ' h' hq'=>⟨st',c',Φ',rfl,h',hq'⟩
   ·exact b6U hkc T hI hm h hdst hl hok hq fun st' a' c' Φ' h' hq'=>⟨st',c',Φ',rfl,h',hq'⟩
 |seq x y ihx ihy=>
  intro Q st a c Φ hk h hd hq
  simp only[a1z,Bool.and_eq_true]at hd
  simp only[a2T,Bool.and_eq_true]at hk
  refine wpIn_seq (wpIn_mono (ihx hk.1 h hd.1 hq) ?_)
  rintro e a' w' ⟨st',c',Φ',rfl,h',hq'⟩
  cases e with
  |normal=>exact ihy hk.2 h' hd.2 hq'
  |exit _=>exact⟨st',c',Φ',rfl,h',hq'⟩
  |goto _=>exact⟨st',c',Φ',rfl,h',hq'⟩
  |ret=>exact⟨st',c',Φ',rfl,h',hq'⟩
  |panic _=>exact⟨st',c',Φ',rfl,h',hq'⟩
  |outgrown=>exact⟨st',c',Φ',rfl,h',hq'⟩
 |cond x t e iht ihe=>
  intro Q st a c Φ hk h hd hq
  simp only[a1z,Bool.and_eq_true]at hd
  simp only[a2T,Bool.and_eq_true]at hk
  obtain⟨b,hb,h1,h2⟩:=hq
  have hv:=h.ev x
  rw[hb]at hv
  obtain⟨hv,_⟩:=Rel.sc_inv hv
  refine wpIn_cond_split hv ?_ ?_
  ·intro ht;exact iht hk.1 h hd.1 (h1 ht)
  ·intro ht;exact ihe hk.2 h hd.2 (h2 ht)
 |block id x ih=>
  intro Q st a c Φ hk h hd hq
  simp only[a1z]at hd
  simp only[a2T]at hk
  refine wpIn_block (wpIn_mono (ih hk h hd hq) ?_)
  rintro e a' w' ⟨st',c',Φ',rfl,h',hq'⟩
  cases e with
  |exit j=>
   simp only at hq'
   simp only[Exit.inBlock]
   split
   ·rename_i hj;rw[if_pos hj]at hq';exact⟨st',c',Φ',rfl,h',hq'⟩
   ·rename_i hj;rw[if_neg hj]at hq';exact⟨st',c',Φ',rfl,h',hq'⟩
  |normal=>exact⟨st',c',Φ',rfl,h',hq'⟩
  |goto _=>exact⟨st',c',Φ',rfl,h',hq'⟩
  |ret=>exact⟨st',c',Φ',rfl,h',hq'⟩
  |panic _=>exact⟨st',c',Φ',rfl,h',hq'⟩
  |outgrown=>exact⟨st',c',Φ',rfl,h',hq'⟩
 |loop x ih=>intro Q st a c Φ hk;simp[a2T]at hk
 |exit id=>intro Q st a c Φ _ h _ hq;exact wpIn_exit ⟨st,c,Φ,rfl,h,hq⟩
 |ret=>intro Q st a c Φ hk;simp[a2T]at hk
 |rangeFunc=>intro Q st a c Φ hk;simp[a2T]at hk
 |scope=>intro Q st a c Φ hk;simp[a2T]at hk
 |label=>intro Q st a c Φ hk;simp[a2T]at hk
 |goto=>intro Q st a c Φ hk;simp[a2T]at hk
 |refuse=>intro Q st a c Φ hk;simp[a2T]at hk
end
theorem a0h.isC{c:Cx}{az:List AV}{vs:List Value}{G:List Nat}(h:a0h c az vs G): ∀x,x∈G→ ∃arr E fr,c.w.heap[x]?=some (Obj.cells arr E fr):=by
 induction h with
 |nil=>intro x hx;cases hx
 |sc v _ ih=>exact ih
 |dead v _ ih=>exact ih
 |imm g b cap _ _ _ _ _ ih=>exact ih
 |immk k g b n cap _ _ _ _ _ _ ih=>exact ih
 |refk k s g n v _ _ _ ih=>exact ih
 |row g b cap _ h2 _ _ _ ih1 ih=>
  intro x hx
  rcases List.mem_cons.1 hx with rfl|hx
  ·obtain⟨arr,E,h,_⟩:=h2;exact⟨arr,E,_,h⟩
  ·rcases List.mem_append.1 hx with hx|hx
   ·exact ih1 x hx
   ·exact ih x hx
 |bx g b cap _ h2 _ _ _ ih1 ih=>
  intro x hx
  rcases List.mem_cons.1 hx with rfl|hx
  ·obtain⟨arr,E,h,_⟩:=h2;exact⟨arr,E,_,h⟩
  ·rcases List.mem_append.1 hx with hx|hx
   ·exact ih1 x hx
   ·exact ih x hx
 |ref s g p off n v _ _ _ ih=>exact ih
 |ptr s g p i v _ _ _ ih=>exact ih
 |iptr g b _ _ _ _ ih=>exact ih
 |agg _ _ _ ih1 ih=>
  intro x hx
  rcases List.mem_append.1 hx with hx|hx
  ·exact ih1 x hx
  ·exact ih x hx
 |tup _ _ _ ih1 ih=>
  intro x hx
  rcases List.mem_append.1 hx with hx|hx
  ·exact ih1 x hx
  ·exact ih x hx
 |fn f _ _ _ ih=>exact ih
theorem a0h.less{c:Cx}{A':Nat→Prop}(hA: ∀x,A' x→c.A x){az:List AV}{vs:List Value}{G:List Nat}(h:a0h c az vs G):a0h {c with A:=A'} az vs G:=by
 have hin: ∀ {g b:Nat} {us:List Value},c.inW g b us→Cx.inW {c with A:=A'} g b us:=fun h=>⟨fun ha=>h.1 (hA _ ha),h.2.1,h.2.2⟩
 induction h with
 |nil=>exact .nil
 |sc v _ ih=>exact .sc v ih
 |dead v _ ih=>exact .dead v ih
 |imm g b cap _ h2 h3 _ ih1 ih=>exact .imm g b cap ih1 (hin h2) h3 ih
 |immk k g b n cap _ h2 h3 h4 _ ih1 ih=>exact .immk k g b n cap ih1 (hin h2) h3 h4 ih
 |refk k s g n v h1 h2 _ ih=>exact .refk k s g n v h1 h2 ih
 |row g b cap _ h2 h3 h4 _ ih1 ih=>exact .row g b cap ih1 h2 h3 h4 ih
 |bx g b cap _ h2 h3 h4 _ ih1 ih=>exact .bx g b cap ih1 h2 h3 h4 ih
 |ref s g p off n v h1 h2 _ ih=>exact .ref s g p off n v h1 h2 ih
 |ptr s g p i v h1 h2 _ ih=>exact .ptr s g p i v h1 h2 ih
 |iptr g b _ h2 _ ih1 ih=>exact .iptr g b ih1 (hin h2) ih
 |agg _ h2 _ ih1 ih=>exact .agg ih1 h2 ih
 |tup _ h2 _ ih1 ih=>exact .tup ih1 h2 ih
 |fn f _ _ ih1 ih=>exact .fn f ih1 ih
def c3E(A0:Nat→Prop)(c:Cx)(Φ:Nat→Nat→List Nat):Nat→Prop:=fun x=>c.A x∧(A0 x∨ ∃s g,x∈Φ s g)
abbrev a8z(A0:Nat→Prop)(c:Cx)(Φ:Nat→Nat→List Nat):Cx:={c with A:=c3E A0 c Φ}
section
variable{w0:World}{A0:Nat→Prop}{F0:List Nat}{cS c:Cx}{Φ:Nat→Nat→List Nat}{st:St}{a:Act}{m:Nat}
theorem Sim.less(h:Sim w0 A0 F0 c Φ []):Sim w0 A0 F0 (a8z A0 c Φ) Φ [] where
 rt:=fun s g a ha=>by
  obtain⟨h1,v,h2,h3⟩:=h.rt s g a ha
  exact⟨h1,v,h2.less fun x hx=>hx.1,h3⟩
 no:=h.no
 dj:=h.dj
 own:=fun s g x hx=>⟨⟨(h.own s g x hx).1,.inr ⟨s,g,hx⟩⟩,(h.own s g x hx).2⟩
 rd:=h.rd
 rown:=fun x hx=>by cases hx
 a0:=fun x hx=>⟨h.a0 x hx,.inl hx⟩
 al:=fun x hx=>h.al x hx.1
 bw:=h.bw
 gd:=h.gd
theorem Sim.lessC_cells(h:Sim w0 A0 F0 c Φ []){x:Nat}(hx:c3E A0 c Φ x)(h0: ¬A0 x): ∃arr E fr,c.w.heap[x]?=some (Obj.cells arr E fr):=by
 rcases hx.2 with h1|⟨s,g,hg⟩
 ·exact absurd h1 h0
 ·cases hr:c.ro s g with
  |none=>rw[h.no s g hr]at hg;cases hg
  |some a=>
   obtain⟨_,v,h2,_⟩:=h.rt s g a hr
   exact h2.isC x hg
theorem DfO.less{m1 m2:Nat}{A':Nat→Prop}(hA: ∀x,A' x→c.A x): ∀ {ds:List Deferred},DfO m1 m2 c ds→DfO m1 m2 {c with A:=A'} ds
 | [],_=>trivial
 |d::ds,⟨⟨D,h1,h2,h3,h4,h5,h6,h7⟩,h⟩=>⟨⟨D,h1,h2,h3,h4,fun ha=>h5 (hA _ ha),h6,h7⟩,DfO.less hA h⟩
theorem SR.less(h:SR w0 A0 F0 cS m st a c Φ):SR w0 A0 F0 cS m st a (a8z A0 c Φ) Φ where
 sim:=h.sim.less
 kp:=⟨h.kp.hsz,fun b hb ha=>h.kp.hA b hb ha.1,h.kp.hI,h.kp.hgn,h.kp.hP⟩
 ro:=h.ro
 gn:=h.gn
 sl:=fun k=>(h.sl k).less fun x hx=>hx.1
 df:=h.df.less fun x hx=>hx.1
 sz:=h.sz
theorem DfO.row{c':Cx}{w':World}{m1 m2:Nat}(hB: ∀i,i<c.w.heap.size→w'.heap[i]?=c'.w.heap[i]?)(hsz:c.w.heap.size≤w'.heap.size): ∀ {ds:List Deferred},DfO m1 m2 c ds→DfO m1 m2 c' ds→DfO m1 m2 {c' with w:=w'} ds
 | [],_,_=>trivial
 |d::ds,⟨⟨D,h1,h2,h3,h4,h5,h6,h7⟩,h⟩,⟨⟨D',k1,k2,k3,k4,k5,k6,k7⟩,k⟩=>by
  have e:D'=D:=by
   rw[h1]at k1
   have:=congrArg Deferred.target k1
   simpa using this.symm
  subst e
  exact⟨⟨D',k1,k2,k3,Nat.lt_of_lt_of_le h4 hsz,k5,(hB D' h4).trans k6,k7⟩,DfO.row hB hsz h k⟩
theorem DfO.target{m1 m2:Nat}: ∀ {ds:List Deferred},DfO m1 m2 c ds→ ∀e,e∈ds→ ∃D,e.target= .collected D∧D<c.w.heap.size
 | [],_,e,he=>by cases he
 |d::ds,⟨⟨D,h1,_,_,h4,_⟩,h⟩,e,he=>by
  rcases List.mem_cons.1 he with rfl|he
  ·exact⟨D,by rw[h1],h4⟩
  ·exact DfO.target h e he
theorem b1e{w:World}{x y:Nat×Nat}(h:locp w [] x=some y):y=x:=by
 unfold locp at h
 exact(Option.some.inj h).symm
theorem a1y.L{c':Cx}(k:a1y c c'){s g:Nat}(hg:g≤c.gn s){cs:List AV}(hc:c'.ro.cells s g []=some cs):c'.L s g=c.L s g:=by
 obtain⟨cs0,_,_,h⟩:=k.hP s g [] cs hg hc
 have h1:=(h (c.L s g) (by unfold locp;rfl)).1
 exact(b1e h1).symm
theorem b1P{ro:Ro}{s g:Nat}{cs:List AV}(h:ro s g=some (.bx cs)):ro.cells s g []=some cs:=by
 unfold Ro.cells
 rw[h]
 rfl
end
end Go.Proofs.YtbakhfiibjkifaaGreat
/- The library's slices.Backward over numbers, as an iterator: by the kit's own walk. -/
namespace Go.Proofs.YtbakhfiibjkifaaGreat
open Go.RowKit Go.Shelf
attribute [local go_sem] Oper.semAt_some
def dwn(n k:Nat):List Nat:=(List.range k).map fun j=>n-1-j
theorem a8k(n k:Nat):dwn n (k+1)=dwn n k++ [n-1-k]:=by simp[dwn,List.range_succ]
theorem b2R(n k:Nat):(dwn n k).length=k:=by simp[dwn]
def BkB(Bs ob:Nat)(zs:List Int)(W:World):Prop:=
 ∃b off cap,W.cell? ⟨Bs,ob,none⟩=some (.slice (some ⟨b,off,none⟩) zs.length cap)∧ ∀j,j<zs.length→W.cell? ⟨b,off+j,none⟩=some (.int .i64 (zs[j]?.getD 0))
set_option maxRecDepth 100000 in
set_option maxHeartbeats 2000000 in
theorem b7c(F:Fence)(nn:Nat)(h8:F.fn 164)(hro:F.round=none)(hn:1≤nn)(l Bs ob:Nat)(zs:List Int)(hreach:zs.length*8≤140737488351232)(J Jx:List Nat→World→Prop)
  (hY: ∀pre (x:Nat) W,J pre W→pre.length<zs.length→YieldAt F (nn-1) Tryz.prog l #[.int .i64 (x:Int),.int .i64 (zs[x]?.getD 0)] W fun e W'=>
   (e= .returned (.bool true)∧J (pre++ [x]) W'∧(BkB Bs ob zs W→BkB Bs ob zs W'))∨(e= .returned (.bool false)∧Jx (pre++ [x]) W'))
  (W:World) (hB:BkB Bs ob zs W) (h0:J [] W):
  CallsIn F nn Tryz.prog 164 #[.func (.yield l) #[] #[],.pointer (some ⟨Bs,ob,none⟩)] W fun e W'=>(∃v,e= .returned v)∧
   ((∃ys,ys=dwn zs.length zs.length∧J ys W')∨(∃pre,(∃k,k≤zs.length∧pre=dwn zs.length k)∧Jx pre W')):=by
 obtain⟨b,off,cap,hBs,hc⟩:=id hB
 refine callsIn_of_wp Tryz.func164 rfl h8 ?_ hro
 simp only[Tryz.ntmps164,List.size_toArray,List.length_cons,List.length_nil,Nat.reduceAdd,Nat.reduceSub,Array.replicate_succ,Array.replicate_zero,List.push_toArray,List.append_toArray,List.nil_append,List.cons_append]
 clear hc
 gi_wp2
 gi_loopw [3] (fun i wr=> ∃k:Nat,k≤zs.length∧i= .int .i64 ((k:Int)-1)∧J (dwn zs.length (zs.length-k)) wr∧BkB Bs ob zs wr)
  (fun i _=>(intOf i+1).toNat)
 case atStart=>exact⟨zs.length,Nat.le_refl _,rfl,by rw[Nat.sub_self];exact h0,hB⟩
 case round=>
  obtain⟨k,hk,rfl,hJs,hnx⟩:=hrel
  obtain⟨b',off',cap',hBs',hc'⟩:=id hnx
  cases k with
  |zero=>
   gi_wp2
   go_end0
   exact⟨⟨_,rfl⟩,.inl ⟨_,rfl,hJs⟩⟩
  |succ m=>
   have hcx:=hc' m (by omega)
   have em:((m+1:Nat):Int)-1=(m:Int):=by omega
   have ex:zs.length-1-(zs.length-(m+1))=m:=by omega
   obtain⟨fn,tmps,assign,body,hy,hR⟩:=hY _ m wr hJs (by rw[b2R];omega)
   rw[em]
   clear hc'
   gi_wp2
   refine hR.mono ?_
   rintro e W3 (⟨rfl,hJ3,hk3⟩|⟨rfl,hJx3⟩)
   ·have hk4:=hk3 hnx
    gi_wp2
    go_roundw
    case rel=>exact⟨m,by omega,by simp,by
     have e1:zs.length-m=(zs.length-(m+1))+1:=by omega
     rw[e1,a8k,ex];exact hJ3,hk4⟩
    case measure=>simp[intOf]
   ·gi_wp2
    refine bodyPost_ret (results_none rfl _ _ _) rfl ?_
    exact⟨⟨_,rfl⟩,.inr ⟨_,⟨zs.length-(m+1)+1,by omega,by rw[a8k,ex]⟩,hJx3⟩⟩
theorem b4O(F:Fence)(nn:Nat)(h8:F.fn 164)(hro:F.round=none)(hn:1≤nn)(Bs ob:Nat)(zs:List Int)(hreach:zs.length*8≤140737488351232)(w:World)(hB:BkB Bs ob zs w):
  SeqStopsK F nn Tryz.prog 164 #[.pointer (some ⟨Bs,ob,none⟩)] (fun x:Nat=> #[Value.int .i64 (x:Int),Value.int .i64 (zs[x]?.getD 0)]) (fun X Y=>BkB Bs ob zs X→BkB Bs ob zs Y) (fun xs=>xs=dwn zs.length zs.length)
   (fun pre=> ∃k,k≤zs.length∧pre=dwn zs.length k) zs.length w:=fun l J Jx W hW hJ _ hY h0=>by
 have hl: ∀ {g o:Nat} {v:Value},w.cell? ⟨g,o,none⟩=some v→W.cell? ⟨g,o,none⟩=some v:=fun {g o v} h=>(hW.cell (p:=⟨g,o,none⟩) (World.block_lt_of_cell? _ _ h)).trans h
 obtain⟨b,off,cap,h1,h2⟩:=hB
 exact b7c F nn h8 hro hn l Bs ob zs hreach J Jx hY W ⟨b,off,cap,hl h1,fun j hj=>hl (h2 j hj)⟩ h0
end Go.Proofs.YtbakhfiibjkifaaGreat
/- The abstract machine: a range over slices.Backward of numbers. -/
namespace Go.Proofs.YtbakhfiibjkifaaGreat
open Go.RowKit
set_option maxRecDepth 1000000
section
variable{w0:World}{A0:Nat→Prop}{F0:List Nat}{cS c:Cx}{Φ:Nat→Nat→List Nat}{st:St}{a:Act}{m:Nat}
theorem b2c{c:Cx}: ∀ {zs:List Int} {us:List Value} {F:List Nat},a0h c (zs.map i64) us F→us=zs.map (Value.int .i64)
 | [],us,F,h=>by cases h;rfl
 |z::zs,us,F,h=>by
  obtain⟨v,us',F1,F2,rfl,_,h1,h2,_⟩:=a0h.uncons h
  obtain⟨rfl,_⟩:=Rel.sc_inv h1
  rw[b2c h2]
  rfl
theorem b8x(h:SR w0 A0 F0 cS m st a c Φ){s4 g4:Nat}{zs:List Int}(r4:st.ro s4 g4=some (.bx [.imm (zs.map i64)])):BkB (c.L s4 g4).1 (c.L s4 g4).2 zs c.w∧g4≤c.gn s4:=by
 obtain⟨hg4,v,hv,hh⟩:=h.sim.rt s4 g4 _ (by rw[h.ro];exact r4)
 obtain⟨g,b,cap,us,F',rfl,hΦ,hus,ho,_⟩:=hv.bx_inv
 have hL:c.L s4 g4=(g,b):=by
  have:Value.pointer (some ⟨g,b,none⟩)= .pointer (some ⟨(c.L s4 g4).1,(c.L s4 g4).2,none⟩):=hh
  injection this with this
  injection this with this
  injection this with e1 e2
  rw[e1,e2]
 obtain⟨u,us',F1,F2,rfl,_,hu,_⟩:=hus.uncons
 obtain⟨g',b',cap',ws,rfl,hw,hin,_,_⟩:=hu.imm_inv
 obtain rfl:=b2c hw
 have hc:=ho.cell (i:=0) (u:=_) rfl
 rw[Nat.add_zero]at hc
 rw[hL]
 rw[List.length_map]at hc
 refine⟨⟨g',b',cap',hc,fun j hj=>?_⟩,hg4⟩
 refine hin.2.2 j _ ?_
 rw[List.getElem?_map,List.getElem?_eq_getElem hj]
 rfl
end
theorem b5A{st0:St}{tg tp tq ta:Tmp}{s4 g4:Nat}{zs:List Int}{az body:Code}(hz:zs.length≤1000000000)(hpq:tp≠tq)
  (hg:st0.sl tg= .fn 164 [.ptr s4 g4 [] 0])
  (Inv:List Nat→St→Prop) (h0:Inv [] st0)
  (hI: ∀pre st,Inv pre st→st.sl=st0.sl∧st.ro s4 g4=some (.bx [.imm (zs.map i64)]))
  (hC9:a2T body=true) (hta: ∀k,a1z k az=true→ta<k)
  (has: ∀(l k:Nat) (t:Array Value) (u v:Value) (W:World) (K:Act→World→Prop),tp<t.size→tq<t.size→K {tmps:=((t.setIfInBounds tp u).setIfInBounds tq v).setIfInBounds ta v,defers:=[]} W→az.wpIn (Fence.wide.inRound l) k Tryz.prog (Exit.then K fun _ _ _=>False) {tmps:=(t.setIfInBounds tp u).setIfInBounds tq v,defers:=[]} W)
  (hbody: ∀pre (x:Nat) st,Inv pre st→pre.length<zs.length→a6R XX.cfg body (fun e st'=>e= .normal∧Inv (pre++ [x]) ⟨st0.sl,st'.ro,st'.gn⟩) ⟨upd (upd (upd st0.sl tp (i64 (x:Int))) tq (i64 (atI zs x))) ta (i64 (atI zs x)),st.ro,st.gn⟩):
  c3i Tryz.prog (.rangeFunc (.tmp tg) #[tp,tq] az body) (fun e st=>e= .normal∧Inv (dwn zs.length zs.length) st) st0:=by
 intro w0 A0 F0 cS m a c Φ h hd
 simp only[a1z,List.all_cons,List.all_nil,Bool.and_true,Bool.and_eq_true,decide_eq_true_eq]at hd
 obtain⟨⟨htp,htq⟩,hd1,hd2⟩:=hd
 have hta':=hta m hd1
 obtain⟨-, r4⟩:=hI _ _ h0
 have hgv:Rel c (st0.sl tg) (a.eval (.tmp tg)) []:=h.ev (.tmp tg)
 rw[hg]at hgv
 obtain⟨us,hv,hcap⟩:=hgv.fn_inv
 obtain⟨v1,us',rfl,k1,k2⟩:=hcap.uncons0
 obtain⟨rfl, -⟩:=k2.nilF
 obtain⟨hg4,p1⟩:=k1.ptr_inv
 obtain⟨x1,l1,rfl⟩:=p1 _ (by rw[h.ro];exact b1P r4)
 obtain rfl:=b1e l1
 simp only[Nat.add_zero]at hv
 have hB0:=(b8x h r4).1
 have hs0:w0.heap.size≤c.w.heap.size:=h.sim.bw.size
 have hsS:cS.w.heap.size≤c.w.heap.size:=h.kp.hsz
 have hA0: ∀x,A0 x→x<c.w.heap.size:=fun x hx=>h.sim.al x (h.sim.a0 x hx)
 have hat: ∀x,zs[x]?.getD 0=atI zs x:=fun x=>by unfold atI;rw[List.getD_eq_getElem?_getD]
 refine wpIn_wide.1 (wpIn_rangeFunc_ownG (F:=Fence.wide) (n:=3) (α:=Nat) rfl (by decide) hv trivial (fun args w=>a6v ⟨_,Tryz.func164,rfl,by kernel_rfl⟩ args w)
  (b4O Fence.wide 2 trivial rfl (by decide) _ _ zs (by omega) c.w hB0) (fun h k x=>k (h x)) ?_ (Below.refl _ _) (fun _=>rfl)
  (fun pre W=> ∃st c' Φ',c'.w=W∧SR w0 A0 F0 cS m st a c' Φ'∧Inv pre st∧c'.L s4 g4=c.L s4 g4∧g4≤c'.gn s4∧c.w.heap.size≤c'.w.heap.size)
  (fun _ _ _=>False) ?_ (fun _ _ _ _ _ h=>h.elim) ⟨st0,c,Φ,rfl,h,h0,rfl,hg4,Nat.le_refl _⟩
  (fun x=>{tmps:=((a.tmps.setIfInBounds tp (.int .i64 (x:Int))).setIfInBounds tq (.int .i64 (zs[x]?.getD 0))).setIfInBounds ta (.int .i64 (zs[x]?.getD 0)),defers:=[]}) ?_ ?_ ?_ (fun _ _ _ _ _ _ h=>h.elim))
 ·intro W l o o' hl ho hoc _ hch
  have ho': ∀(arr:Array Value) (E:TypeId) (fr:Nat×Nat),o≠Obj.cells arr E fr:=fun arr E fr e=>by rw[e]at hoc;cases hoc
  obtain⟨b,off,cap,q1,q2⟩:=hch
  exact⟨b,off,cap,(a4x ho ho').cell q1,fun j hj=>(a4x ho ho').cell (q2 j hj)⟩
 ·rintro s W W' row ⟨st,c',Φ',rfl,hs,hi,e1,e4,e7⟩ hgr hr
  have hlow: ∀i,i<c.w.heap.size→i<c'.w.heap.size→W'.heap[i]?=c'.w.heap[i]?:=fun i hi hi2=>hgr.block i hi2 fun e=>by
   have:=(hr i e.symm).1
   omega
  refine⟨st,{c' with w:=W'},Φ',rfl,hs.objs rfl ⟨hgr.size,fun k arr E fr hk=>?_⟩ hgr.os hgr.tape ⟨hgr.output,trivial⟩ (fun i hi=>?_) ?_,hi,e1,e4,Nat.le_trans e7 hgr.size⟩
  ·rw[hgr.block k (Array.getElem?_eq_some_iff.1 hk).1 fun e=>?_]
   ·exact hk
   ·obtain⟨_,o,ho,hc⟩:=hr k e.symm
    rw[hk]at ho
    obtain rfl:=Option.some.inj ho
    cases hc
  ·have:i<c.w.heap.size:=by omega
   exact hlow i this (by omega)
  ·exact DfO.row (fun i hi=>hlow i hi (by omega)) (Nat.le_trans e7 hgr.size) h.df hs.df
 ·intro l x W K hK
  have:=has l 1 a.tmps (.int .i64 (x:Int)) (.int .i64 (zs[x]?.getD 0)) W K (by rw[h.sz];exact htp) (by rw[h.sz];exact htq) hK
  simpa using this
 ·rintro l pre x W ⟨st,c',Φ',rfl,hs,hi,e1,e4,e7⟩ hlen
  obtain⟨q0,q4⟩:=hI _ _ hi
  have h1:=hs.less
  have hR:SR w0 A0 F0 (a8z A0 c' Φ') m ⟨upd (upd (upd st0.sl tp (i64 (x:Int))) tq (i64 (atI zs x))) ta (i64 (atI zs x)),st.ro,st.gn⟩
    { tmps := ((a.tmps.setIfInBounds tp (.int .i64 (x : Int))).setIfInBounds tq (.int .i64 (zs[x]?.getD 0))).setIfInBounds ta (.int .i64 (zs[x]?.getD 0)), defers := [] } (a8z A0 c' Φ') Φ' := {
   sim:=h1.sim
   kp:=a1y.refl _
   ro:=h1.ro
   gn:=h1.gn
   sl:=fun k=>by
    dsimp only
    rw[hat x]
    by_cases e:k=ta
    ·subst e
     rw[upd_same]
     have:((((a.tmps.setIfInBounds tp (.int .i64 (x:Int))).setIfInBounds tq (.int .i64 (atI zs x))).setIfInBounds k (.int .i64 (atI zs x))).getD k undef)= .int .i64 (atI zs x):=by
      simp[Array.getD,h.sz,hta']
     rw[this]
     exact .sc _ .nil
    ·rw[upd,if_neg e]
     by_cases e':k=tq
     ·subst e'
      rw[upd_same]
      have:((((a.tmps.setIfInBounds tp (.int .i64 (x:Int))).setIfInBounds k (.int .i64 (atI zs x))).setIfInBounds ta (.int .i64 (atI zs x))).getD k undef)= .int .i64 (atI zs x):=by
       rw[Array.getD_eq_getD_getElem?,Array.getElem?_setIfInBounds_ne (fun h=>e h.symm)]
       simp[h.sz,htq]
      rw[this]
      exact .sc _ .nil
     ·rw[upd,if_neg e']
      by_cases e2:k=tp
      ·subst e2
       rw[upd_same]
       have:((((a.tmps.setIfInBounds k (.int .i64 (x:Int))).setIfInBounds tq (.int .i64 (atI zs x))).setIfInBounds ta (.int .i64 (atI zs x))).getD k undef)= .int .i64 (x:Int):=by
        rw[Array.getD_eq_getD_getElem?,Array.getElem?_setIfInBounds_ne (fun h=>e h.symm),Array.getElem?_setIfInBounds_ne (fun h=>e' h.symm)]
        simp[h.sz,htp]
       rw[this]
       exact .sc _ .nil
      ·rw[upd,if_neg e2]
       have:((((a.tmps.setIfInBounds tp (.int .i64 (x:Int))).setIfInBounds tq (.int .i64 (atI zs x))).setIfInBounds ta (.int .i64 (atI zs x))).getD k undef)=a.tmps.getD k undef:=by
        rw[Array.getD_eq_getD_getElem?,Array.getElem?_setIfInBounds_ne (fun h=>e h.symm),Array.getElem?_setIfInBounds_ne (fun h=>e' h.symm),Array.getElem?_setIfInBounds_ne (fun h=>e2 h.symm), ←Array.getD_eq_getD_getElem?]
       rw[this, ←q0]
       exact h1.sl k
   df:=trivial
   sz := by simp [h.sz] }
  refine wpIn_mono (b5j (C:=XX.cfg) (lR:=l) (m:=1) (c:=a8z A0 c' Φ') (a6F _) (a2I _ _) a6G body hC9 hR hd2 (hbody pre x st hi hlen)) ?_
  rintro e a2 w2 ⟨st2,c2,Φ2,rfl,h2,rfl,hi2⟩
  have hk2:a1y (a8z A0 c' Φ') c2:=h2.kp
  obtain⟨-, t4⟩:=hI _ _ hi2
  have f1:c2.L s4 g4=c.L s4 g4:=(hk2.L e4 (by rw[h2.ro];exact b1P t4)).trans e1
  have h3 : SR w0 A0 F0 cS m ⟨st0.sl, st2.ro, st2.gn⟩ a c2 Φ2 := {
   sim:=h2.sim
   kp:=h1.kp.trans hk2
   ro:=h2.ro
   gn:=h2.gn
   sl:=fun k=>by
    show Rel c2 (st0.sl k) _ []
    rw[←q0]
    exact(h1.sl k).mono hk2 (by simp)
   df:=h1.df.mono hk2
   sz := h.sz }
  refine⟨⟨hk2.hsz,fun k o hB hk ho=>?_⟩,fun _=>?_,⟨_,c2,Φ2,rfl,h3,hi2,f1,Nat.le_trans e4 (hk2.hgn _),Nat.le_trans e7 hk2.hsz⟩⟩
  ·refine(hk2.hI k (Array.getElem?_eq_some_iff.1 hk).1 fun ha=>?_).trans hk
   obtain⟨arr,E,fr,hcl⟩:=hs.sim.lessC_cells ha fun h0=>by have:=hA0 k h0;omega
   rw[show (a8z A0 c' Φ').w.heap[k]?=some o from hk]at hcl
   obtain rfl:=Option.some.inj hcl
   cases ho
  ·have:=(b8x h3 t4).1
   rw[f1]at this
   exact this
 ·rintro D xs W hD hxs ⟨st,c',Φ',rfl,hs,hi,e1,e4,e7⟩ hW
  subst hxs
  have h1:=hs.less
  refine⟨st,a8z A0 c' Φ',Φ',rfl,{sim:=h1.sim,kp:=h1.kp,ro:=h1.ro,gn:=h1.gn,sl:=h1.sl,sz:=h1.sz,df:=?_},rfl,hi⟩
  refine⟨⟨D,rfl,by omega,by omega,(Array.getElem?_eq_some_iff.1 hW).1,fun ha=>?_,hW,fun e he h4=>?_⟩,h1.df⟩
  ·obtain⟨arr,E,fr,hcl⟩:=hs.sim.lessC_cells ha fun h0=>by have:=hA0 D h0;omega
   rw[hW]at hcl
   cases hcl
  ·obtain⟨D',h5,h6⟩:=h.df.target e he
   rw[h4]at h5
   injection h5 with h5
   omega
attribute [local go_sem] Oper.semAt_some
theorem c1W{l k:Nat}{t:Array Value}{u v:Value}{W:World}{K:Act→World→Prop}{id:Nat}{ty:TypeId}{ps:String}(h1:10<t.size)(h2:11<t.size)(hK:K {tmps:=((t.setIfInBounds 10 u).setIfInBounds 11 v).setIfInBounds 7 v,defers:=[]} W):
  (Code.region id #[{dst:=some 7,op:=Op.assign (Operand.tmp 11),type:=ty,pos:=ps,after:= #[],guard:=none}] false).wpIn (Fence.wide.inRound l) k Tryz.prog (Exit.then K fun _ _ _=>False) {tmps:=(t.setIfInBounds 10 u).setIfInBounds 11 v,defers:=[]} W:=by
 have hg:((t.setIfInBounds 10 u).setIfInBounds 11 v).getD 11 undef=v:=by simp[Array.getD,h2]
 gi_wp2
 exact hK
theorem c2i{ro:Ro}{gn:Nat→Nat}{zs:List Int}:
  a9B Tryz.prog 144 [a3q zs] ro gn (.fn 164 [.ptr 4096 (gn 4096+1) [] 0]) (upr ro 4096 (gn 4096+1) (.bx [a3q zs])) (upg gn 4096 (gn 4096+1)):=by
 refine b3G (fn:=Tryz.f144) (code:=a0b Tryz.f144) Tryz.func144 rfl (by kernel_rfl) ?_
 intro sl hs'
 have s0:sl 0=a3q zs:=hs' 0
 dsimp only[Tryz.f144,a0b,Option.getD]
 simp(disch:=first|omega|assumption) only[go_sem,s0]
 refine⟨.inr rfl,⟨_,rfl,?_⟩,rfl,rfl⟩
 exact Yfs
def vfo(z:Int)(zs:List Int)(pre:List Nat):Int:=pre.foldl (fun acc x=>(acc*z+atI zs x) % 55441) 0
theorem b0C(z:Int)(zs:List Int)(pre:List Nat)(x:Nat):vfo z zs (pre++ [x])=(vfo z zs pre*z+atI zs x) % 55441:=by
 unfold vfo
 rw[List.foldl_append]
 rfl
theorem c0b(z:Int)(zs:List Int): ∀pre,num (vfo z zs pre):=by
 intro pre
 rcases List.eq_nil_or_concat pre with e|⟨p,x,e⟩
 ·subst e
  show num 0
  unfold num
  decide
 ·subst e
  rw[List.concat_eq_append,b0C]
  exact a0E _
theorem c0g(n:Nat):dwn (n+1) (n+1)=(dwn n n).map (· +1)++ [0]:=by
 rw[a8k]
 have e:n+1-1-n=0:=by omega
 rw[e]
 congr 1
 unfold dwn
 rw[List.map_map]
 refine List.map_congr_left fun j hj=>?_
 have:=List.mem_range.1 hj
 show n+1-1-j=n-1-j+1
 omega
theorem b8E(z:Int): ∀zs:List Int,vfo z zs (dwn zs.length zs.length)=hv z zs
 | []=>rfl
 |c::cs=>by
  have ih:=b8E z cs
  show vfo z (c::cs) (dwn (cs.length+1) (cs.length+1))=(hv z cs*z+c) % 55441
  rw[c0g,b0C, ←ih]
  have e:vfo z (c::cs) ((dwn cs.length cs.length).map (· +1))=vfo z cs (dwn cs.length cs.length):=by
   unfold vfo
   rw[List.foldl_map]
   rfl
  rw[e]
  rfl
def InvV(st0:St)(z:Int)(zs:List Int)(pre:List Nat)(st:St):Prop:=
 st.sl=st0.sl∧st.ro 4096 (st0.gn 4096)=some (.bx [a3q zs])∧st.ro 4096 1=some (.bx [i64 z])∧st.ro 8192 1=some (.bx [i64 (vfo z zs pre)])
theorem c1C{a:AV}{z:Int}{zs:List Int}(ha:isL a zs)(h0:0<zs.length)(hl:zs.length≤1000000)(nz:num z)(ns:a2s zs):a0d Tryz.prog 119 [a,i64 z] (i64 (hv z zs)):=by
 obtain rfl:a=a3q zs:=by
  rcases ha with h|⟨h,_⟩
  ·exact h
  ·subst h;exact absurd h0 (Nat.lt_irrefl _)
 refine b2l (ti:=ti0) (fun f=>Nat.beq f 144) (a6F _) a6G (fn:=Tryz.f119) (code:=a0b Tryz.f119) Tryz.func119 rfl (by kernel_rfl) rfl ?_
 intro sl hs
 have s0:sl 0=a3q zs:=hs 0
 have s1:sl 1=i64 z:=hs 1
 dsimp only[Tryz.f119,a0b,Option.getD]
 refine Yah ?_
 refine c3H rfl _ _ _ (c2i (zs:=zs)) ?_
 simp(disch:=first|assumption|omega) only[go_sem]
 generalize hst:St.mk _ _ _=st0
 have s9:st0.sl 9= .fn 164 [.ptr 4096 (st0.gn 4096) [] 0]:=by rw[←hst];simp only[↓za, ↓reduceIte]
 have s3:st0.sl 3= .ptr 4096 1 [] 0:=by rw[←hst];simp only[↓za, ↓reduceIte,Nat.reduceEqDiff]
 have s5:st0.sl 5= .ptr 8192 1 [] 0:=by rw[←hst];simp only[↓za, ↓reduceIte,Nat.reduceEqDiff]
 have b1:st0.ro 4096 (st0.gn 4096)=some (.bx [a3q zs]):=by rw[←hst];simp only[↓za, ↓reduceIte,zb]
 have b2:st0.ro 4096 1=some (.bx [i64 z]):=by rw[←hst];simp only[↓za, ↓reduceIte,Nat.reduceEqDiff,zb]
 have b3:st0.ro 8192 1=some (.bx [i64 (vfo z zs [])]):=by rw[←hst];simp only[↓za, ↓reduceIte,Nat.reduceEqDiff,zb];rfl
 clear hst
 refine c4f _ (b5A (ta:=7) (zs:=zs) (by omega) (by decide) s9 (InvV st0 z zs) ⟨rfl,b1,b2,b3⟩ (fun pre st h=>⟨h.1,h.2.1⟩) (by kernel_rfl) (fun k h=>by simpa [a1z]using h) (fun l k t u v W K h1 h2 hK=>c1W h1 h2 hK) ?_) ?_
 ·rintro pre x ⟨sl,ro,gn⟩ ⟨q0,q1,q2,q3⟩ hlen
  dsimp only at q0 q1 q2 q3
  have nv:=c0b z zs pre
  have nx:=ns x
  unfold num at nv nx nz
  have hm:=a6N nv.1 (show vfo z zs pre≤55440 by omega) nz.1 (show z≤55440 by omega)
  have ht:Int.tmod (vfo z zs pre*z+atI zs x) 55441=(vfo z zs pre*z+atI zs x) % 55441:=Int.tmod_eq_emod_of_nonneg (by omega)
  refine b6D (X:=XX) _ (by kernel_rfl) ?_
  show WK XX _ [] _ _
  simp(disch:=first|assumption|omega) only[go_sem,s3,s5,q2,q3,ht]
  refine⟨rfl,?_,?_,?_⟩
  ·exact Ue q1
  ·exact Ue q2
  ·simp only[↓za, ↓reduceIte,zb];rw[b0C]
 ·rintro e ⟨sl',ro',gn'⟩ ⟨rfl,q0,q1,q2,q3⟩
  dsimp only at q0 q1 q2 q3
  subst q0
  rw[b8E]at q3
  simp(disch:=first|assumption|omega) only[go_sem,s5,q3]
  exact Yaa
theorem b0y(r:Int): ∀P:List Int,dvp r P=rws (fun j=>hv r (P.drop (j+1))) (P.length-1)
 | []=>rfl
 | [_]=>rfl
 |c::d::cs=>by
  have ih:=b0y r (d::cs)
  show hv r (d::cs)::dvp r (d::cs)=rws (fun j=>hv r ((c::d::cs).drop (j+1))) (cs.length+1)
  rw[ih]
  unfold rws
  rw[List.range_succ_eq_map,List.map_cons,List.map_map]
  rfl
theorem b6f{P:List Int}{j:Nat}(h:j<P.length):P.drop j=atI P j::P.drop (j+1):=by
 rw[List.drop_eq_getElem_cons h]
 congr 1
 unfold atI
 rw[List.getD_eq_getElem?_getD,List.getElem?_eq_getElem h]
 rfl
theorem c3X{a:AV}{r:Int}{P:List Int}(ha:isL a P)(h0:1<P.length)(hl:P.length≤1000000)(nr:num r)(nP:a2s P):a0d Tryz.prog 120 [a,i64 r] (a0H (dvp r P)):=by
 have e0:a0H (dvp r P)= .row (rws (fun j=>i64 (hv r (P.drop (j+1)))) (P.length-1)):=by rw[b0y];simp only[a0H,a0y]
 have e1:(P.length:Int)-1=((P.length-1:Nat):Int):=by omega
 have e2:((P.length-1:Nat):Int)-1=(P.length:Int)-2:=by omega
 have hm':((P.length-1:Nat):Int)≤((4294967296:Nat):Int):=by omega
 refine a0e (fn:=Tryz.f120) (code:=a0b Tryz.f120) Tryz.func120 rfl (by kernel_rfl) (a1b _) ?_
 intro sl hs
 have s0:sl 0=a:=hs 0
 have s1:sl 1=i64 r:=hs 1
 rw[e0]
 dsimp only[Tryz.f120,a0b,Option.getD]
 simp(disch:=first|assumption|omega) only[go_sem,s0,a0B ha,e1,e2,b0i,Int.natCast_nonneg,Int.le_refl,Int.toNat_natCast,hm',List.getD_cons_zero,a5o]
 refine a0f (fun i st=>st.sl 0=a∧st.sl 1=i64 r∧st.sl 5= .ref 8240 1 [] 0 (P.length-1)∧st.ro 8240 1=some (.row (rws (fun j=>i64 (if P.length-1-i≤j then hv r (P.drop (j+1))else 0)) (P.length-1)))∧st.sl 6=i64 (hv r (P.drop (P.length-i)))∧st.sl 7=i64 ((P.length:Int)-2-(i:Int))) ((P.length-1)) ?_ ?_ ?_
 ·refine Yac ?_
  refine⟨congrArg (fun z=>some (AV.row z)) (a0g fun j hj=>by rw[if_neg (by omega)]),?_,a0w (by omega)⟩
  rw[Nat.sub_zero,List.drop_length]
  rfl
 ·rintro i sl ro gn hi ⟨s0,s1,s5,r8240,s6,s7⟩
  dsimp only at s0 s1 s5 r8240 s6 s7
  have hi':(i:Int)<((P.length-1):Nat):=by omega
  have g1:(0:Int)≤(P.length:Int)-2-(i:Int):=by omega
  have g2:(P.length:Int)-2-(i:Int)+1=((P.length-1-i:Nat):Int):=by omega
  have g3:(P.length:Int)-2-(i:Int)=((P.length-2-i:Nat):Int):=by omega
  have g4:P.length-1-i<P.length:=by omega
  have nv:=a7b r (P.drop (P.length-i))
  have nx:=nP (P.length-1-i)
  unfold num at nv nx nr
  have hm:=a6N nv.1 (show hv r (P.drop (P.length-i))≤55440 by omega) nr.1 (show r≤55440 by omega)
  have ht:Int.tmod (hv r (P.drop (P.length-i))*r+atI P (P.length-1-i)) 55441=(hv r (P.drop (P.length-i))*r+atI P (P.length-1-i)) % 55441:=Int.tmod_eq_emod_of_nonneg (by omega)
  have eh:(hv r (P.drop (P.length-i))*r+atI P (P.length-1-i)) % 55441=hv r (P.drop (P.length-(i+1))):=by
   have a1:P.length-(i+1)=P.length-1-i:=by omega
   rw[a1,b6f g4]
   have a2:P.length-1-i+1=P.length-i:=by omega
   rw[a2]
   rfl
  simp(disch:=first|assumption|omega) only[go_sem,s0,s1,s5,s6,s7,g2,a0s ha g4,ht,eh]
  have g5:P.length-2-i<P.length-1:=by omega
  simp(disch:=first|assumption|omega) only[go_sem,s0,s1,s5,r8240,s7,g3,g5,a0X]
  refine⟨congrArg (fun z=>some (AV.row z)) (a0g fun j hj=>?_),a0w (by omega)⟩
  by_cases e:j=P.length-2-i
  ·rw[if_pos e,if_pos (by omega)]
   have e5:P.length-(i+1)=j+1:=by omega
   rw[e5]
  ·rw[if_neg e]
   by_cases e6:P.length-1-i≤j
   ·rw[if_pos e6,if_pos (by omega)]
   ·rw[if_neg e6,if_neg (by omega)]
 ·rintro sl ro gn ⟨s0,s1,s5,r8240,s6,s7⟩
  dsimp only at s0 s1 s5 r8240 s6 s7
  have hi': ¬(((P.length-1):Nat):Int)<((P.length-1):Nat):=by omega
  have g1: ¬(0:Int)≤(P.length:Int)-2-((P.length-1:Nat):Int):=by omega
  have e5:rws (fun j=>i64 (if P.length-1-(P.length-1)≤j then hv r (P.drop (j+1))else 0)) (P.length-1)=rws (fun j=>i64 (hv r (P.drop (j+1)))) (P.length-1):=a0g fun j _=>by rw[if_pos (by omega)]
  rw[e5]at r8240
  simp(disch:=first|assumption|omega) only[go_sem,s5,s7]
  simp only[zr,a1Z,a1H,a2g,zes,zhk, ↓za, ↓reduceIte,r8240]
end Go.Proofs.YtbakhfiibjkifaaGreat
/- Characters by the program: eigenvalues. -/
namespace Go.Proofs.YtbakhfiibjkifaaGreat
open Go.RowKit
set_option maxRecDepth 1000000
structure PQ(L P out:List Int)(z:Nat):Prop where
 sum:out++evl (55441-z) (z:Int) P=L
 mon:Mon P
 nP:a2s P
 lP:P.length≤1000
 lo:out.length≤z
theorem b4C{f:Nat}{z:Int}{P:List Int}(h: ¬1<P.length):evl f z P=[]:=by
 cases f with
 |zero=>rfl
 |succ f=>unfold evl;rw[if_neg h]
theorem PQ.stop{L P out:List Int}{z:Nat}(h:PQ L P out z)(h1: ¬1<P.length):out=L:=by
 have:=h.sum
 rw[b4C h1,List.append_nil]at this
 exact this
theorem PQ.full{L P out:List Int}(h:PQ L P out 55441):out=L:=by
 have:=h.sum
 rw[show 55441-55441=0 from rfl]at this
 simpa [evl]using this
theorem PQ.skip{L P out:List Int}{z:Nat}(h:PQ L P out z)(hz:z<55441)(h1:1<P.length)(h0: ¬hv (z:Int) P=0):PQ L P out (z+1):=by
 have:=h.sum
 obtain⟨k,hk⟩: ∃k,55441-z=k+1:=⟨55440-z,by omega⟩
 rw[hk]at this
 unfold evl at this
 rw[if_pos h1,if_neg h0]at this
 have e:55441-(z+1)=k:=by omega
 exact⟨by rw[e];exact this,h.mon,h.nP,h.lP,by have:=h.lo;omega⟩
theorem b7m(r:Int)(P:List Int):a2s (dvp r P):=by
 rw[b0y]
 intro j
 by_cases hj:j<P.length-1
 ·rw[a0P _ hj];exact a7b _ _
 ·have:atI (rws (fun j=>hv r (P.drop (j+1))) (P.length-1)) j=0:=by unfold atI;rw[List.getD_eq_getElem?_getD,List.getElem?_eq_none (by rw[zfe];omega)];rfl
  rw[this]
  unfold num
  decide
structure PSt(z:Int)(P0 P:List Int):Prop where
 st:b3b z P=b3b z P0
 mon:Mon P
 nP:a2s P
 lP:P.length≤P0.length
theorem PSt.next{z:Int}{P0 P:List Int}(h:PSt z P0 P)(h1:1<P.length)(h0:hv z P=0):PSt z P0 (dvp z P):=
 ⟨by rw[←b4W h1 h0];exact h.st,a9K z P h.mon h1,b7m _ _,by rw[a4v];have:=h.lP;omega⟩
theorem PQ.take{L P out:List Int}{z:Nat}(h:PQ L P out z)(hz:z<55441)(h1:1<P.length)(h0:hv (z:Int) P=0){P':List Int}(hs:PSt (z:Int) P P')(hstop: ¬(1<P'.length∧hv (z:Int) P'=0)):PQ L P' (out++ [(z:Int)]) (z+1):=by
 have:=h.sum
 obtain⟨k,hk⟩: ∃k,55441-z=k+1:=⟨55440-z,by omega⟩
 rw[hk]at this
 unfold evl at this
 rw[if_pos h1,if_pos h0]at this
 have e:55441-(z+1)=k:=by omega
 have e2:b3b (z:Int) P=P':=by rw[←hs.st,b4t hstop]
 rw[e2]at this
 refine⟨?_,hs.mon,hs.nP,Nat.le_trans hs.lP h.lP,by have:=h.lo;simp;omega⟩
 rw[e,List.append_assoc]
 exact this
theorem b4H{P:List Int}(h:Mon P):0<P.length:=by
 cases P with
 |nil=>simp[Mon]at h
 |cons _ _=>simp
theorem c4p{a:AV}{n:Nat}{A:Nat→Nat→Int}(ha:a2t a (a1r A n n))(h0:0<n)(hn:n≤900)(hA:a1G A):a0d Tryz.prog 87 [a] (a0H (evl 55441 0 (chL A n))):=by
 have cp:=c5j ha h0 (by omega) hA
 have hlen:=c0R A n
 have nch:a2s (chL A n):=fun j=>by
  unfold chL
  by_cases hj:j<n+1
  ·rw[a0P _ hj];exact(a7x A n _).2
  ·have:atI (rws (fun j=>(flm A n (n-j)).2) (n+1)) j=0:=by unfold atI;rw[List.getD_eq_getElem?_getD,List.getElem?_eq_none (by rw[zfe];omega)];rfl
   rw[this]
   unfold num
   decide
 generalize hL:evl 55441 0 (chL A n)=L
 refine a0e (fn:=Tryz.f87) (code:=a0b Tryz.f87) Tryz.func87 rfl (by kernel_rfl) (a1b _) ?_
 intro sl hs
 have s0:sl 0=a:=hs 0
 dsimp only[Tryz.f87,a0b,Option.getD]
 refine Yae ?_
 refine a0c _ cp PUt rfl rfl ?_
 simp(disch:=first|assumption|omega) only[go_sem,a0i,List.length_map]
 refine a0f (fun z st=>st.sl 5=i64 (z:Int)∧(∃P out,(st.sl 3= .ref 8192 (st.gn 8192) [] 0 out.length∧st.ro 8192 (st.gn 8192)=some (a0H out))∧((st.sl 4= .ref 8224 1 [] 0 P.length∧st.ro 8224 1=some (a0H P))∨(st.sl 4= .ref 36896 (st.gn 36896) [] 0 P.length∧st.ro 36896 (st.gn 36896)=some (a0H P)))∧PQ L P out z)) 55441 ?_ ?_ ?_
 ·refine Yaf ?_
  exact⟨rfl,chL A n,[],⟨rfl,rfl⟩,.inl ⟨rfl,rfl⟩,⟨by rw[List.nil_append];exact hL,b5U A n,nch,by omega,Nat.le_refl _⟩⟩
 ·rintro z sl ro gn hz ⟨s5,q⟩
  dsimp only at s5
  have hz':(z:Int)<(55441:Nat):=by omega
  dsimp only at q
  obtain⟨P,out,⟨p3,p8⟩,pa,hq⟩:=q
  have nz:num (z:Int):=by unfold num;omega
  have lP:=hq.lP
  have lo:=hq.lo
  have lo2:out.length+1≤4294967296:=by omega
  rcases pa with⟨p4,pr⟩|⟨p4,pr⟩
  ·by_cases hP1:1<P.length
   ·have hP1':(1:Int)<(P.length:Nat):=by omega
    refine Yfo ?_
    refine a0z _ (c1C (a0n P) (by omega) (by omega) nz hq.nP) (.cons (a0q pr rfl (by decide)) (.cons (a1f _ _ _ (by decide)) .nil)) rfl rfl rfl ?_
    by_cases hz0:hv (z:Int) P=0
    ·refine Yes ?_
     refine a0f (fun j st=>st.sl 5=i64 (z:Int)∧(∃P',(st.sl 3= .ref 8192 (st.gn 8192) [] 0 (out.length+1)∧st.ro 8192 (st.gn 8192)=some (a0H (out++ [(z:Int)])))∧((st.sl 4= .ref 8224 1 [] 0 P'.length∧st.ro 8224 1=some (a0H P'))∨(st.sl 4= .ref 36896 (st.gn 36896) [] 0 P'.length∧st.ro 36896 (st.gn 36896)=some (a0H P')))∧PSt (z:Int) P P'∧P'.length+j=P.length)) P.length ?_ ?_ ?_
     ·simp only[↓za, ↓reduceIte,Nat.reduceEqDiff,zb,s5]
      refine⟨P,?_,by first|exact .inl ⟨p4,pr⟩|exact .inr ⟨p4,pr⟩,⟨rfl,hq.mon,hq.nP,Nat.le_refl _⟩,rfl⟩
      rw[List.take_of_length_le (by rw[List.length_map];exact Nat.le_refl _)]
      show _=some (AV.row ((out++ [(z:Int)]).map i64))
      rw[List.map_append]
      rfl
     ·rintro j sl ro gn hj ⟨s5,q2⟩
      dsimp only at s5
      have hj':(j:Int)<(P.length:Nat):=by omega
      dsimp only at q2
      obtain⟨P',⟨t3,t8⟩,pa',hs',hj2⟩:=q2
      have lP':=hs'.lP
      rcases pa' with⟨t4,tr⟩|⟨t4,tr⟩
      ·by_cases hP2:1<P'.length
       ·have hP2':(1:Int)<(P'.length:Nat):=by omega
        refine Ycc ?_
        refine a0z _ (c1C (a0n P') (by omega) (by omega) nz hs'.nP) (.cons (a0q tr rfl (by decide)) (.cons (a1f _ _ _ (by decide)) .nil)) rfl rfl rfl ?_
        by_cases hz2:hv (z:Int) P'=0
        ·refine Ycn ?_
         refine a0z _ (c3X (a0n P') hP2 (by omega) nz hs'.nP) (.cons (a0q tr rfl (by decide)) (.cons (a1f _ _ _ (by decide)) .nil)) rfl rfl (a1j _) ?_
         refine Ycg ?_
         exact⟨dvp (z:Int) P',⟨by first|exact t3|rfl|trivial,by first|exact t8|rfl|trivial⟩,.inr ⟨rfl,rfl⟩,hs'.next hP2 hz2,by rw[a4v];omega⟩
        ·refine Ycd ?_
         exact⟨a0w (by omega),P',out++ [(z:Int)],⟨by rw[List.length_append];rfl,rfl⟩,by first|exact .inl ⟨rfl,rfl⟩|exact .inl ⟨rfl,tr⟩|exact .inr ⟨rfl,rfl⟩|exact .inr ⟨rfl,tr⟩,hq.take hz hP1 hz0 hs' fun h=>hz2 h.2⟩
       ·have hP2': ¬(1:Int)<(P'.length:Nat):=by omega
        refine Ybw ?_
        exact⟨a0w (by omega),P',out++ [(z:Int)],⟨by rw[List.length_append];rfl,rfl⟩,by first|exact .inl ⟨rfl,rfl⟩|exact .inl ⟨rfl,tr⟩|exact .inr ⟨rfl,rfl⟩|exact .inr ⟨rfl,tr⟩,hq.take hz hP1 hz0 hs' fun h=>hP2 h.1⟩
      ·by_cases hP2:1<P'.length
       ·have hP2':(1:Int)<(P'.length:Nat):=by omega
        refine Ycc ?_
        refine a0z _ (c1C (a0n P') (by omega) (by omega) nz hs'.nP) (.cons (a0q tr rfl (by decide)) (.cons (a1f _ _ _ (by decide)) .nil)) rfl rfl rfl ?_
        by_cases hz2:hv (z:Int) P'=0
        ·refine Ycn ?_
         refine a0z _ (c3X (a0n P') hP2 (by omega) nz hs'.nP) (.cons (a0q tr rfl (by decide)) (.cons (a1f _ _ _ (by decide)) .nil)) rfl rfl (a1j _) ?_
         refine Ycg ?_
         exact⟨dvp (z:Int) P',⟨by first|exact t3|rfl|trivial,by first|exact t8|rfl|trivial⟩,.inr ⟨rfl,rfl⟩,hs'.next hP2 hz2,by rw[a4v];omega⟩
        ·refine Ycd ?_
         exact⟨a0w (by omega),P',out++ [(z:Int)],⟨by rw[List.length_append];rfl,rfl⟩,by first|exact .inl ⟨rfl,rfl⟩|exact .inl ⟨rfl,tr⟩|exact .inr ⟨rfl,rfl⟩|exact .inr ⟨rfl,tr⟩,hq.take hz hP1 hz0 hs' fun h=>hz2 h.2⟩
       ·have hP2': ¬(1:Int)<(P'.length:Nat):=by omega
        refine Ybw ?_
        exact⟨a0w (by omega),P',out++ [(z:Int)],⟨by rw[List.length_append];rfl,rfl⟩,by first|exact .inl ⟨rfl,rfl⟩|exact .inl ⟨rfl,tr⟩|exact .inr ⟨rfl,rfl⟩|exact .inr ⟨rfl,tr⟩,hq.take hz hP1 hz0 hs' fun h=>hP2 h.1⟩
     ·rintro sl ro gn ⟨s5,q2⟩
      dsimp only at s5
      have hj': ¬((P.length:Nat):Int)<(P.length:Nat):=by omega
      dsimp only at q2
      obtain⟨P',⟨t3,t8⟩,pa',hs',hj2⟩:=q2
      exact absurd (b4H hs'.mon) (by omega)
    ·refine Ygl ?_
     exact⟨a0w (by omega),P,out,⟨rfl,rfl⟩,by first|exact .inl ⟨rfl,rfl⟩|exact .inl ⟨rfl,pr⟩|exact .inr ⟨rfl,rfl⟩|exact .inr ⟨rfl,pr⟩,hq.skip hz hP1 hz0⟩
   ·have hP1': ¬(1:Int)<(P.length:Nat):=by omega
    have eL:=hq.stop hP1
    subst eL
    refine Yew ?_
    exact Ybs
  ·by_cases hP1:1<P.length
   ·have hP1':(1:Int)<(P.length:Nat):=by omega
    refine Yfo ?_
    refine a0z _ (c1C (a0n P) (by omega) (by omega) nz hq.nP) (.cons (a0q pr rfl (by decide)) (.cons (a1f _ _ _ (by decide)) .nil)) rfl rfl rfl ?_
    by_cases hz0:hv (z:Int) P=0
    ·refine Yes ?_
     refine a0f (fun j st=>st.sl 5=i64 (z:Int)∧(∃P',(st.sl 3= .ref 8192 (st.gn 8192) [] 0 (out.length+1)∧st.ro 8192 (st.gn 8192)=some (a0H (out++ [(z:Int)])))∧((st.sl 4= .ref 8224 1 [] 0 P'.length∧st.ro 8224 1=some (a0H P'))∨(st.sl 4= .ref 36896 (st.gn 36896) [] 0 P'.length∧st.ro 36896 (st.gn 36896)=some (a0H P')))∧PSt (z:Int) P P'∧P'.length+j=P.length)) P.length ?_ ?_ ?_
     ·simp only[↓za, ↓reduceIte,Nat.reduceEqDiff,zb,s5]
      refine⟨P,?_,by first|exact .inl ⟨p4,pr⟩|exact .inr ⟨p4,pr⟩,⟨rfl,hq.mon,hq.nP,Nat.le_refl _⟩,rfl⟩
      rw[List.take_of_length_le (by rw[List.length_map];exact Nat.le_refl _)]
      show _=some (AV.row ((out++ [(z:Int)]).map i64))
      rw[List.map_append]
      rfl
     ·rintro j sl ro gn hj ⟨s5,q2⟩
      dsimp only at s5
      have hj':(j:Int)<(P.length:Nat):=by omega
      dsimp only at q2
      obtain⟨P',⟨t3,t8⟩,pa',hs',hj2⟩:=q2
      have lP':=hs'.lP
      rcases pa' with⟨t4,tr⟩|⟨t4,tr⟩
      ·by_cases hP2:1<P'.length
       ·have hP2':(1:Int)<(P'.length:Nat):=by omega
        refine Ycc ?_
        refine a0z _ (c1C (a0n P') (by omega) (by omega) nz hs'.nP) (.cons (a0q tr rfl (by decide)) (.cons (a1f _ _ _ (by decide)) .nil)) rfl rfl rfl ?_
        by_cases hz2:hv (z:Int) P'=0
        ·refine Ycn ?_
         refine a0z _ (c3X (a0n P') hP2 (by omega) nz hs'.nP) (.cons (a0q tr rfl (by decide)) (.cons (a1f _ _ _ (by decide)) .nil)) rfl rfl (a1j _) ?_
         refine Ycg ?_
         exact⟨dvp (z:Int) P',⟨by first|exact t3|rfl|trivial,by first|exact t8|rfl|trivial⟩,.inr ⟨rfl,rfl⟩,hs'.next hP2 hz2,by rw[a4v];omega⟩
        ·refine Ycd ?_
         exact⟨a0w (by omega),P',out++ [(z:Int)],⟨by rw[List.length_append];rfl,rfl⟩,by first|exact .inl ⟨rfl,rfl⟩|exact .inl ⟨rfl,tr⟩|exact .inr ⟨rfl,rfl⟩|exact .inr ⟨rfl,tr⟩,hq.take hz hP1 hz0 hs' fun h=>hz2 h.2⟩
       ·have hP2': ¬(1:Int)<(P'.length:Nat):=by omega
        refine Ybw ?_
        exact⟨a0w (by omega),P',out++ [(z:Int)],⟨by rw[List.length_append];rfl,rfl⟩,by first|exact .inl ⟨rfl,rfl⟩|exact .inl ⟨rfl,tr⟩|exact .inr ⟨rfl,rfl⟩|exact .inr ⟨rfl,tr⟩,hq.take hz hP1 hz0 hs' fun h=>hP2 h.1⟩
      ·by_cases hP2:1<P'.length
       ·have hP2':(1:Int)<(P'.length:Nat):=by omega
        refine Ycc ?_
        refine a0z _ (c1C (a0n P') (by omega) (by omega) nz hs'.nP) (.cons (a0q tr rfl (by decide)) (.cons (a1f _ _ _ (by decide)) .nil)) rfl rfl rfl ?_
        by_cases hz2:hv (z:Int) P'=0
        ·refine Ycn ?_
         refine a0z _ (c3X (a0n P') hP2 (by omega) nz hs'.nP) (.cons (a0q tr rfl (by decide)) (.cons (a1f _ _ _ (by decide)) .nil)) rfl rfl (a1j _) ?_
         refine Ycg ?_
         exact⟨dvp (z:Int) P',⟨by first|exact t3|rfl|trivial,by first|exact t8|rfl|trivial⟩,.inr ⟨rfl,rfl⟩,hs'.next hP2 hz2,by rw[a4v];omega⟩
        ·refine Ycd ?_
         exact⟨a0w (by omega),P',out++ [(z:Int)],⟨by rw[List.length_append];rfl,rfl⟩,by first|exact .inl ⟨rfl,rfl⟩|exact .inl ⟨rfl,tr⟩|exact .inr ⟨rfl,rfl⟩|exact .inr ⟨rfl,tr⟩,hq.take hz hP1 hz0 hs' fun h=>hz2 h.2⟩
       ·have hP2': ¬(1:Int)<(P'.length:Nat):=by omega
        refine Ybw ?_
        exact⟨a0w (by omega),P',out++ [(z:Int)],⟨by rw[List.length_append];rfl,rfl⟩,by first|exact .inl ⟨rfl,rfl⟩|exact .inl ⟨rfl,tr⟩|exact .inr ⟨rfl,rfl⟩|exact .inr ⟨rfl,tr⟩,hq.take hz hP1 hz0 hs' fun h=>hP2 h.1⟩
     ·rintro sl ro gn ⟨s5,q2⟩
      dsimp only at s5
      have hj': ¬((P.length:Nat):Int)<(P.length:Nat):=by omega
      dsimp only at q2
      obtain⟨P',⟨t3,t8⟩,pa',hs',hj2⟩:=q2
      exact absurd (b4H hs'.mon) (by omega)
    ·refine Ygl ?_
     exact⟨a0w (by omega),P,out,⟨rfl,rfl⟩,by first|exact .inl ⟨rfl,rfl⟩|exact .inl ⟨rfl,pr⟩|exact .inr ⟨rfl,rfl⟩|exact .inr ⟨rfl,pr⟩,hq.skip hz hP1 hz0⟩
   ·have hP1': ¬(1:Int)<(P.length:Nat):=by omega
    have eL:=hq.stop hP1
    subst eL
    refine Yew ?_
    exact Ybs
 ·rintro sl ro gn ⟨s5,q⟩
  dsimp only at s5
  have hz': ¬((55441:Nat):Int)<(55441:Nat):=by omega
  dsimp only at q
  obtain⟨P,out,⟨p3,p8⟩,pa,hq⟩:=q
  have eL:=hq.full
  subst eL
  rcases pa with⟨p4,pr⟩|⟨p4,pr⟩
  ·simp(disch:=first|assumption|omega) only[go_sem,s5,p3,undef]
   exact Ybs
  ·simp(disch:=first|assumption|omega) only[go_sem,s5,p3,undef]
   exact Ybs
end Go.Proofs.YtbakhfiibjkifaaGreat
