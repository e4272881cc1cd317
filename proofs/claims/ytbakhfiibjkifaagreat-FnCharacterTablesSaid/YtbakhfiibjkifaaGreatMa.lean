/- Texts joined: Vm0 Vm1 Vm2 VmG Vm3 Vm4 Vm5 Vm6 Vm7 Vm8. -/
import Derived.WalkKit
import Derived.Orders
import Derived.Laws.BytesArg
set_option linter.all false
/- The abstract machine: values, how they read in the model's memory, and the first laws. Nothing here names the program. -/
namespace Go.Proofs.YtbakhfiibjkifaaGreat
open Go.RowKit
inductive AV where
 |sc (v:Value)
 |dead
 |imm (cs:List AV)
 |row (cs:List AV)
 |bx (cs:List AV)
 |ref (s g:Nat) (p:List Nat) (off n:Nat)
 |ptr (s g:Nat) (p:List Nat) (i:Nat)
 |iptr (cs:List AV)
 |agg (cs:List AV)
 |tup (cs:List AV)
 |fn (f:Nat) (caps:List AV)
 |immk (k n:Nat) (cs:List AV)
 |refk (k s g n:Nat)
 |mp (r:Nat) (es:List (Value×Value))
abbrev Ro:=Nat→Nat→Option AV
def ath:List Nat→AV→Option AV
 | [],c=>some c
 |i::q,.row cs=>match cs[i]? with
  |some c=>ath q c
  |none=>none
 |_::_,_=>none
def setL{α:Type}:Nat→List α→List α→List α
 |_,[],cs=>cs
 |i,a::as,cs=>setL (i+1) as (cs.set i a)
def a3H(f:List AV→List AV):List Nat→AV→AV
 | [],.row cs=> .row (f cs)
 | [],.bx cs=> .bx (f cs)
 | [],a=>a
 |i::q,.row cs=>match cs[i]? with
  |some c=> .row (cs.set i (a3H f q c))
  |none=> .row cs
 |_::_,c=>c
def Ro.at(ro:Ro)(s g:Nat)(p:List Nat):Option AV:=match ro s g with
 |some c=>ath p c
 |none=>none
def blk:AV→Option (List AV)
 | .row cs=>some cs
 | .bx cs=>some cs
 |_=>none
def Ro.cells(ro:Ro)(s g:Nat):List Nat→Option (List AV)
 | []=>match ro s g with
  |some a=>blk a
  |none=>none
 |i::q=>match ro.at s g (i::q)with
  |some (.row cs)=>some cs
  |_=>none
def locp(w:World):List Nat→Nat×Nat→Option (Nat×Nat)
 | [],x=>some x
 |i::q,x=>match w.cell? ⟨x.1,x.2+i,none⟩with
  |some (.slice (some a) _ _)=>if a.spot=none then locp w q (a.block,a.off)else none
  |_=>none
structure Cx where
 w:World
 A:Nat→Prop
 ro:Ro
 gn:Nat→Nat
 L:Nat→Nat→Nat×Nat
def Cx.inW(c:Cx)(g b:Nat)(vs:List Value):Prop:=
 ¬c.A g∧g<c.w.heap.size∧ ∀i u,vs[i]?=some u→c.w.cell? ⟨g,b+i,none⟩=some u
def ownB(w:World)(g b:Nat)(vs:List Value)(cap:Nat):Prop:=
 ∃arr E,w.heap[g]?=some (.cells arr E (0,0))∧b+cap≤arr.size∧vs.length≤cap∧cap≤maxLen∧ ∀i u,vs[i]?=some u→arr[b+i]?=some u
def hdr(w:World)(g b n:Nat)(v:Value):Prop:=
 ∃b' cap arr E,v= .slice (some ⟨g,b',none⟩) n cap∧(b'=b∨cap=0)∧w.heap[g]?=some (.cells arr E (0,0))∧b'+cap≤arr.size∧n≤cap∧cap≤maxLen
def hdrk(w:World)(x:Nat×Nat)(k n:Nat)(v:Value):Prop:=
 ∃cap arr E,v= .slice (some ⟨x.1,x.2,none⟩) n cap∧w.heap[x.1]?=some (.cells arr E (0,0))∧x.2+k*cap≤arr.size∧n≤cap∧0<k
def ownM(w:World)(r:Nat)(es:List (Value×Value)):Prop:=
 ∃arr clock,w.heap[r]?=some (.map arr clock)∧arr.toList.map (fun e=>(e.key,e.val))=es
inductive a0h (c:Cx):List AV→List Value→List Nat→Prop
 |nil:a0h c [] [] []
 |sc {as vs G} (v:Value):a0h c as vs G→a0h c (.sc v::as) (v::vs) G
 |dead {as vs G} (v:Value):a0h c as vs G→a0h c (.dead::as) (v::vs) G
 |imm {as vs G cs us} (g b cap:Nat):a0h c cs us []→c.inW g b us→us.length≤cap→a0h c as vs G→
   a0h c (.imm cs::as) (.slice (some ⟨g,b,none⟩) us.length cap::vs) G
 |row {as vs G cs us F} (g b cap:Nat):a0h c cs us F→ownB c.w g b us cap→g∉F→(∀x,x=g∨x∈F→x∉G)→a0h c as vs G→
   a0h c (.row cs::as) (.slice (some ⟨g,b,none⟩) us.length cap::vs) (g::(F++G))
 |bx {as vs G cs us F} (g b cap:Nat):a0h c cs us F→ownB c.w g b us cap→g∉F→(∀x,x=g∨x∈F→x∉G)→a0h c as vs G→
   a0h c (.bx cs::as) (.pointer (some ⟨g,b,none⟩)::vs) (g::(F++G))
 |ref {as vs G} (s g:Nat) (p:List Nat) (off n:Nat) (v:Value):g≤c.gn s→
   (∀cs,c.ro.cells s g p=some cs→ ∃x,locp c.w p (c.L s g)=some x∧hdr c.w x.1 (x.2+off) n v∧off+n≤cs.length)→
   a0h c as vs G→a0h c (.ref s g p off n::as) (v::vs) G
 |ptr {as vs G} (s g:Nat) (p:List Nat) (i:Nat) (v:Value):g≤c.gn s→
   (∀cs,c.ro.cells s g p=some cs→ ∃x,locp c.w p (c.L s g)=some x∧v= .pointer (some ⟨x.1,x.2+i,none⟩))→
   a0h c as vs G→a0h c (.ptr s g p i::as) (v::vs) G
 |iptr {as vs G cs us} (g b:Nat):a0h c cs us []→c.inW g b us→a0h c as vs G→
   a0h c (.iptr cs::as) (.pointer (some ⟨g,b,none⟩)::vs) G
 |agg {as vs G cs us F}:a0h c cs us F→(∀x,x∈F→x∉G)→a0h c as vs G→
   a0h c (.agg cs::as) (.agg us.toArray::vs) (F++G)
 |tup {as vs G cs us F}:a0h c cs us F→(∀x,x∈F→x∉G)→a0h c as vs G→
   a0h c (.tup cs::as) (.tuple us.toArray::vs) (F++G)
 |fn {as vs G cs us} (f:Nat):a0h c cs us []→a0h c as vs G→
   a0h c (.fn f cs::as) (.func (.func f) #[] us.toArray::vs) G
 |immk {as vs G cs us} (k g b n cap:Nat):a0h c cs us []→c.inW g b us→us.length=k*n→n≤cap→a0h c as vs G→
   a0h c (.immk k n cs::as) (.slice (some ⟨g,b,none⟩) n cap::vs) G
 |refk {as vs G} (k s g n:Nat) (v:Value):g≤c.gn s→(∀cs,c.ro.cells s g []=some cs→hdrk c.w (c.L s g) k n v∧k*n≤cs.length)→
   a0h c as vs G→a0h c (.refk k s g n::as) (v::vs) G
abbrev Rel(c:Cx)(a:AV)(v:Value)(F:List Nat):Prop:=a0h c [a] [v] F
theorem a0h.len{c:Cx}{as vs G}(h:a0h c as vs G):as.length=vs.length:=by
 induction h<;>simp_all
theorem a0h.nilF{c:Cx}{vs G}(h:a0h c [] vs G):vs=[]∧G=[]:=by cases h;exact⟨rfl,rfl⟩
theorem a0h.append{c:Cx}{as bs vs us F G}(h:a0h c as vs F):a0h c bs us G→(∀x,x∈F→x∉G)→a0h c (as++bs) (vs++us) (F++G):=by
 intro hb
 induction h with
 |nil=>intro _;simpa using hb
 |sc v _ ih=>intro d;exact .sc v (ih d)
 |dead v _ ih=>intro d;exact .dead v (ih d)
 |imm g b cap h1 h2 h3 _ _ ih=>intro d;exact .imm g b cap h1 h2 h3 (ih d)
 |row g b cap h1 h2 h3 h4 _ _ ih=>
  intro d
  have:=a0h.row g b cap h1 h2 h3 (fun x hx=>?_) (ih (fun x hx=>d x (by simp[hx])))
  ·simpa using this
  ·simp only[List.mem_append,not_or]
   refine⟨h4 x hx,d x ?_⟩
   rcases hx with rfl|hx
   ·simp
   ·simp[hx]
 |bx g b cap h1 h2 h3 h4 _ _ ih=>
  intro d
  have:=a0h.bx g b cap h1 h2 h3 (fun x hx=>?_) (ih (fun x hx=>d x (by simp[hx])))
  ·simpa using this
  ·simp only[List.mem_append,not_or]
   refine⟨h4 x hx,d x ?_⟩
   rcases hx with rfl|hx
   ·simp
   ·simp[hx]
 |ref s g p off n v h1 h2 _ ih=>intro d;exact .ref s g p off n v h1 h2 (ih d)
 |ptr s g p i v h1 h2 _ ih=>intro d;exact .ptr s g p i v h1 h2 (ih d)
 |iptr g b h1 h2 _ _ ih=>intro d;exact .iptr g b h1 h2 (ih d)
 |agg h1 h2 _ _ ih=>
  intro d
  have:=a0h.agg h1 (fun x hx=>?_) (ih (fun x hx=>d x (by simp[hx])))
  ·simpa using this
  ·simp only[List.mem_append,not_or]
   exact⟨h2 x hx,d x (by simp[hx])⟩
 |tup h1 h2 _ _ ih=>
  intro d
  have:=a0h.tup h1 (fun x hx=>?_) (ih (fun x hx=>d x (by simp[hx])))
  ·simpa using this
  ·simp only[List.mem_append,not_or]
   exact⟨h2 x hx,d x (by simp[hx])⟩
 |fn f h1 _ _ ih=>intro d;exact .fn f h1 (ih d)
 |immk k g b n cap h1 h2 h3 h4 _ _ ih=>intro d;exact .immk k g b n cap h1 h2 h3 h4 (ih d)
 |refk k s g n v h1 h2 _ ih=>intro d;exact .refk k s g n v h1 h2 (ih d)
theorem a0h.cons{c:Cx}{a v as vs F G}(h:Rel c a v F)(hs:a0h c as vs G)(d: ∀x,x∈F→x∉G):a0h c (a::as) (v::vs) (F++G):=
 a0h.append h hs d
theorem a0h.uncons{c:Cx}{a as vs G}(h:a0h c (a::as) vs G):
  ∃v vs' F G',vs=v::vs'∧G=F++G'∧Rel c a v F∧a0h c as vs' G'∧(∀x,x∈F→x∉G'):=by
 cases h with
 |sc v h=>exact⟨v,_,[],_,rfl,rfl,.sc v .nil,h,by simp⟩
 |dead v h=>exact⟨v,_,[],_,rfl,rfl,.dead v .nil,h,by simp⟩
 |imm g b cap h1 h2 h3 h=>exact⟨_,_,[],_,rfl,rfl,.imm g b cap h1 h2 h3 .nil,h,by simp⟩
 | @row _ _ G cs us F g b cap h1 h2 h3 h4 h=>
  exact⟨_,_,g::F,G,rfl,rfl,by simpa using a0h.row g b cap h1 h2 h3 (by simp) .nil,h,by simpa using h4⟩
 | @bx _ _ G cs us F g b cap h1 h2 h3 h4 h=>
  exact⟨_,_,g::F,G,rfl,rfl,by simpa using a0h.bx g b cap h1 h2 h3 (by simp) .nil,h,by simpa using h4⟩
 |ref s g p off n v h1 h2 h=>exact⟨v,_,[],_,rfl,rfl,.ref s g p off n v h1 h2 .nil,h,by simp⟩
 |ptr s g p i v h1 h2 h=>exact⟨v,_,[],_,rfl,rfl,.ptr s g p i v h1 h2 .nil,h,by simp⟩
 |iptr g b h1 h2 h=>exact⟨_,_,[],_,rfl,rfl,.iptr g b h1 h2 .nil,h,by simp⟩
 | @agg _ _ G cs us F h1 h2 h=>exact⟨_,_,F,G,rfl,rfl,by simpa using a0h.agg h1 (by simp) .nil,h,h2⟩
 | @tup _ _ G cs us F h1 h2 h=>exact⟨_,_,F,G,rfl,rfl,by simpa using a0h.tup h1 (by simp) .nil,h,h2⟩
 |fn f h1 h=>exact⟨_,_,[],_,rfl,rfl,.fn f h1 .nil,h,by simp⟩
 |immk k g b n cap h1 h2 h3 h4 h=>exact⟨_,_,[],_,rfl,rfl,.immk k g b n cap h1 h2 h3 h4 .nil,h,by simp⟩
 |refk k s g n v h1 h2 h=>exact⟨_,_,[],_,rfl,rfl,.refk k s g n v h1 h2 .nil,h,by simp⟩
theorem a0h.split{c:Cx}: ∀ {l r:List AV} {vs F},a0h c (l++r) vs F→
  ∃vl vr Fl Fr,vs=vl++vr∧F=Fl++Fr∧a0h c l vl Fl∧a0h c r vr Fr∧(∀x,x∈Fl→x∉Fr)
 | [],r,vs,F,h=>⟨[],vs,[],F,rfl,rfl,.nil,h,by simp⟩
 |a::l,r,vs,F,h=>by
  obtain⟨v,vs',Fa,G',rfl,rfl,ha,hr,hd⟩:=a0h.uncons h
  obtain⟨vl,vr,Fl,Fr,rfl,rfl,hl,hr',hd'⟩:=a0h.split hr
  refine⟨v::vl,vr,Fa++Fl,Fr,rfl,by simp,a0h.cons ha hl (fun x hx h=>hd x hx (by simp[h])),hr',?_⟩
  intro x hx
  simp only[List.mem_append]at hx
  rcases hx with hx|hx
  ·exact fun h=>hd x hx (by simp[h])
  ·exact hd' x hx
theorem a0h.nth{c:Cx}{cs:List AV}{vs F}(h:a0h c cs vs F){i:Nat}{a:AV}(hi:cs[i]?=some a):
  ∃l r vl v vr Fl Fa Fr,cs=l++a::r∧l.length=i∧vs=vl++v::vr∧vl.length=i∧F=Fl++(Fa++Fr)∧a0h c l vl Fl∧Rel c a v Fa∧a0h c r vr Fr∧
   (∀x,x∈Fl→x∉Fa)∧(∀x,x∈Fl→x∉Fr)∧(∀x,x∈Fa→x∉Fr):=by
 obtain⟨hlt,rfl⟩:=List.getElem?_eq_some_iff.1 hi
 have e:cs=cs.take i++cs[i]::cs.drop (i+1):=by simp
 rw[e]at h
 obtain⟨vl,vr,Fl,Fr,rfl,rfl,hl,hr,hd⟩:=a0h.split h
 obtain⟨v,vs',Fa,G',rfl,rfl,ha,hr',hd'⟩:=a0h.uncons hr
 have hlen:=hl.len
 simp only[List.length_take]at hlen
 exact⟨cs.take i,cs.drop (i+1),vl,v,vs',Fl,Fa,G',e,by simp;omega,rfl,by omega,rfl,hl,ha,hr',fun x hx h=>hd x hx (by simp[h]),fun x hx h=>hd x hx (by simp[h]),hd'⟩
theorem a1D{w w':World}{g o:Nat}(h:w'.heap[g]?=w.heap[g]?):w'.cell? ⟨g,o,none⟩=w.cell? ⟨g,o,none⟩:=by simp[World.cell?,h]
theorem ownB.keep{w w':World}{g b vs cap}(h:ownB w g b vs cap)(e:w'.heap[g]?=w.heap[g]?):ownB w' g b vs cap:=by
 obtain⟨arr,E,h1,r⟩:=h
 exact⟨arr,E,e.trans h1,r⟩
theorem ownB.cell{w:World}{g b vs cap}(h:ownB w g b vs cap){i:Nat}{u:Value}(hi:vs[i]?=some u):w.cell? ⟨g,b+i,none⟩=some u:=by
 obtain⟨arr,E,h1,_,_,_,h5⟩:=h
 simp[World.cell?,h1,h5 i u hi]
theorem ownB.lt{w:World}{g b vs cap}(h:ownB w g b vs cap):g<w.heap.size:=by
 obtain⟨arr,E,h1,_⟩:=h
 exact(Array.getElem?_eq_some_iff.1 h1).1
def siz(w w':World)(g:Nat):Prop:= ∀arr E,w.heap[g]?=some (.cells arr E (0,0))→ ∃arr' E',w'.heap[g]?=some (.cells arr' E' (0,0))∧arr.size≤arr'.size
theorem siz.refl(w:World)(g:Nat):siz w w g:=fun arr E h=>⟨arr,E,h,Nat.le_refl _⟩
theorem siz.of{w w':World}{g:Nat}(h:w'.heap[g]?=w.heap[g]?):siz w w' g:=fun arr E e=>⟨arr,E,h.trans e,Nat.le_refl _⟩
theorem siz.trans{w w' w'':World}{g:Nat}(h:siz w w' g)(k:siz w' w'' g):siz w w'' g:=fun arr E e=>by
 obtain⟨a1,E1,e1,l1⟩:=h arr E e
 obtain⟨a2,E2,e2,l2⟩:=k a1 E1 e1
 exact⟨a2,E2,e2,Nat.le_trans l1 l2⟩
structure a1y(c c':Cx):Prop where
 hsz:c.w.heap.size≤c'.w.heap.size
 hA: ∀b,b<c.w.heap.size→c'.A b→c.A b
 hI: ∀b,b<c.w.heap.size→ ¬c.A b→c'.w.heap[b]?=c.w.heap[b]?
 hgn: ∀s,c.gn s≤c'.gn s
 hP: ∀s g p cs,g≤c.gn s→c'.ro.cells s g p=some cs→ ∃cs0,c.ro.cells s g p=some cs0∧cs0.length≤cs.length∧
   ∀x,locp c.w p (c.L s g)=some x→locp c'.w p (c'.L s g)=some x∧(∀off n v,hdr c.w x.1 (x.2+off) n v→hdr c'.w x.1 (x.2+off) n v)∧siz c.w c'.w x.1
theorem a0h.mono{c c':Cx}{as vs G}(h:a0h c as vs G)(k:a1y c c'):
  (∀b,b∈G→c'.w.heap[b]?=c.w.heap[b]?)→a0h c' as vs G:=by
 obtain⟨hsz,hA,hI,hgn,hP⟩:=k
 induction h with
 |nil=>intro _;exact .nil
 |sc v _ ih=>intro hG;exact .sc v (ih hG)
 |dead v _ ih=>intro hG;exact .dead v (ih hG)
 |imm g b cap _ h2 h3 _ ih1 ih=>
  intro hG
  refine .imm g b cap (ih1 (by simp)) ⟨fun h=>h2.1 (hA g h2.2.1 h),Nat.lt_of_lt_of_le h2.2.1 hsz,fun i u hu=>?_⟩ h3 (ih hG)
  rw[a1D (hI g h2.2.1 h2.1)]
  exact h2.2.2 i u hu
 |row g b cap _ h2 h3 h4 _ ih1 ih=>
  intro hG
  refine .row g b cap (ih1 fun x hx=>hG x (by simp[hx])) (h2.keep (hG g (by simp))) h3 h4 (ih fun x hx=>hG x (by simp[hx]))
 |bx g b cap _ h2 h3 h4 _ ih1 ih=>
  intro hG
  refine .bx g b cap (ih1 fun x hx=>hG x (by simp[hx])) (h2.keep (hG g (by simp))) h3 h4 (ih fun x hx=>hG x (by simp[hx]))
 |ref s g p off n v h1 h2 _ ih=>
  intro hG
  refine .ref s g p off n v (Nat.le_trans h1 (hgn s)) (fun cs hcs=>?_) (ih hG)
  obtain⟨cs0,h0,hl,hk⟩:=hP s g p cs h1 hcs
  obtain⟨x,hx,hh,hb⟩:=h2 cs0 h0
  exact⟨x,(hk x hx).1,(hk x hx).2.1 _ _ _ hh,by omega⟩
 |ptr s g p i v h1 h2 _ ih=>
  intro hG
  refine .ptr s g p i v (Nat.le_trans h1 (hgn s)) (fun cs hcs=>?_) (ih hG)
  obtain⟨cs0,h0,hl,hk⟩:=hP s g p cs h1 hcs
  obtain⟨x,hx,hv⟩:=h2 cs0 h0
  exact⟨x,(hk x hx).1,hv⟩
 |iptr g b _ h2 _ ih1 ih=>
  intro hG
  refine .iptr g b (ih1 (by simp)) ⟨fun h=>h2.1 (hA g h2.2.1 h),Nat.lt_of_lt_of_le h2.2.1 hsz,fun i u hu=>?_⟩ (ih hG)
  rw[a1D (hI g h2.2.1 h2.1)]
  exact h2.2.2 i u hu
 |agg _ h2 _ ih1 ih=>intro hG;exact .agg (ih1 fun x hx=>hG x (by simp[hx])) h2 (ih fun x hx=>hG x (by simp[hx]))
 |tup _ h2 _ ih1 ih=>intro hG;exact .tup (ih1 fun x hx=>hG x (by simp[hx])) h2 (ih fun x hx=>hG x (by simp[hx]))
 |fn f _ _ ih1 ih=>intro hG;exact .fn f (ih1 (by simp)) (ih hG)
 |immk k g b n cap _ h2 h3 h4 _ ih1 ih=>
  intro hG
  refine .immk k g b n cap (ih1 (by simp)) ⟨fun h=>h2.1 (hA g h2.2.1 h),Nat.lt_of_lt_of_le h2.2.1 hsz,fun i u hu=>?_⟩ h3 h4 (ih hG)
  rw[a1D (hI g h2.2.1 h2.1)]
  exact h2.2.2 i u hu
 |refk k s g n v h1 h2 _ ih=>
  intro hG
  refine .refk k s g n v (Nat.le_trans h1 (hgn s)) (fun cs hcs=>?_) (ih hG)
  obtain⟨cs0,h0,hl,hk⟩:=hP s g [] cs h1 hcs
  obtain⟨⟨cap,arr,E,e1,e2,e3,e4,e6⟩,hb⟩:=h2 cs0 h0
  obtain⟨k1, -, k2⟩:=hk (c.L s g) rfl
  have k1':c'.L s g=c.L s g:=by simpa [locp]using k1
  obtain⟨arr',E',q3,q4⟩:=k2 arr E e2
  exact⟨⟨cap,arr',E',by rw[k1'];exact e1,by rw[k1'];exact q3,by rw[k1'];omega,e4,e6⟩,by omega⟩
theorem Rel.row_inv{c:Cx}{cs v F}(h:Rel c (.row cs) v F):
  ∃g b cap us F',v= .slice (some ⟨g,b,none⟩) us.length cap∧F=g::F'∧a0h c cs us F'∧ownB c.w g b us cap∧g∉F':=by
 cases h with
 | @row _ _ G _ us F g b cap h1 h2 h3 h4 h=>
  cases h
  exact⟨g,b,cap,us,F,rfl,by simp,h1,h2,h3⟩
theorem Rel.mk_row{c:Cx}{cs us F}(g b cap:Nat)(h1:a0h c cs us F)(h2:ownB c.w g b us cap)(h3:g∉F):
  Rel c (.row cs) (.slice (some ⟨g,b,none⟩) us.length cap) (g::F):=by
 simpa using a0h.row g b cap h1 h2 h3 (by simp) .nil
theorem a4d{c:Cx}: ∀(p:List Nat) {a:AV} {g b n cap:Nat} {F:List Nat} {cs1:List AV},Rel c a (.slice (some ⟨g,b,none⟩) n cap) F→ath p a=some (.row cs1)→
  ∃x cap1 F1,locp c.w p (g,b)=some x∧Rel c (.row cs1) (.slice (some ⟨x.1,x.2,none⟩) cs1.length cap1) F1∧(∀y,y∈F1→y∈F)∧
   (∀w':World,(∀y,y∈F→w'.heap[y]?=c.w.heap[y]?)→locp w' p (g,b)=some x)
 | [],a,g,b,n,cap,F,cs1,h,hp=>by
  simp only[ath,Option.some.injEq]at hp
  subst hp
  obtain⟨g',b',cap',us,F',hv,hF,h1,h2,h3⟩:=Rel.row_inv h
  simp only[Value.slice.injEq,Option.some.injEq,Addr.mk.injEq]at hv
  obtain⟨⟨rfl,rfl,_⟩,rfl,rfl⟩:=hv
  refine⟨(g,b),cap,F,rfl,?_,fun _ h=>h,fun _ _=>rfl⟩
  rw[h1.len]
  exact h
 |i::q,a,g,b,n,cap,F,cs1,h,hp=>by
  cases a with
  |row cs=>
   simp only[ath]at hp
   cases hi:cs[i]? with
   |none=>simp[hi]at hp
   |some ci=>
    simp only[hi]at hp
    obtain⟨g',b',cap',us,F',hv,hF,h1,h2,h3⟩:=Rel.row_inv h
    simp only[Value.slice.injEq,Option.some.injEq,Addr.mk.injEq]at hv
    obtain⟨⟨rfl,rfl,_⟩,rfl,rfl⟩:=hv
    obtain⟨l,r,vl,vi,vr,Fl,Fa,Fr,rfl,hl,rfl,hvl,rfl,hL,ha,hR,d1,d2,d3⟩:=h1.nth hi
    have hrow: ∃ds,ci= .row ds:=by
     cases q with
     |nil=>simp only[ath,Option.some.injEq]at hp;exact⟨_,hp⟩
     |cons j q=>cases ci<;>simp[ath]at hp;exact⟨_,rfl⟩
    obtain⟨ds,rfl⟩:=hrow
    obtain⟨g2,b2,cap2,us2,F2,rfl,rfl,_,_,_⟩:=Rel.row_inv ha
    obtain⟨x,cap1,F1,hx,hr,hs,hw⟩:=a4d q ha hp
    have hc:c.w.cell? ⟨g,b+i,none⟩=some (.slice (some ⟨g2,b2,none⟩) us2.length cap2):=h2.cell (by rw[←hvl];simp)
    subst hF
    refine⟨x,cap1,F1,by simp[locp,hc,hx],hr,fun y hy=>?_,fun w' hw'=>?_⟩
    ·have:=hs y hy
     simp only[List.mem_cons,List.mem_append]
     exact .inr (.inr (.inl (by simpa using this)))
    ·have hc':w'.cell? ⟨g,b+i,none⟩=some (.slice (some ⟨g2,b2,none⟩) us2.length cap2):=by
      rw[a1D (hw' g (by simp))];exact hc
     simp only[locp,hc',if_true]
     exact hw w' fun y hy=>hw' y (by
      simp only[List.mem_cons,List.mem_append]
      exact .inr (.inr (.inl (by simpa using hy))))
  |_=>simp[ath]at hp
structure TI where
 size:Nat
 isAgg:Bool
 zero:List Value
 elem:Option Nat
 flds:List (Nat×Nat)
 ik:Option IntKind
 str:Bool
 bl:Bool
 elk:Option (Nat×Nat)
 arr:Option (Nat×Nat)
structure St where
 sl:Nat→AV
 ro:Ro
 gn:Nat→Nat
def upd(f:Nat→AV)(k:Nat)(v:AV):Nat→AV:=fun j=>if j=k then v else f j
def upg(f:Nat→Nat)(k v:Nat):Nat→Nat:=fun j=>if j=k then v else f j
def upr(f:Ro)(s g:Nat)(a:AV):Ro:=fun s' g'=>if s'=s∧g'=g then some a else f s' g'
@[simp] theorem upd_same (f:Nat→AV) (k:Nat) (v:AV):upd f k v k=v:=by simp[upd]
theorem b8O(f:Nat→AV)(k j:Nat)(v:AV)(h:j≠k):upd f k v j=f j:=by simp[upd,h]
structure Wr where
 s:Nat
 g:Nat
 p:List Nat
 i:Nat
 as:List AV
def Ro.wr(ro:Ro)(x:Wr):Ro:=match ro x.s x.g with
 |some a=>upr ro x.s x.g (a3H (setL x.i x.as) x.p a)
 |none=>ro
def Ro.dl:Ro→List (Nat×Nat)→Ro
 |ro,[]=>ro
 |ro,(s,g)::r=>Ro.dl (upr ro s g .dead) r
structure Eff where
 v:AV
 wr:Option Wr
 dl:List (Nat×Nat)
 al:List (Nat×AV)
def Ro.wrO(ro:Ro):Option Wr→Ro
 |none=>ro
 |some x=>ro.wr x
def St.al:St→List (Nat×AV)→St
 |st,[]=>st
 |st,(s,a)::r=>St.al {st with ro:=upr st.ro s (st.gn s+1) a,gn:=upg st.gn s (st.gn s+1)} r
def St.eff(st:St)(e:Eff):St:=({st with ro:=(st.ro.wrO e.wr).dl e.dl}:St).al e.al
def St.put(st:St)(d:Option Tmp)(v:AV):St:=match d with
 |some d=>{st with sl:=upd st.sl d v}
 |none=>st
def zcs:Value→AV
 | .agg cs=> .agg (cs.toList.map .sc)
 |v=> .sc v
def St.ev(st:St):Operand→AV
 | .tmp t=>st.sl t
 | .const v=>zcs v
 | .func f=> .fn f []
 | .global _=> .dead
def a2i{α:Type}:Sem α→Option α
 | .pure a=>some a
 |_=>none
def a2F:Value→Bool
 | .slice none 0 0=>true
 |_=>false
def a3L(op:BinOp)(t:Bool):Option Value:=match op with
 | .eql=>some (.bool t)
 | .neq=>some (.bool !t)
 |_=>none
def b1w(inf:TI)(op:BinOp):AV→AV→Option Value
 | .sc (.int k a),.sc (.int k' b)=>a2i (binOp op 0 (.int k a) (.int k' b))
 | .sc (.string a),.sc (.string b)=>a2i (binOp op 0 (.string a) (.string b))
 | .sc (.bool a),.sc (.bool b)=>if inf.bl then a3L op (a==b)else none
 | .sc x,.sc y=>if a2F x&&a2F y&&inf.elem.isSome then a3L op true else none
 | .imm _,.sc y=>if a2F y&&inf.elem.isSome then a3L op false else none
 | .ref ..,.sc y=>if a2F y&&inf.elem.isSome then a3L op false else none
 | .agg [.sc (.int .i64 a),.sc (.int .i64 b),.sc (.int .i64 c)],.agg [.sc (.int .i64 x),.sc (.int .i64 y),.sc (.int .i64 z)]=>match inf.arr with
   |some (3,_)=>a3L op ((a==x)&&((b==y)&&(c==z)))
   |_=>none
 |_,_=>none
def lift(s g:Nat)(p:List Nat):AV→AV
 | .row cs=> .ref s g p 0 cs.length
 | .bx _=> .dead
 | .agg _=> .dead
 | .tup _=> .dead
 | .mp _ _=> .dead
 |a=>a
def zfi(s g:Nat)(p:List Nat):Nat→List AV→List AV
 |_,[]=>[]
 |i,a::as=>lift s g (p++ [i]) a::zfi s g p (i+1) as
def zem:AV→List AV
 | .agg cs=>cs
 |a=>[a]
def a1L(ro:Ro)(s g:Nat)(p:List Nat):Bool:=match ro.at s g p with
 |some (.bx _)=>true
 |_=>false
def a1O:Value→Bool
 | .agg _=>false
 | .tuple _=>false
 |_=>true
def zez:AV→Bool
 | .sc v=>a1O v
 | .imm _=>true
 | .iptr _=>true
 | .fn _ _=>true
 | .immk _ _ _=>true
 |_=>false
def a1n(ro:Ro):AV→Bool
 | .ref s g p _ _=>(ro.cells s g p).isSome
 | .ptr s g p _=>(ro.cells s g p).isSome
 |a=>zez a
def zes(ro:Ro):AV→Option (AV×List (Nat×Nat))
 | .ref s g [] 0 n=>match ro s g with
   |some (.row cs)=>if n=cs.length then some (.row cs,[(s,g)])else none
   |_=>none
 | .ref s g (k::p) 0 n=>match ro.cells s g (k::p)with
   |some cs=>if n=cs.length then some (.row cs,[(s,g)])else none
   |none=>none
 |a=>if zez a then some (a,[])else none
def zet(cells:List AV):List (Nat×AV)→List AV
 | []=>cells
 |(i,a)::r=>zet (cells.set i a) r
def zhu(ro:Ro):AV→Option (AV×List (Nat×Nat))
 | .agg [x]=>zes ro x
 |a=>zes ro a
def zer(ro:Ro)(ev:Operand→AV):List (Nat×Operand)→Option (List (Nat×AV)×List (Nat×Nat))
 | []=>some ([],[])
 |(i,x)::r=>match zhu ro (ev x)with
   |some (a,w)=>match zer (ro.dl w) ev r with
     |some (as,ws)=>some ((i,a)::as,w++ws)
     |none=>none
   |none=>none
def zey:AV→Bool
 | .row _=>true
 |_=>false
def a0G:Nat:=4294967296
def zeu(ro:Ro):AV→Option (List AV×List (Nat×Nat))
 | .imm cs=>if cs.all zez then some (cs,[])else none
 | .sc v=>if a2F v then some ([],[])else none
 | .ref s g p off n=>match ro.cells s g p with
   |some cs=>
     let el:=(cs.drop off).take n
     if el.all zez then some (el,[])else if p=[]∧off=0∧n=cs.length∧cs.all (fun a=>zez a||zey a)∧a1L ro s g p=false then some (cs,[(s,g)])else none
   |none=>none
 |_=>none
def zfa(ti:Nat→Option TI)(ro:Ro)(flds:List (Nat×Nat))(ev:Operand→AV):List AV→List (Nat×Operand)→Option (List AV)
 |cells,[]=>some cells
 |cells,(i,x)::r=>match flds[i]? with
   |some (off,t)=>match ti t with
     |some inf=>if(zem (ev x)).length=inf.size∧(zem (ev x)).all (a1n ro)∧off+inf.size≤cells.length then zfa ti ro flds ev (setL off (zem (ev x)) cells) r else none
     |none=>none
   |none=>none
def zee(ro:Ro):AV→Bool
 | .ref s g p _ _=>(ro.cells s g p).isSome
 | .ptr s g p _=>(ro.cells s g p).isSome
 | .refk _ s g _=>(ro.cells s g []).isSome
 |_=>true
def c5f:AV→Bool
 | .sc v=>a1O v
 |_=>false
def a6x(k:Nat)(ev:Operand→AV):Nat→List (Nat×Operand)→Option (List AV)
 |_,[]=>some []
 |j,(i,x)::r=>if i=j then(match ev x with
   | .agg cs=>if cs.length=k∧cs.all c5f then(match a6x k ev (j+1) r with
     |some ds=>some (cs++ds)
     |none=>none)else none
   |_=>none)else none
def a3k:AV→Option Int
 | .sc (.int _ n)=>some n
 |_=>none
def a9s:List AV→Option (List UInt8)
 | []=>some []
 | .sc (.int .u8 k)::r=>match a9s r with
   |some l=>some (UInt8.ofNat k.toNat::l)
   |none=>none
 |_=>none
def b5E(ti:Nat→Option TI)(ro:Ro)(i j:TI)(s g:Nat)(p:List Nat)(off n:Nat):Option Eff:=match i.elem with
 |some e=>match ti e with
   |some ie=>if ie.ik=some .u8∧j.str=true then match ro.cells s g p with
       |some cs=>if off+n≤cs.length then match a9s ((cs.drop off).take n)with
         |some l=>some ⟨.sc (.string ⟨l.toArray⟩),none,[],[]⟩
         |none=>none
         else none
       |none=>none
     else none
   |none=>none
 |none=>none
def b6X(ti:Nat→Option TI)(t t':Nat)(ro:Ro)(gn:Nat→Nat)(x y:AV):Option Eff:=match ti t,ti t' with
 |some i,some j=>match i.elem.bind ti with
   |some ie=>match y,x with
     | .sc (.int .i64 m),.ref s g [] off n=>match ro s g with
       |some (.row cs)=>if j.ik=some .i64∧0<m∧n+m.toNat≤a0G∧a1O (ie.zero.getD 0 undef)=true then
           some ⟨.ref s (gn s+1) [] 0 (n+m.toNat),none,[(s,g)],[(s,.row ((cs.drop off).take n++List.replicate m.toNat (.sc (ie.zero.getD 0 undef))))]⟩else none
       |_=>none
     |_,_=>none
   |none=>none
 |_,_=>none
def opC(ti:Nat→Option TI)(b:Nat)(ro:Ro)(gn:Nat→Nat)(ev:Operand→AV):Op→Option Eff
 | .move x=>some ⟨ev x,none,[],[]⟩
 | .assign x=>some ⟨ev x,none,[],[]⟩
 | .pick c x y=>match ev c with
   | .sc (.bool t)=>some ⟨if t then ev x else ev y,none,[],[]⟩
   |_=>none
 | .binOp op t x y _=>match ti t with
   |some inf=>if zee ro (ev x)then(match b1w inf op (ev x) (ev y)with
     |some v=>some ⟨.sc v,none,[],[]⟩
     |none=>none)else none
   |none=>none
 | .unOp op _ x=>match ev x with
   | .sc v=>match a2i (Op.unary op v)with
     |some v=>some ⟨.sc v,none,[],[]⟩
     |none=>none
   |_=>none
 | .convert src dst x=>match ti src,ti dst,ev x with
   |some i,some j,.sc (.int _ n)=>match i.ik,j.ik with
     |some _,some k=>match a2i (Conv.intToInt k n)with
       |some v=>some ⟨.sc v,none,[],[]⟩
       |none=>none
     |_,_=>none
   |some i,some j,.ref s g p off n=>b5E ti ro i j s g p off n
   |_,_,_=>none
 | .load t x=>match ti t with
   |some inf=>match ev x with
     | .ptr s g p i=>match ro.cells s g p with
       |some cs=>if inf.isAgg then
           (if i+inf.size≤cs.length then some ⟨.agg (zfi s g p i ((cs.drop i).take inf.size)),none,[],[]⟩else none)
         else match cs[i]? with
           |some c=>some ⟨lift s g (p++ [i]) c,none,[],[]⟩
           |none=>none
       |none=>none
     | .iptr cs=>if inf.isAgg then
         (if inf.size≤cs.length then some ⟨.agg (cs.take inf.size),none,[],[]⟩else none)
       else match cs with
         |c::_=>some ⟨c,none,[],[]⟩
         | []=>none
     |_=>none
   |none=>none
 | .store t x y=>match ti t with
   |some inf=>match ev x with
     | .ptr s g p i=>match ro.cells s g p with
       |some cs=>
         if i+inf.size≤cs.length∧(zem (ev y)).length=inf.size∧(zem (ev y)).all (if a1L ro s g p then a1n ro else zez)then
           some ⟨.sc undef,some ⟨s,g,p,i,zem (ev y)⟩,[],[]⟩
         else none
       |none=>none
     |_=>none
   |none=>none
 | .nilCheck x=>if zee ro (ev x)then(match ev x with
   | .ptr s g p i=>some ⟨.ptr s g p i,none,[],[]⟩
   |_=>none)else none
 | .fieldAddr t x f=>match ti t with
   |some inf=>match inf.flds[f]? with
     |some (off,_)=>if inf.isAgg∧zee ro (ev x)then match ev x with
       | .ptr s g p i=>some ⟨.ptr s g p (i+off),none,[],[]⟩
       | .iptr cs=>if off≤cs.length then some ⟨.iptr (cs.drop off),none,[],[]⟩else none
       |_=>none
       else none
     |none=>none
   |none=>none
 | .field t x f=>match ti t with
   |some inf=>match inf.flds[f]? with
     |some (off,ft)=>match ti ft,ev x with
       |some fi,.agg cs=>if inf.isAgg∧off+fi.size≤cs.length then
           (if fi.isAgg then some ⟨.agg ((cs.drop off).take fi.size),none,[],[]⟩else match cs[off]? with
             |some c=>some ⟨c,none,[],[]⟩
             |none=>none)
         else none
       |_,_=>none
     |none=>none
   |none=>none
 | .indexAddr t x ix=>match ti t with
   |some inf=>match inf.elem,ev ix with
     |some _,.sc (.int _ i)=>match ev x with
       | .ref s g p off n=>if 0≤i∧i<n∧(ro.cells s g p).isSome then some ⟨.ptr s g p (off+i.toNat),none,[],[]⟩else none
       | .imm cs=>if 0≤i then(match cs[i.toNat]? with
           |some c=>some ⟨.iptr [c],none,[],[]⟩
           |none=>none)else none
       |_=>none
     |none,.sc (.int _ i)=>match ev x with
       | .refk k s g n=>(match inf.elk with
         |some (_,k')=>if k'=k∧0≤i∧i<n∧(ro.cells s g []).isSome then some ⟨.ptr s g [] (i.toNat*k),none,[],[]⟩else none
         |none=>none)
       | .immk k n cs=>(match inf.elk with
         |some (_,k')=>if k'=k∧0≤i∧i<n then some ⟨.iptr (cs.drop (i.toNat*k)),none,[],[]⟩else none
         |none=>none)
       | .ptr s g p j=>(match inf.arr with
         |some (n,_)=>if 0≤i∧i<n∧(ro.cells s g p).isSome then some ⟨.ptr s g p (j+i.toNat),none,[],[]⟩else none
         |none=>none)
       | .iptr cs=>(match inf.arr with
         |some (n,_)=>if 0≤i∧i<n∧i≤cs.length then some ⟨.iptr (cs.drop i.toNat),none,[],[]⟩else none
         |none=>none)
       |_=>none
     |_,_=>none
   |none=>none
 | .index t x ix=>match ti t with
   |some inf=>match inf.str,ev x,ev ix with
     |true,.sc (.string s),.sc (.int _ i)=>if 0≤i then(match s[i.toNat]? with
         |some u=>some ⟨.sc (.int .u8 u.toNat),none,[],[]⟩
         |none=>none)else none
     |_,_,_=>none
   |none=>none
 | .alloc t=>match ti t with
   |some inf=>some ⟨.ptr b (gn b+1) [] 0,none,[],[(b,.bx (inf.zero.map .sc))]⟩
   |none=>none
 | .box _ x=>if(zem (ev x)).all (a1n ro)then(if(zem (ev x)).length≤65536 then some ⟨.ptr b (gn b+1) [] 0,none,[],[(b,.bx (zem (ev x)))]⟩else none)else none
 | .build t parts=>match ti t with
   |some inf=>if inf.isAgg then(match zfa ti ro (match inf.arr with|some (n,e)=>(List.range n).map (fun j=>(j,e))|none=>inf.flds) ev (inf.zero.map .sc) parts.toList with
       |some cs=>some ⟨.agg cs,none,[],[]⟩
       |none=>none)else none
   |none=>none
 | .buildSlice t n parts=>match ti t with
   |some inf=>match inf.elem with
     |some e=>match ti e with
       |some ie=>match zer ro ev parts.toList with
         |some (as,ws)=>if n≤65536∧as.all (fun p=>decide (p.1<n))then some ⟨.ref b (gn b+1) [] 0 n,none,ws,[(b,.row (zet (List.replicate n (.sc (ie.zero.getD 0 undef))) as))]⟩else none
         |none=>none
       |none=>none
     |none=>match inf.elk with
       |some (_,k)=>match a6x k ev 0 parts.toList with
         |some cs=>if n=parts.toList.length∧0<n∧n≤65536 then some ⟨.refk k b (gn b+1) n,none,[],[(b,.bx cs)]⟩else none
         |none=>none
       |none=>none
   |none=>none
 | .makeSlice t l c=>match ti t with
   |some inf=>match inf.elem with
     |some e=>match ti e,ev l,ev c with
       |some ie,.sc (.int .i64 n),.sc (.int .i64 m)=>if 0≤n∧n≤m∧m≤a0G then
           some ⟨.ref b (gn b+1) [] 0 n.toNat,none,[],[(b,if ie.elem.isSome then .bx (List.replicate n.toNat (.sc (ie.zero.getD 0 undef)))else .row (List.replicate n.toNat (.sc (ie.zero.getD 0 undef))))]⟩else none
       |_,_,_=>none
     |none=>none
   |none=>none
 | .slice t x lo hi none=>match ti t with
  |some inf=>match ev x with
   | .ref s g p off n=>if inf.elem.isSome then
     match (match lo with|none=>some 0|some y=>a3k (ev y)),(match hi with|none=>some (n:Int)|some y=>a3k (ev y))with
     |some l,some h=>if 0≤l∧l≤h∧h≤n∧(ro.cells s g p).isSome then some ⟨.ref s g p (off+l.toNat) (h-l).toNat,none,[],[]⟩else none
     |_,_=>none
     else none
   | .imm cs=>if inf.elem.isSome then
     match (match lo with|none=>some 0|some y=>a3k (ev y)),(match hi with|none=>some (cs.length:Int)|some y=>a3k (ev y))with
     |some l,some h=>if 0≤l∧l≤h∧h≤cs.length then some ⟨.imm ((cs.drop l.toNat).take (h-l).toNat),none,[],[]⟩else none
     |_,_=>none
     else none
   | .sc (.string s)=>if inf.str then
     match (match lo with|none=>some 0|some y=>a3k (ev y)),(match hi with|none=>some (s.size:Int)|some y=>a3k (ev y))with
     |some l,some h=>if 0≤l∧l≤h∧h≤s.size then some ⟨.sc (.string (s.extract l.toNat h.toNat)),none,[],[]⟩else none
     |_,_=>none
     else none
   |_=>none
  |none=>none
 | .extract x i=>match ev x with
   | .tup cs=>match cs[i]? with
     |some c=>some ⟨c,none,[],[]⟩
     |none=>none
   |_=>none
 | .makeFunc (.func f) first caps=>if first.isEmpty then some ⟨.fn f (caps.toList.map ev),none,[],[]⟩else none
 | .call c=>match c.callee,c.args.toList,c.argTypes.toList with
   | .builtin .len,[x],[t]=>match ti t with
     |some inf=>match ev x with
       | .ref s g p _ n=>if inf.elem.isSome∧(ro.cells s g p).isSome then some ⟨.sc (.int .i64 n),none,[],[]⟩else none
       | .imm cs=>if inf.elem.isSome then some ⟨.sc (.int .i64 cs.length),none,[],[]⟩else none
       | .sc (.string s)=>if inf.str then some ⟨.sc (.int .i64 s.size),none,[],[]⟩else none
       | .sc (.slice _ n _)=>if inf.elem.isSome then some ⟨.sc (.int .i64 n),none,[],[]⟩else none
       | .refk _ s g n=>if inf.elk.isSome∧(ro.cells s g []).isSome then some ⟨.sc (.int .i64 n),none,[],[]⟩else none
       | .immk _ n _=>if inf.elk.isSome then some ⟨.sc (.int .i64 n),none,[],[]⟩else none
       |_=>none
     |none=>none
   | .builtin .append,[x,y],[t,t']=>if t=t'∧((ti t).bind (·.elem)).isSome then match zeu ro (ev y)with
     |some (el,ws)=>match ev x with
       | .sc (.slice none 0 0)=>if el.length=0 then some ⟨.sc (.slice none 0 0),none,[],[]⟩
           else if el.length≤a0G then some ⟨.ref b (gn b+1) [] 0 el.length,none,ws,[(b,.row el)]⟩else none
       | .ref s g [] off n=>match (ro.dl ws) s g with
         |some (.row cs)=>if n+el.length≤a0G then
             some ⟨.ref s (gn s+1) [] 0 (n+el.length),none,ws++ [(s,g)],[(s,.row ((cs.drop off).take n++el))]⟩else none
         |_=>none
       |_=>none
     |none=>none
     else b6X ti t t' ro gn (ev x) (ev y)
   | .builtin .max,[x,y],_=>match ev x,ev y with
     | .sc (.int k n),.sc (.int k' m)=>if k=k' then some ⟨.sc (.int k (if m>n then m else n)),none,[],[]⟩else none
     |_,_=>none
   | .builtin .max,[x,y,z],_=>match ev x,ev y,ev z with
     | .sc (.int k n),.sc (.int k' m),.sc (.int k'' l)=>if k=k'∧k=k'' then some ⟨.sc (.int k (if l>(if m>n then m else n)then l else(if m>n then m else n))),none,[],[]⟩else none
     |_,_,_=>none
   | .builtin .min,[x,y],_=>match ev x,ev y with
     | .sc (.int k n),.sc (.int k' m)=>if k=k' then some ⟨.sc (.int k (if m<n then m else n)),none,[],[]⟩else none
     |_,_=>none
   | .builtin .clear,[x],[t]=>match ti t with
     |some inf=>match inf.elem with
       |some el=>match ti el with
         |some ie=>match ev x with
           | .ref s g p off n=>match ro.cells s g p with
             |some cs=>if off+n≤cs.length∧0<n∧a1O (ie.zero.getD 0 undef)=true then some ⟨.tup [],some ⟨s,g,p,off,List.replicate n (.sc (ie.zero.getD 0 undef))⟩,[],[]⟩else none
             |none=>none
           |_=>none
         |none=>none
       |none=>none
     |none=>none
   | .builtin .copy,[x,y],[t,_]=>if((ti t).bind (·.elem)).isSome then match ev x with
     | .ref s g p off n=>match ro.cells s g p,zeu ro (ev y)with
       |some cs,some (el,[])=>if el.all zez∧el.length=n∧0<n∧off+n≤cs.length then some ⟨.sc (.int .i64 n),some ⟨s,g,p,off,el⟩,[],[]⟩else none
       |_,_=>none
     |_=>none
     else none
   |_,_,_=>none
 |_=>none
structure GI(w:World):Prop where
 size:0<1
def cx0(w:World)(A:Nat→Prop):Cx:=⟨w,A,fun _ _=>none,fun _=>0,fun _ _=>(0,0)⟩
def Ou(w w':World):Prop:=w'.output=w.output∧True
theorem Ou.refl(w:World):Ou w w:=⟨rfl,trivial⟩
theorem Ou.drew(w:World):Ou w w.drew:=⟨rfl,trivial⟩
theorem Ou.trans{w w' w'':World}(h:Ou w w')(k:Ou w' w''):Ou w w'':=⟨k.1.trans h.1,trivial⟩
structure Blw(w w':World)(F:List Nat):Prop where
 os:w'.os=w.os
 tape:w'.tape=w.tape
 output:Ou w w'
 size:w.heap.size≤w'.heap.size
 block: ∀k,k<w.heap.size→k∉F→w'.heap[k]?=w.heap[k]?
def Gd(w:World):Prop:= ∃wI,GI wI∧Blw wI w []
def GdF(w:World)(F:List Nat):Prop:= ∃wI,GI wI∧Blw wI w []∧ ∀x,x∈F→wI.heap.size≤x
theorem Gd.nilF{w:World}(h:Gd w):GdF w []:=by
 obtain⟨wI,h1,h2⟩:=h
 exact⟨wI,h1,h2,fun _ h=>by cases h⟩
theorem GdF.next{w w':World}{F:List Nat}(h:GdF w F)(k:Blw w w' F):Gd w':=by
 obtain⟨wI,h1,h2,h3⟩:=h
 refine⟨wI,h1,⟨k.os.trans h2.os,k.tape.trans h2.tape,h2.output.trans k.output,Nat.le_trans h2.size k.size,fun i hi _=>?_⟩⟩
 rw[k.block i (Nat.lt_of_lt_of_le hi h2.size) (fun hF=>by have:=h3 i hF;omega),h2.block i hi (by simp)]
theorem Gd.start{w:World}(h:GI w):Gd w:=⟨w,h,rfl,rfl,Ou.refl _,Nat.le_refl _,fun _ _ _=>rfl⟩
def CallIO(P:Program)(f:Nat)(args:List AV)(r:AV)(outs:List AV):Prop:=
 ∀(w:World) (A:Nat→Prop) (vs:List Value) (F:List Nat),a0h (cx0 w A) args vs F→(∀x,x∈F→ ¬A x)→(∀x,A x→x<w.heap.size)→
  Calls P f vs.toArray w fun e w'=> ∃v A' F',e= .returned v∧a0h (cx0 w' A') (r::outs) (v::vs) F'∧(∀x,A x→A' x)∧
   (∀x,x∈F'→A' x∧ ¬A x∧(w.heap.size≤x∨x∈F))∧Blw w w' F
def b5b (P : Program) (f : Nat) : Prop := ∃ fn, P.funcs[f]? = some fn ∧ fn.body.isSome = true ∧ (fn.name == "runtime.NumGoroutine") = false
mutual
def a0C:AV→Bool
 | .ref .. =>false
 | .ptr .. =>false
 | .row cs=>a0j cs
 | .bx cs=>a0j cs
 | .imm cs=>a0j cs
 | .iptr cs=>a0j cs
 | .agg cs=>a0j cs
 | .tup cs=>a0j cs
 | .fn _ cs=>a0j cs
 | .immk _ _ cs=>a0j cs
 | .refk .. =>false
 | .mp .. =>true
 | .sc _=>true
 | .dead=>true
def a0j:List AV→Bool
 | []=>true
 |a::as=>a0C a&&a0j as
end
mutual
def b5x:AV→Bool
 | .row _=>false
 | .bx _=>false
 | .agg cs=>a5F cs
 | .tup cs=>a5F cs
 | .mp .. =>false
 |_=>true
def a5F:List AV→Bool
 | []=>true
 |a::as=>b5x a&&a5F as
end
def a0d(P:Program)(f:Nat)(args:List AV)(r:AV):Prop:=
 b5b P f∧a0C r=true∧ ∀(w:World) (A:Nat→Prop) (vs:List Value),a0h (cx0 w A) args vs []→(∀x,A x→x<w.heap.size)→Gd w→
  Calls P f vs.toArray w fun e w'=> ∃v A' F',e= .returned v∧Rel (cx0 w' A') r v F'∧(∀x,A x→A' x)∧
   (∀x,x∈F'→A' x∧w.heap.size≤x)∧Blw w w' []
mutual
def a0W:AV→Bool
 | .ref .. =>false
 | .ptr .. =>false
 | .row _=>false
 | .bx _=>false
 | .imm cs=>a0Q cs
 | .iptr cs=>a0Q cs
 | .agg cs=>a0Q cs
 | .tup cs=>a0Q cs
 | .fn _ cs=>a0Q cs
 | .immk _ _ cs=>a0Q cs
 | .refk .. =>false
 | .mp .. =>false
 | .sc _=>true
 | .dead=>true
def a0Q:List AV→Bool
 | []=>true
 |a::as=>a0W a&&a0Q as
end
mutual
def noI:AV→Bool
 | .ref .. =>false
 | .ptr .. =>false
 | .imm _=>false
 | .iptr _=>false
 | .fn _ cs=>a2R cs
 | .row cs=>a2R cs
 | .bx cs=>a2R cs
 | .agg cs=>a2R cs
 | .tup cs=>a2R cs
 | .immk .. =>false
 | .refk .. =>false
 | .mp .. =>true
 | .sc _=>true
 | .dead=>true
def a2R:List AV→Bool
 | []=>true
 |a::as=>noI a&&a2R as
end
def ex(ro:Ro):Nat→AV→AV
 |0,_=> .dead
 |n+1,a=>match a with
  | .sc v=> .sc v
  | .dead=> .dead
  | .imm cs=> .imm (cs.map (ex ro n))
  | .iptr cs=> .iptr (cs.map (ex ro n))
  | .row cs=> .imm (cs.map (ex ro n))
  | .bx cs=> .iptr (cs.map (ex ro n))
  | .agg cs=> .agg (cs.map (ex ro n))
  | .tup cs=> .tup (cs.map (ex ro n))
  | .fn f cs=> .fn f (cs.map (ex ro n))
  | .immk k m cs=> .immk k m (cs.map (ex ro n))
  | .refk k s g m=>match ro.cells s g []with
   |some cs=> .immk k m ((cs.take (k*m)).map (ex ro n))
   |none=> .dead
  | .mp .. => .dead
  | .ref s g p off k=>match ro.cells s g p with
   |some cs=> .imm (((cs.drop off).take k).map (ex ro n))
   |none=> .dead
  | .ptr s g p i=>match ro.cells s g p with
   |some cs=> .iptr ((cs.drop i).map (ex ro n))
   |none=> .dead
def exO(ro:Ro):AV→Option AV
 | .ref s g p 0 n=>match ro.at s g p with
  |some (.row cs)=>if n=cs.length then some (.row cs)else none
  |_=>none
 | .ptr s g [] 0=>match ro s g with
  |some (.bx cs)=>some (.bx cs)
  |_=>none
 | .agg cs=>match cs with
  | [.ref s g p 0 n,.ref s' g' p' 0 n']=>match ro.at s g p,ro.at s' g' p' with
   |some (.row xs),some (.row ys)=>if n=xs.length∧n'=ys.length∧(s,g)≠(s',g')then some (.agg [.row xs,.row ys])else none
   |_,_=>none
  | [.ref s g p 0 n]=>match ro.at s g p with
   |some (.row xs)=>if n=xs.length then some (.agg [.row xs])else none
   |_=>none
  |_=>if a0Q cs then some (.agg cs)else none
 |a=>if a0W a then some a else none
def a3y(b:Nat)(gn:Nat→Nat):List AV→List AV×List (Nat×AV)×Nat
 | []=>([],[],b)
 | .row cs::as=>let r:=a3y (b+1) gn as;(.ref b (gn b+1) [] 0 cs.length::r.1,(b,.row cs)::r.2.1,r.2.2)
 | .bx cs::as=>let r:=a3y (b+1) gn as;(.ptr b (gn b+1) [] 0::r.1,(b,.bx cs)::r.2.1,r.2.2)
 |a::as=>let r:=a3y b gn as;(a::r.1,r.2.1,r.2.2)
def a5H(b:Nat)(gn:Nat→Nat):List AV→List AV×List (Nat×AV)×Nat
 | []=>([],[],b)
 | .agg cs::as=>let x:=a3y b gn cs;let r:=a5H x.2.2 gn as;(.agg x.1::r.1,x.2.1++r.2.1,r.2.2)
 |a::as=>let x:=a3y b gn [a];let r:=a5H x.2.2 gn as;(x.1++r.1,x.2.1++r.2.1,r.2.2)
def imp(b:Nat)(gn:Nat→Nat):AV→AV×List (Nat×AV)
 | .tup cs=>let x:=a5H b gn cs;(.tup x.1,x.2.1)
 |a=>let x:=a5H b gn [a];(x.1.headD .dead,x.2.1)
def c3R:AV→Bool
 | .row _=>true
 | .bx _=>true
 |a=>b5x a
def c2T:AV→Bool
 | .agg cs=>cs.all c3R
 |a=>c3R a
def a4a:AV→Bool
 | .tup cs=>cs.all c2T
 |a=>c2T a
def a1F(rid i:Nat):Nat:=(rid+1)*4096+i*16
structure Cfg where
 P:Program
 ti:Nat→Option TI
 inl:Nat→List AV→Ro→(Nat→Nat)→(AV→Ro→(Nat→Nat)→Prop)→Prop
 rf:Code→(Exit→St→Prop)→St→Prop
 xo:Op→(Operand→AV)→Ro→(Nat→Nat)→(AV→Ro→(Nat→Nat)→Prop)→Prop
def b2H(C:Cfg)(b:Nat)(st:St)(f:Nat)(args:List AV)(e:Eff):Prop:=
 if a0Q args then ∃r,a0d C.P f args r∧a4a r=true∧e=⟨(imp b st.gn r).1,none,[],(imp b st.gn r).2⟩
 else ∃r,a0d C.P f (args.map (ex st.ro 8)) r∧a4a r=true∧noI r=true∧e=⟨(imp b st.gn r).1,none,[],(imp b st.gn r).2⟩
def opR(C:Cfg)(b:Nat)(st:St)(op:Op)(e:Eff):Prop:=match op with
 | .call c=>match c.callee with
  | .value f=>match st.ev f with
   | .fn f caps=>b2H C b st f (c.args.toList.map st.ev++caps) e
   |_=>False
  |_=>opC C.ti b st.ro st.gn st.ev (.call c)=some e
 |op=>opC C.ti b st.ro st.gn st.ev op=some e
def zbl(ops:Array Oper)(o:Oper)(st:St):Option Bool:=match o.guard with
 |none=>some true
 |some (j,t)=>match (ops[j]?).bind (·.dst)with
  |some d=>match st.sl d with
   | .sc (.bool x)=>some (x==t)
   | .sc v=>if(match v with| .bool _=>true|_=>false)then none else some false
   |_=>none
  |none=>none
def a6V(C:Cfg)(rid:Nat)(ops:Array Oper)(i:Nat)(o:Oper)(st st':St):Prop:=match zbl ops o st with
 |some true=> ∃e,opR C (a1F rid i) st o.op e∧st'=(st.eff e).put o.dst e.v
 |some false=>st'=st.put o.dst (.sc undef)
 |none=>False
def inR(C:Cfg)(st:St)(op:Op)(Po:AV→Ro→(Nat→Nat)→Prop):Prop:=match op with
 | .call c=>match c.callee with
  | .value f=>match st.ev f with
   | .fn f caps=>C.inl f (c.args.toList.map st.ev++caps) st.ro st.gn Po
   |_=>False
  |_=>False
 |_=>False
def inRX(C:Cfg)(st:St)(op:Op)(Po:AV→Ro→(Nat→Nat)→Prop):Prop:=inR C st op Po∨C.xo op st.ev st.ro st.gn Po
def a6T(C:Cfg)(rid:Nat)(ops:Array Oper):List Oper→Nat→(St→Prop)→St→Prop
 | [],_,Q,st=>Q st
 |o::rest,i,Q,st=>match zbl ops o st with
  |some true=>(∃e,opR C (a1F rid i) st o.op e∧a6T C rid ops rest (i+1) Q ((st.eff e).put o.dst e.v))∨
    (∃Po:AV→Ro→(Nat→Nat)→Prop,inRX C st o.op Po∧ ∀r ro' gn',Po r ro' gn'→a6T C rid ops rest (i+1) Q ((⟨st.sl,ro',gn'⟩:St).put o.dst r))
  |some false=>a6T C rid ops rest (i+1) Q (st.put o.dst (.sc undef))
  |none=>False
mutual
def zdy:AV→List Nat
 | .ref s _ _ _ _=>[s]
 | .ptr s _ _ _=>[s]
 | .agg cs=>zdz cs
 | .tup cs=>zdz cs
 | .fn _ cs=>zdz cs
 | .refk _ s _ _=>[s]
 |_=>[]
def zdz:List AV→List Nat
 | []=>[]
 |a::as=>zdy a++zdz as
end
def rdS(ev:Operand→AV):Op→Option (List Nat)
 | .binOp _ _ x _ _=>some (zdy (ev x))
 | .load _ x=>some (zdy (ev x))
 | .store _ x y=>some (zdy (ev x)++zdy (ev y))
 | .fieldAddr _ x _=>some (zdy (ev x))
 | .nilCheck x=>some (zdy (ev x))
 | .indexAddr _ x _=>some (zdy (ev x))
 | .slice _ x _ _ _=>some (zdy (ev x))
 | .box _ x=>some (zdy (ev x))
 | .convert _ _ x=>some (zdy (ev x))
 | .build _ ps=>some (ps.toList.flatMap fun p=>zdy (ev p.2))
 | .buildSlice _ _ ps=>some (ps.toList.flatMap fun p=>zdy (ev p.2))
 | .call c=>match c.callee with
  | .value f=>match ev f with
   | .fn _ caps=>if a0Q (c.args.toList.map ev++caps)then some []else none
   |_=>some []
  |_=>some (c.args.toList.flatMap fun x=>zdy (ev x))
 |_=>some []
mutual
def shA(ro:Ro):AV→Bool
 | .ref s g p _ _=>match ro.cells s g p with
  |some cs=>a0j cs
  |none=>true
 | .ptr s g p _=>match ro.cells s g p with
  |some cs=>a0j cs
  |none=>true
 | .agg cs=>shL ro cs
 | .tup cs=>shL ro cs
 | .fn _ cs=>shL ro cs
 | .imm cs=>a0j cs
 | .iptr cs=>a0j cs
 | .row cs=>a0j cs
 | .bx cs=>a0j cs
 | .immk _ _ cs=>a0j cs
 | .refk _ s g _=>match ro.cells s g []with
  |some cs=>a0j cs
  |none=>true
 | .mp .. =>true
 | .sc _=>true
 | .dead=>true
def shL(ro:Ro):List AV→Bool
 | []=>true
 |a::as=>shA ro a&&shL ro as
end
def rdX(ro:Ro)(ev:Operand→AV):Op→Option (List Nat)
 | .call c=>match c.callee with
  | .value f=>match ev f with
   | .fn _ caps=>if shL ro (c.args.toList.map ev++caps)then some (zdz (c.args.toList.map ev++caps))else none
   |_=>none
  |_=>none
 |_=>none
def rdR(ro:Ro)(ev:Operand→AV)(op:Op):Option (List Nat):=match rdS ev op with
 |some r=>some r
 |none=>rdX ro ev op
def Eff.sites(e:Eff):List Nat:=(match e.wr with|some x=>[x.s]|none=>[])++e.dl.map (·.1)++e.al.map (·.1)
structure FP where
 rd:Option (List Nat)
 wr:List Nat
def a7j(C:Cfg)(rid:Nat)(ops:Array Oper):List Oper→Nat→List FP→(St→List FP→Prop)→St→Prop
 | [],_,acc,Q,st=>Q st acc.reverse
 |o::rest,i,acc,Q,st=>match zbl ops o st with
  |some true=> ∃e,opR C (a1F rid i) st o.op e∧a7j C rid ops rest (i+1) (⟨rdR st.ro st.ev o.op,e.sites⟩::acc) Q ((st.eff e).put o.dst e.v)
  |some false=>a7j C rid ops rest (i+1) (⟨some [],[]⟩::acc) Q (st.put o.dst (.sc undef))
  |none=>False
def a8C(a b:List Nat):Bool:=a.all fun x=>!b.contains x
def FP.apart(a b:FP):Bool:=
 (match a.rd with|some r=>a8C r b.wr|none=>b.wr.isEmpty)&&(match b.rd with|some r=>a8C r a.wr|none=>a.wr.isEmpty)&&a8C a.wr b.wr
def a7R(ops:Array Oper):Nat→Nat→Nat→Bool
 |0,_,_=>false
 |n+1,j,i=>match ops[i]? with
  |some o=>o.after.toList.any fun e=>Region.binds .any e&&(e.on==j||a7R ops n j e.on)
  |none=>false
def a7r(ops:Array Oper)(fp:List FP)(j i:Nat):Bool:=
 match ops[j]?,ops[i]?,fp[j]?,fp[i]? with
 |some x,some y,some a,some b=>(x.apart ops y&&a.apart b)||a7R ops ops.size j i
 |_,_,_,_=>false
def okD(ops:Array Oper)(fp:List FP):Bool:=(List.range ops.size).all fun i=>
 (match ops[i]? with|some o=>o.after.toList.all fun e=>!Region.binds .any e||decide (e.on<i)|none=>true)&&(List.range i).all fun j=>a7r ops fp j i
def isV:Op→Bool
 | .call c=>match c.callee with
  | .value _=>true
  |_=>false
 |_=>false
def a1W{β:Type}(W:List Nat)(f g:Nat→β):Nat→β:=fun s=>if W.contains s then f s else g s
def a2U(ops:Array Oper)(i:Nat):Bool:=(List.range ops.size).all fun k=>!(decide (i<k))||(match ops[k]? with|some o=>!(isV o.op)|none=>true)||a7R ops ops.size i k
def inD(C:Cfg)(ops:Array Oper)(i:Nat)(o:Oper)(st:St)(Po:AV→Ro→(Nat→Nat)→Prop)(R W:List Nat):Prop:=
 (∀ro1 gn1,(∀s,s∈R∨s∈W→ro1 s=st.ro s)→(∀s,s∈W→gn1 s=st.gn s)→inR C ⟨st.sl,ro1,gn1⟩ o.op (fun r a b=> ∃ro' gn',Po r ro' gn'∧a=a1W W ro' ro1∧b=a1W W gn' gn1))∧
 (∀r ro' gn',Po r ro' gn'→ ∀s,s∉W→ro' s=st.ro s∧gn' s=st.gn s)∧a2U ops i=true∧
 ((∃r ro' gn',Po r ro' gn')∨ ∀k,i<k→k<ops.size→a7R ops ops.size i k=true)
def FP.le(a b:FP):Prop:=(match b.rd with|none=>True|some r=> ∃q,a.rd=some q∧ ∀s,s∈q→s∈r)∧ ∀s,s∈a.wr→s∈b.wr
def a9C(C:Cfg)(rid:Nat)(ops:Array Oper)(fin:List FP):List Oper→Nat→(St→Prop)→St→Prop
 | [],_,Q,st=>Q st
 |o::rest,i,Q,st=>match zbl ops o st with
  |some true=>(∃e,opR C (a1F rid i) st o.op e∧(∃F,fin[i]?=some F∧FP.le ⟨rdR st.ro st.ev o.op,e.sites⟩ F)∧a9C C rid ops fin rest (i+1) Q ((st.eff e).put o.dst e.v))∨
    (∃Po R W,inD C ops i o st Po R W∧fin[i]?=some ⟨some R,W⟩∧ ∀r ro' gn',Po r ro' gn'→a9C C rid ops fin rest (i+1) Q ((⟨st.sl,ro',gn'⟩:St).put o.dst r))
  |some false=>(∃F,fin[i]?=some F∧FP.le ⟨some [],[]⟩ F)∧a9C C rid ops fin rest (i+1) Q (st.put o.dst (.sc undef))
  |none=>False
def unp(st:St)(s g b n:Nat)(R:Nat→List AV):St:=
 ⟨st.sl,fun s' g'=>if s'=s∧g'=g then some (.bx ((List.range n).map fun i=> .ref b (st.gn b+1+i) [] 0 (R i).length))else
  if s'=b∧st.gn b<g'∧g'≤st.gn b+n then some (.row (R (g'-(st.gn b+1))))else st.ro s' g',upg st.gn b (st.gn b+n)⟩
def c5i(s g:Nat)(cs:List AV):AV→AV
 | .refk k s' g' n=>if s'=s∧g'=g then .immk k n (cs.take (k*n))else .refk k s' g' n
 |a=>a
def frz(st:St)(s g:Nat)(cs:List AV):St:=⟨fun j=>c5i s g cs (st.sl j),upr st.ro s g .dead,st.gn⟩
mutual
def b3e:AV→AV
 | .row cs=> .imm (a6U cs)
 | .bx cs=> .iptr (a6U cs)
 | .agg cs=> .agg (a6U cs)
 | .tup cs=> .tup (a6U cs)
 | .mp .. => .dead
 |a=>a
def a6U:List AV→List AV
 | []=>[]
 |a::as=>b3e a::a6U as
end
theorem a3w: ∀(as:List AV),a6U as=as.map b3e
 | []=>rfl
 |a::as=>by rw[a6U,a3w as];rfl
def c4X(s g:Nat)(cs:List AV):AV→AV
 | .ref s' g' [] 0 n=>if s'=s∧g'=g∧n=cs.length then .imm (a6U cs)else .ref s' g' [] 0 n
 |a=>a
def frzS(st:St)(s g:Nat)(cs:List AV):St:=⟨fun j=>c4X s g cs (st.sl j),upr st.ro s g .dead,st.gn⟩
inductive Gh (st:St):St→Prop
 |refl:Gh st st
 |unp (s g b n:Nat) (R:Nat→List AV):s≠b→st.ro s g=some (.row ((List.range n).map fun i=> .row (R i)))→Gh st (unp st s g b n R)
 |frz (s g:Nat) (cs:List AV):st.ro s g=some (.bx cs)→a5F cs=true→Gh st (frz st s g cs)
 |frzR (s g:Nat) (cs:List AV):st.ro s g=some (.row cs)→a2R cs=true→Gh st (frzS st s g cs)
def a4I(C:Cfg):Code→(Exit→St→Prop)→St→Prop
 | .skip,Q,st=>Q .normal st
 | .region id ops false,Q,st=>a6T C id ops ops.toList 0 (Q .normal) st
 | .region id ops true,Q,st=>a7j C id ops ops.toList 0 [] (fun st fp=>okD ops fp=true∧Q .normal st) st∨(ops.toList.any (fun o=>isV o.op)=true∧ ∃fin:List FP,fin.length=ops.size∧okD ops fin=true∧a9C C id ops fin ops.toList 0 (Q .normal) st)∨(∃Q0,C.rf (.region id ops true) Q0 st∧ ∀e st',Q0 e st'→Q e st')
 | .seq a b,Q,st=>a4I C a (fun e st'=>match e with
  | .normal=>a4I C b Q st'
  |e=>Q e st') st
 | .cond c x y,Q,st=> ∃t,st.ev c= .sc (.bool t)∧(t=true→a4I C x Q st)∧(t=false→a4I C y Q st)
 | .block id c,Q,st=>a4I C c (fun e st'=>match e with
  | .exit j=>if j=id then Q .normal st' else Q (.exit j) st'
  |e=>Q e st') st
 | .loop c,Q,st=> ∃st0,Gh st st0∧ ∃(I:Nat→St→Prop) (n:Nat),I n st0∧ ∀n st',I n st'→a4I C c (fun e st''=>match e with
  | .normal=> ∃m,m<n∧I m st''
  |e=>Q e st'') st'
 | .exit id,Q,st=>Q (.exit id) st
 | .ret,Q,st=>Q .ret st
 | .rangeFunc g ps x y,Q,st=> ∃Q0,C.rf (.rangeFunc g ps x y) Q0 st∧ ∀e st',Q0 e st'→Q e st'
 |_,_,_=>False
def a1z(n:Nat):Code→Bool
 | .region _ ops _=>ops.toList.all fun o=>match o.dst with
  |some d=>decide (d<n)
  |none=>true
 | .seq a b=>a1z n a&&a1z n b
 | .cond _ x y=>a1z n x&&a1z n y
 | .block _ c=>a1z n c
 | .loop c=>a1z n c
 | .rangeFunc _ ps x y=>ps.toList.all (fun t=>decide (t<n))&&(a1z n x&&a1z n y)
 |_=>true
structure c4T(P:Program)(ti:Nat→Option TI)(t:Nat)(i:TI):Prop where
 agg:i.isAgg=true→i.arr=none→ ∃fs,P.underlying t=some (.struct fs)∧ ∀(k off ft:Nat),i.flds[k]?=some (off,ft)→ ∃(f:Field) (inf:TypeInfo),fs[k]?=some f∧f.offset=off∧f.type=ft∧P.info? ft=some inf∧inf.size≠0∧ ∀fi,ti ft=some fi→fi.size=inf.size
 flat:i.isAgg=false→ ∃d,P.underlying t=some d∧(∀fs,d≠ .struct fs)∧(∀n e,d≠ .array n e)
 info: ∃inf z,P.info? t=some inf∧inf.size=i.size∧inf.zero=some z∧z.cells.toList=i.zero
 elem: ∀e:Nat,i.elem=some e→P.underlying t=some (.slice e)∧ ∃ie inf z,ti e=some ie∧P.info? e=some inf∧inf.size=1∧inf.bytes≤1024∧inf.zero=some z∧z.cells= #[ie.zero.getD 0 undef]
 ik: ∀k,i.ik=some k→P.underlying t=some (.int k)
 str:i.str=true→P.underlying t=some .string
 bl:i.bl=true→P.underlying t=some .bool
 zl:i.zero.length≤65536
 all: ∀fs,P.underlying t=some (.struct fs)→ ∀f,f∈fs.toList→ ∃in3,P.info? f.type=some in3
 one:i.isAgg=false→i.size=1
 arrA: ∀n e:Nat,i.arr=some (n,e)→i.isAgg=true∧i.flds=[]∧P.underlying t=some (.array n e)∧P.underlying e=some (.int .i64)∧ ∃inf,P.info? e=some inf∧inf.size=1∧ ∀fi,ti e=some fi→fi.size=1
 elkA: ∀e k:Nat,i.elk=some (e,k)→P.underlying t=some (.slice e)∧ ∃inf z,P.info? e=some inf∧inf.size=k∧0<k∧k≤64∧inf.bytes≤1024∧inf.zero=some z∧z.cells.size=k
structure TOK(P:Program)(ti:Nat→Option TI):Prop where
 ok: ∀t i,ti t=some i→c4T P ti t i
section
variable{P:Program}{ti:Nat→Option TI}
theorem a3u{α:Type}{e:Sem α}{v:α}(h:a2i e=some v)(w:World):e.run P w= .ok v w:=by
 cases e<;>simp[a2i]at h
 subst h;rfl
theorem a2f(g b i:Nat):(⟨g,b,none⟩:Addr).add i=⟨g,b+i,none⟩:=by
 unfold Addr.add;split<;>simp_all
theorem a2A(T:TOK P ti){t:Nat}{i:TI}(hi:ti t=some i)(ha:i.isAgg=false)(w:World)(a:Addr)(v:Value)(hv:w.cell? a=some v):
  (Instr.loadAt t (.pointer (some a))).run P w= .ok v w:=by
 obtain⟨d,hd,h1,h2⟩:=(T.ok t i hi).flat ha
 have hagg:(isAgg t).run P w= .ok false w:=by
  unfold isAgg
  simp only[Sem.run_bind,run_underlying hd,Result.andThen_ok]
  cases d<;>simp_all
 simp[Instr.loadAt,Instr.sureAddr,loadVar,hagg,hv]
theorem b6V(T:TOK P ti){t:Nat}{i:TI}(hi:ti t=some i)(ha:i.isAgg=true):(∃fs,P.underlying t=some (.struct fs))∨ ∃n e,P.underlying t=some (.array n e):=by
 cases hr:i.arr with
 |none=>obtain⟨fs,hd,_⟩:=(T.ok t i hi).agg ha hr;exact .inl ⟨fs,hd⟩
 |some q=>obtain⟨n,e⟩:=q;exact .inr ⟨n,e,((T.ok t i hi).arrA n e hr).2.2.1⟩
theorem a9j(T:TOK P ti){t:Nat}{i:TI}(hi:ti t=some i)(ha:i.isAgg=true)(w:World):(isAgg t).run P w= .ok true w:=by
 unfold isAgg
 rcases b6V T hi ha with⟨fs,hd⟩|⟨n,e,hd⟩<;>
 ·simp only[Sem.run_bind,run_underlying hd,Result.andThen_ok]
  simp
theorem a6u(T:TOK P ti){t:Nat}{i:TI}(hi:ti t=some i){k:Nat}{q:Nat×Nat}(hf:i.flds[k]?=some q):i.arr=none:=by
 cases hr:i.arr with
 |none=>rfl
 |some q=>obtain⟨n,e⟩:=q;rw[((T.ok t i hi).arrA n e hr).2.1]at hf;simp at hf
theorem a2Y(T:TOK P ti){t:Nat}{i:TI}(hi:ti t=some i)(ha:i.isAgg=true)(w:World)(g b:Nat)(vs:List Value)(hl:vs.length=i.size)
  (hv: ∀j v,vs[j]?=some v→w.cell? ⟨g,b+j,none⟩=some v):
  (Instr.loadAt t (.pointer (some ⟨g,b,none⟩))).run P w= .ok (.agg vs.toArray) w:=by
 obtain⟨inf,z,hinf,hs,_⟩:=(T.ok t i hi).info
 have hagg:(isAgg t).run P w= .ok true w:=a9j T hi ha w
 have hload:=run_loadCells_list (P:=P) w ⟨g,b,none⟩ vs (fun j v h=>by rw[a2f];exact hv j v h)
 rw[hl]at hload
 simp[Instr.loadAt,Instr.sureAddr,loadVar,hagg,sizeOf,typeInfo,hinf,hs,hload]
theorem a5Y(T:TOK P ti){t:Nat}{i:TI}(hi:ti t=some i){k off ft:Nat}(hf:i.flds[k]?=some (off,ft))(ha:i.isAgg=true)(w:World)(g b:Nat):
  (Instr.fieldAt t (.pointer (some ⟨g,b,none⟩)) k).run P w= .ok (.pointer (some ⟨g,b+off,none⟩)) w:=by
 obtain⟨fs,hd,h⟩:=(T.ok t i hi).agg ha (a6u T hi hf)
 obtain⟨f,inf,h1,h2,h3,h4,h5,_⟩:=h k off ft hf
 simp[Instr.fieldAt,run_underlying hd,h1,Instr.sureAddr,fieldPlace,sizeOf,typeInfo,h3,h4,h5,h2,a2f]
theorem b5w(T:TOK P ti){t:Nat}{i fi:TI}(hi:ti t=some i){k off ft:Nat}(hf:i.flds[k]?=some (off,ft))(ha:i.isAgg=true)(hfi:ti ft=some fi)(w:World)(vs:List Value)(_hl:off+fi.size≤vs.length):
  (fi.isAgg=true→(Instr.field t (.agg vs.toArray) k).run P w= .ok (.agg ((vs.drop off).take fi.size).toArray) w)∧
  (fi.isAgg=false→ ∀v,vs[off]?=some v→(Instr.field t (.agg vs.toArray) k).run P w= .ok v w):=by
 obtain⟨fs,hd,h⟩:=(T.ok t i hi).agg ha (a6u T hi hf)
 obtain⟨f,inf,h1,h2,h3,h4,h5,h6⟩:=h k off ft hf
 have hsz:=h6 fi hfi
 constructor
 ·intro hag
  have hd':=a9j T hfi hag w
  simp[Instr.field,run_underlying hd,h1,asAgg,part,h3,hd',sizeOf,typeInfo,h4,h2]
  rw[hsz]
 ·intro hag v hv
  obtain⟨d,hd',n1,n2⟩:=(T.ok ft fi hfi).flat hag
  have:(isAgg ft).run P w= .ok false w:=by
   unfold isAgg
   simp only[Sem.run_bind,run_underlying hd',Result.andThen_ok]
   cases d<;>simp_all
  simp[Instr.field,run_underlying hd,h1,asAgg,part,h3,this,h2,hv]
theorem a6p(T:TOK P ti){t e:Nat}{i:TI}(hi:ti t=some i)(he:i.elem=some e)(w:World)(g b n cap:Nat)(k:IntKind)(j:Int)(h0:0≤j)(hj:j<n):
  (Instr.indexAt t (.slice (some ⟨g,b,none⟩) n cap) (.int k j)).run P w= .ok (.pointer (some ⟨g,b+j.toNat,none⟩)) w:=by
 obtain⟨hd,ie,inf,z,_,h2,h3,_⟩:=(T.ok t i hi).elem e he
 simp[Instr.indexAt,asIntOf,run_underlying hd,h0,hj,sizeOf,typeInfo,h2,h3,a2f]
theorem a4V(T:TOK P ti){t e k:Nat}{i:TI}(hi:ti t=some i)(he:i.elk=some (e,k))(w:World)(g b n cap:Nat)(q:IntKind)(j:Int)(h0:0≤j)(hj:j<n):
  (Instr.indexAt t (.slice (some ⟨g,b,none⟩) n cap) (.int q j)).run P w= .ok (.pointer (some ⟨g,b+j.toNat*k,none⟩)) w:=by
 obtain⟨hd,inf,z,h2,h3,_⟩:=(T.ok t i hi).elkA e k he
 simp[Instr.indexAt,asIntOf,run_underlying hd,h0,hj,sizeOf,typeInfo,h2,h3,a2f]
theorem a4E(T:TOK P ti){t e n:Nat}{i:TI}(hi:ti t=some i)(he:i.arr=some (n,e))(w:World)(g b:Nat)(q:IntKind)(j:Int)(h0:0≤j)(hj:j<n):
  (Instr.indexAt t (.pointer (some ⟨g,b,none⟩)) (.int q j)).run P w= .ok (.pointer (some ⟨g,b+j.toNat,none⟩)) w:=by
 obtain⟨_,_,hd,_,inf,h2,h3,_⟩:=(T.ok t i hi).arrA n e he
 simp[Instr.indexAt,asIntOf,run_underlying hd,h0,hj,sizeOf,typeInfo,h2,h3,a2f,Instr.sureAddr]
theorem b6u(T:TOK P ti){t:Nat}{i:TI}(hi:ti t=some i)(w:World):
  (Instr.alloc t true (.tuple #[])).run P w= .ok (.pointer (some ⟨w.heap.size,0,none⟩)) (w.alloc (.cells i.zero.toArray t)):=by
 obtain⟨inf,z,hinf,hs,hz,hzc⟩:=(T.ok t i hi).info
 have:z.cells=i.zero.toArray:=by rw[←hzc]
 simp[Instr.alloc,zeroValue,typeInfo,hinf,hz,newVar,newRow,this]
theorem c0i(w:World)(t:Nat)(v:Value):
  (Instr.box t v).run P w= .ok (.pointer (some ⟨w.heap.size,0,none⟩)) (w.alloc (.cells v.cells t)):=by
 simp[Instr.box,newVar,newRow]
theorem a5Z(v:Value):a1O v=v.oneCell':=by cases v<;>rfl
theorem a9V(T:TOK P ti){t:Nat}{i:TI}(hi:ti t=some i)(w:World)(g b:Nat)(v:Value)(arr:Array Value)(E:Nat)(hg:w.heap[g]?=some (.cells arr E (0,0)))
  (hs:v.cells.size=i.size) (hfit:b+v.cells.size≤arr.size) (h1: ∀u,u∈v.cells.toList→a1O u=true):
  (Instr.storeAt t (.pointer (some ⟨g,b,none⟩)) v).run P w= .ok () (w.setRow g (arr.toList.take b++v.cells.toList++arr.toList.drop (b+v.cells.size)).toArray):=by
 obtain⟨inf,z,hinf,hsz,_⟩:=(T.ok t i hi).info
 have hst:=run_storeCells_at P g b E v.cells.toList 0 arr w hg (by simpa using hfit) (fun u hu=>by rw[←a5Z];exact h1 u hu)
 simp only[Nat.add_zero,Array.length_toList]at hst
 simp[Instr.storeAt,Instr.sureAddr,storeVar,sizeOf,typeInfo,hinf,hsz,hs,hst]
theorem a9v(T:TOK P ti){t e:Nat}{i:TI}(hi:ti t=some i)(he:i.elem=some e)(w:World)(ty g b n cap:Nat)(arr:Array Value)(E:Nat)(hg:w.heap[g]?=some (.cells arr E (0,0)))
  (x:Value) (news:List Value) (m:Nat) (hm:news.length=m) (hlen:(Builtin.lenOf x).run P w= .ok m w) (hx:(Builtin.firstCells 1 m x).run P w= .ok news.toArray w) (h1: ∀u,u∈news→a1O u=true)
  (hroom:n+m≤cap) (hfit:b+n+m≤arr.size):
  (Builtin.append_ #[t,t] ty #[.slice (some ⟨g,b,none⟩) n cap,x]).run P w=
   .ok (.slice (some ⟨g,b,none⟩) (n+m) cap) (w.setRow g (arr.toList.take (b+n)++news++arr.toList.drop (b+n+m)).toArray):=by
 obtain⟨hd,ie,inf,z,_,h2,h3,_⟩:=(T.ok t i hi).elem e he
 have hst:=run_storeCells_at P g (b+n) E news 0 arr w hg (by omega) (fun u hu=>by rw[←a5Z];exact h1 u hu)
 simp only[Nat.add_zero,hm]at hst
 simp[Builtin.append_,run_underlying hd,sizeOf,typeInfo,h2,h3,hlen,hroom,hx,a2f,hst]
theorem a5D(T:TOK P ti){t e:Nat}{i:TI}(hi:ti t=some i)(he:i.elem=some e)(w:World)(ty:Nat)(s:Value)(a:Option Addr)(n cap:Nat)(hs:s= .slice a n cap)(olds:List Value)
  (hold: ∀w',w'.heap=w.heap→(Builtin.firstCells 1 n s).run P w'= .ok olds.toArray w')
  (x:Value) (news:List Value) (m:Nat) (_hm:news.length=m) (hlen:(Builtin.lenOf x).run P w= .ok m w) (hx: ∀w',w'.heap=w.heap→(Builtin.firstCells 1 m x).run P w'= .ok news.toArray w')
  (hg:cap<n+m) (hb:n+m≤4294967296):
  ∃newcap rest,n+m≤newcap∧newcap≤maxLen∧rest.length=newcap-(n+m)∧
  (Builtin.append_ #[t,t] ty #[s,x]).run P w=
   .ok (.slice (some ⟨w.heap.size,0,none⟩) (n+m) newcap) (w.drew.alloc (.cells (olds++news++rest).toArray e)):=by
 obtain⟨hd,ie,inf,z,_,h2,h3,h4,h5,h6⟩:=(T.ok t i hi).elem e he
 refine⟨grownCap w (n+m) cap e,(Builtin.zeroCells z.cells (grownCap w (n+m) cap e-(n+m))).toList,grownCap_ge _ _ _ _,grownCap_le_maxLen _ _ _ _ (by unfold maxLen;omega),?_,?_⟩
 ·rw[Array.length_toList,size_zeroCells,h6];simp
 have hn: ¬(n+m≤cap):=by omega
 have h63': ¬(9223372036854775807<((n:Int)+(m:Int))):=by omega
 have h48:Builtin.nextslicecap (n+m) cap*inf.bytes≤281474976710656:=growslice_fits (by omega) (by
  have:(n+m)*inf.bytes≤4294967296*1024:=Nat.mul_le_mul hb h4
  omega)
 have h48': ¬(281474976710656<Builtin.nextslicecap (n+m) cap*inf.bytes):=by omega
 have ho:=hold w.drew rfl
 have hx':=hx w.drew rfl
 subst hs
 simp[Builtin.append_,run_underlying hd,sizeOf,typeInfo,zeroValue,h2,h3,h5,hlen,hn,h63',h48',Question.forced,ho,hx',newRow,grownCap]
 congr 2
 apply Array.ext'
 simp
end
def hd(x:Nat×Nat):AV→Value→Prop
 | .row cs,v=> ∃cap,v= .slice (some ⟨x.1,x.2,none⟩) cs.length cap
 | .bx _,v=>v= .pointer (some ⟨x.1,x.2,none⟩)
 |_,_=>True
structure Sim(w0:World)(A0:Nat→Prop)(F0:List Nat)(c:Cx)(Φ:Nat→Nat→List Nat)(R:List Nat):Prop where
 rt: ∀s g a,c.ro s g=some a→g≤c.gn s∧ ∃v,Rel c a v (Φ s g)∧hd (c.L s g) a v
 no: ∀s g,c.ro s g=none→Φ s g=[]
 dj: ∀s g s' g', ¬(s=s'∧g=g')→ ∀x,x∈Φ s g→x∉Φ s' g'
 own: ∀s g x,x∈Φ s g→c.A x∧ ¬A0 x∧(w0.heap.size≤x∨x∈F0)
 rd: ∀s g x,x∈Φ s g→x∉R
 rown: ∀x,x∈R→c.A x∧ ¬A0 x∧(w0.heap.size≤x∨x∈F0)
 a0: ∀x,A0 x→c.A x
 al: ∀x,c.A x→x<c.w.heap.size
 bw:Blw w0 c.w F0
 gd:GdF w0 F0
theorem Sim.gdc{w0 A0 F0 c Φ R}(h:Sim w0 A0 F0 c Φ R):Gd c.w:=by
 exact h.gd.next h.bw
theorem Rel.bx_inv{c:Cx}{cs v F}(h:Rel c (.bx cs) v F):
  ∃g b cap us F',v= .pointer (some ⟨g,b,none⟩)∧F=g::F'∧a0h c cs us F'∧ownB c.w g b us cap∧g∉F':=by
 cases h with
 | @bx _ _ G _ us F g b cap h1 h2 h3 h4 h=>
  cases h
  exact⟨g,b,cap,us,F,rfl,by simp,h1,h2,h3⟩
theorem Rel.mk_bx{c:Cx}{cs us F}(g b cap:Nat)(h1:a0h c cs us F)(h2:ownB c.w g b us cap)(h3:g∉F):
  Rel c (.bx cs) (.pointer (some ⟨g,b,none⟩)) (g::F):=by
 simpa using a0h.bx g b cap h1 h2 h3 (by simp) .nil
theorem Sim.place{w0 A0 F0 c Φ R}(h:Sim w0 A0 F0 c Φ R){s g p cs}(ha:c.ro.cells s g p=some cs):
  ∃x us F cap,locp c.w p (c.L s g)=some x∧a0h c cs us F∧ownB c.w x.1 x.2 us cap∧x.1∉F∧x.1∈Φ s g∧(∀y,y∈F→y∈Φ s g)∧
   (∀w':World,(∀y,y∈Φ s g→w'.heap[y]?=c.w.heap[y]?)→locp w' p (c.L s g)=some x):=by
 cases p with
 |nil=>
  simp only[Ro.cells]at ha
  cases hr:c.ro s g with
  |none=>simp[hr]at ha
  |some a=>
   simp only[hr]at ha
   obtain⟨_,v,hv,hh⟩:=h.rt s g a hr
   cases a<;>simp[blk]at ha
   case row cs'=>
    subst ha
    obtain⟨g1,b1,cap,us,F',rfl,hF,h1,h2,h3⟩:=Rel.row_inv hv
    obtain⟨cap',e⟩:=hh
    simp only[Value.slice.injEq,Option.some.injEq,Addr.mk.injEq]at e
    obtain⟨⟨e1,e2,_⟩,_,_⟩:=e
    refine⟨c.L s g,us,F',cap,rfl,h1,by rw[←e1, ←e2];exact h2,by rw[←e1];exact h3,by rw[hF, ←e1];simp,fun y hy=>by rw[hF];simp[hy],fun _ _=>rfl⟩
   case bx cs'=>
    subst ha
    obtain⟨g1,b1,cap,us,F',rfl,hF,h1,h2,h3⟩:=Rel.bx_inv hv
    simp only[hd,Value.pointer.injEq,Option.some.injEq,Addr.mk.injEq]at hh
    obtain⟨e1,e2,_⟩:=hh
    refine⟨c.L s g,us,F',cap,rfl,h1,by rw[←e1, ←e2];exact h2,by rw[←e1];exact h3,by rw[hF, ←e1];simp,fun y hy=>by rw[hF];simp[hy],fun _ _=>rfl⟩
 |cons i q=>
  simp only[Ro.cells,Ro.at]at ha
  cases hr:c.ro s g with
  |none=>simp[hr]at ha
  |some a=>
   simp only[hr]at ha
   cases hq:ath (i::q) a with
   |none=>simp[hq]at ha
   |some a1=>
    simp only[hq]at ha
    cases a1<;>simp at ha
    subst ha
    obtain⟨_,v,hv,hh⟩:=h.rt s g a hr
    cases a<;>simp[ath]at hq
    rename_i cs1 cs0
    obtain⟨cap',rfl⟩:=hh
    obtain⟨x,cap1,F1,hx,hrel,hs,hw⟩:=a4d (i::q) hv (by simpa [ath]using hq)
    obtain⟨g1,b1,cap,us,F',e,hF,h1,h2,h3⟩:=Rel.row_inv hrel
    simp only[Value.slice.injEq,Option.some.injEq,Addr.mk.injEq]at e
    obtain⟨⟨e1,e2,_⟩,_,_⟩:=e
    refine⟨x,us,F',cap,hx,h1,by rw[e1,e2];exact h2,by rw[e1];exact h3,hs _ (by rw[hF,e1];simp),fun y hy=>hs y (by rw[hF];simp[hy]),hw⟩
theorem Sim.cell{w0 A0 F0 c Φ R}(h:Sim w0 A0 F0 c Φ R){s g p cs i a}(ha:c.ro.cells s g p=some cs)(hi:cs[i]?=some a):
  ∃x u F,locp c.w p (c.L s g)=some x∧c.w.cell? ⟨x.1,x.2+i,none⟩=some u∧Rel c a u F∧(∀y,y∈F→y∈Φ s g):=by
 obtain⟨x,us,F,cap,hx,h1,h2,h3,h4,h5,h6⟩:=h.place ha
 obtain⟨l,r,vl,u,vr,Fl,Fa,Fr,rfl,hl,rfl,hvl,rfl,_,hA,_⟩:=h1.nth hi
 refine⟨x,u,Fa,hx,h2.cell (by rw[←hvl];simp),hA,fun y hy=>h5 y (by simp[hy])⟩
theorem Sim.lift{w0 A0 F0 c Φ R}(_h:Sim w0 A0 F0 c Φ R){s g p cs i a x}(hg:g≤c.gn s)(ha:c.ro.cells s g p=some cs)(hi:cs[i]?=some a)
  (hx:locp c.w p (c.L s g)=some x) {u:Value} (hu:c.w.cell? ⟨x.1,x.2+i,none⟩=some u) {F:List Nat} (hr:Rel c a u F):Rel c (lift s g (p++ [i]) a) u []:=by
 cases a<;>simp only[Go.Proofs.YtbakhfiibjkifaaGreat.lift]
 case row ds=>
  obtain⟨g1,b1,cap,us,F',rfl,hF,h1,h2,h3⟩:=Rel.row_inv hr
  refine .ref s g (p++ [i]) 0 ds.length _ hg (fun cs' hcs'=>?_) .nil
  have hap: ∀(p:List Nat) (x0:Nat×Nat),locp c.w p x0=some x→locp c.w (p++ [i]) x0=some (g1,b1):=by
   intro p
   induction p with
   |nil=>intro x0 e;simp only[locp,Option.some.injEq]at e;subst e;simp[locp,hu]
   |cons j q ih=>
    intro x0 e
    simp only[locp,List.cons_append]at e ⊢
    split at e
    ·split at e
     ·rename_i hs
      simp only[hs,if_true]
      exact ih _ e
     ·cases e
    ·cases e
  refine⟨(g1,b1),hap p _ hx,?_,?_⟩
  ·obtain⟨arr,E,k1,k2,k3,k4,k5⟩:=h2
   exact⟨b1,cap,arr,E,by rw[h1.len],.inl rfl,k1,k2,by rw[h1.len];exact k3,k4⟩
  ·have hat: ∀(p:List Nat) (a0:AV) (l:List AV),ath p a0=some (.row l)→l[i]?=some (.row ds)→ath (p++ [i]) a0=some (.row ds):=by
    intro p
    induction p with
    |nil=>intro a0 l e hl;simp only[ath,Option.some.injEq]at e;subst e;simp[ath,hl]
    |cons j q ih=>
     intro a0 l e hl
     cases a0<;>simp only[ath,List.cons_append]at e ⊢
     case row l0=>
      cases hj:l0[j]? with
      |none=>simp[hj]at e
      |some y=>simp only[hj]at e;exact ih y l e hl
     all_goals cases e
   have hrow:c.ro.cells s g (p++ [i])=some ds∨c.ro.cells s g (p++ [i])=none:=by
    cases p with
    |nil=>
     simp only[Ro.cells]at ha
     cases hr0:c.ro s g with
     |none=>simp[hr0]at ha
     |some a0=>
      simp only[hr0]at ha
      cases a0<;>simp[blk]at ha
      case row l=>subst ha;left;simp[Ro.cells,Ro.at,hr0,ath,hi]
      case bx l=>right;simp[Ro.cells,Ro.at,hr0,ath]
    |cons j q=>
     left
     simp only[Ro.cells,Ro.at]at ha
     cases hr0:c.ro s g with
     |none=>simp[hr0]at ha
     |some a0=>
      simp only[hr0]at ha
      cases hq:ath (j::q) a0 with
      |none=>simp[hq]at ha
      |some a1=>
       simp only[hq]at ha
       cases a1<;>simp at ha
       subst ha
       have:=hat (j::q) a0 _ hq hi
       simp only[List.cons_append]at this
       simp[Ro.cells,Ro.at,hr0,this]
   rcases hrow with e|e
   ·rw[e]at hcs';simp only[Option.some.injEq]at hcs';subst hcs';omega
   ·rw[e]at hcs';cases hcs'
 case sc v=>cases hr;exact .sc _ .nil
 case dead=>exact .dead _ .nil
 case imm cs'=>
  cases hr with
  |imm g b cap h1 h2 h3 h=>exact .imm g b cap h1 h2 h3 .nil
 case bx cs'=>exact .dead _ .nil
 case ref=>cases hr with|ref s g p off n v h1 h2 h=>exact .ref _ _ _ _ _ _ h1 h2 .nil
 case ptr=>cases hr with|ptr s g p i v h1 h2 h=>exact .ptr _ _ _ _ _ h1 h2 .nil
 case iptr cs'=>cases hr with|iptr g b h1 h2 h=>exact .iptr g b h1 h2 .nil
 case agg cs'=>exact .dead _ .nil
 case tup cs'=>exact .dead _ .nil
 case fn f cs'=>cases hr with|fn f h1 h=>exact .fn f h1 .nil
 case immk k n cs'=>cases hr with|immk k g b n cap h1 h2 h3 h4 h=>exact .immk k g b n cap h1 h2 h3 h4 .nil
 case refk k s' g' n=>cases hr with|refk k s g n v h1 h2 h=>exact .refk k s' g' n _ h1 h2 .nil
 case mp r es=>exact .dead _ .nil
theorem a1X{ro:Ro}{s g s' g':Nat}{a:AV}{p:List Nat}(h: ¬(s'=s∧g'=g)):Ro.cells (upr ro s g a) s' g' p=Ro.cells ro s' g' p:=by
 have e:upr ro s g a s' g'=ro s' g':=by simp[upr,h]
 cases p<;>simp[Ro.cells,Ro.at,e]
theorem Sim.hdr_keep{w w':World}{x:Nat×Nat}{off n:Nat}{v:Value}(h:w'.heap[x.1]?=w.heap[x.1]?)(hh:hdr w x.1 (x.2+off) n v):hdr w' x.1 (x.2+off) n v:=by
 obtain⟨b',cap,arr,E,h1,h2,h3,r⟩:=hh
 exact⟨b',cap,arr,E,h1,h2,h.trans h3,r⟩
theorem Sim.keepP{w0 A0 F0 c Φ R}(h:Sim w0 A0 F0 c Φ R)(c':Cx)
  (hk: ∀s g p cs,g≤c.gn s→c'.ro.cells s g p=some cs→ ∃cs0,c.ro.cells s g p=some cs0∧cs0.length≤cs.length∧c'.L s g=c.L s g∧(∀y,y∈Φ s g→c'.w.heap[y]?=c.w.heap[y]?)):
  ∀s g p cs,g≤c.gn s→c'.ro.cells s g p=some cs→ ∃cs0,c.ro.cells s g p=some cs0∧cs0.length≤cs.length∧
   ∀x,locp c.w p (c.L s g)=some x→locp c'.w p (c'.L s g)=some x∧(∀off n v,hdr c.w x.1 (x.2+off) n v→hdr c'.w x.1 (x.2+off) n v)∧siz c.w c'.w x.1:=by
 intro s g p cs hg hcs
 obtain⟨cs0,h0,hl,hL,hb⟩:=hk s g p cs hg hcs
 refine⟨cs0,h0,hl,fun x hx=>?_⟩
 obtain⟨x',us,F,cap,hx',h1,h2,h3,h4,h5,h6⟩:=h.place h0
 rw[hx]at hx'
 simp only[Option.some.injEq]at hx'
 subst hx'
 exact⟨by rw[hL];exact h6 _ hb,fun off n v hh=>Sim.hdr_keep (hb _ h4) hh,siz.of (hb _ h4)⟩
theorem Sim.takeG{w0 A0 F0 c Φ R s g a}(h:Sim w0 A0 F0 c Φ R)(hr:c.ro s g=some a):
  ∃c' Φ' v,c'={c with ro:=upr c.ro s g .dead}∧a1y c c'∧Sim w0 A0 F0 c' Φ' (R++Φ s g)∧Rel c' a v (Φ s g)∧hd (c.L s g) a v:=by
 obtain⟨hg,v,hv,hh⟩:=h.rt s g _ hr
 have hP:=h.keepP {c with ro:=upr c.ro s g .dead} (fun s' g' p cs' hg' hcs'=>by
  by_cases e:s'=s∧g'=g
  ·obtain⟨rfl,rfl⟩:=e
   exfalso
   revert hcs'
   cases p<;>simp[Ro.cells,Ro.at,upr,blk,ath]
  ·rw[a1X e]at hcs'
   exact⟨cs',hcs',Nat.le_refl _,rfl,fun _ _=>rfl⟩)
 have k:a1y c {c with ro:=upr c.ro s g .dead}:=⟨Nat.le_refl _,fun _ _ h=>h,fun _ _ _=>rfl,fun _=>Nat.le_refl _,hP⟩
 refine⟨_,fun s' g'=>if s'=s∧g'=g then []else Φ s' g',v,rfl,k,?_,hv.mono k (fun _ _=>rfl),hh⟩
 constructor
 ·intro s' g' a ha
  by_cases e:s'=s∧g'=g
  ·obtain⟨rfl,rfl⟩:=e
   simp[upr]at ha
   subst ha
   exact⟨hg,v,by simpa using a0h.dead v .nil,trivial⟩
  ·simp only[upr,e,if_false]at ha
   obtain⟨h1,u,h2,h3⟩:=h.rt s' g' a ha
   exact⟨h1,u,by simp only[e,if_false];exact h2.mono k (fun _ _=>rfl),h3⟩
 ·intro s' g' ha
  by_cases e:s'=s∧g'=g
  ·simp[e]
  ·simp only[upr,e,if_false]at ha ⊢
   exact h.no s' g' ha
 ·intro s1 g1 s2 g2 hne x hx
  by_cases e1:s1=s∧g1=g
  ·simp[e1]at hx
  ·by_cases e2:s2=s∧g2=g
   ·simp[e2]
   ·simp only[e1,e2,if_false]at hx ⊢
    exact h.dj _ _ _ _ hne x hx
 ·intro s' g' x hx
  by_cases e:s'=s∧g'=g
  ·simp[e]at hx
  ·simp only[e,if_false]at hx
   exact h.own s' g' x hx
 ·intro s' g' x hx
  by_cases e:s'=s∧g'=g
  ·simp[e]at hx
  ·simp only[e,if_false]at hx
   simp only[List.mem_append,not_or]
   exact⟨h.rd s' g' x hx,h.dj _ _ _ _ e x hx⟩
 ·intro x hx
  simp only[List.mem_append]at hx
  rcases hx with hx|hx
  ·exact h.rown x hx
  ·exact h.own s g x hx
 ·exact h.a0
 ·exact h.al
 ·exact h.bw
 ·exact h.gd
theorem Sim.take{w0 A0 F0 c Φ R s g cs}(h:Sim w0 A0 F0 c Φ R)(hr:c.ro s g=some (.row cs)):
  ∃c' Φ' v,c'={c with ro:=upr c.ro s g .dead}∧a1y c c'∧Sim w0 A0 F0 c' Φ' (R++Φ s g)∧Rel c' (.row cs) v (Φ s g)∧hd (c.L s g) (.row cs) v:=h.takeG hr
theorem a9A{w w':World}(h: ∀k:Nat,(w'.heap[k]?=w.heap[k]?)∨((∃c E,w'.heap[k]?=some (Obj.cells c E (0,0)))∧(w.heap[k]?=none∨ ∃c E,w.heap[k]?=some (Obj.cells c E (0,0)))))(a:Addr):w'.frozen? a=w.frozen? a:=by
 unfold World.frozen?
 rcases h a.block with h|⟨⟨c,E,h1⟩,h2|⟨c2,E2,h2⟩⟩
 ·rw[h]
 ·rw[h1,h2];simp
 ·rw[h1,h2]
theorem Sim.wchg{w0 A0 F0 c Φ R}(h:Sim w0 A0 F0 c Φ R)(w':World)(R':List Nat)(hos:w'.os=c.w.os)(htp:w'.tape=c.w.tape)(hout:Ou c.w w')(hsz:c.w.heap.size≤w'.heap.size)
  (hb: ∀b,b<c.w.heap.size→b∉R→w'.heap[b]?=c.w.heap[b]?) (hR: ∀x,x∈R'→x∈R∨(c.w.heap.size≤x∧x<w'.heap.size)):
  ∃c':Cx,c'.w=w'∧c'.ro=c.ro∧c'.gn=c.gn∧c'.L=c.L∧(∀x,c'.A x↔c.A x∨x∈R')∧a1y c c'∧Sim w0 A0 F0 c' Φ R':=by
 have hΦ: ∀s g x,x∈Φ s g→w'.heap[x]?=c.w.heap[x]?:=fun s g x hx=>hb x (h.al x (h.own s g x hx).1) (h.rd s g x hx)
 have hP:=h.keepP ⟨w',fun x=>c.A x∨x∈R',c.ro,c.gn,c.L⟩ (fun s g p cs _ hcs=>⟨cs,hcs,Nat.le_refl _,rfl,fun y hy=>hΦ s g y hy⟩)
 have k:a1y c ⟨w',fun x=>c.A x∨x∈R',c.ro,c.gn,c.L⟩:=by
  refine⟨hsz,fun b hlt hA=>?_,fun b hlt hA=>hb b hlt (fun hr=>hA (h.rown b hr).1),fun _=>Nat.le_refl _,hP⟩
  rcases hA with hA|hA
  ·exact hA
  ·rcases hR b hA with hr|⟨hr,_⟩
   ·exact(h.rown b hr).1
   ·omega
 refine⟨⟨w',fun x=>c.A x∨x∈R',c.ro,c.gn,c.L⟩,rfl,rfl,rfl,rfl,fun _=>Iff.rfl,k,?_⟩
 constructor
 ·intro s g a ha
  obtain⟨h1,v,h2,h3⟩:=h.rt s g a ha
  exact⟨h1,v,h2.mono k (fun b hx=>hΦ s g b hx),h3⟩
 ·exact h.no
 ·exact h.dj
 ·intro s g x hx
  obtain⟨h1,h2,h3⟩:=h.own s g x hx
  exact⟨.inl h1,h2,h3⟩
 ·intro s g x hx hr
  rcases hR x hr with hr|⟨hr,_⟩
  ·exact h.rd s g x hx hr
  ·have:=h.al x (h.own s g x hx).1;omega
 ·intro x hx
  rcases hR x hx with hr|⟨hr,_⟩
  ·obtain⟨h1,h2,h3⟩:=h.rown x hr
   exact⟨.inl h1,h2,h3⟩
  ·refine⟨.inr hx,fun hA=>?_,.inl (Nat.le_trans h.bw.size hr)⟩
   have:=h.al x (h.a0 x hA);omega
 ·intro x hx;exact .inl (h.a0 x hx)
 ·intro x hx
  rcases hx with hx|hx
  ·exact Nat.lt_of_lt_of_le (h.al x hx) hsz
  ·rcases hR x hx with hr|⟨_,hr⟩
   ·exact Nat.lt_of_lt_of_le (h.al x (h.rown x hr).1) hsz
   ·exact hr
 ·refine⟨hos.trans h.bw.os,htp.trans h.bw.tape,h.bw.output.trans hout,Nat.le_trans h.bw.size hsz,fun k hk hf=>?_⟩
  have hk':k<c.w.heap.size:=Nat.lt_of_lt_of_le hk h.bw.size
  show w'.heap[k]?=_
  rw[hb k hk' (fun hr=>?_)]
  ·exact h.bw.block k hk hf
  ·rcases(h.rown k hr).2.2 with h1|h1
   ·omega
   ·exact hf h1
 ·exact h.gd
theorem Sim.renew{w0 A0 F0 c Φ F R a v}(h:Sim w0 A0 F0 c Φ (F++R))(s:Nat)(x:Nat×Nat)(hv:Rel c a v F)(hx:hd x a v)(hd': ∀y,y∈F→y∉R):
  ∃c' Φ',c'={c with ro:=upr c.ro s (c.gn s+1) a,gn:=upg c.gn s (c.gn s+1),L:=fun s' g'=>if s'=s∧g'=c.gn s+1 then x else c.L s' g'}∧a1y c c'∧Sim w0 A0 F0 c' Φ' R∧c'.L s (c.gn s+1)=x:=by
 let c':Cx:={c with ro:=upr c.ro s (c.gn s+1) a,gn:=upg c.gn s (c.gn s+1),L:=fun s' g'=>if s'=s∧g'=c.gn s+1 then x else c.L s' g'}
 have hgn: ∀s',c.gn s'≤c'.gn s':=by
  intro s'
  show c.gn s'≤upg c.gn s (c.gn s+1) s'
  simp only[upg]
  split
  ·rename_i e;subst e;omega
  ·exact Nat.le_refl _
 have hP:=h.keepP c' (fun s' g' p cs' hg' hcs'=>by
  have e: ¬(s'=s∧g'=c.gn s+1):=by rintro⟨rfl,rfl⟩;omega
  have hcs'':c.ro.cells s' g' p=some cs':=by rwa [show c'.ro=upr c.ro s (c.gn s+1) a from rfl,a1X e]at hcs'
  exact⟨cs',hcs'',Nat.le_refl _,by show (if _ then _ else _)=_;rw[if_neg e],fun y hy=>rfl⟩)
 have k:a1y c c':=⟨Nat.le_refl _,fun _ _ h=>h,fun _ _ _=>rfl,hgn,hP⟩
 refine⟨c',fun s' g'=>if s'=s∧g'=c.gn s+1 then F else Φ s' g',rfl,k,?_,by simp[c']⟩
 have hro: ∀s' g' b,c'.ro s' g'=b↔(if s'=s∧g'=c.gn s+1 then some a else c.ro s' g')=b:=fun _ _ _=>Iff.rfl
 constructor
 ·intro s' g' b hb
  rw[hro]at hb
  by_cases e:s'=s∧g'=c.gn s+1
  ·rw[if_pos e]at hb
   simp only[Option.some.injEq]at hb
   subst hb
   obtain⟨rfl,rfl⟩:=e
   refine⟨by show _≤upg c.gn s' _ s';simp[upg],v,?_,?_⟩
   ·simp only[and_self,if_true];exact hv.mono k (fun _ _=>rfl)
   ·show hd (if _ then _ else _) a v
    simpa using hx
  ·rw[if_neg e]at hb
   obtain⟨h1,u,h2,h3⟩:=h.rt s' g' b hb
   refine⟨Nat.le_trans h1 (hgn s'),u,?_,?_⟩
   ·simp only[e,if_false];exact h2.mono k (fun _ _=>rfl)
   ·show hd (if _ then _ else _) b u
    rw[if_neg e];exact h3
 ·intro s' g' hb
  rw[hro]at hb
  by_cases e:s'=s∧g'=c.gn s+1
  ·rw[if_pos e]at hb;cases hb
  ·rw[if_neg e]at hb
   simp only[e,if_false];exact h.no s' g' hb
 ·intro s1 g1 s2 g2 hne y hy
  by_cases e1:s1=s∧g1=c.gn s+1
  ·by_cases e2:s2=s∧g2=c.gn s+1
   ·exact absurd ⟨e1.1.trans e2.1.symm,e1.2.trans e2.2.symm⟩ hne
   ·simp only[e1,and_self,if_true,e2,if_false]at hy ⊢
    exact fun hy2=>h.rd _ _ y hy2 (by simp[hy])
  ·by_cases e2:s2=s∧g2=c.gn s+1
   ·simp only[e1,if_false,e2,and_self,if_true]at hy ⊢
    exact fun hy2=>h.rd _ _ y hy (by simp[hy2])
   ·simp only[e1,e2,if_false]at hy ⊢
    exact h.dj _ _ _ _ hne y hy
 ·intro s' g' y hy
  by_cases e:s'=s∧g'=c.gn s+1
  ·simp only[e,and_self,if_true]at hy
   exact h.rown y (by simp[hy])
  ·simp only[e,if_false]at hy
   exact h.own s' g' y hy
 ·intro s' g' y hy
  by_cases e:s'=s∧g'=c.gn s+1
  ·simp only[e,and_self,if_true]at hy
   exact hd' y hy
  ·simp only[e,if_false]at hy
   exact fun hr=>h.rd s' g' y hy (by simp[hr])
 ·intro y hy;exact h.rown y (by simp[hy])
 ·exact h.a0
 ·exact h.al
 ·exact h.bw
 ·exact h.gd
theorem a1u{α:Type}: ∀(i:Nat) (as cs:List α),(setL i as cs).length=cs.length
 |_,[],cs=>rfl
 |i,a::as,cs=>by rw[setL,a1u (i+1) as (cs.set i a),List.length_set]
theorem getElem?_setL{α:Type}: ∀(i:Nat) (as cs:List α) (j:Nat),(setL i as cs)[j]?=if j<i then cs[j]? else if j<i+as.length∧j<cs.length then as[j-i]? else cs[j]?
 |i,[],cs,j=>by
  simp only[setL,List.length_nil,Nat.add_zero]
  split
  ·rfl
  ·split
   ·omega
   ·rfl
 |i,a::as,cs,j=>by
  rw[setL,getElem?_setL (i+1) as (cs.set i a) j]
  simp only[List.length_set,List.length_cons]
  by_cases h1:j<i
  ·rw[if_pos (by omega),if_pos h1,List.getElem?_set]
   rw[if_neg (by omega)]
  ·rw[if_neg h1]
   by_cases h2:j=i
   ·subst h2
    rw[if_pos (by omega),List.getElem?_set]
    by_cases h3:j<cs.length
    ·simp[h3]
    ·simp[h3]
   ·rw[if_neg (by omega)]
    by_cases h3:j<i+1+as.length∧j<cs.length
    ·rw[if_pos h3,if_pos (by omega)]
     have:j-i=(j-(i+1))+1:=by omega
     rw[this,List.getElem?_cons_succ]
    ·rw[if_neg h3,if_neg (by omega),List.getElem?_set,if_neg (by omega)]
theorem a0h.setL{c:Cx}: ∀(as:List AV) (us':List Value) (i:Nat) {cs:List AV} {us:List Value} {F:List Nat},a0h c cs us F→a0h c as us' []→i+as.length≤cs.length→
  ∃F',a0h c (Go.Proofs.YtbakhfiibjkifaaGreat.setL i as cs) (Go.Proofs.YtbakhfiibjkifaaGreat.setL i us' us) F'∧ ∀x,x∈F'→x∈F
 | [],us',i,cs,us,F,h,ha,_=>by
  obtain⟨rfl,_⟩:=a0h.nilF ha
  exact⟨F,h,fun _ h=>h⟩
 |a::as,us',i,cs,us,F,h,ha,hl=>by
  obtain⟨v,vs',Fa,G',rfl,hG,hav,har,_⟩:=a0h.uncons ha
  simp only[List.length_cons]at hl
  have hnil:Fa=[]∧G'=[]:=by simpa using hG.symm
  obtain⟨rfl,rfl⟩:=hnil
  obtain⟨a0,ha0⟩: ∃a0,cs[i]?=some a0:=⟨_,List.getElem?_eq_getElem (show i<cs.length by omega)⟩
  obtain⟨l,r,vl,u,vr,Fl,Fx,Fr,rfl,hli,rfl,hvl,rfl,hL,hX,hR,d1,d2,d3⟩:=h.nth ha0
  have e1:(l++a0::r).set i a=l++a::r:=by rw[←hli];simp
  have e2:(vl++u::vr).set i v=vl++v::vr:=by rw[←hvl];simp
  have hnew:a0h c (l++a::r) (vl++v::vr) (Fl++([]++Fr)):=a0h.append hL (a0h.cons hav hR (by simp)) (fun x hx h=>d2 x hx (by simpa using h))
  obtain⟨F',h1,h2⟩:=a0h.setL as vs' (i+1) hnew har (by simp only[List.length_append,List.length_cons]at hl ⊢;omega)
  refine⟨F',by simpa only[Go.Proofs.YtbakhfiibjkifaaGreat.setL,e1,e2]using h1,fun x hx=>?_⟩
  have:=h2 x hx
  simp only[List.nil_append,List.mem_append]at this ⊢
  rcases this with h|h
  ·exact .inl h
  ·exact .inr (.inr h)
theorem b5i{c:Cx}{w':World}(f:List AV→List AV): ∀(p:List Nat) {a:AV} {g b n cap:Nat} {F:List Nat} {cs1:List AV},Rel c a (.slice (some ⟨g,b,none⟩) n cap) F→ath p a=some (.row cs1)→
  ∀(x:Nat×Nat),locp c.w p (g,b)=some x→(f cs1).length=cs1.length→
  (∀y,y∈F→y≠x.1→w'.heap[y]?=c.w.heap[y]?)→
  (∀j ds,(f cs1)[j]?=some (.row ds)→cs1[j]?=some (.row ds)∧w'.cell? ⟨x.1,x.2+j,none⟩=c.w.cell? ⟨x.1,x.2+j,none⟩)→
   ∀p' ds,ath p' (a3H f p a)=some (.row ds)→ ∃ds0,ath p' a=some (.row ds0)∧ds0.length=ds.length∧locp w' p' (g,b)=locp c.w p' (g,b)
 | [],a,g,b,n,cap,F,cs1,h,hp,x,hx,hlen,hblk,hrow=>by
  simp only[ath,Option.some.injEq]at hp
  subst hp
  simp only[locp,Option.some.injEq]at hx
  subst hx
  obtain⟨g',b',cap',us,F1,hv,hF,h1,h2,h3⟩:=Rel.row_inv h
  simp only[Value.slice.injEq,Option.some.injEq,Addr.mk.injEq]at hv
  obtain⟨⟨rfl,rfl,_⟩,rfl,rfl⟩:=hv
  intro p' ds hp'
  cases p' with
  |nil=>
   simp only[a3H,ath,Option.some.injEq,AV.row.injEq]at hp'
   subst hp'
   exact⟨cs1,rfl,hlen.symm,rfl⟩
  |cons j q=>
   simp only[a3H,ath]at hp'
   cases hj:(f cs1)[j]? with
   |none=>simp[hj]at hp'
   |some d=>
    simp only[hj]at hp'
    have hd: ∃ds1,d= .row ds1:=by
     cases q with
     |nil=>simp only[ath,Option.some.injEq]at hp';exact⟨_,hp'⟩
     |cons i q=>cases d<;>simp[ath]at hp';exact⟨_,rfl⟩
    obtain⟨ds1,rfl⟩:=hd
    obtain⟨e1,e2⟩:=hrow j ds1 hj
    refine⟨ds,by simp[ath,e1,hp'],rfl,?_⟩
    obtain⟨l,r,vl,u,vr,Fl,Fx,Fr,rfl,hli,rfl,hvl,rfl,hL,hX,hR,d1,d2,d3⟩:=h1.nth e1
    obtain⟨g2,b2,cap2,us2,F2,rfl,rfl,_,_,_⟩:=Rel.row_inv hX
    have hc:c.w.cell? ⟨g,b+j,none⟩=some (.slice (some ⟨g2,b2,none⟩) us2.length cap2):=h2.cell (by rw[←hvl];simp)
    simp only[locp,e2,hc,if_true]
    obtain⟨x',cap1,F1,hx',_,_,hw⟩:=a4d q hX hp'
    rw[hx']
    refine hw _ fun y hy=>hblk y (by rw[hF];simp only[List.mem_cons,List.mem_append];exact .inr (.inr (.inl (by simpa using hy)))) ?_
    rintro rfl
    exact h3 (by simp only[List.mem_append];exact .inr (.inl hy))
 |i::q,a,g,b,n,cap,F,cs1,h,hp,x,hx,hlen,hblk,hrow=>by
  cases a with
  |row cs=>
   simp only[ath]at hp
   cases hi:cs[i]? with
   |none=>simp[hi]at hp
   |some ci=>
    simp only[hi]at hp
    obtain⟨g',b',cap',us,F',hv,hF,h1,h2,h3⟩:=Rel.row_inv h
    simp only[Value.slice.injEq,Option.some.injEq,Addr.mk.injEq]at hv
    obtain⟨⟨rfl,rfl,_⟩,rfl,rfl⟩:=hv
    obtain⟨l,r,vl,vi,vr,Fl,Fa,Fr,rfl,hl,rfl,hvl,rfl,hL,ha,hR,d1,d2,d3⟩:=h1.nth hi
    have hcirow: ∃ds,ci= .row ds:=by
     cases q with
     |nil=>simp only[ath,Option.some.injEq]at hp;exact⟨_,hp⟩
     |cons j q=>cases ci<;>simp[ath]at hp;exact⟨_,rfl⟩
    obtain⟨ds,rfl⟩:=hcirow
    obtain⟨g2,b2,cap2,us2,F2,rfl,rfl,_,_,_⟩:=Rel.row_inv ha
    have hc:c.w.cell? ⟨g,b+i,none⟩=some (.slice (some ⟨g2,b2,none⟩) us2.length cap2):=h2.cell (by rw[←hvl];simp)
    simp only[locp,hc,if_true]at hx
    obtain⟨x',_,F1,hx',hr',hs',_⟩:=a4d q ha hp
    rw[hx]at hx'
    simp only[Option.some.injEq]at hx'
    subst hx'
    have hxF:x.1∈F1:=by
     obtain⟨g5,b5,cap5,us5,F5,e,hF5,_,_,_⟩:=Rel.row_inv hr'
     simp only[Value.slice.injEq,Option.some.injEq,Addr.mk.injEq]at e
     rw[hF5,e.1.1];simp
    have hxa:=hs' _ hxF
    have hgx:g≠x.1:=by
     rintro rfl
     exact h3 (by simp only[List.mem_append];exact .inr (.inl hxa))
    have hFsub: ∀y,y∈Fl∨y∈(g2::F2)∨y∈Fr→y∈F:=by
     intro y hy
     rw[hF]
     simp only[List.mem_cons,List.mem_append]at hy ⊢
     rcases hy with hy|hy|hy
     ·exact .inr (.inl hy)
     ·exact .inr (.inr (.inl hy))
     ·exact .inr (.inr (.inr hy))
    have pa:=b5i f q ha hp x hx hlen (fun y hy hne=>hblk y (hFsub y (.inr (.inl hy))) hne) hrow
    have eset:(l++AV.row ds::r).set i (a3H f q (.row ds))=l++a3H f q (.row ds)::r:=by rw[←hl];simp
    have hgh:w'.heap[g]?=c.w.heap[g]?:=hblk g (by rw[hF];simp) hgx
    have hput:a3H f (i::q) (.row (l++AV.row ds::r))= .row (l++a3H f q (.row ds)::r):=by
     simp only[a3H,hi,eset]
    rw[hput]
    intro p' ds' hp'
    cases p' with
    |nil=>
     simp only[ath,Option.some.injEq,AV.row.injEq]at hp'
     subst hp'
     exact⟨_,rfl,by simp,rfl⟩
    |cons j q'=>
     simp only[ath]at hp' ⊢
     by_cases hji:j=i
     ·subst hji
      have e1:(l++a3H f q (.row ds)::r)[j]?=some (a3H f q (.row ds)):=by rw[←hl];simp
      simp only[e1]at hp'
      obtain⟨ds0,e2,e3,e4⟩:=pa q' ds' hp'
      refine⟨ds0,by simp only[hi];exact e2,e3,?_⟩
      have hc':w'.cell? ⟨g,b+j,none⟩=some (.slice (some ⟨g2,b2,none⟩) us2.length cap2):=by rw[a1D hgh];exact hc
      simp only[locp,hc,hc',if_true]
      exact e4
     ·have e1:(l++a3H f q (.row ds)::r)[j]?=(l++AV.row ds::r)[j]?:=by
       rw[←eset,List.getElem?_set,if_neg (fun e=>hji e.symm)]
      rw[e1]at hp'
      cases hj:(l++AV.row ds::r)[j]? with
      |none=>simp[hj]at hp'
      |some d=>
       simp only[hj]at hp' ⊢
       refine⟨ds',hp',rfl,?_⟩
       have hdr: ∃ds1,d= .row ds1:=by
        cases q' with
        |nil=>simp only[ath,Option.some.injEq]at hp';exact⟨_,hp'⟩
        |cons i q=>cases d<;>simp[ath]at hp';exact⟨_,rfl⟩
       obtain⟨ds1,rfl⟩:=hdr
       have hXj: ∃u3 F3,Rel c (.row ds1) u3 F3∧(vl++Value.slice (some ⟨g2,b2,none⟩) us2.length cap2::vr)[j]?=some u3∧(∀y,y∈F3→y∈Fl∨y∈Fr):=by
        by_cases hlt:j<i
        ·have hj':l[j]?=some (.row ds1):=by rw[List.getElem?_append_left (by omega)]at hj;exact hj
         obtain⟨l3,r3,vl3,u3,vr3,Fl3,Fx3,Fr3,e5,hli3,e6,hvl3,e7,_,hX3,_,_,_,_⟩:=hL.nth hj'
         refine⟨u3,Fx3,hX3,?_,fun y hy=> .inl (by rw[e7];simp[hy])⟩
         rw[List.getElem?_append_left (by rw[hvl];omega),e6, ←hvl3];simp
        ·have hj':r[j-(i+1)]?=some (.row ds1):=by
          rw[List.getElem?_append_right (by omega),hl]at hj
          have:j-i=(j-(i+1))+1:=by omega
          rw[this,List.getElem?_cons_succ]at hj;exact hj
         obtain⟨l3,r3,vl3,u3,vr3,Fl3,Fx3,Fr3,e5,hli3,e6,hvl3,e7,_,hX3,_,_,_,_⟩:=hR.nth hj'
         refine⟨u3,Fx3,hX3,?_,fun y hy=> .inr (by rw[e7];simp[hy])⟩
         rw[List.getElem?_append_right (by omega),hvl]
         have:j-i=(j-(i+1))+1:=by omega
         rw[this,List.getElem?_cons_succ,e6, ←hvl3];simp
       obtain⟨u3,F3,hX3,hu3,hF3⟩:=hXj
       obtain⟨g4,b4,cap4,us4,F4,rfl,rfl,_,_,_⟩:=Rel.row_inv hX3
       have hcj:c.w.cell? ⟨g,b+j,none⟩=some (.slice (some ⟨g4,b4,none⟩) us4.length cap4):=h2.cell hu3
       have hcj':w'.cell? ⟨g,b+j,none⟩=some (.slice (some ⟨g4,b4,none⟩) us4.length cap4):=by rw[a1D hgh];exact hcj
       simp only[locp,hcj,hcj',if_true]
       obtain⟨x',cap1,F1',hx',_,_,hw⟩:=a4d q' hX3 hp'
       rw[hx']
       refine hw _ fun y hy=>hblk y (hFsub y ?_) ?_
       ·rcases hF3 y hy with h|h
        ·exact .inl h
        ·exact .inr (.inr h)
       ·rintro rfl
        rcases hF3 _ hy with h|h
        ·exact d1 _ h hxa
        ·exact d3 _ hxa h
  |_=>simp[ath]at hp
theorem a8H{c c':Cx}(k:a1y c c')(f:List AV→List AV): ∀(p:List Nat) {a:AV} {g b n cap:Nat} {F:List Nat} {cs1:List AV},Rel c a (.slice (some ⟨g,b,none⟩) n cap) F→ath p a=some (.row cs1)→
  ∀(x:Nat×Nat),locp c.w p (g,b)=some x→(f cs1).length=cs1.length→
  (∀y,y∈F→y≠x.1→c'.w.heap[y]?=c.w.heap[y]?)→
  (∀us F1 cap1,a0h c cs1 us F1→ownB c.w x.1 x.2 us cap1→x.1∉F1→ ∃us' F1',a0h c' (f cs1) us' F1'∧ownB c'.w x.1 x.2 us' cap1∧ ∀y,y∈F1'→y∈F1)→
  ∃F',Rel c' (a3H f p a) (.slice (some ⟨g,b,none⟩) n cap) F'∧(∀y,y∈F'→y∈F)
 | [],a,g,b,n,cap,F,cs1,h,hp,x,hx,hlen,hblk,hnew=>by
  simp only[ath,Option.some.injEq]at hp
  subst hp
  simp only[locp,Option.some.injEq]at hx
  subst hx
  obtain⟨g',b',cap',us,F1,hv,hF,h1,h2,h3⟩:=Rel.row_inv h
  simp only[Value.slice.injEq,Option.some.injEq,Addr.mk.injEq]at hv
  obtain⟨⟨rfl,rfl,_⟩,rfl,rfl⟩:=hv
  obtain⟨us',F1',k1,k2,k3⟩:=hnew us F1 cap h1 h2 h3
  have hul:us'.length=us.length:=by rw[←k1.len,hlen,h1.len]
  refine⟨g::F1',?_,?_⟩
  ·have:=Rel.mk_row g b cap k1 k2 (fun hh=>h3 (k3 _ hh))
   rw[hul]at this
   exact this
  ·intro y hy
   rw[hF]
   rcases List.mem_cons.1 hy with rfl|hy
   ·simp
   ·simp[k3 y hy]
 |i::q,a,g,b,n,cap,F,cs1,h,hp,x,hx,hlen,hblk,hnew=>by
  cases a with
  |row cs=>
   simp only[ath]at hp
   cases hi:cs[i]? with
   |none=>simp[hi]at hp
   |some ci=>
    simp only[hi]at hp
    obtain⟨g',b',cap',us,F',hv,hF,h1,h2,h3⟩:=Rel.row_inv h
    simp only[Value.slice.injEq,Option.some.injEq,Addr.mk.injEq]at hv
    obtain⟨⟨rfl,rfl,_⟩,rfl,rfl⟩:=hv
    obtain⟨l,r,vl,vi,vr,Fl,Fa,Fr,rfl,hl,rfl,hvl,rfl,hL,ha,hR,d1,d2,d3⟩:=h1.nth hi
    have hcirow: ∃ds,ci= .row ds:=by
     cases q with
     |nil=>simp only[ath,Option.some.injEq]at hp;exact⟨_,hp⟩
     |cons j q=>cases ci<;>simp[ath]at hp;exact⟨_,rfl⟩
    obtain⟨ds,rfl⟩:=hcirow
    obtain⟨g2,b2,cap2,us2,F2,rfl,rfl,_,_,_⟩:=Rel.row_inv ha
    have hc:c.w.cell? ⟨g,b+i,none⟩=some (.slice (some ⟨g2,b2,none⟩) us2.length cap2):=h2.cell (by rw[←hvl];simp)
    simp only[locp,hc,if_true]at hx
    obtain⟨x',_,F1,hx',hr',hs',_⟩:=a4d q ha hp
    rw[hx]at hx'
    simp only[Option.some.injEq]at hx'
    subst hx'
    have hxF:x.1∈F1:=by
     obtain⟨g5,b5,cap5,us5,F5,e,hF5,_,_,_⟩:=Rel.row_inv hr'
     simp only[Value.slice.injEq,Option.some.injEq,Addr.mk.injEq]at e
     rw[hF5,e.1.1];simp
    have hxa:=hs' _ hxF
    have hgx:g≠x.1:=by
     rintro rfl
     exact h3 (by simp only[List.mem_append];exact .inr (.inl hxa))
    have hFsub: ∀y,y∈Fl∨y∈(g2::F2)∨y∈Fr→y∈F:=by
     intro y hy
     rw[hF]
     simp only[List.mem_cons,List.mem_append]at hy ⊢
     rcases hy with hy|hy|hy
     ·exact .inr (.inl hy)
     ·exact .inr (.inr (.inl hy))
     ·exact .inr (.inr (.inr hy))
    obtain⟨Fa',ra,sa⟩:=a8H k f q ha hp x hx hlen (fun y hy hne=>hblk y (hFsub y (.inr (.inl hy))) hne) hnew
    have eset:(l++AV.row ds::r).set i (a3H f q (.row ds))=l++a3H f q (.row ds)::r:=by rw[←hl];simp
    have hgh:c'.w.heap[g]?=c.w.heap[g]?:=hblk g (by rw[hF];simp) hgx
    have hL':a0h c' l vl Fl:=hL.mono k (fun y hy=>hblk y (hFsub y (.inl hy)) (by rintro rfl;exact d1 _ hy hxa))
    have hR':a0h c' r vr Fr:=hR.mono k (fun y hy=>hblk y (hFsub y (.inr (.inr hy))) (by rintro rfl;exact d3 _ hxa hy))
    have hall:a0h c' (l++a3H f q (.row ds)::r) (vl++ .slice (some ⟨g2,b2,none⟩) us2.length cap2::vr) (Fl++(Fa'++Fr)):=
     a0h.append hL' (a0h.cons ra hR' (fun y hy=>d3 y (sa y hy))) (fun y hy hh=>by
      rcases List.mem_append.1 hh with hh|hh
      ·exact d1 y hy (sa y hh)
      ·exact d2 y hy hh)
    have hput:a3H f (i::q) (.row (l++AV.row ds::r))= .row (l++a3H f q (.row ds)::r):=by
     simp only[a3H,hi,eset]
    rw[hput]
    refine⟨g::(Fl++(Fa'++Fr)),?_,?_⟩
    ·exact Rel.mk_row g b cap hall (h2.keep hgh) (fun hh=>h3 (by
      simp only[List.mem_append]at hh ⊢
      rcases hh with hh|hh|hh
      ·exact .inl hh
      ·exact .inr (.inl (sa _ hh))
      ·exact .inr (.inr hh)))
    ·intro y hy
     rw[hF]
     simp only[List.mem_cons,List.mem_append]at hy ⊢
     rcases hy with rfl|hy|hy|hy
     ·exact .inl rfl
     ·exact .inr (.inl hy)
     ·have:=sa y hy;simp only[List.mem_cons]at this;exact .inr (.inr (.inl this))
     ·exact .inr (.inr (.inr hy))
  |_=>simp[ath]at hp
theorem Sim.store{w0 A0 F0 c Φ R}(h:Sim w0 A0 F0 c Φ R){s g p cs}(ha:c.ro.cells s g p=some cs)(i:Nat)(as:List AV)(us':List Value)(hi:i+as.length≤cs.length)(hR:a0h c as us' [])(has: ∀a,a∈as→ ∀ds,a≠ .row ds):
  ∃x arr E,locp c.w p (c.L s g)=some x∧c.w.heap[x.1]?=some (.cells arr E (0,0))∧x.2+i+us'.length≤arr.size∧
   ∃c' Φ',c'.w=c.w.setRow x.1 (arr.toList.take (x.2+i)++us'++arr.toList.drop (x.2+i+us'.length)).toArray∧c'.ro=c.ro.wr ⟨s,g,p,i,as⟩∧c'.gn=c.gn∧c'.A=c.A∧a1y c c'∧Sim w0 A0 F0 c' Φ' R:=by
 obtain⟨x,us,F,cap,hx,h1,h2,h3,h4,h5,h6⟩:=h.place ha
 obtain⟨arr,E,k1,k2,k3,k4,k5⟩:=h2
 have hul:us'.length=as.length:=hR.len.symm
 have hcl:us.length=cs.length:=h1.len.symm
 have hfit:x.2+i+us'.length≤arr.size:=by omega
 refine⟨x,arr,E,hx,k1,hfit,?_⟩
 generalize hw':c.w.setRow x.1 (arr.toList.take (x.2+i)++us'++arr.toList.drop (x.2+i+us'.length)).toArray=w'
 have hnew:w'.heap[x.1]?=some (.cells (arr.toList.take (x.2+i)++us'++arr.toList.drop (x.2+i+us'.length)).toArray E (0,0)):=by rw[←hw'];exact setRow_heap _ _ _ _ _ _ k1
 have hold: ∀k,k≠x.1→w'.heap[k]?=c.w.heap[k]?:=fun k hk=>by rw[←hw'];exact setRow_other _ _ _ _ hk
 have hsz:w'.heap.size=c.w.heap.size:=by rw[←hw'];simp[World.setRow]
 have harrg: ∀j,(arr.toList.take (x.2+i)++us'++arr.toList.drop (x.2+i+us'.length))[j]?=if j<x.2+i then arr[j]? else if j<x.2+i+us'.length then us'[j-(x.2+i)]? else arr[j]?:=by
  intro j
  have hlt:(arr.toList.take (x.2+i)).length=x.2+i:=by rw[List.length_take,Array.length_toList];omega
  by_cases e1:j<x.2+i
  ·rw[if_pos e1,List.append_assoc,List.getElem?_append_left (by omega),List.getElem?_take,if_pos e1];simp
  ·rw[if_neg e1]
   by_cases e2:j<x.2+i+us'.length
   ·rw[if_pos e2,List.getElem?_append_left (by rw[List.length_append];omega),List.getElem?_append_right (by omega),hlt]
   ·rw[if_neg e2,List.getElem?_append_right (by rw[List.length_append];omega),List.length_append,hlt,List.getElem?_drop,Array.getElem?_toList]
    congr 1;omega
 have hsize:(arr.toList.take (x.2+i)++us'++arr.toList.drop (x.2+i+us'.length)).length=arr.size:=by simp;omega
 let ro':=c.ro.wr ⟨s,g,p,i,as⟩
 have hR9: ∃a0,c.ro s g=some a0:=by
  cases hr:c.ro s g with
  |none=>cases p<;>simp[Ro.cells,Ro.at,hr]at ha
  |some a0=>exact⟨a0,rfl⟩
 obtain⟨a0,hr0⟩:=hR9
 have hro':ro'=upr c.ro s g (a3H (setL i as) p a0):=by simp[ro',Ro.wr,hr0]
 let c':Cx:=⟨w',c.A,ro',c.gn,c.L⟩
 have hcellkeep: ∀j,j<i∨i+as.length≤j→j<cs.length→w'.cell? ⟨x.1,x.2+j,none⟩=c.w.cell? ⟨x.1,x.2+j,none⟩:=by
  intro j hj hjl
  simp only[World.cell?,hnew,k1]
  simp only[Option.isSome_none,Bool.false_eq_true,if_false,List.getElem?_toArray,harrg]
  rcases hj with hj|hj
  ·rw[if_pos (by omega)]
  ·rw[if_neg (by omega),if_neg (by omega)]
 have hrowkeep: ∀j ds,(setL i as cs)[j]?=some (.row ds)→cs[j]?=some (.row ds)∧w'.cell? ⟨x.1,x.2+j,none⟩=c.w.cell? ⟨x.1,x.2+j,none⟩:=by
  intro j ds hj
  have hjl:j<cs.length:=by
   have:=(List.getElem?_eq_some_iff.1 hj).1
   rwa [a1u]at this
  rw[getElem?_setL]at hj
  by_cases e1:j<i
  ·rw[if_pos e1]at hj;exact⟨hj,hcellkeep j (.inl e1) hjl⟩
  ·rw[if_neg e1]at hj
   by_cases e2:j<i+as.length∧j<cs.length
   ·rw[if_pos e2]at hj
    exact absurd rfl (has _ (List.mem_of_getElem? hj) ds)
   ·rw[if_neg e2]at hj;exact⟨hj,hcellkeep j (.inr (by omega)) hjl⟩
 have hownnew: ∀us1 cap1,us1.length=cs.length→ownB c.w x.1 x.2 us1 cap1→ownB w' x.1 x.2 (setL i us' us1) cap1:=by
  intro us1 cap1 hl1 ho
  obtain⟨arr1,E1,q1,q2,q3,q4,q5⟩:=ho
  rw[k1]at q1
  simp only[Option.some.injEq,Obj.cells.injEq]at q1
  obtain⟨rfl,rfl,_⟩:=q1
  refine⟨_,E,hnew,by simp only[List.size_toArray];rw[hsize];exact q2,by rw[a1u];exact q3,q4,fun j u hu=>?_⟩
  simp only[List.getElem?_toArray,harrg]
  rw[getElem?_setL]at hu
  by_cases e1:j<i
  ·rw[if_pos e1]at hu;rw[if_pos (by omega)];exact q5 j u hu
  ·rw[if_neg e1]at hu
   by_cases e2:j<i+us'.length∧j<us1.length
   ·rw[if_pos e2]at hu;rw[if_neg (by omega),if_pos (by omega)]
    have:x.2+j-(x.2+i)=j-i:=by omega
    rw[this];exact hu
   ·rw[if_neg e2]at hu
    have hj1:j<us1.length:=(List.getElem?_eq_some_iff.1 hu).1
    rw[if_neg (by omega),if_neg (by omega)];exact q5 j u hu
 -- where the places of the new root lie
 have hloc: ∀p' ds,ro'.cells s g p'=some ds→ ∃ds0,c.ro.cells s g p'=some ds0∧ds0.length≤ds.length∧ ∀y,locp c.w p' (c.L s g)=some y→locp w' p' (c.L s g)=some y:=by
  intro p' ds hds
  rw[hro']at hds
  obtain⟨_,v0,hv0,hh0⟩:=h.rt s g a0 hr0
  have hup:upr c.ro s g (a3H (setL i as) p a0) s g=some (a3H (setL i as) p a0):=by simp[upr]
  cases a0 with
  |bx cs0=>
   have hp0:p=[]:=by
    cases p with
    |nil=>rfl
    |cons j q=>simp[Ro.cells,Ro.at,hr0,ath]at ha
   subst hp0
   cases p' with
   |nil=>
    simp[Ro.cells,upr,a3H,blk]at hds
    subst hds
    exact⟨cs0,by simp[Ro.cells,hr0,blk],by rw[a1u];exact Nat.le_refl _,fun y hy=>hy⟩
   |cons j q=>simp[Ro.cells,Ro.at,upr,a3H,ath]at hds
  |row cs0=>
   obtain⟨cap0,rfl⟩:=hh0
   have hath:ath p (.row cs0)=some (.row cs):=by
    cases p with
    |nil=>simp only[Ro.cells,hr0,blk,Option.some.injEq]at ha;subst ha;rfl
    |cons j q=>
     simp only[Ro.cells,Ro.at,hr0]at ha
     cases hq:ath (j::q) (.row cs0)with
     |none=>simp[hq]at ha
     |some a1=>simp only[hq]at ha;cases a1<;>simp at ha;subst ha;rfl
   have hl:=b5i (w':=w') (setL i as) p hv0 hath x hx (a1u _ _ _) (fun y hy hne=>hold y hne) hrowkeep
   have hrowp: ∀ds,ath p' (a3H (setL i as) p (.row cs0))=some (.row ds)→ ∃ds0,c.ro.cells s g p'=some ds0∧ds0.length≤ds.length∧ ∀y,locp c.w p' (c.L s g)=some y→locp w' p' (c.L s g)=some y:=by
    intro ds hd
    obtain⟨ds0,e1,e2,e3⟩:=hl p' ds hd
    refine⟨ds0,?_,by omega,fun y hy=>by rw[←hy];exact e3⟩
    cases p' with
    |nil=>simp only[ath,Option.some.injEq,AV.row.injEq]at e1;subst e1;simp[Ro.cells,hr0,blk]
    |cons j q=>simp[Ro.cells,Ro.at,hr0,e1]
   cases p' with
   |nil=>
    simp only[Ro.cells,hup]at hds
    have hrow0: ∃l,a3H (setL i as) p (.row cs0)= .row l:=by
     cases p with
     |nil=>exact⟨_,rfl⟩
     |cons j q=>simp only[a3H];split<;>exact⟨_,rfl⟩
    obtain⟨l,el⟩:=hrow0
    rw[el]at hds
    simp only[blk,Option.some.injEq]at hds
    subst hds
    exact hrowp l (by rw[el];rfl)
   |cons j q=>
    simp only[Ro.cells,Ro.at,hup]at hds
    cases hq:ath (j::q) (a3H (setL i as) p (.row cs0))with
    |none=>simp[hq]at hds
    |some a1=>
     simp only[hq]at hds
     cases a1<;>simp at hds
     subst hds
     exact hrowp _ hq
  |_=>cases p<;>simp[Ro.cells,Ro.at,hr0,blk,ath]at ha
 have hΦlt: ∀s g y,y∈Φ s g→y<c.w.heap.size:=fun s g y hy=>h.al y (h.own s g y hy).1
 have hhdr: ∀(y:Nat×Nat) off n v,hdr c.w y.1 (y.2+off) n v→hdr w' y.1 (y.2+off) n v:=by
  intro y off n v hh
  obtain⟨b',cap',arr',E',q1,q2,q3,q4,q5,q6⟩:=hh
  by_cases e:y.1=x.1
  ·rw[e]at q1 q3 ⊢
   rw[k1]at q3
   simp only[Option.some.injEq,Obj.cells.injEq]at q3
   obtain⟨rfl,rfl,_⟩:=q3
   exact⟨b',cap',_,E,q1,q2,hnew,by simp only[List.size_toArray];rw[hsize];exact q4,q5,q6⟩
  ·exact⟨b',cap',arr',E',q1,q2,by rw[hold _ e];exact q3,q4,q5,q6⟩
 have hsizK: ∀(y:Nat×Nat),siz c.w w' y.1:=by
  intro y arr' E' q3
  by_cases e:y.1=x.1
  ·rw[e]at q3 ⊢
   rw[k1]at q3
   simp only[Option.some.injEq,Obj.cells.injEq]at q3
   obtain⟨rfl,rfl,_⟩:=q3
   exact⟨_,E,hnew,by simp only[List.size_toArray];rw[hsize];exact Nat.le_refl _⟩
  ·exact⟨arr',E',by rw[hold _ e];exact q3,Nat.le_refl _⟩
 have k:a1y c c':=by
  refine⟨by show _≤w'.heap.size;omega,fun _ _ h=>h,fun b _ hA=>hold b (fun e=>hA (e▸(h.own s g _ h4).1)),fun _=>Nat.le_refl _,?_⟩
  intro s' g' p' ds hg' hds
  by_cases e:s'=s∧g'=g
  ·obtain⟨rfl,rfl⟩:=e
   obtain⟨ds0,e1,e2,e3⟩:=hloc p' ds hds
   exact⟨ds0,e1,e2,fun y hy=>⟨e3 y hy,hhdr y,hsizK y⟩⟩
  ·have hds':c.ro.cells s' g' p'=some ds:=by
    have:ro'.cells s' g' p'=some ds:=hds
    rwa [hro',a1X e]at this
   obtain⟨y',us1,F1,cap1,q0,q1,q2,q3,q4,q5,q6⟩:=h.place hds'
   refine⟨ds,hds',Nat.le_refl _,fun y hy=>⟨?_,hhdr y,hsizK y⟩⟩
   rw[q0]at hy
   simp only[Option.some.injEq]at hy
   subst hy
   exact q6 w' fun z hz=>hold z (fun ez=>h.dj _ _ _ _ e z hz (by rw[ez];exact h4))
 have hnewR:a0h c' as us' []:=hR.mono k (by simp)
 have hR9': ∃v F',Rel c' (a3H (setL i as) p a0) v F'∧(∀y,y∈F'→y∈Φ s g)∧hd (c.L s g) (a3H (setL i as) p a0) v:=by
  obtain⟨_,v0,hv0,hh0⟩:=h.rt s g a0 hr0
  have hcommon: ∀us1 F1 cap1,a0h c cs us1 F1→(∀y,y∈F1→y∈Φ s g)→ownB c.w x.1 x.2 us1 cap1→x.1∉F1→ ∃us'' F1',a0h c' (setL i as cs) us'' F1'∧ownB c'.w x.1 x.2 us'' cap1∧ ∀y,y∈F1'→y∈F1:=by
   intro us1 F1 cap1 r1 rs o1 n1
   have r1':a0h c' cs us1 F1:=r1.mono k (fun y hy=>hold y (by rintro rfl;exact n1 hy))
   obtain⟨F1',q1,q2⟩:=a0h.setL as us' i r1' hnewR hi
   exact⟨_,F1',q1,hownnew us1 cap1 r1.len.symm o1,q2⟩
  cases a0 with
  |bx cs0=>
   have hp0:p=[]:=by
    cases p with
    |nil=>rfl
    |cons j q=>simp[Ro.cells,Ro.at,hr0,ath]at ha
   subst hp0
   simp only[Ro.cells,hr0,blk,Option.some.injEq]at ha
   subst ha
   simp only[locp,Option.some.injEq]at hx
   obtain⟨g1,b1,cap1,us1,F1,rfl,hF,r1,o1,n1⟩:=Rel.bx_inv hv0
   simp only[hd,Value.pointer.injEq,Option.some.injEq,Addr.mk.injEq]at hh0
   obtain⟨e1,e2,_⟩:=hh0
   have e1':g1=x.1:=by rw[e1,hx]
   have e2':b1=x.2:=by rw[e2,hx]
   subst e1' e2'
   obtain⟨us'',F1',q1,q2,q3⟩:=hcommon us1 F1 cap1 r1 (fun y hy=>by rw[hF];simp[hy]) o1 n1
   refine⟨_,x.1::F1',Rel.mk_bx _ _ cap1 q1 q2 (fun hh=>n1 (q3 _ hh)),fun y hy=>?_,?_⟩
   ·rw[hF]
    rcases List.mem_cons.1 hy with rfl|hy
    ·simp
    ·simp[q3 y hy]
   ·rw[←hx];rfl
  |row cs0=>
   obtain⟨cap0,rfl⟩:=hh0
   have hath:ath p (.row cs0)=some (.row cs):=by
    cases p with
    |nil=>simp only[Ro.cells,hr0,blk,Option.some.injEq]at ha;subst ha;rfl
    |cons j q=>
     simp only[Ro.cells,Ro.at,hr0]at ha
     cases hq:ath (j::q) (.row cs0)with
     |none=>simp[hq]at ha
     |some a1=>simp only[hq]at ha;cases a1<;>simp at ha;subst ha;rfl
   obtain⟨F',q1,q2⟩:=a8H k (setL i as) p hv0 hath x hx (a1u _ _ _) (fun y hy hne=>hold y hne) (fun us1 F1 cap1 r1 o1 n1=>by
    have r1':a0h c' cs us1 F1:=r1.mono k (fun y hy=>hold y (by rintro rfl;exact n1 hy))
    obtain⟨F1',q1,q2⟩:=a0h.setL as us' i r1' hnewR hi
    exact⟨_,F1',q1,hownnew us1 cap1 r1.len.symm o1,q2⟩)
   refine⟨_,F',q1,q2,?_⟩
   cases p with
   |nil=>
    simp only[ath,Option.some.injEq,AV.row.injEq]at hath
    subst hath
    exact⟨cap0,by rw[a1u]⟩
   |cons j q=>
    simp only[a3H]
    split
    ·exact⟨cap0,by simp⟩
    ·exact⟨cap0,rfl⟩
  |_=>cases p<;>simp[Ro.cells,Ro.at,hr0,blk,ath]at ha
 obtain⟨vn,Fn,hvn,hFn,hhn⟩:=hR9'
 refine⟨c',fun s' g'=>if s'=s∧g'=g then Fn else Φ s' g',rfl,rfl,rfl,rfl,k,?_⟩
 have hgen: ∀s' g' y,y∈(if s'=s∧g'=g then Fn else Φ s' g')→y∈Φ s' g':=by
  intro s' g' y hy
  by_cases e:s'=s∧g'=g
  ·rw[if_pos e]at hy;obtain⟨rfl,rfl⟩:=e;exact hFn y hy
  ·rw[if_neg e]at hy;exact hy
 constructor
 ·intro s' g' b hb
  have hb':ro' s' g'=some b:=hb
  rw[hro']at hb'
  by_cases e:s'=s∧g'=g
  ·obtain⟨rfl,rfl⟩:=e
   simp only[upr,and_self,if_true,Option.some.injEq]at hb'
   subst hb'
   refine⟨(h.rt s' g' a0 hr0).1,vn,?_,hhn⟩
   simp only[and_self,if_true];exact hvn
  ·simp only[upr,e,if_false]at hb'
   obtain⟨q1,u,q2,q3⟩:=h.rt s' g' b hb'
   refine⟨q1,u,?_,q3⟩
   simp only[e,if_false]
   exact q2.mono k (fun y hy=>hold y (fun ez=>h.dj _ _ _ _ e y hy (by rw[ez];exact h4)))
 ·intro s' g' hb
  have hb':ro' s' g'=none:=hb
  rw[hro']at hb'
  by_cases e:s'=s∧g'=g
  ·simp[upr,e]at hb'
  ·simp only[upr,e,if_false]at hb' ⊢
   exact h.no s' g' hb'
 ·intro s1 g1 s2 g2 hne y hy hy2
  exact h.dj _ _ _ _ hne y (hgen _ _ y hy) (hgen _ _ y hy2)
 ·intro s' g' y hy
  exact h.own s' g' y (hgen _ _ y hy)
 ·intro s' g' y hy
  exact h.rd s' g' y (hgen _ _ y hy)
 ·exact h.rown
 ·exact h.a0
 ·intro y hy;show y<w'.heap.size;rw[hsz];exact h.al y hy
 ·refine⟨?_,?_,?_,by show _≤w'.heap.size;rw[hsz];exact h.bw.size,fun k0 hk hf=>?_⟩
  ·show w'.os=_;rw[←hw'];exact h.bw.os
  ·show w'.tape=_;rw[←hw'];exact h.bw.tape
  ·show Ou w0 w';rw[←hw'];exact h.bw.output
  ·show w'.heap[k0]?=_
   rw[hold k0 (fun e=>by
    rcases(h.own s g _ h4).2.2 with q|q
    ·omega
    ·exact hf (e▸q))]
   exact h.bw.block k0 hk hf
 ·exact h.gd
section
variable{P:Program}{ti:Nat→Option TI}{w0:World}{A0:Nat→Prop}{F0:List Nat}{c:Cx}{Φ:Nat→Nat→List Nat}{st:St}{ρ:Operand→Value}{o:Oper}{e:Eff}
def a1w(P:Program)(w0:World)(A0:Nat→Prop)(F0:List Nat)(c:Cx)(st:St)(ρ:Operand→Value)(o:Oper)(e:Eff):Prop:=
 ∃v w' c' Φ',((execOp ρ o).run P c.w= .ok (.value v) w'∨(v=undef∧(execOp ρ o).run P c.w= .ok .skip w'))∧c'.w=w'∧c'.ro=(st.eff e).ro∧c'.gn=(st.eff e).gn∧
  Sim w0 A0 F0 c' Φ' []∧a1y c c'∧Rel c' e.v v []
theorem a1y.refl(c:Cx):a1y c c:=⟨Nat.le_refl _,fun _ _ h=>h,fun _ _ _=>rfl,fun _=>Nat.le_refl _,fun _ _ _ cs _ h=>⟨cs,h,Nat.le_refl _,fun _ hx=>⟨hx,fun _ _ _ h=>h,siz.refl _ _⟩⟩⟩
theorem a1y.trans{c c1 c2:Cx}(h:a1y c c1)(k:a1y c1 c2):a1y c c2:=by
 refine⟨Nat.le_trans h.hsz k.hsz,fun b hb hA=>h.hA b hb (k.hA b (Nat.lt_of_lt_of_le hb h.hsz) hA),fun b hb hA=>?_,fun s=>Nat.le_trans (h.hgn s) (k.hgn s),fun s g p cs hg hcs=>?_⟩
 ·rw[k.hI b (Nat.lt_of_lt_of_le hb h.hsz) (fun hA'=>hA (h.hA b hb hA')),h.hI b hb hA]
 ·obtain⟨cs1,h1,h2,h3⟩:=k.hP s g p cs (Nat.le_trans hg (h.hgn s)) hcs
  obtain⟨cs0,h4,h5,h6⟩:=h.hP s g p cs1 hg h1
  exact⟨cs0,h4,Nat.le_trans h5 h2,fun x hx=>⟨(h3 x (h6 x hx).1).1,fun off n v hh=>(h3 x (h6 x hx).1).2.1 off n v ((h6 x hx).2.1 off n v hh),(h6 x hx).2.2.trans (h3 x (h6 x hx).1).2.2⟩⟩
theorem a1w.pure{va:AV}{v:Value}(hs:Sim w0 A0 F0 c Φ [])(hro:c.ro=st.ro)(hgn:c.gn=st.gn)(hr:(execOp ρ o).run P c.w= .ok (.value v) c.w)(h:Rel c va v []):a1w P w0 A0 F0 c st ρ o ⟨va,none,[],[]⟩:=
 ⟨v,c.w,c,Φ,.inl hr,rfl,hro,hgn,hs,a1y.refl c,h⟩
theorem Rel.sc_inv{x v:Value}{F}(h:Rel c (.sc x) v F):v=x∧F=[]:=by
 cases h with
 |sc v h=>cases h;exact⟨rfl,rfl⟩
theorem Rel.imm_inv{cs v F}(h:Rel c (.imm cs) v F): ∃g b cap us,v= .slice (some ⟨g,b,none⟩) us.length cap∧a0h c cs us []∧c.inW g b us∧us.length≤cap∧F=[]:=by
 cases h with
 |imm g b cap h1 h2 h3 h=>cases h;exact⟨g,b,cap,_,rfl,h1,h2,h3,rfl⟩
theorem Rel.iptr_inv{cs v F}(h:Rel c (.iptr cs) v F): ∃g b us,v= .pointer (some ⟨g,b,none⟩)∧a0h c cs us []∧c.inW g b us∧F=[]:=by
 cases h with
 |iptr g b h1 h2 h=>cases h;exact⟨g,b,_,rfl,h1,h2,rfl⟩
theorem Rel.ref_inv{s g p off n v F}(h:Rel c (.ref s g p off n) v F):g≤c.gn s∧(∀cs,c.ro.cells s g p=some cs→ ∃x,locp c.w p (c.L s g)=some x∧hdr c.w x.1 (x.2+off) n v∧off+n≤cs.length):=by
 cases h with
 |ref _ _ _ _ _ _ h1 h2 h=>exact⟨h1,h2⟩
theorem Rel.ptr_inv{s g p i v F}(h:Rel c (.ptr s g p i) v F):g≤c.gn s∧(∀cs,c.ro.cells s g p=some cs→ ∃x,locp c.w p (c.L s g)=some x∧v= .pointer (some ⟨x.1,x.2+i,none⟩)):=by
 cases h with
 |ptr _ _ _ _ _ h1 h2 h=>exact⟨h1,h2⟩
theorem Rel.immk_inv{k n cs v F}(h:Rel c (.immk k n cs) v F): ∃g b cap us,v= .slice (some ⟨g,b,none⟩) n cap∧a0h c cs us []∧c.inW g b us∧us.length=k*n∧n≤cap∧F=[]:=by
 cases h with
 |immk k g b n cap h1 h2 h3 h4 h=>cases h;exact⟨g,b,cap,_,rfl,h1,h2,h3,h4,rfl⟩
theorem Rel.refk_inv{k s g n v F}(h:Rel c (.refk k s g n) v F):g≤c.gn s∧(∀cs,c.ro.cells s g []=some cs→hdrk c.w (c.L s g) k n v∧k*n≤cs.length):=by
 cases h with
 |refk k s g n v h1 h2 h=>exact⟨h1,h2⟩
theorem Rel.agg_inv{cs v F}(h:Rel c (.agg cs) v F): ∃us,v= .agg us.toArray∧a0h c cs us F:=by
 cases h with
 |agg h1 h2 h=>cases h;exact⟨_,rfl,by simpa using h1⟩
theorem Rel.tup_inv{cs v F}(h:Rel c (.tup cs) v F): ∃us,v= .tuple us.toArray∧a0h c cs us F:=by
 cases h with
 |tup h1 h2 h=>cases h;exact⟨_,rfl,by simpa using h1⟩
theorem Rel.fn_inv{f cs v F}(h:Rel c (.fn f cs) v F): ∃us,v= .func (.func f) #[] us.toArray∧a0h c cs us []:=by
 cases h with
 |fn f h1 h=>cases h;exact⟨_,rfl,h1⟩
theorem b4g(op:BinOp)(t k a k' b):binOp op t (.int k a) (.int k' b)=binOp op 0 (.int k a) (.int k' b):=by cases op<;>rfl
theorem b3D(op:BinOp)(t a b):binOp op t (.string a) (.string b)=binOp op 0 (.string a) (.string b):=by cases op<;>rfl
theorem a9X(op:BinOp)(t:Nat)(x y:Operand)(k a k' b)(w:World):(eqGuard op t x y (.int k a) (.int k' b)).run P w= .ok () w:=by cases op<;>rfl
theorem b0S(op:BinOp)(t:Nat)(x y:Operand)(a b)(w:World):(eqGuard op t x y (.string a) (.string b)).run P w= .ok () w:=by cases op<;>rfl
theorem a9h(op:BinOp)(t:Nat)(x y:Operand)(a b)(w:World):(eqGuard op t x y (.bool a) (.bool b)).run P w= .ok () w:=by cases op<;>rfl
theorem a5f(op:BinOp)(t:Nat)(x y:Operand)(a b:Option Addr)(n c m d:Nat)(w:World):(eqGuard op t x y (.slice a n c) (.slice b m d)).run P w= .ok () w:=by cases op<;>rfl
theorem a3Y{v:Value}(h:a2F v=true):v= .slice none 0 0:=by
 unfold a2F at h
 split at h
 ·rfl
 ·cases h
theorem a5L(d t:Nat)(hd:P.underlying t=some .bool)(a b:Bool)(w:World):(Op.equalIn (d+1) t (.bool a) (.bool b)).run P w= .ok (a==b) w:=by
 simp only[Op.equalIn,Sem.run_bind,run_underlying hd,Result.andThen_ok]
 rfl
theorem a6C(d t e:Nat)(hd:P.underlying t=some (.slice e))(a:Option Addr)(n cp:Nat)(w:World):(Op.equalIn (d+1) t (.slice a n cp) (.slice none 0 0)).run P w= .ok a.isNone w:=by
 simp only[Op.equalIn,Sem.run_bind,run_underlying hd,Result.andThen_ok]
 cases a<;>rfl
theorem a8T(T:TOK P ti){t:Nat}{inf:TI}(hi:ti t=some inf)(hb:inf.bl=true)(op:BinOp)(a b:Bool)(u:Value)(hu:a3L op (a==b)=some u)(w:World):
  (binOp op t (.bool a) (.bool b)).run P w= .ok u w:=by
 have hd:=(T.ok t inf hi).bl hb
 have he:(Op.equal t (.bool a) (.bool b)).run P w= .ok (a==b) w:=a5L 9999 t hd a b w
 cases op<;>simp only[a3L,Option.some.injEq,reduceCtorEq]at hu<;>subst hu<;>simp only[binOp,Sem.run_bind,he,Result.andThen_ok]<;>rfl
theorem a4u(T:TOK P ti){t:Nat}{inf:TI}(hi:ti t=some inf)(hb:inf.elem.isSome=true)(op:BinOp)(a:Option Addr)(n cp:Nat)(u:Value)(hu:a3L op a.isNone=some u)(w:World):
  (binOp op t (.slice a n cp) (.slice none 0 0)).run P w= .ok u w:=by
 obtain⟨e,he⟩:=Option.isSome_iff_exists.1 hb
 have hd:=((T.ok t inf hi).elem e he).1
 have he:(Op.equal t (.slice a n cp) (.slice none 0 0)).run P w= .ok a.isNone w:=a6C 9999 t e hd a n cp w
 cases op<;>simp only[a3L,Option.some.injEq,reduceCtorEq]at hu<;>subst hu<;>simp only[binOp,Sem.run_bind,he,Result.andThen_ok]<;>rfl
theorem a6S(d t e:Nat)(hd:P.underlying t=some (.array 3 e))(he:P.underlying e=some (.int .i64)){inf:TypeInfo}(hi:P.info? e=some inf)(hz:inf.size=1)(a b c x y z:Int)(w:World):
  (Op.equalIn (d+2) t (.agg #[.int .i64 a,.int .i64 b,.int .i64 c]) (.agg #[.int .i64 x,.int .i64 y,.int .i64 z])).run P w= .ok ((a==x)&&((b==y)&&(c==z))) w:=by
 have hag: ∀w,(isAgg e).run P w= .ok false w:=fun w=>by unfold isAgg;simp only[Sem.run_bind,run_underlying he,Result.andThen_ok];rfl
 have heq: ∀(m n:Int) (w:World),(Op.equalIn (d+1) e (.int .i64 m) (.int .i64 n)).run P w= .ok (m==n) w:=fun m n w=>by simp only[Op.equalIn,Sem.run_bind,run_underlying he,Result.andThen_ok];rfl
 rw[Op.equalIn]
 simp only[Sem.run_bind,run_underlying hd,Result.andThen_ok]
 simp only[Std.Legacy.Range.forIn_eq_forIn_range',Std.Legacy.Range.size,Nat.sub_zero,Nat.add_sub_cancel,Nat.div_one,List.range'_succ,List.range'_zero,List.forIn_cons,List.forIn_nil]
 simp[sizeOf,typeInfo,hi,hz,part,hag,heq]
 by_cases h1:a=x<;>by_cases h2:b=y<;>by_cases h3:c=z<;>simp[h1,h2,h3]
theorem a5G(d t e:Nat)(hd:P.underlying t=some (.array 3 e))(he:P.underlying e=some (.int .i64)){inf:TypeInfo}(hi:P.info? e=some inf)(hz:inf.size=1)(a b c x y z:Int)(w:World):
  (Op.eqGuardIn (d+2) t (.agg #[.int .i64 a,.int .i64 b,.int .i64 c]) (.agg #[.int .i64 x,.int .i64 y,.int .i64 z])).run P w= .ok false w:=by
 have hag: ∀w,(isAgg e).run P w= .ok false w:=fun w=>by unfold isAgg;simp only[Sem.run_bind,run_underlying he,Result.andThen_ok];rfl
 have heq: ∀(m n:Int) (w:World),(Op.eqGuardIn (d+1) e (.int .i64 m) (.int .i64 n)).run P w= .ok false w:=fun m n w=>by simp only[Op.eqGuardIn,Sem.run_bind,run_underlying he,Result.andThen_ok];rfl
 rw[Op.eqGuardIn]
 simp only[Sem.run_bind,run_underlying hd,Result.andThen_ok]
 simp only[Std.Legacy.Range.forIn_eq_forIn_range',Std.Legacy.Range.size,Nat.sub_zero,Nat.add_sub_cancel,Nat.div_one,List.range'_succ,List.range'_zero,List.forIn_cons,List.forIn_nil]
 simp[sizeOf,typeInfo,hi,hz,part,hag,heq]
theorem b2W(op:BinOp)(t e:Nat)(X Y:Operand)(hd:P.underlying t=some (.array 3 e))(he:P.underlying e=some (.int .i64)){inf:TypeInfo}(hi:P.info? e=some inf)(hz:inf.size=1)(a b c x y z:Int)(w:World):
  (eqGuard op t X Y (.agg #[.int .i64 a,.int .i64 b,.int .i64 c]) (.agg #[.int .i64 x,.int .i64 y,.int .i64 z])).run P w= .ok () w:=by
 have h:=a5G 9998 t e hd he hi hz a b c x y z w
 have h':(Op.eqGuardIn Op.maxDepth t (.agg #[.int .i64 a,.int .i64 b,.int .i64 c]) (.agg #[.int .i64 x,.int .i64 y,.int .i64 z])).run P w= .ok false w:=h
 unfold eqGuard
 cases op<;>first|rfl|skip
 all_goals
  simp only[]
  split
  ·simp
  ·simp only[Sem.run_bind,run_program,Result.andThen_ok]
   split
   ·rfl
   ·simp[h']
theorem b2A(op:BinOp)(t e:Nat)(hd:P.underlying t=some (.array 3 e))(he:P.underlying e=some (.int .i64)){inf:TypeInfo}(hi:P.info? e=some inf)(hz:inf.size=1)(a b c x y z:Int)(u:Value)(hu:a3L op ((a==x)&&((b==y)&&(c==z)))=some u)(w:World):
  (binOp op t (.agg #[.int .i64 a,.int .i64 b,.int .i64 c]) (.agg #[.int .i64 x,.int .i64 y,.int .i64 z])).run P w= .ok u w:=by
 have he:(Op.equal t (.agg #[.int .i64 a,.int .i64 b,.int .i64 c]) (.agg #[.int .i64 x,.int .i64 y,.int .i64 z])).run P w= .ok ((a==x)&&((b==y)&&(c==z))) w:=a6S 9998 t e hd he hi hz a b c x y z w
 cases op<;>simp only[a3L,Option.some.injEq,reduceCtorEq]at hu<;>subst hu<;>simp only[binOp,Sem.run_bind,he,Result.andThen_ok]<;>rfl
theorem Rel.n3_inv{a b c':Int}{v:Value}{F:List Nat}(h:Rel c (.agg [.sc (.int .i64 a),.sc (.int .i64 b),.sc (.int .i64 c')]) v F):v= .agg #[.int .i64 a,.int .i64 b,.int .i64 c']:=by
 obtain⟨us,rfl,h1⟩:=Rel.agg_inv h
 cases h1 with
 |sc _ h1=>cases h1 with
  |sc _ h1=>cases h1 with
   |sc _ h1=>cases h1;rfl
theorem b2S(T:TOK P ti){t:Nat}{inf:TI}(hi:ti t=some inf){op:BinOp}{x y:AV}{u:Value}(h:b1w inf op x y=some u){vx vy:Value}(hx:Rel c x vx [])(hy:Rel c y vy [])
  (hlive: ∀s g p off n,x= .ref s g p off n→ ∃ad m cp,vx= .slice (some ad) m cp) (X Y:Operand):(do eqGuard op t X Y vx vy;binOp op t vx vy:Sem Value).run P c.w= .ok u c.w:=by
 cases x with
 |sc x=>
  obtain⟨rfl,_⟩:=Rel.sc_inv hx
  cases y with
  |sc y=>
   obtain⟨rfl,_⟩:=Rel.sc_inv hy
   by_cases hnil:a2F vx=true∧a2F vy=true
   ·obtain⟨e1,e2⟩:=hnil
    have e1:=a3Y e1
    have e2:=a3Y e2
    subst e1 e2
    simp only[b1w,a2F,Bool.and_self,Bool.true_and]at h
    split at h
    ·rename_i hb
     simp only[Sem.run_bind,a5f,Result.andThen_ok]
     exact a4u T hi hb op none 0 0 u h _
    ·cases h
   ·have hf:(a2F vx&&a2F vy&&inf.elem.isSome)=false:=by
     cases h1:a2F vx<;>cases h2:a2F vy<;>simp_all
    cases vx<;>cases vy<;>simp only[b1w,hf,Bool.false_eq_true,if_false,reduceCtorEq]at h
    case bool.bool=>
     split at h
     ·rename_i hb
      simp only[Sem.run_bind,a9h,Result.andThen_ok]
      exact a8T T hi hb op _ _ u h _
     ·cases h
    case int.int=>
     simp only[Sem.run_bind,a9X,Result.andThen_ok,b4g op t]
     exact a3u h _
    case string.string=>
     simp only[Sem.run_bind,b0S,Result.andThen_ok,b3D op t]
     exact a3u h _
  |_=>simp[b1w]at h
 |imm cs=>
  cases y with
  |sc y=>
   obtain⟨rfl,_⟩:=Rel.sc_inv hy
   simp only[b1w]at h
   split at h
   ·rename_i hb
    simp only[Bool.and_eq_true]at hb
    obtain⟨g,b,cap,us,rfl,_⟩:=Rel.imm_inv hx
    rw[a3Y hb.1]
    simp only[Sem.run_bind,a5f,Result.andThen_ok]
    exact a4u T hi hb.2 op (some _) _ _ u h _
   ·cases h
  |_=>simp[b1w]at h
 |ref s g p off n=>
  cases y with
  |sc y=>
   obtain⟨rfl,_⟩:=Rel.sc_inv hy
   simp only[b1w]at h
   split at h
   ·rename_i hb
    simp only[Bool.and_eq_true]at hb
    obtain⟨ad,m,cp,rfl⟩:=hlive _ _ _ _ _ rfl
    rw[a3Y hb.1]
    simp only[Sem.run_bind,a5f,Result.andThen_ok]
    exact a4u T hi hb.2 op (some _) _ _ u h _
   ·cases h
  |_=>simp[b1w]at h
 |agg xs=>
  unfold b1w at h
  split at h
  all_goals first|(rename_i e0;exact AV.noConfusion e0)|skip
  ·rename_i a b c1 x y1 z hxe
   rw[hxe]at hx
   have e1:=Rel.n3_inv hx
   have e2:=Rel.n3_inv hy
   subst e1 e2
   split at h
   ·rename_i e3 har
    obtain⟨_,_,hd,he,in3,hi3,hz,_⟩:=(T.ok t inf hi).arrA 3 e3 har
    simp only[Sem.run_bind,b2W op t e3 X Y hd he hi3 hz,Result.andThen_ok]
    exact b2A op t e3 hd he hi3 hz a b c1 x y1 z u h _
   ·cases h
  ·cases h
 |_=>simp[b1w]at h
end
section
variable{P:Program}{ti:Nat→Option TI}{w0:World}{A0:Nat→Prop}{F0:List Nat}{c:Cx}{Φ:Nat→Nat→List Nat}{st:St}{ρ:Operand→Value}{o:Oper}{e:Eff}{b:Nat}
theorem a2w{s g p off n v}(hv:Rel c (.ref s g p off n) v [])(hl:(c.ro.cells s g p).isSome=true):
  ∃x cs,c.ro.cells s g p=some cs∧locp c.w p (c.L s g)=some x∧hdr c.w x.1 (x.2+off) n v∧off+n≤cs.length:=by
 obtain⟨cs,hcs⟩:=Option.isSome_iff_exists.1 hl
 obtain⟨_,h⟩:=Rel.ref_inv hv
 obtain⟨x,h1,h2,h3⟩:=h cs hcs
 exact⟨x,cs,hcs,h1,h2,h3⟩
theorem a5r{s g p i v}(hv:Rel c (.ptr s g p i) v []){cs}(hcs:c.ro.cells s g p=some cs):
  ∃x,locp c.w p (c.L s g)=some x∧v= .pointer (some ⟨x.1,x.2+i,none⟩):=(Rel.ptr_inv hv).2 cs hcs
theorem c1o{s g p off n v}(hv:Rel c (.ref s g p off n) v []){l h:Nat}{v':Value}(hl:l≤h)(hh:h≤n)
  (hv': ∀x:Nat×Nat,hdr c.w x.1 (x.2+off) n v→hdr c.w x.1 (x.2+(off+l)) (h-l) v'):Rel c (.ref s g p (off+l) (h-l)) v' []:=by
 obtain⟨h1,h2⟩:=Rel.ref_inv hv
 refine .ref s g p (off+l) (h-l) v' h1 (fun cs hcs=>?_) .nil
 obtain⟨x,h3,h4,h5⟩:=h2 cs hcs
 exact⟨x,h3,hv' x h4,by omega⟩
theorem a0h.nth0{cs us}(h:a0h c cs us []){i:Nat}{a:AV}(hi:cs[i]?=some a): ∃u,us[i]?=some u∧Rel c a u []:=by
 obtain⟨l,r,vl,v,vr,Fl,Fa,Fr,rfl,hl,rfl,hvl,hF,_,ha,_⟩:=h.nth hi
 have:Fa=[]:=by
  have:=congrArg List.length hF
  simp only[List.length_nil,List.length_append]at this
  exact List.eq_nil_of_length_eq_zero (by omega)
 subst this
 exact⟨v,by rw[←hvl];simp,ha⟩
theorem a0h.cut0{cs us}(h:a0h c cs us [])(i n:Nat):a0h c ((cs.drop i).take n) ((us.drop i).take n) []:=by
 have e1:cs=cs.take i++cs.drop i:=(List.take_append_drop i cs).symm
 rw[e1]at h
 obtain⟨vl,vr,Fl,Fr,rfl,hF,hl,hr,_⟩:=h.split
 have hF':Fl=[]∧Fr=[]:=by simpa using hF.symm
 obtain⟨rfl,rfl⟩:=hF'
 have hlen:=hl.len
 rw[List.length_take]at hlen
 have e2:(vl++vr).drop i=vr.drop (i-vl.length):=by
  rw[List.drop_append]
  have:vl.drop i=[]:=List.drop_eq_nil_of_le (by omega)
  rw[this,List.nil_append]
 by_cases hi:i≤cs.length
 ·have:i-vl.length=0:=by omega
  rw[e2,this,List.drop_zero]
  have e3:cs.drop i=(cs.drop i).take n++(cs.drop i).drop n:=(List.take_append_drop n _).symm
  rw[e3]at hr
  obtain⟨vl',vr',Fl',Fr',rfl,hF',hl',hr',_⟩:=hr.split
  have hF'':Fl'=[]∧Fr'=[]:=by simpa using hF'.symm
  obtain⟨rfl,rfl⟩:=hF''
  have hlen':=hl'.len
  have:(vl'++vr').take n=vl':=by
   rw[List.length_take]at hlen'
   by_cases hn:n≤(cs.drop i).length
   ·have:vl'.length=n:=by omega
    rw[←this];simp
   ·have hr0:(cs.drop i).drop n=[]:=List.drop_eq_nil_of_le (by omega)
    rw[hr0]at hr'
    obtain⟨rfl,_⟩:=a0h.nilF hr'
    rw[List.append_nil,List.take_of_length_le (by omega)]
  rw[this]
  exact hl'
 ·have h0:cs.drop i=[]:=List.drop_eq_nil_of_le (by omega)
  rw[h0]at hr
  obtain⟨rfl,_⟩:=a0h.nilF hr
  rw[h0]
  have:(vl++([]:List Value)).drop i=[]:=List.drop_eq_nil_of_le (by simp;omega)
  rw[this]
  simpa using a0h.nil
theorem inW.cut{g b0 us}(h:c.inW g b0 us)(i n:Nat):c.inW g (b0+i) ((us.drop i).take n):=by
 refine⟨h.1,h.2.1,fun j u hu=>?_⟩
 have:us[i+j]?=some u:=by
  rw[List.getElem?_take]at hu
  split at hu
  ·rw[List.getElem?_drop]at hu;exact hu
  ·cases hu
 have:=h.2.2 (i+j) u this
 rwa [←Nat.add_assoc]at this
theorem Rel.imm_mk{cs us}(g b0 cap:Nat)(h1:a0h c cs us [])(h2:c.inW g b0 us)(h3:us.length≤cap):Rel c (.imm cs) (.slice (some ⟨g,b0,none⟩) us.length cap) []:=
 .imm g b0 cap h1 h2 h3 .nil
theorem c1j(T:TOK P ti)(hs:Sim w0 A0 F0 c Φ [])(hro:c.ro=st.ro)(hgn:c.gn=st.gn)(hev: ∀x,Rel c (st.ev x) (ρ x) []){t:Nat}{x:Operand}(ho:o.op= .load t x)
  (h:opC ti b st.ro st.gn st.ev (.load t x)=some e):a1w P w0 A0 F0 c st ρ o e:=by
 simp only[opC]at h
 cases hi:ti t with
 |none=>simp[hi]at h
 |some inf=>
  simp only[hi]at h
  have hx:=hev x
  cases hxe:st.ev x<;>simp only[hxe,reduceCtorEq]at h hx
  case ptr s g p i=>
   cases hcs:st.ro.cells s g p with
   |none=>simp[hcs]at h
   |some cs=>
    simp only[hcs]at h
    rw[←hro]at hcs
    obtain⟨y,hy,hv⟩:=a5r hx hcs
    obtain⟨hg,_⟩:=Rel.ptr_inv hx
    obtain⟨y',us,F,cap,q0,q1,q2,q3,q4,q5,q6⟩:=hs.place hcs
    rw[hy]at q0
    simp only[Option.some.injEq]at q0
    subst q0
    split at h
    ·rename_i hag
     split at h
     ·rename_i hle
      simp only[Option.some.injEq]at h
      subst h
      have hlift: ∀(m j:Nat),j+m≤cs.length→a0h c (zfi s g p j ((cs.drop j).take m)) ((us.drop j).take m) []:=by
       intro m
       induction m with
       |zero=>intro j _;simpa [zfi]using a0h.nil
       |succ m ih=>
        intro j hj
        have hlt:j<cs.length:=by omega
        have hlt':j<us.length:=by rw[←q1.len];exact hlt
        rw[List.drop_eq_getElem_cons hlt,List.drop_eq_getElem_cons hlt',List.take_succ_cons,List.take_succ_cons]
        simp only[zfi]
        obtain⟨z,u,Fz,z1,z2,z3,z4⟩:=hs.cell hcs (List.getElem?_eq_getElem hlt)
        rw[hy]at z1
        simp only[Option.some.injEq]at z1
        subst z1
        have hu:u=us[j]:=by
         have:=q2.cell (List.getElem?_eq_getElem hlt')
         rw[this]at z2
         simpa using z2.symm
        rw[←hu]
        exact a0h.cons (hs.lift hg hcs (List.getElem?_eq_getElem hlt) hy z2 z3) (ih (j+1) (by omega)) (by simp)
      refine a1w.pure (v:= .agg ((us.drop i).take inf.size).toArray) hs hro hgn ?_ ?_
      ·have hl:((us.drop i).take inf.size).length=inf.size:=by rw[List.length_take,List.length_drop, ←q1.len];omega
       have hr:=a2Y T hi hag c.w y.1 (y.2+i) ((us.drop i).take inf.size) hl (fun j u hu=>by
        have:us[i+j]?=some u:=by
         rw[List.getElem?_take]at hu
         split at hu
         ·rw[List.getElem?_drop]at hu;exact hu
         ·cases hu
        have:=q2.cell this
        rwa [←Nat.add_assoc]at this)
       simp[execOp,ho,hv,hr]
      ·have:=a0h.agg (hlift inf.size i hle) (by simp) a0h.nil
       simpa using this
     ·cases h
    ·rename_i hag
     cases hi':cs[i]? with
     |none=>simp[hi']at h
     |some a=>
      simp only[hi',Option.some.injEq]at h
      subst h
      obtain⟨z,u,Fz,z1,z2,z3,z4⟩:=hs.cell hcs hi'
      rw[hy]at z1
      simp only[Option.some.injEq]at z1
      subst z1
      refine a1w.pure (v:=u) hs hro hgn ?_ (hs.lift hg hcs hi' hy z2 z3)
      have hr:=a2A T hi (by simpa using hag) c.w ⟨y.1,y.2+i,none⟩ u z2
      simp[execOp,ho,hv,hr]
  case iptr cs=>
   obtain⟨g1,b1,us,hv,h1,h2,_⟩:=Rel.iptr_inv hx
   split at h
   ·rename_i hag
    split at h
    ·rename_i hle
     simp only[Option.some.injEq]at h
     subst h
     refine a1w.pure (v:= .agg (us.take inf.size).toArray) hs hro hgn ?_ ?_
     ·have hl:(us.take inf.size).length=inf.size:=by rw[List.length_take, ←h1.len];omega
      have hr:=a2Y T hi hag c.w g1 b1 (us.take inf.size) hl (fun j u hu=>by
       rw[List.getElem?_take]at hu
       split at hu
       ·exact h2.2.2 j u hu
       ·cases hu)
      simp[execOp,ho,hv,hr]
     ·have:=a0h.agg (by simpa using h1.cut0 0 inf.size) (by simp) (a0h.nil (c:=c))
      simpa using this
    ·cases h
   ·rename_i hag
    cases cs with
    |nil=>simp at h
    |cons a cs=>
     simp only[Option.some.injEq]at h
     subst h
     obtain⟨u,hu,ha⟩:=h1.nth0 (i:=0) (a:=a) rfl
     refine a1w.pure (v:=u) hs hro hgn ?_ ha
     have hr:=a2A T hi (by simpa using hag) c.w ⟨g1,b1,none⟩ u (by have:=h2.2.2 0 u hu;simpa using this)
     simp[execOp,ho,hv,hr]
theorem b3V(hs:Sim w0 A0 F0 c Φ [])(hro:c.ro=st.ro)(hgn:c.gn=st.gn)(hev: ∀x,Rel c (st.ev x) (ρ x) []){x:Operand}(ho:o.op= .move x∨o.op= .assign x)
  (h:e=⟨st.ev x,none,[],[]⟩):a1w P w0 A0 F0 c st ρ o e:=by
 subst h
 refine a1w.pure (v:=ρ x) hs hro hgn ?_ (hev x)
 rcases ho with ho|ho<;>simp[execOp,ho]
theorem c0K(hs:Sim w0 A0 F0 c Φ [])(hro:c.ro=st.ro)(hgn:c.gn=st.gn)(hev: ∀x,Rel c (st.ev x) (ρ x) []){x y z:Operand}(ho:o.op= .pick x y z)
  (h:opC ti b st.ro st.gn st.ev (.pick x y z)=some e):a1w P w0 A0 F0 c st ρ o e:=by
 simp only[opC]at h
 have hx:=hev x
 split at h
 ·rename_i t hxe
  rw[hxe]at hx
  obtain⟨hx,_⟩:=Rel.sc_inv hx
  simp only[Option.some.injEq]at h
  subst h
  refine a1w.pure (v:=if t then ρ y else ρ z) hs hro hgn (by simp[execOp,ho,hx,asBool]) ?_
  cases t
  ·exact hev z
  ·exact hev y
 ·cases h
theorem c1Y(T:TOK P ti)(hs:Sim w0 A0 F0 c Φ [])(hro:c.ro=st.ro)(hgn:c.gn=st.gn)(hev: ∀x,Rel c (st.ev x) (ρ x) []){op:BinOp}{t t':Nat}{x y:Operand}(ho:o.op= .binOp op t x y t')
  (h:opC ti b st.ro st.gn st.ev (.binOp op t x y t')=some e):a1w P w0 A0 F0 c st ρ o e:=by
 simp only[opC]at h
 cases hi:ti t with
 |none=>simp[hi]at h
 |some inf=>
  simp only[hi]at h
  split at h
  ·rename_i hl
   cases hb:b1w inf op (st.ev x) (st.ev y)with
   |none=>simp[hb]at h
   |some u=>
    simp only[hb,Option.some.injEq]at h
    subst h
    have:=b2S T hi hb (hev x) (hev y) (fun s g p off n hxe=>by
     rw[hxe]at hl
     simp only[zee]at hl
     rw[←hro]at hl
     have hx:=hev x
     rw[hxe]at hx
     obtain⟨z,cs,_,_,h3,_⟩:=a2w hx hl
     obtain⟨b',cap,arr,E,h4,_⟩:=h3
     exact⟨_,_,_,h4⟩) x y
    refine a1w.pure (v:=u) hs hro hgn ?_ (.sc u .nil)
    simp only[execOp,ho]
    rw[Sem.run_bind,this]
    rfl
  ·cases h
theorem c4i(hs:Sim w0 A0 F0 c Φ [])(hro:c.ro=st.ro)(hgn:c.gn=st.gn)(hev: ∀x,Rel c (st.ev x) (ρ x) []){op:UnOp}{t:Nat}{x:Operand}(ho:o.op= .unOp op t x)
  (h:opC ti b st.ro st.gn st.ev (.unOp op t x)=some e):a1w P w0 A0 F0 c st ρ o e:=by
 simp only[opC]at h
 have hx:=hev x
 split at h
 ·rename_i v hxe
  rw[hxe]at hx
  obtain⟨hx,_⟩:=Rel.sc_inv hx
  cases hu:a2i (Op.unary op v)with
  |none=>simp[hu]at h
  |some u=>
   simp only[hu,Option.some.injEq]at h
   subst h
   refine a1w.pure (v:=u) hs hro hgn ?_ (.sc u .nil)
   have:=a3u (P:=P) hu c.w
   simp[execOp,ho,hx,this]
 ·cases h
theorem a9f: ∀ {as:List AV} {l:List UInt8},a9s as=some l→ ∃ns:List Int,ns.map (fun n=>UInt8.ofNat n.toNat)=l∧as=ns.map (fun n=>AV.sc (.int .u8 n))
 | [],l,h=>by simp only[a9s,Option.some.injEq]at h;subst h;exact⟨[],rfl,rfl⟩
 |a::as,l,h=>by
  unfold a9s at h
  split at h
  ·cases ‹(a::as)=[]›
  ·rename_i k r heq
   obtain⟨rfl,rfl⟩:a=_∧as=r:=by simpa using heq
   split at h
   ·rename_i l' hl'
    obtain⟨ns,rfl,rfl⟩:=a9f hl'
    simp only[Option.some.injEq]at h
    subst h
    exact⟨k::ns,rfl,rfl⟩
   ·cases h
  ·cases h
theorem b7k(T:TOK P ti)(hs:Sim w0 A0 F0 c Φ [])(hro:c.ro=st.ro)(hgn:c.gn=st.gn)(hev: ∀x,Rel c (st.ev x) (ρ x) []){s d:Nat}{x:Operand}(ho:o.op= .convert s d x)
  {i j:TI} {s' g:Nat} {p:List Nat} {off n:Nat} (hi:ti s=some i) (hj:ti d=some j) (hxe:st.ev x= .ref s' g p off n)
  (h:b5E ti st.ro i j s' g p off n=some e):a1w P w0 A0 F0 c st ρ o e:=by
 have hx:=hev x
 rw[hxe]at hx
 unfold b5E at h
 split at h
 ·rename_i el hel
  split at h
  ·rename_i ie hie
   split at h
   ·rename_i hc
    split at h
    ·rename_i cs hcs
     split at h
     ·rename_i hle
      split at h
      ·rename_i l hl
       simp only[Option.some.injEq]at h
       subst h
       obtain⟨ns,rfl,hcn⟩:=a9f hl
       have hcs':c.ro.cells s' g p=some cs:=by rw[hro];exact hcs
       obtain⟨x0,cs0,h0,h1,h2,h3⟩:=a2w hx (by rw[hcs'];rfl)
       obtain⟨b',cap,arr,E,h4,h5,h6,h7,h8,h9⟩:=h2
       have hln:ns.length=n:=by
        have:=congrArg List.length hcn
        rw[List.length_take,List.length_drop,List.length_map]at this
        omega
       have hload:(loadCells ⟨x0.1,b',none⟩ n).run P c.w= .ok (ns.map (Value.int .u8)).toArray c.w:=by
        have:=run_loadCells_list (P:=P) c.w ⟨x0.1,b',none⟩ (ns.map (Value.int .u8)) (fun k v hk=>by
         have hkl:k<ns.length:=by
          rcases Nat.lt_or_ge k ns.length with h|h
          ·exact h
          ·rw[List.getElem?_eq_none (by simpa using h)]at hk;cases hk
         have hb:b'=x0.2+off:=by
          rcases h5 with h5|h5
          ·exact h5
          ·omega
         have ha:cs[off+k]?=some (.sc v):=by
          have:=congrArg (fun(l:List AV)=>l[k]?) hcn
          simp only[List.getElem?_take,List.getElem?_drop,List.getElem?_map]at this
          rw[if_pos (by omega)]at this
          rw[this]
          rw[List.getElem?_map]at hk
          cases hz:ns[k]? with
          |none=>rw[hz]at hk;cases hk
          |some z=>rw[hz]at hk;simp only[Option.map_some,Option.some.injEq]at hk ⊢;rw[hk]
         obtain⟨x1,u,F1,q1,q2,q3, -⟩:=hs.cell hcs' ha
         rw[h1]at q1
         obtain rfl:x0=x1:=by simpa using q1
         obtain⟨rfl, -⟩:=Rel.sc_inv q3
         rw[a2f,hb,Nat.add_assoc]
         exact q2)
        rw[List.length_map,hln]at this
        exact this
       have e1:=((T.ok s i hi).elem el hel).1
       have e2:=(T.ok el ie hie).ik .u8 hc.1
       have e3:=(T.ok d j hj).str hc.2
       refine a1w.pure (v:= .string ⟨(ns.map fun n=>UInt8.ofNat n.toNat).toArray⟩) hs hro hgn ?_ (.sc _ .nil)
       have hr:(convert s d (.slice (some ⟨x0.1,b',none⟩) n cap)).run P c.w= .ok (.string ⟨(ns.map fun n=>UInt8.ofNat n.toNat).toArray⟩) c.w:=by
        rw[run_convert_bytes_string c.w s d el _ n cap e1 e2 e3,run_bytesToString c.w _ n cap ns hload,foldl_push_bytes]
        simp[ByteArray.empty,ByteArray.emptyWithCapacity]
        rfl
       simp[execOp,ho,h4,hr]
      ·cases h
     ·cases h
    ·cases h
   ·cases h
  ·cases h
 ·cases h
theorem b9N(T:TOK P ti)(hs:Sim w0 A0 F0 c Φ [])(hro:c.ro=st.ro)(hgn:c.gn=st.gn)(hev: ∀x,Rel c (st.ev x) (ρ x) []){s d:Nat}{x:Operand}(ho:o.op= .convert s d x)
  (h:opC ti b st.ro st.gn st.ev (.convert s d x)=some e):a1w P w0 A0 F0 c st ρ o e:=by
 simp only[opC]at h
 have hx:=hev x
 split at h
 ·rename_i i j k n hi hj hxe
  rw[hxe]at hx
  obtain⟨hx,_⟩:=Rel.sc_inv hx
  split at h
  ·rename_i ki kj hki hkj
   cases hu:a2i (Conv.intToInt kj n)with
   |none=>simp[hu]at h
   |some u=>
    simp only[hu,Option.some.injEq]at h
    subst h
    refine a1w.pure (v:=u) hs hro hgn ?_ (.sc u .nil)
    have:=a3u (P:=P) hu c.w
    have h1:=(T.ok s i hi).ik ki hki
    have h2:=(T.ok d j hj).ik kj hkj
    simp[execOp,ho,hx,convert,run_underlying h1,run_underlying h2,this]
  ·cases h
 ·rename_i i j s' g p off n hi hj hxe
  exact b7k T hs hro hgn hev ho hi hj hxe h
 ·cases h
theorem a9L(hs:Sim w0 A0 F0 c Φ [])(hro:c.ro=st.ro)(hgn:c.gn=st.gn)(hev: ∀x,Rel c (st.ev x) (ρ x) []){x:Operand}(ho:o.op= .nilCheck x)
  (h:opC ti b st.ro st.gn st.ev (.nilCheck x)=some e):a1w P w0 A0 F0 c st ρ o e:=by
 simp only[opC]at h
 split at h
 ·rename_i hl
  have hx:=hev x
  cases hxe:st.ev x<;>simp only[hxe,reduceCtorEq]at h hx hl
  case ptr s g p i=>
   simp only[Option.some.injEq]at h
   subst h
   simp only[zee]at hl
   rw[←hro]at hl
   obtain⟨cs,hcs⟩:=Option.isSome_iff_exists.1 hl
   obtain⟨y,hy,hv⟩:=a5r hx hcs
   refine a1w.pure (v:=ρ x) hs hro hgn ?_ ?_
   ·simp[execOp,ho,hv]
   ·exact hx
 ·cases h
theorem a8P(T:TOK P ti)(hs:Sim w0 A0 F0 c Φ [])(hro:c.ro=st.ro)(hgn:c.gn=st.gn)(hev: ∀x,Rel c (st.ev x) (ρ x) []){t f:Nat}{x:Operand}(ho:o.op= .fieldAddr t x f)
  (h:opC ti b st.ro st.gn st.ev (.fieldAddr t x f)=some e):a1w P w0 A0 F0 c st ρ o e:=by
 simp only[opC]at h
 cases hi:ti t with
 |none=>simp[hi]at h
 |some inf=>
  simp only[hi]at h
  cases hf:inf.flds[f]? with
  |none=>simp[hf]at h
  |some q=>
   obtain⟨off,ft⟩:=q
   simp only[hf]at h
   split at h
   ·rename_i hl
    obtain⟨hag,hl⟩:=hl
    have hx:=hev x
    cases hxe:st.ev x<;>simp only[hxe,reduceCtorEq]at h hx hl
    case ptr s g p i=>
     simp only[Option.some.injEq]at h
     subst h
     simp only[zee]at hl
     rw[←hro]at hl
     obtain⟨cs,hcs⟩:=Option.isSome_iff_exists.1 hl
     obtain⟨y,hy,hv⟩:=a5r hx hcs
     refine a1w.pure (v:= .pointer (some ⟨y.1,y.2+i+off,none⟩)) hs hro hgn ?_ ?_
     ·have hr:=a5Y T hi hf hag c.w y.1 (y.2+i)
      simp[execOp,ho,hv,hr]
     ·refine .ptr s g p (i+off) _ (Rel.ptr_inv hx).1 (fun cs' hcs'=>?_) .nil
      exact⟨y,hy,by rw[Nat.add_assoc]⟩
    case iptr cs=>
     split at h
     ·rename_i hle
      simp only[Option.some.injEq]at h
      subst h
      obtain⟨g1,b1,us,hv,h1,h2,_⟩:=Rel.iptr_inv hx
      refine a1w.pure (v:= .pointer (some ⟨g1,b1+off,none⟩)) hs hro hgn ?_ ?_
      ·have hr:=a5Y T hi hf hag c.w g1 b1
       simp[execOp,ho,hv,hr]
      ·have k1:=h1.cut0 off cs.length
       have k2:=inW.cut h2 off cs.length
       rw[List.take_of_length_le (by simp)]at k1
       have e2:(us.drop off).take cs.length=us.drop off:=List.take_of_length_le (by rw[List.length_drop,h1.len];omega)
       rw[e2]at k1 k2
       exact .iptr g1 (b1+off) k1 k2 .nil
     ·cases h
   ·cases h
theorem b7s(T:TOK P ti)(hs:Sim w0 A0 F0 c Φ [])(hro:c.ro=st.ro)(hgn:c.gn=st.gn)(hev: ∀x,Rel c (st.ev x) (ρ x) []){t f:Nat}{x:Operand}(ho:o.op= .field t x f)
  (h:opC ti b st.ro st.gn st.ev (.field t x f)=some e):a1w P w0 A0 F0 c st ρ o e:=by
 simp only[opC]at h
 cases hi:ti t with
 |none=>simp[hi]at h
 |some inf=>
  simp only[hi]at h
  cases hf:inf.flds[f]? with
  |none=>simp[hf]at h
  |some q=>
   obtain⟨off,ft⟩:=q
   simp only[hf]at h
   have hx:=hev x
   split at h
   ·rename_i fi cs hfi hxe
    rw[hxe]at hx
    obtain⟨us,hv,h1⟩:=Rel.agg_inv hx
    split at h
    ·rename_i hl
     obtain⟨hag,hle⟩:=hl
     have hr:=b5w T hi hf hag hfi c.w us (by rw[←h1.len];exact hle)
     split at h
     ·rename_i hfa
      simp only[Option.some.injEq]at h
      subst h
      refine a1w.pure (v:= .agg ((us.drop off).take fi.size).toArray) hs hro hgn ?_ ?_
      ·have:=hr.1 hfa
       simp[execOp,ho,hv,this]
      ·have:=a0h.agg (h1.cut0 off fi.size) (by simp) (a0h.nil (c:=c))
       simpa using this
     ·rename_i hfa
      cases hoff:cs[off]? with
      |none=>simp[hoff]at h
      |some a=>
       simp only[hoff,Option.some.injEq]at h
       subst h
       obtain⟨u,hu,ha⟩:=h1.nth0 hoff
       refine a1w.pure (v:=u) hs hro hgn ?_ ha
       have:=hr.2 (by simpa using hfa) u hu
       simp[execOp,ho,hv,this]
    ·cases h
   ·cases h
theorem a9d(T:TOK P ti)(hs:Sim w0 A0 F0 c Φ [])(hro:c.ro=st.ro)(hgn:c.gn=st.gn)(hev: ∀x,Rel c (st.ev x) (ρ x) []){t:Nat}{x y:Operand}(ho:o.op= .indexAddr t x y)
  (h:opC ti b st.ro st.gn st.ev (.indexAddr t x y)=some e):a1w P w0 A0 F0 c st ρ o e:=by
 simp only[opC]at h
 cases hi:ti t with
 |none=>simp[hi]at h
 |some inf=>
  simp only[hi]at h
  have hx:=hev x
  have hy:=hev y
  split at h
  ·rename_i el k i hel hye
   rw[hye]at hy
   obtain⟨hy,_⟩:=Rel.sc_inv hy
   cases hxe:st.ev x<;>simp only[hxe,reduceCtorEq]at h hx
   case ref s g p off n=>
    split at h
    ·rename_i hc
     obtain⟨h0,hn,hl⟩:=hc
     simp only[Option.some.injEq]at h
     subst h
     rw[←hro]at hl
     obtain⟨z,cs,hcs,h1,h2,h3⟩:=a2w hx hl
     obtain⟨b',cap,arr,E,h4,h5,h6,h7,h8,h9⟩:=h2
     have hb':b'=z.2+off:=by
      rcases h5 with h5|h5
      ·exact h5
      ·omega
     subst hb'
     refine a1w.pure (v:= .pointer (some ⟨z.1,z.2+off+i.toNat,none⟩)) hs hro hgn ?_ ?_
     ·have hr:=a6p T hi hel c.w z.1 (z.2+off) n cap k i h0 hn
      simp[execOp,ho,h4,hy,hr]
     ·refine .ptr s g p _ _ (Rel.ref_inv hx).1 (fun cs' hcs'=>⟨z,h1,by rw[Nat.add_assoc]⟩) .nil
    ·cases h
   case imm cs=>
    split at h
    ·rename_i h0
     cases hcs:cs[i.toNat]? with
     |none=>simp[hcs]at h
     |some a=>
      simp only[hcs,Option.some.injEq]at h
      subst h
      obtain⟨g1,b1,cap,us,hv,h1,h2,h3,_⟩:=Rel.imm_inv hx
      obtain⟨u,hu,ha⟩:=h1.nth0 hcs
      have hlt:i.toNat<us.length:=(List.getElem?_eq_some_iff.1 hu).1
      refine a1w.pure (v:= .pointer (some ⟨g1,b1+i.toNat,none⟩)) hs hro hgn ?_ ?_
      ·have hr:=a6p T hi hel c.w g1 b1 us.length cap k i h0 (by omega)
       simp[execOp,ho,hv,hy,hr]
      ·refine .iptr g1 _ (us:=[u]) ha ⟨h2.1,h2.2.1,fun j v hj=>?_⟩ .nil
       cases j with
       |zero=>simp at hj;subst hj;exact h2.2.2 _ _ hu
       |succ j=>simp at hj
    ·cases h
  ·rename_i k i hel hye
   rw[hye]at hy
   obtain⟨hy,_⟩:=Rel.sc_inv hy
   cases hxe:st.ev x<;>simp only[hxe,reduceCtorEq]at h hx
   case refk k1 s g n=>
    split at h
    ·rename_i e1 k2 hek
     split at h
     ·rename_i hc
      obtain⟨rfl,h0,hn,hl⟩:=hc
      simp only[Option.some.injEq]at h
      subst h
      rw[←hro]at hl
      obtain⟨cs,hcs⟩:=Option.isSome_iff_exists.1 hl
      obtain⟨h1,h2⟩:=Rel.refk_inv hx
      obtain⟨⟨cap,arr,E,h4,h5,h6,h7,h8⟩,h9⟩:=h2 cs hcs
      refine a1w.pure (v:= .pointer (some ⟨(c.L s g).1,(c.L s g).2+i.toNat*k2,none⟩)) hs hro hgn ?_ ?_
      ·have hr:=a4V T hi hek c.w (c.L s g).1 (c.L s g).2 n cap k i h0 hn
       simp[execOp,ho,h4,hy,hr]
      ·exact .ptr s g [] _ _ h1 (fun cs' hcs'=>⟨c.L s g,rfl,rfl⟩) .nil
     ·cases h
    ·cases h
   case immk k1 n cs=>
    split at h
    ·rename_i e1 k2 hek
     split at h
     ·rename_i hc
      obtain⟨rfl,h0,hn⟩:=hc
      simp only[Option.some.injEq]at h
      subst h
      obtain⟨g1,b1,cap,us,hv,h1,h2,h3,h4,_⟩:=Rel.immk_inv hx
      refine a1w.pure (v:= .pointer (some ⟨g1,b1+i.toNat*k2,none⟩)) hs hro hgn ?_ ?_
      ·have hr:=a4V T hi hek c.w g1 b1 n cap k i h0 hn
       simp[execOp,ho,hv,hy,hr]
      ·have hd:=h1.cut0 (i.toNat*k2) cs.length
       rw[List.take_of_length_le (by simp),List.take_of_length_le (by rw[List.length_drop,h1.len];omega)]at hd
       exact .iptr g1 _ hd ⟨h2.1,h2.2.1,fun j v hj=>by rw[List.getElem?_drop]at hj;rw[Nat.add_assoc];exact h2.2.2 _ _ hj⟩ .nil
     ·cases h
    ·cases h
   case ptr s g p j=>
    split at h
    ·rename_i n e1 hek
     split at h
     ·rename_i hc
      obtain⟨h0,hn,hl⟩:=hc
      simp only[Option.some.injEq]at h
      subst h
      rw[←hro]at hl
      obtain⟨cs,hcs⟩:=Option.isSome_iff_exists.1 hl
      obtain⟨z,hz,hv⟩:=(Rel.ptr_inv hx).2 cs hcs
      refine a1w.pure (v:= .pointer (some ⟨z.1,z.2+(j+i.toNat),none⟩)) hs hro hgn ?_ ?_
      ·have hr:=a4E T hi hek c.w z.1 (z.2+j) k i h0 hn
       simp[execOp,ho,hv,hy,hr,Nat.add_assoc]
      ·exact .ptr s g p _ _ (Rel.ptr_inv hx).1 (fun cs' hcs'=>⟨z,hz,rfl⟩) .nil
     ·cases h
    ·cases h
   case iptr cs=>
    split at h
    ·rename_i n e1 hek
     split at h
     ·rename_i hc
      obtain⟨h0,hn,hl⟩:=hc
      simp only[Option.some.injEq]at h
      subst h
      obtain⟨g1,b1,us,hv,h1,h2,_⟩:=Rel.iptr_inv hx
      refine a1w.pure (v:= .pointer (some ⟨g1,b1+i.toNat,none⟩)) hs hro hgn ?_ ?_
      ·have hr:=a4E T hi hek c.w g1 b1 k i h0 hn
       simp[execOp,ho,hv,hy,hr]
      ·have hd:=h1.cut0 i.toNat cs.length
       rw[List.take_of_length_le (by simp),List.take_of_length_le (by rw[List.length_drop,h1.len];omega)]at hd
       exact .iptr g1 _ hd ⟨h2.1,h2.2.1,fun j v hj=>by rw[List.getElem?_drop]at hj;rw[Nat.add_assoc];exact h2.2.2 _ _ hj⟩ .nil
     ·cases h
    ·cases h
  ·cases h
theorem b8i(T:TOK P ti)(hs:Sim w0 A0 F0 c Φ [])(hro:c.ro=st.ro)(hgn:c.gn=st.gn)(hev: ∀x,Rel c (st.ev x) (ρ x) []){t:Nat}{x y:Operand}(ho:o.op= .index t x y)
  (h:opC ti b st.ro st.gn st.ev (.index t x y)=some e):a1w P w0 A0 F0 c st ρ o e:=by
 simp only[opC]at h
 cases hi:ti t with
 |none=>simp[hi]at h
 |some inf=>
  simp only[hi]at h
  have hx:=hev x
  have hy:=hev y
  split at h
  ·rename_i s k i hstr hxe hye
   rw[hxe]at hx;rw[hye]at hy
   obtain⟨hx,_⟩:=Rel.sc_inv hx
   obtain⟨hy,_⟩:=Rel.sc_inv hy
   split at h
   ·rename_i h0
    cases hu:s[i.toNat]? with
    |none=>simp[hu]at h
    |some u=>
     simp only[hu,Option.some.injEq]at h
     subst h
     refine a1w.pure (v:= .int .u8 u.toNat) hs hro hgn ?_ (.sc _ .nil)
     have h1:=(T.ok t inf hi).str hstr
     simp[execOp,ho,hx,hy,Instr.index,asIntOf,run_underlying h1,h0,hu]
   ·cases h
  ·cases h
theorem b2w(hs:Sim w0 A0 F0 c Φ [])(hro:c.ro=st.ro)(hgn:c.gn=st.gn)(hev: ∀x,Rel c (st.ev x) (ρ x) []){x:Operand}{i:Nat}(ho:o.op= .extract x i)
  (h:opC ti b st.ro st.gn st.ev (.extract x i)=some e):a1w P w0 A0 F0 c st ρ o e:=by
 simp only[opC]at h
 have hx:=hev x
 split at h
 ·rename_i cs hxe
  rw[hxe]at hx
  obtain⟨us,hv,h1⟩:=Rel.tup_inv hx
  cases hi:cs[i]? with
  |none=>simp[hi]at h
  |some a=>
   simp only[hi,Option.some.injEq]at h
   subst h
   obtain⟨u,hu,ha⟩:=h1.nth0 hi
   refine a1w.pure (v:=u) hs hro hgn ?_ ha
   simp[execOp,ho,hv,Instr.extract,hu]
 ·cases h
theorem a0h.of_map: ∀(xs:List Operand),(∀x,Rel c (st.ev x) (ρ x) [])→a0h c (xs.map st.ev) (xs.map ρ) []
 | [],_=> .nil
 |x::xs,h=>by simpa using a0h.cons (h x) (a0h.of_map xs h) (by simp)
theorem b0g(hs:Sim w0 A0 F0 c Φ [])(hro:c.ro=st.ro)(hgn:c.gn=st.gn)(hev: ∀x,Rel c (st.ev x) (ρ x) []){fn:Fn}{first caps:Array Operand}(ho:o.op= .makeFunc fn first caps)
  (h:opC ti b st.ro st.gn st.ev (.makeFunc fn first caps)=some e):a1w P w0 A0 F0 c st ρ o e:=by
 cases fn<;>simp only[opC,reduceCtorEq]at h
 rename_i f
 split at h
 ·rename_i hf
  simp only[Option.some.injEq]at h
  subst h
  refine a1w.pure (v:= .func (.func f) #[] (caps.toList.map ρ).toArray) hs hro hgn ?_ (.fn f (a0h.of_map _ hev) .nil)
  have:first= #[]:=by simpa using hf
  simp[execOp,ho,Instr.makeFunc,this]
  rw[←Array.toList_map]
 ·cases h
end
section
variable{P:Program}{ti:Nat→Option TI}{w0:World}{A0:Nat→Prop}{F0:List Nat}{c:Cx}{Φ:Nat→Nat→List Nat}{st:St}{ρ:Operand→Value}{o:Oper}{e:Eff}{b:Nat}
theorem a3S(k:IntKind)(i:Int)(y:Nat)(code:BoundsCode)(h0:0≤i)(h1:i≤y)(w:World):(Instr.sliceBound (.int k i) y code).run P w= .ok i.toNat w:=by
 simp[Instr.sliceBound,asIntOf,h0,h1]
theorem b5q{x:AV}{i:Int}(h:a3k x=some i): ∃k,x= .sc (.int k i):=by
 unfold a3k at h
 split at h
 ·simp only[Option.some.injEq]at h;subst h;exact⟨_,rfl⟩
 ·cases h
theorem a6n(hev: ∀x,Rel c (st.ev x) (ρ x) [])(isS:Bool)(n cap:Nat)(hn:n≤cap)(lo hi:Option Operand){l h:Int}
  (hl:(match lo with|none=>some 0|some y=>a3k (st.ev y))=some l) (hh:(match hi with|none=>some (n:Int)|some y=>a3k (st.ev y))=some h)
  (h0:0≤l) (h1:l≤h) (h2:h≤n) (w:World):
  (Instr.sliceBounds isS n cap (lo.map ρ) (hi.map ρ) none).run P w= .ok (l.toNat,h.toNat,cap) w:=by
 have H: ∀y:Operand, ∀i,a3k (st.ev y)=some i→ ∃k,ρ y= .int k i:=by
  intro y i hy
  obtain⟨k,hk⟩:=b5q hy
  have:=hev y
  rw[hk]at this
  exact⟨k,(Rel.sc_inv this).1⟩
 cases hi with
 |none=>
  simp only[Option.some.injEq]at hh
  subst hh
  cases lo with
  |none=>
   simp only[Option.some.injEq]at hl
   subst hl
   simp[Instr.sliceBounds]
  |some y=>
   obtain⟨k,hk⟩:=H y l hl
   have:=a3S (P:=P) k l n .sliceB h0 h1 w
   simp[Instr.sliceBounds,hk,this]
 |some z=>
  obtain⟨k2,hk2⟩:=H z h hh
  have hb1:=fun code=>a3S (P:=P) k2 h cap code (by omega) (by omega) w
  cases lo with
  |none=>
   simp only[Option.some.injEq]at hl
   subst hl
   cases isS<;>simp[Instr.sliceBounds,hk2,hb1]
  |some y=>
   obtain⟨k,hk⟩:=H y l hl
   have:=fun code=>a3S (P:=P) k l h.toNat code h0 (by omega) w
   cases isS<;>simp[Instr.sliceBounds,hk2,hb1,hk,this]
theorem b6Y(T:TOK P ti)(hs:Sim w0 A0 F0 c Φ [])(hro:c.ro=st.ro)(hgn:c.gn=st.gn)(hev: ∀x,Rel c (st.ev x) (ρ x) []){t:Nat}{x:Operand}{lo hi mx:Option Operand}(ho:o.op= .slice t x lo hi mx)
  (h:opC ti b st.ro st.gn st.ev (.slice t x lo hi mx)=some e):a1w P w0 A0 F0 c st ρ o e:=by
 cases mx with
 |some y=>simp[opC]at h
 |none=>
 simp only[opC]at h
 cases hi':ti t with
 |none=>simp[hi']at h
 |some inf=>
  simp only[hi']at h
  have hx:=hev x
  split at h
  ·rename_i s g p off n hxe
   rw[hxe]at hx
   split at h
   ·rename_i hel
    obtain⟨el,hel⟩:=Option.isSome_iff_exists.1 hel
    have hd:=((T.ok t inf hi').elem el hel).1
    obtain⟨_,ie,in2,z2,_,hin,hsz,_⟩:=(T.ok t inf hi').elem el hel
    split at h
    ·rename_i l hh hl hhe
     split at h
     ·rename_i hc
      obtain⟨h0,h1,h2,hlv⟩:=hc
      simp only[Option.some.injEq]at h
      subst h
      rw[←hro]at hlv
      obtain⟨z,cs,hcs,e1,e2,e3⟩:=a2w hx hlv
      obtain⟨b',cap,arr,E,e4,e5,e6,e7,e8,e9⟩:=e2
      have hb:=a6n (P:=P) (c:=c) hev true n cap e8 lo hi hl hhe h0 h1 h2 c.w
      refine a1w.pure (v:= .slice (some ⟨z.1,if cap=l.toNat then b' else b'+l.toNat,none⟩) (hh.toNat-l.toNat) (cap-l.toNat)) hs hro hgn ?_ ?_
      ·simp[execOp,ho,e4,Instr.sliceAt,Instr.slice,run_underlying hd,hb,sizeOf,typeInfo,hin,hsz,a2f]
       split<;>rfl
      ·have heq:(hh-l).toNat=hh.toNat-l.toNat:=by omega
       rw[heq]
       refine c1o hx (by omega) (by omega) (fun y hy=>?_)
       obtain⟨b1,cap1,arr1,E1,q1,q2,q3,q4,q5,q6⟩:=hy
       rw[e4]at q1
       simp only[Value.slice.injEq,Option.some.injEq,Addr.mk.injEq]at q1
       obtain⟨⟨e10,e11,_⟩,_,e12⟩:=q1
       subst e11 e12
       rw[e10]
       refine⟨if cap=l.toNat then b' else b'+l.toNat,cap-l.toNat,arr1,E1,rfl,?_,q3,?_,by omega,by omega⟩
       ·by_cases hcl:cap=l.toNat
        ·right;omega
        ·left
         rw[if_neg hcl]
         rcases q2 with q2|q2
         ·omega
         ·omega
       ·split<;>omega
     ·cases h
    ·cases h
   ·cases h
  ·rename_i cs hxe
   rw[hxe]at hx
   split at h
   ·rename_i hel
    obtain⟨el,hel⟩:=Option.isSome_iff_exists.1 hel
    have hd:=((T.ok t inf hi').elem el hel).1
    obtain⟨_,ie,in2,z2,_,hin,hsz,_⟩:=(T.ok t inf hi').elem el hel
    obtain⟨g1,b1,cap,us,hv,k1,k2,k3,_⟩:=Rel.imm_inv hx
    rw[k1.len]at h
    split at h
    ·rename_i l hh hl hhe
     split at h
     ·rename_i hc
      obtain⟨h0,h1,h2⟩:=hc
      simp only[Option.some.injEq]at h
      subst h
      have hb:=a6n (P:=P) (c:=c) hev true us.length cap k3 lo hi hl hhe h0 h1 h2 c.w
      have hlen:((us.drop l.toNat).take (hh-l).toNat).length=hh.toNat-l.toNat:=by rw[List.length_take,List.length_drop];omega
      refine a1w.pure (v:= .slice (some ⟨g1,if cap=l.toNat then b1 else b1+l.toNat,none⟩) (hh.toNat-l.toNat) (cap-l.toNat)) hs hro hgn ?_ ?_
      ·simp[execOp,ho,hv,Instr.sliceAt,Instr.slice,run_underlying hd,hb,sizeOf,typeInfo,hin,hsz,a2f]
       split<;>rfl
      ·rw[←hlen]
       by_cases hcl:cap=l.toNat
       ·rw[if_pos hcl]
        have hnil:(us.drop l.toNat).take (hh-l).toNat=[]:=List.eq_nil_of_length_eq_zero (by omega)
        refine Rel.imm_mk g1 b1 _ (k1.cut0 _ _) ⟨k2.1,k2.2.1,fun i u hu=>?_⟩ (by omega)
        rw[hnil]at hu;simp at hu
       ·rw[if_neg hcl]
        exact Rel.imm_mk g1 _ _ (k1.cut0 _ _) (inW.cut k2 _ _) (by omega)
     ·cases h
    ·cases h
   ·cases h
  ·rename_i s hxe
   rw[hxe]at hx
   split at h
   ·rename_i hstr
    have hd:=(T.ok t inf hi').str hstr
    obtain⟨hx,_⟩:=Rel.sc_inv hx
    split at h
    ·rename_i l hh hl hhe
     split at h
     ·rename_i hc
      obtain⟨h0,h1,h2⟩:=hc
      simp only[Option.some.injEq]at h
      subst h
      have hb:=a6n (P:=P) (c:=c) hev false s.size s.size (Nat.le_refl _) lo hi hl hhe h0 h1 h2 c.w
      refine a1w.pure (v:= .string (s.extract l.toNat hh.toNat)) hs hro hgn ?_ (.sc _ .nil)
      simp[execOp,ho,hx,Instr.sliceAt,Instr.slice,run_underlying hd,hb]
     ·cases h
    ·cases h
   ·cases h
  ·cases h
theorem c2n(T:TOK P ti)(hs:Sim w0 A0 F0 c Φ [])(hro:c.ro=st.ro)(hgn:c.gn=st.gn)(hev: ∀x,Rel c (st.ev x) (ρ x) []){cl:Call}{x:Operand}{t:Nat}{inf:TI}(ho:o.op= .call cl)(hc:cl.callee= .builtin .len)
  (ha:cl.args.toList=[x]) (ht:cl.argTypes.toList=[t]) (hi:ti t=some inf)
  (h:(match st.ev x with
    | .ref s g p _ n=>if inf.elem.isSome∧(st.ro.cells s g p).isSome then some (⟨.sc (.int .i64 n),none,[],[]⟩:Eff)else none
    | .imm cs=>if inf.elem.isSome then some ⟨.sc (.int .i64 cs.length),none,[],[]⟩else none
    | .sc (.string s)=>if inf.str then some ⟨.sc (.int .i64 s.size),none,[],[]⟩else none
    | .sc (.slice _ n _)=>if inf.elem.isSome then some ⟨.sc (.int .i64 n),none,[],[]⟩else none
    | .refk _ s g n=>if inf.elk.isSome∧(st.ro.cells s g []).isSome then some ⟨.sc (.int .i64 n),none,[],[]⟩else none
    | .immk _ n _=>if inf.elk.isSome then some ⟨.sc (.int .i64 n),none,[],[]⟩else none
    |_=>none)=some e):a1w P w0 A0 F0 c st ρ o e:=by
 have hx:=hev x
 have ha':cl.args= #[x]:=by rw[←Array.toArray_toList (xs:=cl.args),ha]
 have ht':cl.argTypes= #[t]:=by rw[←Array.toArray_toList (xs:=cl.argTypes),ht]
 have hrun: ∀v,(Builtin.len_ #[t] o.type #[ρ x]).run P c.w= .ok v c.w→(execOp ρ o).run P c.w= .ok (.value v) c.w:=by
  intro v hv
  simp[execOp,ho,resolve,hc,ha',ht',invoke,builtin,hv]
 split at h
 ·rename_i s g p off n hxe
  rw[hxe]at hx
  split at h
  ·rename_i hcnd
   obtain⟨hel,hl⟩:=hcnd
   simp only[Option.some.injEq]at h
   subst h
   obtain⟨el,hel⟩:=Option.isSome_iff_exists.1 hel
   have hd:=((T.ok t inf hi).elem el hel).1
   rw[←hro]at hl
   obtain⟨z,cs,_,_,h2,_⟩:=a2w hx hl
   obtain⟨b',cap,arr,E,h4,_⟩:=h2
   refine a1w.pure hs hro hgn (hrun (.int .i64 n) ?_) (.sc _ .nil)
   simp[Builtin.len_,run_underlying hd,h4,goInt]
  ·cases h
 ·rename_i cs hxe
  rw[hxe]at hx
  split at h
  ·rename_i hel
   simp only[Option.some.injEq]at h
   subst h
   obtain⟨el,hel⟩:=Option.isSome_iff_exists.1 hel
   have hd:=((T.ok t inf hi).elem el hel).1
   obtain⟨g1,b1,cap,us,hv,k1,_⟩:=Rel.imm_inv hx
   refine a1w.pure hs hro hgn (hrun (.int .i64 cs.length) ?_) (.sc _ .nil)
   simp[Builtin.len_,run_underlying hd,hv,goInt,k1.len]
  ·cases h
 ·rename_i s hxe
  rw[hxe]at hx
  obtain⟨hx,_⟩:=Rel.sc_inv hx
  split at h
  ·rename_i hstr
   simp only[Option.some.injEq]at h
   subst h
   have hd:=(T.ok t inf hi).str hstr
   refine a1w.pure hs hro hgn (hrun (.int .i64 s.size) ?_) (.sc _ .nil)
   simp[Builtin.len_,run_underlying hd,hx,goInt]
  ·cases h
 ·rename_i so sn sc hxe
  rw[hxe]at hx
  obtain⟨hx,_⟩:=Rel.sc_inv hx
  split at h
  ·rename_i hel
   simp only[Option.some.injEq]at h
   subst h
   obtain⟨el,hel⟩:=Option.isSome_iff_exists.1 hel
   have hd:=((T.ok t inf hi).elem el hel).1
   refine a1w.pure hs hro hgn (hrun (.int .i64 sn) ?_) (.sc _ .nil)
   simp[Builtin.len_,run_underlying hd,hx,goInt]
  ·cases h
 ·rename_i k s g n hxe
  rw[hxe]at hx
  split at h
  ·rename_i hcnd
   obtain⟨hel,hl⟩:=hcnd
   simp only[Option.some.injEq]at h
   subst h
   obtain⟨⟨el,k'⟩,hel⟩:=Option.isSome_iff_exists.1 hel
   have hd:=((T.ok t inf hi).elkA el k' hel).1
   rw[←hro]at hl
   obtain⟨cs,hcs⟩:=Option.isSome_iff_exists.1 hl
   obtain⟨⟨cap,arr,E,h4,_⟩,_⟩:=(Rel.refk_inv hx).2 cs hcs
   refine a1w.pure hs hro hgn (hrun (.int .i64 n) ?_) (.sc _ .nil)
   simp[Builtin.len_,run_underlying hd,h4,goInt]
  ·cases h
 ·rename_i k n cs hxe
  rw[hxe]at hx
  split at h
  ·rename_i hel
   simp only[Option.some.injEq]at h
   subst h
   obtain⟨⟨el,k'⟩,hel⟩:=Option.isSome_iff_exists.1 hel
   have hd:=((T.ok t inf hi).elkA el k' hel).1
   obtain⟨g1,b1,cap,us,hv,k1,_⟩:=Rel.immk_inv hx
   refine a1w.pure hs hro hgn (hrun (.int .i64 n) ?_) (.sc _ .nil)
   simp[Builtin.len_,run_underlying hd,hv,goInt]
  ·cases h
 ·cases h
theorem c3r(hs:Sim w0 A0 F0 c Φ [])(hro:c.ro=st.ro)(hgn:c.gn=st.gn)(hev: ∀x,Rel c (st.ev x) (ρ x) []){cl:Call}{x y:Operand}(ho:o.op= .call cl)(hc:cl.callee= .builtin .max)
  (ha:cl.args.toList=[x,y])
  (h:(match st.ev x,st.ev y with
   | .sc (.int k n),.sc (.int k' m)=>if k=k' then some (⟨.sc (.int k (if m>n then m else n)),none,[],[]⟩:Eff)else none
   |_,_=>none)=some e):a1w P w0 A0 F0 c st ρ o e:=by
 have hx:=hev x
 have hy:=hev y
 have ha':cl.args= #[x,y]:=by rw[←Array.toArray_toList (xs:=cl.args),ha]
 split at h
 ·rename_i k n k' m hxe hye
  rw[hxe]at hx;rw[hye]at hy
  obtain⟨hx,_⟩:=Rel.sc_inv hx
  obtain⟨hy,_⟩:=Rel.sc_inv hy
  split at h
  ·simp only[Option.some.injEq]at h
   subst h
   refine a1w.pure (v:= .int k (if m>n then m else n)) hs hro hgn ?_ (.sc _ .nil)
   simp[execOp,ho,resolve,hc,ha',invoke,builtin,hx,hy,Builtin.max_,Builtin.max2]
  ·cases h
 ·cases h
theorem c0S(hs:Sim w0 A0 F0 c Φ [])(hro:c.ro=st.ro)(hgn:c.gn=st.gn)(hev: ∀x,Rel c (st.ev x) (ρ x) []){cl:Call}{x y z:Operand}(ho:o.op= .call cl)(hc:cl.callee= .builtin .max)
  (ha:cl.args.toList=[x,y,z])
  (h:(match st.ev x,st.ev y,st.ev z with
   | .sc (.int k n),.sc (.int k' m),.sc (.int k'' l)=>if k=k'∧k=k'' then some (⟨.sc (.int k (if l>(if m>n then m else n)then l else(if m>n then m else n))),none,[],[]⟩:Eff)else none
   |_,_,_=>none)=some e):a1w P w0 A0 F0 c st ρ o e:=by
 have hx:=hev x
 have hy:=hev y
 have hz:=hev z
 have ha':cl.args= #[x,y,z]:=by rw[←Array.toArray_toList (xs:=cl.args),ha]
 split at h
 ·rename_i k n k' m k'' l hxe hye hze
  rw[hxe]at hx;rw[hye]at hy;rw[hze]at hz
  obtain⟨hx,_⟩:=Rel.sc_inv hx
  obtain⟨hy,_⟩:=Rel.sc_inv hy
  obtain⟨hz,_⟩:=Rel.sc_inv hz
  split at h
  ·simp only[Option.some.injEq]at h
   subst h
   refine a1w.pure (v:= .int k (if l>(if m>n then m else n)then l else(if m>n then m else n))) hs hro hgn ?_ (.sc _ .nil)
   simp[execOp,ho,resolve,hc,ha',invoke,builtin,hx,hy,hz,Builtin.max_,Builtin.max2]
  ·cases h
 ·cases h
theorem c2s(hs:Sim w0 A0 F0 c Φ [])(hro:c.ro=st.ro)(hgn:c.gn=st.gn)(hev: ∀x,Rel c (st.ev x) (ρ x) []){cl:Call}{x y:Operand}(ho:o.op= .call cl)(hc:cl.callee= .builtin .min)
  (ha:cl.args.toList=[x,y])
  (h:(match st.ev x,st.ev y with
   | .sc (.int k n),.sc (.int k' m)=>if k=k' then some (⟨.sc (.int k (if m<n then m else n)),none,[],[]⟩:Eff)else none
   |_,_=>none)=some e):a1w P w0 A0 F0 c st ρ o e:=by
 have hx:=hev x
 have hy:=hev y
 have ha':cl.args= #[x,y]:=by rw[←Array.toArray_toList (xs:=cl.args),ha]
 split at h
 ·rename_i k n k' m hxe hye
  rw[hxe]at hx;rw[hye]at hy
  obtain⟨hx,_⟩:=Rel.sc_inv hx
  obtain⟨hy,_⟩:=Rel.sc_inv hy
  split at h
  ·simp only[Option.some.injEq]at h
   subst h
   refine a1w.pure (v:= .int k (if m<n then m else n)) hs hro hgn ?_ (.sc _ .nil)
   simp[execOp,ho,resolve,hc,ha',invoke,builtin,hx,hy,Builtin.min_,Builtin.min2]
  ·cases h
 ·cases h
end
end Go.Proofs.YtbakhfiibjkifaaGreat
