/- Texts joined: Rg3 Rg4 Rg5 Rg6 Rg7. -/
import Derived.TacticsIn
import Derived.TacticsInMore
import Derived.WalkKit
import Derived.Test.YteaaangdibabnaaDoorMd
import Derived.Test.YteaaangdibabnaaDoorMh
import Derived.Test.YteaaangdibabnaaDoorUd
import Derived.Test.YteaaangdibabnaaDoorRa
import Derived.Test.YteaaangdibabnaaDoorRb
set_option linter.all false
/- The abstract machine: a range over slices.Chunk of numbers. -/
namespace Go.Proofs.YteaaangdibabnaaDoor
open Go.RowKit
set_option maxRecDepth 1000000
theorem RelL.isC {c : Cx} {az : List AV} {vs : List Value} {G : List Nat} (h : RelL c az vs G) : ∀ x, x ∈ G → ∃ arr E fr, c.w.heap[x]? = some (Obj.cells arr E fr) := by
 induction h with
 | nil => intro x hx; cases hx
 | sc v _ ih => exact ih
 | dead v _ ih => exact ih
 | imm g b cap _ _ _ _ _ ih => exact ih
 | row g b cap _ h2 _ _ _ ih1 ih =>
  intro x hx
  rcases List.mem_cons.1 hx with rfl | hx
  ·obtain ⟨arr, E, h, _⟩ := h2; exact ⟨arr, E, _, h⟩
  ·rcases List.mem_append.1 hx with hx | hx
   ·exact ih1 x hx
   ·exact ih x hx
 | bx g b cap _ h2 _ _ _ ih1 ih =>
  intro x hx
  rcases List.mem_cons.1 hx with rfl | hx
  ·obtain ⟨arr, E, h, _⟩ := h2; exact ⟨arr, E, _, h⟩
  ·rcases List.mem_append.1 hx with hx | hx
   ·exact ih1 x hx
   ·exact ih x hx
 | ref s g p off n v _ _ _ ih => exact ih
 | ptr s g p i v _ _ _ ih => exact ih
 | iptr g b _ _ _ _ ih => exact ih
 | agg _ _ _ ih1 ih =>
  intro x hx
  rcases List.mem_append.1 hx with hx | hx
  ·exact ih1 x hx
  ·exact ih x hx
 | tup _ _ _ ih1 ih =>
  intro x hx
  rcases List.mem_append.1 hx with hx | hx
  ·exact ih1 x hx
  ·exact ih x hx
 | fn f _ _ _ ih => exact ih
theorem RelL.less {c : Cx} {A' : Nat → Prop} (hA : ∀ x, A' x → c.A x) {az : List AV} {vs : List Value} {G : List Nat} (h : RelL c az vs G) : RelL { c with A := A' } az vs G := by
 have hin : ∀ {g b : Nat} {us : List Value}, c.inW g b us → Cx.inW { c with A := A' } g b us := fun h => ⟨fun ha => h.1 (hA _ ha), h.2.1, h.2.2⟩
 induction h with
 | nil => exact .nil
 | sc v _ ih => exact .sc v ih
 | dead v _ ih => exact .dead v ih
 | imm g b cap _ h2 h3 _ ih1 ih => exact .imm g b cap ih1 (hin h2) h3 ih
 | row g b cap _ h2 h3 h4 _ ih1 ih => exact .row g b cap ih1 h2 h3 h4 ih
 | bx g b cap _ h2 h3 h4 _ ih1 ih => exact .bx g b cap ih1 h2 h3 h4 ih
 | ref s g p off n v h1 h2 _ ih => exact .ref s g p off n v h1 h2 ih
 | ptr s g p i v h1 h2 _ ih => exact .ptr s g p i v h1 h2 ih
 | iptr g b _ h2 _ ih1 ih => exact .iptr g b ih1 (hin h2) ih
 | agg _ h2 _ ih1 ih => exact .agg ih1 h2 ih
 | tup _ h2 _ ih1 ih => exact .tup ih1 h2 ih
 | fn f _ _ ih1 ih => exact .fn f ih1 ih
def lessA (A0 : Nat → Prop) (c : Cx) (Φ : Nat → Nat → List Nat) : Nat → Prop := fun x => c.A x ∧ (A0 x ∨ ∃ s g, x ∈ Φ s g)
abbrev lessC (A0 : Nat → Prop) (c : Cx) (Φ : Nat → Nat → List Nat) : Cx := { c with A := lessA A0 c Φ }
section
variable {w0 : World} {A0 : Nat → Prop} {F0 : List Nat} {cS c : Cx} {Φ : Nat → Nat → List Nat} {st : St} {a : Act} {m : Nat}
theorem Sim.less (h : Sim w0 A0 F0 c Φ []) : Sim w0 A0 F0 (lessC A0 c Φ) Φ [] where
 rt := fun s g a ha => by
  obtain ⟨h1, v, h2, h3⟩ := h.rt s g a ha
  exact ⟨h1, v, h2.less fun x hx => hx.1, h3⟩
 no := h.no
 dj := h.dj
 own := fun s g x hx => ⟨⟨(h.own s g x hx).1, .inr ⟨s, g, hx⟩⟩, (h.own s g x hx).2⟩
 rd := h.rd
 rown := fun x hx => by cases hx
 a0 := fun x hx => ⟨h.a0 x hx, .inl hx⟩
 al := fun x hx => h.al x hx.1
 bw := h.bw
 gd := h.gd
theorem Sim.lessC_cells (h : Sim w0 A0 F0 c Φ []) {x : Nat} (hx : lessA A0 c Φ x) (h0 : ¬ A0 x) : ∃ arr E fr, c.w.heap[x]? = some (Obj.cells arr E fr) := by
 rcases hx.2 with h1 | ⟨s, g, hg⟩
 ·exact absurd h1 h0
 ·cases hr : c.ro s g with
  | none => rw [h.no s g hr] at hg; cases hg
  | some a =>
   obtain ⟨_, v, h2, _⟩ := h.rt s g a hr
   exact h2.isC x hg
theorem DfO.less {m1 m2 : Nat} {A' : Nat → Prop} (hA : ∀ x, A' x → c.A x) : ∀ {ds : List Deferred}, DfO m1 m2 c ds → DfO m1 m2 { c with A := A' } ds
 | [], _ => trivial
 | d :: ds, ⟨⟨D, h1, h2, h3, h4, h5, h6, h7⟩, h⟩ => ⟨⟨D, h1, h2, h3, h4, fun ha => h5 (hA _ ha), h6, h7⟩, DfO.less hA h⟩
theorem SR.less (h : SR w0 A0 F0 cS m st a c Φ) : SR w0 A0 F0 cS m st a (lessC A0 c Φ) Φ where
 sim := h.sim.less
 kp := ⟨h.kp.hsz, fun b hb ha => h.kp.hA b hb ha.1, h.kp.hI, h.kp.hgn, h.kp.hP⟩
 ro := h.ro
 gn := h.gn
 sl := fun k => (h.sl k).less fun x hx => hx.1
 df := h.df.less fun x hx => hx.1
 sz := h.sz
theorem DfO.row {c' : Cx} {w' : World} {m1 m2 : Nat} (hB : ∀ i, i < c.w.heap.size → w'.heap[i]? = c'.w.heap[i]?) (hsz : c.w.heap.size ≤ w'.heap.size) : ∀ {ds : List Deferred}, DfO m1 m2 c ds → DfO m1 m2 c' ds → DfO m1 m2 { c' with w := w' } ds
 | [], _, _ => trivial
 | d :: ds, ⟨⟨D, h1, h2, h3, h4, h5, h6, h7⟩, h⟩, ⟨⟨D', k1, k2, k3, k4, k5, k6, k7⟩, k⟩ => by
  have e : D' = D := by
   rw [h1] at k1
   have := congrArg Deferred.target k1
   simpa using this.symm
  subst e
  exact ⟨⟨D', k1, k2, k3, Nat.lt_of_lt_of_le h4 hsz, k5, (hB D' h4).trans k6, k7⟩, DfO.row hB hsz h k⟩
theorem DfO.target {m1 m2 : Nat} : ∀ {ds : List Deferred}, DfO m1 m2 c ds → ∀ e, e ∈ ds → ∃ D, e.target = .collected D ∧ D < c.w.heap.size
 | [], _, e, he => by cases he
 | d :: ds, ⟨⟨D, h1, _, _, h4, _⟩, h⟩, e, he => by
  rcases List.mem_cons.1 he with rfl | he
  ·exact ⟨D, by rw [h1], h4⟩
  ·exact DfO.target h e he
theorem locp_nil {w : World} {x y : Nat × Nat} (h : locp w [] x = some y) : y = x := by
 unfold locp at h
 exact (Option.some.inj h).symm
theorem Keep.L {c' : Cx} (k : Keep c c') {s g : Nat} (hg : g ≤ c.gn s) {cs : List AV} (hc : c'.ro.cells s g [] = some cs) : c'.L s g = c.L s g := by
 obtain ⟨cs0, _, _, h⟩ := k.hP s g [] cs hg hc
 have h1 := (h (c.L s g) (by unfold locp; rfl)).1
 exact (locp_nil h1).symm
theorem cells_bx {ro : Ro} {s g : Nat} {cs : List AV} (h : ro s g = some (.bx cs)) : ro.cells s g [] = some cs := by
 unfold Ro.cells
 rw [h]
 rfl
theorem boxed (h : SR w0 A0 F0 cS m st a c Φ) {s4 g4 s2 g2 M : Nat} {cs : List AV} (r4 : st.ro s4 g4 = some (.bx [.ref s2 g2 [] 0 M])) (r2 : st.ro.cells s2 g2 [] = some cs) (hM : 1 ≤ M) :
  ∃ cap arr E, c.w.cell? ⟨(c.L s4 g4).1, (c.L s4 g4).2, none⟩ = some (.slice (some ⟨(c.L s2 g2).1, (c.L s2 g2).2, none⟩) M cap) ∧ M ≤ cap ∧ cap ≤ maxLen ∧ c.w.heap[(c.L s2 g2).1]? = some (.cells arr E (0, 0)) ∧ (c.L s2 g2).2 + cap ≤ arr.size ∧ M ≤ cs.length ∧ g2 ≤ c.gn s2 := by
 obtain ⟨_, v, hv, hh⟩ := h.sim.rt s4 g4 _ (by rw [h.ro]; exact r4)
 obtain ⟨g, b, cap, us, F', rfl, hΦ, hus, ho, _⟩ := hv.bx_inv
 have hL : c.L s4 g4 = (g, b) := by
  have : Value.pointer (some ⟨g, b, none⟩) = .pointer (some ⟨(c.L s4 g4).1, (c.L s4 g4).2, none⟩) := hh
  injection this with this
  injection this with this
  injection this with e1 e2
  rw [e1, e2]
 obtain ⟨u, us', F1, F2, rfl, _, hu, _⟩ := hus.uncons
 obtain ⟨hg2, k⟩ := hu.ref_inv
 obtain ⟨x, lx, hx, hl⟩ := k cs (by rw [h.ro]; exact r2)
 obtain rfl := locp_nil lx
 obtain ⟨b', cap', arr, E, rfl, hb, hh', h1, h2, h3⟩ := hx
 have hb' : b' = (c.L s2 g2).2 := by
  rcases hb with hb | hb
  ·rw [hb, Nat.add_zero]
  ·omega
 subst hb'
 have hc := ho.cell (i := 0) (u := _) rfl
 rw [Nat.add_zero] at hc
 rw [hL]
 exact ⟨cap', arr, E, hc, h2, h3, hh', h1, by omega, hg2⟩
theorem boxedI (h : SR w0 A0 F0 cS m st a c Φ) {s4 g4 : Nat} {k : Int} (r4 : st.ro s4 g4 = some (.bx [i64 k])) : c.w.cell? ⟨(c.L s4 g4).1, (c.L s4 g4).2, none⟩ = some (.int .i64 k) ∧ g4 ≤ c.gn s4 := by
 obtain ⟨hg4, v, hv, hh⟩ := h.sim.rt s4 g4 _ (by rw [h.ro]; exact r4)
 obtain ⟨g, b, cap, us, F', rfl, hΦ, hus, ho, _⟩ := hv.bx_inv
 have hL : c.L s4 g4 = (g, b) := by
  have : Value.pointer (some ⟨g, b, none⟩) = .pointer (some ⟨(c.L s4 g4).1, (c.L s4 g4).2, none⟩) := hh
  injection this with this
  injection this with this
  injection this with e1 e2
  rw [e1, e2]
 obtain ⟨u, us', F1, F2, rfl, _, hu, _⟩ := hus.uncons
 obtain ⟨rfl, _⟩ := hu.sc_inv
 have hc := ho.cell (i := 0) (u := _) rfl
 rw [Nat.add_zero] at hc
 rw [hL]
 exact ⟨hc, hg4⟩
theorem chb_of (h : SR w0 A0 F0 cS m st a c Φ) {s4 g4 s12 g12 s2 g2 n : Nat} {cs : List AV} (r4 : st.ro s4 g4 = some (.bx [.ref s2 g2 [] 0 (n * n)])) (r12 : st.ro s12 g12 = some (.bx [i64 (n : Int)])) (r2 : st.ro.cells s2 g2 [] = some cs) (hn : 1 ≤ n * n) :
  ChB (c.L s4 g4).1 (c.L s4 g4).2 (c.L s12 g12).1 (c.L s12 g12).2 (c.L s2 g2).1 (c.L s2 g2).2 (n * n) n c.w := by
 obtain ⟨cap, arr, E, h1, h2, h3, _⟩ := boxed h r4 r2 hn
 exact ⟨⟨cap, h1, h2, h3⟩, (boxedI h r12).1⟩
theorem piece_le {n : Nat} (x : Fin n) : x.val * n + n ≤ n * n := by
 have e := Nat.mul_le_mul_right n x.isLt
 rw [Nat.succ_mul] at e
 exact e
theorem rel_piece (h : SR w0 A0 F0 cS m st a c Φ) {s4 g4 s2 g2 n : Nat} {cs : List AV} (r4 : st.ro s4 g4 = some (.bx [.ref s2 g2 [] 0 (n * n)])) (r2 : st.ro.cells s2 g2 [] = some cs) (hn : 1 ≤ n * n) (x : Fin n) :
  Rel c (.ref s2 g2 [] (x.val * n) n) (.slice (some ⟨(c.L s2 g2).1, (c.L s2 g2).2 + x.val * n, none⟩) n n) [] := by
 obtain ⟨cap, arr, E, h1, h2, h3, h4, h5, h6, h7⟩ := boxed h r4 r2 hn
 have hp := piece_le x
 refine .ref _ _ _ _ _ _ h7 (fun cs' hcs => ?_) .nil
 rw [h.ro, r2] at hcs
 obtain rfl := Option.some.inj hcs
 exact ⟨c.L s2 g2, by unfold locp; rfl, ⟨_, n, arr, E, rfl, .inl rfl, h4, by omega, Nat.le_refl _, by omega⟩, by omega⟩
end
theorem semC_chunk {st0 : St} {tg tp ta : Tmp} {s4 s12 s2 g4 g12 g2 n : Nat} {az body : Code} (hn1 : 1 ≤ n) (hM : n * n ≤ 1000000000)
  (hg : st0.sl tg = .fn 24 [.ptr s4 g4 [] 0, .ptr s12 g12 [] 0])
  (Inv : List (Fin n) → St → Prop) (h0 : Inv [] st0)
  (hI : ∀ pre st, Inv pre st → st.sl = st0.sl ∧ st.ro s4 g4 = some (.bx [.ref s2 g2 [] 0 (n * n)]) ∧ st.ro s12 g12 = some (.bx [i64 (n : Int)]) ∧ ∃ cs, st.ro.cells s2 g2 [] = some cs)
  (hcalm : calmR body = true) (hta : ∀ k, dstOK k az = true → ta < k)
  (has : ∀ (l k : Nat) (t : Array Value) (v : Value) (W : World) (K : Act → World → Prop), tp < t.size → K { tmps := (t.setIfInBounds tp v).setIfInBounds ta v, defers := [] } W → az.wpIn (Fence.wide.inRound l) k Tryd.prog (Exit.then K fun _ _ _ => False) { tmps := t.setIfInBounds tp v, defers := [] } W)
  (hbody : ∀ pre (x : Fin n) st, Inv pre st → pre.length < n → codeW XX.cfg body (fun e st' => e = .normal ∧ Inv (pre ++ [x]) ⟨st0.sl, st'.ro, st'.gn⟩) ⟨upd (upd st0.sl tp (.ref s2 g2 [] (x.val * n) n)) ta (.ref s2 g2 [] (x.val * n) n), st.ro, st.gn⟩) :
  SemC Tryd.prog (.rangeFunc (.tmp tg) #[tp] az body) (fun e st => e = .normal ∧ Inv (uptoF n n) st) st0 := by
 intro w0 A0 F0 cS m a c Φ h hd
 have hnn : 1 ≤ n * n := Nat.mul_le_mul hn1 hn1
 simp only [dstOK, List.all_cons, List.all_nil, Bool.and_true, Bool.and_eq_true, decide_eq_true_eq] at hd
 obtain ⟨htp, hd1, hd2⟩ := hd
 have hta' := hta m hd1
 obtain ⟨-, r4, r12, cs2, r2⟩ := hI _ _ h0
 have hgv : Rel c (st0.sl tg) (a.eval (.tmp tg)) [] := h.ev (.tmp tg)
 rw [hg] at hgv
 obtain ⟨us, hv, hcap⟩ := hgv.fn_inv
 obtain ⟨v1, us', rfl, k1, k2⟩ := hcap.uncons0
 obtain ⟨v2, us'', rfl, k3, k4⟩ := k2.uncons0
 obtain ⟨rfl, -⟩ := k4.nilF
 obtain ⟨hg4, p1⟩ := k1.ptr_inv
 obtain ⟨hg12, p2⟩ := k3.ptr_inv
 obtain ⟨x1, l1, rfl⟩ := p1 _ (by rw [h.ro]; exact cells_bx r4)
 obtain ⟨x2, l2, rfl⟩ := p2 _ (by rw [h.ro]; exact cells_bx r12)
 obtain rfl := locp_nil l1
 obtain rfl := locp_nil l2
 simp only [Nat.add_zero] at hv
 have hg2 : g2 ≤ c.gn s2 := (boxed h r4 r2 hnn).choose_spec.choose_spec.choose_spec.2.2.2.2.2.2
 have hB0 := chb_of h r4 r12 r2 hnn
 have hs0 : w0.heap.size ≤ c.w.heap.size := h.sim.bw.size
 have hsS : cS.w.heap.size ≤ c.w.heap.size := h.kp.hsz
 have hA0 : ∀ x, A0 x → x < c.w.heap.size := fun x hx => h.sim.al x (h.sim.a0 x hx)
 refine wpIn_wide.1 (wpIn_rangeFunc_ownG (F := Fence.wide) (n := 3) (α := Fin n) rfl (by decide) hv trivial (fun args w => run_enter ⟨_, Tryd.func24, rfl, by kernel_rfl⟩ args w)
  (chunk_stops Fence.wide 2 trivial rfl (by decide) _ _ _ _ (c.L s2 g2).1 (c.L s2 g2).2 n hn1 hM c.w hB0) (fun h k x => k (h x)) ?_ (Below.refl _ _) (fun _ => rfl)
  (fun pre W => ∃ st c' Φ', c'.w = W ∧ SR w0 A0 F0 cS m st a c' Φ' ∧ Inv pre st ∧ c'.L s4 g4 = c.L s4 g4 ∧ c'.L s12 g12 = c.L s12 g12 ∧ c'.L s2 g2 = c.L s2 g2 ∧ g4 ≤ c'.gn s4 ∧ g12 ≤ c'.gn s12 ∧ g2 ≤ c'.gn s2 ∧ c.w.heap.size ≤ c'.w.heap.size)
  (fun _ _ _ => False) ?_ (fun _ _ _ _ _ h => h.elim) ⟨st0, c, Φ, rfl, h, h0, rfl, rfl, rfl, hg4, hg12, hg2, Nat.le_refl _⟩
  (fun x => { tmps := (a.tmps.setIfInBounds tp (.slice (some ⟨(c.L s2 g2).1, (c.L s2 g2).2 + x.val * n, none⟩) n n)).setIfInBounds ta (.slice (some ⟨(c.L s2 g2).1, (c.L s2 g2).2 + x.val * n, none⟩) n n), defers := [] }) ?_ ?_ ?_ (fun _ _ _ _ _ _ h => h.elim))
 ·intro W l o o' hl ho hoc _ hch
  have ho' : ∀ (arr : Array Value) (E : TypeId) (fr : Nat × Nat), o ≠ Obj.cells arr E fr := fun arr E fr e => by rw [e] at hoc; cases hoc
  obtain ⟨⟨cap, q1, q2, q3⟩, q4⟩ := hch
  exact ⟨⟨cap, (putObj_objK ho ho').cell q1, q2, q3⟩, (putObj_objK ho ho').cell q4⟩
 ·rintro s W W' row ⟨st, c', Φ', rfl, hs, hi, e1, e2, e3, e4, e5, e6, e7⟩ hgr hr
  have hlow : ∀ i, i < c.w.heap.size → i < c'.w.heap.size → W'.heap[i]? = c'.w.heap[i]? := fun i hi hi2 => hgr.block i hi2 fun e => by
   have := (hr i e.symm).1
   omega
  have hle : c.w.heap.size ≤ c'.w.heap.size := e7
  refine ⟨st, { c' with w := W' }, Φ', rfl, hs.objs rfl ⟨hgr.size, fun k arr E fr hk => ?_⟩ hgr.os hgr.tape hgr.output (fun i hi => ?_) ?_, hi, e1, e2, e3, e4, e5, e6, Nat.le_trans e7 hgr.size⟩
  ·rw [hgr.block k (Array.getElem?_eq_some_iff.1 hk).1 fun e => ?_]
   ·exact hk
   ·obtain ⟨_, o, ho, hc⟩ := hr k e.symm
    rw [hk] at ho
    obtain rfl := Option.some.inj ho
    cases hc
  ·have : i < c.w.heap.size := by omega
   exact hlow i this (by omega)
  ·exact DfO.row (fun i hi => hlow i hi (by omega)) (Nat.le_trans hle hgr.size) h.df hs.df
 ·intro l x W K hK
  have := has l 1 a.tmps (.slice (some ⟨(c.L s2 g2).1, (c.L s2 g2).2 + x.val * n, none⟩) n n) W K (by rw [h.sz]; exact htp) hK
  simpa using this
 ·rintro l pre x W ⟨st, c', Φ', rfl, hs, hi, e1, e2, e3, e4, e5, e6, e7⟩ hlen
  obtain ⟨q0, q4, q12, cs', q2⟩ := hI _ _ hi
  have h1 := hs.less
  have hpc := rel_piece h1 q4 q2 hnn x
  have e3' : (lessC A0 c' Φ').L s2 g2 = c.L s2 g2 := e3
  rw [e3'] at hpc
  have hR : SR w0 A0 F0 (lessC A0 c' Φ') m ⟨upd (upd st0.sl tp (.ref s2 g2 [] (x.val * n) n)) ta (.ref s2 g2 [] (x.val * n) n), st.ro, st.gn⟩
    { tmps := (a.tmps.setIfInBounds tp (.slice (some ⟨(c.L s2 g2).1, (c.L s2 g2).2 + x.val * n, none⟩) n n)).setIfInBounds ta (.slice (some ⟨(c.L s2 g2).1, (c.L s2 g2).2 + x.val * n, none⟩) n n), defers := [] } (lessC A0 c' Φ') Φ' := {
   sim := h1.sim
   kp := Keep.refl _
   ro := h1.ro
   gn := h1.gn
   sl := fun k => by
    dsimp only
    by_cases e : k = ta
    ·subst e
     rw [upd_same]
     have : (((a.tmps.setIfInBounds tp (.slice (some ⟨(c.L s2 g2).1, (c.L s2 g2).2 + x.val * n, none⟩) n n)).setIfInBounds k (.slice (some ⟨(c.L s2 g2).1, (c.L s2 g2).2 + x.val * n, none⟩) n n)).getD k undef) = .slice (some ⟨(c.L s2 g2).1, (c.L s2 g2).2 + x.val * n, none⟩) n n := by
      simp [Array.getD, h.sz, hta']
     rw [this]
     exact hpc
    ·by_cases e' : k = tp
     ·subst e'
      rw [upd, if_neg e, upd_same]
      have : (((a.tmps.setIfInBounds k (.slice (some ⟨(c.L s2 g2).1, (c.L s2 g2).2 + x.val * n, none⟩) n n)).setIfInBounds ta (.slice (some ⟨(c.L s2 g2).1, (c.L s2 g2).2 + x.val * n, none⟩) n n)).getD k undef) = .slice (some ⟨(c.L s2 g2).1, (c.L s2 g2).2 + x.val * n, none⟩) n n := by
       rw [Array.getD_eq_getD_getElem?, Array.getElem?_setIfInBounds_ne (fun h => e h.symm)]
       simp [h.sz, htp]
      rw [this]
      exact hpc
     ·rw [upd, if_neg e, upd, if_neg e']
      have : (((a.tmps.setIfInBounds tp (.slice (some ⟨(c.L s2 g2).1, (c.L s2 g2).2 + x.val * n, none⟩) n n)).setIfInBounds ta (.slice (some ⟨(c.L s2 g2).1, (c.L s2 g2).2 + x.val * n, none⟩) n n)).getD k undef) = a.tmps.getD k undef := by
       rw [Array.getD_eq_getD_getElem?, Array.getElem?_setIfInBounds_ne (fun h => e h.symm), Array.getElem?_setIfInBounds_ne (fun h => e' h.symm), ← Array.getD_eq_getD_getElem?]
      rw [this, ← q0]
      exact h1.sl k
   df := trivial
   sz := by simp [h.sz] }
  refine wpIn_mono (codeW_inR (C := XX.cfg) (lR := l) (m := 1) (c := lessC A0 c' Φ') (tiG_ok _) (cfgOf_inl _ _) mixed0 body hcalm hR hd2 (hbody pre x st hi hlen)) ?_
  rintro e a2 w2 ⟨st2, c2, Φ2, rfl, h2, rfl, hi2⟩
  have hk2 : Keep (lessC A0 c' Φ') c2 := h2.kp
  obtain ⟨-, t4, t12, cs2', t2⟩ := hI _ _ hi2
  have f1 : c2.L s4 g4 = c.L s4 g4 := (hk2.L e4 (by rw [h2.ro]; exact cells_bx t4)).trans e1
  have f2 : c2.L s12 g12 = c.L s12 g12 := (hk2.L e5 (by rw [h2.ro]; exact cells_bx t12)).trans e2
  have f3 : c2.L s2 g2 = c.L s2 g2 := (hk2.L e6 (by rw [h2.ro]; exact t2)).trans e3
  have h3 : SR w0 A0 F0 cS m ⟨st0.sl, st2.ro, st2.gn⟩ a c2 Φ2 := {
   sim := h2.sim
   kp := h1.kp.trans hk2
   ro := h2.ro
   gn := h2.gn
   sl := fun k => by
    show Rel c2 (st0.sl k) _ []
    rw [← q0]
    exact (h1.sl k).mono hk2 (by simp)
   df := h1.df.mono hk2
   sz := h.sz }
  refine ⟨⟨hk2.hsz, fun k o hB hk ho => ?_⟩, fun _ => ?_, ⟨_, c2, Φ2, rfl, h3, hi2, f1, f2, f3, Nat.le_trans e4 (hk2.hgn _), Nat.le_trans e5 (hk2.hgn _), Nat.le_trans e6 (hk2.hgn _), Nat.le_trans e7 hk2.hsz⟩⟩
  ·refine (hk2.hI k (Array.getElem?_eq_some_iff.1 hk).1 fun ha => ?_).trans hk
   obtain ⟨arr, E, fr, hcl⟩ := hs.sim.lessC_cells ha fun h0 => by have := hA0 k h0; omega
   rw [show (lessC A0 c' Φ').w.heap[k]? = some o from hk] at hcl
   obtain rfl := Option.some.inj hcl
   cases ho
  ·have := chb_of h3 t4 t12 t2 hnn
   rw [f1, f2, f3] at this
   exact this
 ·rintro D xs W hD hxs ⟨st, c', Φ', rfl, hs, hi, e1, e2, e3, e4, e5, e6, e7⟩ hW
  subst hxs
  have h1 := hs.less
  refine ⟨st, lessC A0 c' Φ', Φ', rfl, { sim := h1.sim, kp := h1.kp, ro := h1.ro, gn := h1.gn, sl := h1.sl, sz := h1.sz, df := ?_ }, rfl, hi⟩
  refine ⟨⟨D, rfl, by omega, by omega, (Array.getElem?_eq_some_iff.1 hW).1, fun ha => ?_, hW, fun e he h4 => ?_⟩, h1.df⟩
  ·obtain ⟨arr, E, fr, hcl⟩ := hs.sim.lessC_cells ha fun h0 => by have := hA0 D h0; omega
   rw [hW] at hcl
   cases hcl
  ·obtain ⟨D', h5, h6⟩ := h.df.target e he
   rw [h4] at h5
   injection h5 with h5
   omega
end Go.Proofs.YteaaangdibabnaaDoor
/- Rings out of a text: the reference's. -/
namespace Go.Proofs.YteaaangdibabnaaDoor
open Go.RowKit
set_option maxRecDepth 1000000
abbrev wdl (l : List UInt8) (i : Nat) : List (List UInt8) := spl 32 ((spl 47 l).getD i [])
def lenP (l : List UInt8) : Prop := ∀ i, i < (spl 47 l).length → (wdl l i).length = (spl 47 l).length * (spl 47 l).length
def FVr (l : List UInt8) (i j k : Nat) : Int := val ((wdl l i).getD (j * (spl 47 l).length + k) [])
def FPr (l : List UInt8) (i j k : Nat) : Int := piN ((wdl l i).getD (j * (spl 47 l).length + k) [])
theorem cPRs {l : List UInt8} (hl : l.length ≤ 2000000) {R : AV} (hR : noRef R = true) (h1 : lenP l → RingP (cubeL (FVr l) (spl 47 l).length) → R = .tup [.agg [cubeA (FVr l) (spl 47 l).length], i64 0])
  (h2 : ¬ (lenP l ∧ RingP (cubeL (FVr l) (spl 47 l).length)) → R = .tup [.agg [nilA], i64 6]) : CallOK Tryd.prog 4 [sB l] R := by
 have w1 := spl_len 47 l
 have wp := spl_pos 47 l
 have cs := cSplitS (l := l) (c := 47) (by omega)
 have hmm := Nat.mul_le_mul (Nat.le_trans w1 (Nat.succ_le_succ hl)) (Nat.le_trans w1 (Nat.succ_le_succ hl))
 have e1 : ((spl 47 l).length : Int) * ((spl 47 l).length : Int) = (((spl 47 l).length * (spl 47 l).length : Nat) : Int) := by omega
 have w2 : wrF (((spl 47 l).length * (spl 47 l).length : Nat) : Int) = (((spl 47 l).length * (spl 47 l).length : Nat) : Int) := zfu (by omega) (by omega)
 refine call_of (fn := Tryd.f4) (code := bodyOf Tryd.f4) Tryd.func4 rfl (by kernel_rfl) (hR) ?_
 intro sl hs
 have s0 : sl 0 = sB l := hs 0
 dsimp only [Tryd.f4, bodyOf, Option.getD]
 simp (maxSteps := 10000000) (disch := first | assumption | omega) only [go_sem, ↓reduceIte, Nat.reduceEqDiff, reduceCtorEq, Nat.reduceAdd, Nat.reduceMul, Nat.reduceLeDiff, zc, Int.reduceToNat, s0, tiSt, tiBy, tiSS, ti33]
 refine CLL_pure _ cs rfl rfl rfl ?_
 simp (maxSteps := 10000000) (disch := first | assumption | omega) only [go_sem, ↓reduceIte, Nat.reduceEqDiff, reduceCtorEq, Nat.reduceAdd, Nat.reduceMul, Nat.reduceLeDiff, zc, Int.reduceToNat, s0, tiSS, impE_row, List.length_map, ti31, ti33]
 refine WK_for (fun i st => st.sl 2 = .ptr 4096 1 [] 0 ∧ st.ro 4096 1 = some (.bx [nilA]) ∧ st.sl 4 = .ref 8208 1 [] 0 (spl 47 l).length ∧ st.ro 8208 1 = some (rowS (spl 47 l)) ∧ st.sl 5 = .ptr 8240 1 [] 0 ∧ st.sl 6 = i64 ((spl 47 l).length : Nat) ∧ st.sl 7 = i64 (i : Int) ∧ ((i = 0 ∧ st.ro 8240 1 = some (.bx [nilA])) ∨ (0 < i ∧ st.ro 8240 1 = some (.bx [.ref 77888 (st.gn 77888) [] 0 i]) ∧ st.ro 77888 (st.gn 77888) = some (.row (rws (fun x => .row (rws (fun y => .row (rws (fun z => i64 (FVr l x y z)) (spl 47 l).length)) (spl 47 l).length)) i)))) ∧ (∀ x, x < i → (wdl l x).length = (spl 47 l).length * (spl 47 l).length)) ((spl 47 l).length) ?_ ?_ ?_
 ·simp only [↓za, ↓reduceIte, Nat.reduceEqDiff, zb, reduceCtorEq, rws_zero, s0]
  exact ⟨rfl, .inl trivial, fun x hx => absurd hx (Nat.not_lt_zero x)⟩
 ·rintro i sl ro gn hi ⟨s2, r4096, s4, r8208, s5, s6, s7, q, hq⟩
  dsimp only at s2 r4096 s4 r8208 s5 s6 s7
  have hi' : (i : Int) < ((spl 47 l).length : Nat) := by omega
  dsimp only at q
  have hi2 : i + 1 ≤ 4294967296 := by omega
  have hp := spl_mem_len _ l (Nat.le_refl _) _ (getD_mem hi)
  have hw := spl_len 32 ((spl 47 l).getD i [])
  have cw := cSplitS (l := (spl 47 l).getD i []) (c := 32) (by omega)
  simp (maxSteps := 10000000) (disch := first | assumption | omega) only [go_sem, ↓reduceIte, Nat.reduceEqDiff, reduceCtorEq, Nat.reduceAdd, Nat.reduceMul, Nat.reduceLeDiff, zc, Int.reduceToNat, s2, r4096, s4, r8208, s5, s6, s7, hi', hi, tiSt, tiSS, rowS_get hi, zfn]
  refine CLL_pure _ cw rfl rfl rfl ?_
  by_cases hL : (wdl l i).length = (spl 47 l).length * (spl 47 l).length
  ·have hL' : (((wdl l i).length : Nat) : Int) = (((spl 47 l).length * (spl 47 l).length : Nat) : Int) := by rw [hL]
   simp (maxSteps := 10000000) (disch := first | assumption | omega) only [go_sem, ↓reduceIte, Nat.reduceEqDiff, reduceCtorEq, Nat.reduceAdd, Nat.reduceMul, Nat.reduceLeDiff, zc, Int.reduceToNat, s2, r4096, s4, r8208, s5, s6, s7, hi', hi, tiSS, impE_row, List.length_map, ti31, ti33, e1, w2, eq_true hL']
   refine WK_for (fun j st => st.sl 2 = .ptr 4096 1 [] 0 ∧ st.ro 4096 1 = some (.bx [nilA]) ∧ st.sl 4 = .ref 8208 1 [] 0 (spl 47 l).length ∧ st.ro 8208 1 = some (rowS (spl 47 l)) ∧ st.sl 5 = .ptr 8240 1 [] 0 ∧ st.sl 6 = i64 ((spl 47 l).length : Nat) ∧ st.sl 7 = i64 (i : Int) ∧ st.sl 8 = .ref 28736 (st.gn 28736) [] 0 (wdl l i).length ∧ st.ro 28736 (st.gn 28736) = some (rowS (wdl l i)) ∧ st.sl 9 = .ref 28752 (st.gn 28752) [] 0 j ∧ st.ro 28752 (st.gn 28752) = some (.row (rws (fun y => .row (rws (fun z => i64 (FVr l i y z)) (spl 47 l).length)) j)) ∧ st.sl 10 = i64 (j : Int) ∧ ((i = 0 ∧ st.ro 8240 1 = some (.bx [nilA])) ∨ (0 < i ∧ st.ro 8240 1 = some (.bx [.ref 77888 (st.gn 77888) [] 0 i]) ∧ st.ro 77888 (st.gn 77888) = some (.row (rws (fun x => .row (rws (fun y => .row (rws (fun z => i64 (FVr l x y z)) (spl 47 l).length)) (spl 47 l).length)) i))))) ((spl 47 l).length) ?_ ?_ ?_
   ·simp only [↓za, ↓reduceIte, Nat.reduceEqDiff, zb, reduceCtorEq, rws_zero, s2, r4096, s4, r8208, s5, s6, s7, hi', hi]
    exact ⟨rfl, q⟩
   ·rintro j sl ro gn hj ⟨s2, r4096, s4, r8208, s5, s6, s7, s8, r28736, s9, r28752, s10, q2⟩
    dsimp only at s2 r4096 s4 r8208 s5 s6 s7 s8 r28736 s9 r28752 s10
    have hj' : (j : Int) < ((spl 47 l).length : Nat) := by omega
    dsimp only at q2
    have hj2 : j + 1 ≤ 4294967296 := by omega
    have hjn : j * (spl 47 l).length + (spl 47 l).length ≤ (spl 47 l).length * (spl 47 l).length := by
     have e := Nat.mul_le_mul_right (spl 47 l).length hj
     rw [Nat.succ_mul] at e
     exact e
    have e3 : (j : Int) * ((spl 47 l).length : Int) = ((j * (spl 47 l).length : Nat) : Int) := by omega
    have w3 : wrF ((j * (spl 47 l).length : Nat) : Int) = ((j * (spl 47 l).length : Nat) : Int) := zfu (by omega) (by omega)
    simp (maxSteps := 10000000) (disch := first | assumption | omega) only [go_sem, ↓reduceIte, Nat.reduceEqDiff, reduceCtorEq, Nat.reduceAdd, Nat.reduceMul, Nat.reduceLeDiff, zc, Int.reduceToNat, s2, r4096, s4, r8208, s5, s6, s7, s8, r28736, s9, r28752, s10, hj', hj, tiSt, tiSS, ti31, ti33]
    refine WK_for (fun k st => st.sl 2 = .ptr 4096 1 [] 0 ∧ st.ro 4096 1 = some (.bx [nilA]) ∧ st.sl 4 = .ref 8208 1 [] 0 (spl 47 l).length ∧ st.ro 8208 1 = some (rowS (spl 47 l)) ∧ st.sl 5 = .ptr 8240 1 [] 0 ∧ st.sl 6 = i64 ((spl 47 l).length : Nat) ∧ st.sl 7 = i64 (i : Int) ∧ st.sl 8 = .ref 28736 (st.gn 28736) [] 0 (wdl l i).length ∧ st.ro 28736 (st.gn 28736) = some (rowS (wdl l i)) ∧ st.sl 9 = .ref 28752 (st.gn 28752) [] 0 j ∧ st.ro 28752 (st.gn 28752) = some (.row (rws (fun y => .row (rws (fun z => i64 (FVr l i y z)) (spl 47 l).length)) j)) ∧ st.sl 10 = i64 (j : Int) ∧ st.sl 11 = .ref 53248 (st.gn 53248) [] 0 k ∧ st.ro 53248 (st.gn 53248) = some (.row (rws (fun z => i64 (FVr l i j z)) k)) ∧ st.sl 12 = i64 (k : Int) ∧ ((i = 0 ∧ st.ro 8240 1 = some (.bx [nilA])) ∨ (0 < i ∧ st.ro 8240 1 = some (.bx [.ref 77888 (st.gn 77888) [] 0 i]) ∧ st.ro 77888 (st.gn 77888) = some (.row (rws (fun x => .row (rws (fun y => .row (rws (fun z => i64 (FVr l x y z)) (spl 47 l).length)) (spl 47 l).length)) i))))) ((spl 47 l).length) ?_ ?_ ?_
    ·simp only [↓za, ↓reduceIte, Nat.reduceEqDiff, zb, reduceCtorEq, rws_zero, s2, r4096, s4, r8208, s5, s6, s7, s8, r28736, s9, r28752, s10, hj', hj]
     exact ⟨rfl, q2⟩
    ·rintro k sl ro gn hk ⟨s2, r4096, s4, r8208, s5, s6, s7, s8, r28736, s9, r28752, s10, s11, r53248, s12, q3⟩
     dsimp only at s2 r4096 s4 r8208 s5 s6 s7 s8 r28736 s9 r28752 s10 s11 r53248 s12
     have hk' : (k : Int) < ((spl 47 l).length : Nat) := by omega
     dsimp only at q3
     have hk2 : k + 1 ≤ 4294967296 := by omega
     have hkl : j * (spl 47 l).length + k < (wdl l i).length := by omega
     have e4 : ((j * (spl 47 l).length : Nat) : Int) + (k : Int) = ((j * (spl 47 l).length + k : Nat) : Int) := by omega
     have w4 : wrF ((j * (spl 47 l).length + k : Nat) : Int) = ((j * (spl 47 l).length + k : Nat) : Int) := zfu (by omega) (by omega)
     have hwl : ((wdl l i).getD (j * (spl 47 l).length + k) []).length ≤ ((spl 47 l).getD i []).length := spl_mem_len _ _ (Nat.le_refl _) _ (getD_mem hkl)
     have cv := cValS (w := (wdl l i).getD (j * (spl 47 l).length + k) []) (by omega)
     simp (maxSteps := 10000000) (disch := first | assumption | omega) only [go_sem, ↓reduceIte, Nat.reduceEqDiff, reduceCtorEq, Nat.reduceAdd, Nat.reduceMul, Nat.reduceLeDiff, zc, Int.reduceToNat, s2, r4096, s4, r8208, s5, s6, s7, s8, r28736, s9, r28752, s10, s11, r53248, s12, hk', hk, tiSt, tiSS, e3, w3, e4, w4, rowS_get hkl, zfn]
     refine CLL_pure _ cv rfl rfl rfl ?_
     simp (maxSteps := 10000000) (disch := first | assumption | omega) only [go_sem, ↓reduceIte, Nat.reduceEqDiff, reduceCtorEq, Nat.reduceAdd, Nat.reduceMul, Nat.reduceLeDiff, zc, Int.reduceToNat, s2, r4096, s4, r8208, s5, s6, s7, s8, r28736, s9, r28752, s10, s11, r53248, s12, hk', hk, tiSt, tiSS, hk2]
     exact ⟨congrArg (fun z => some (AV.row z)) (zfm (fun z => i64 (FVr l i j z)) k), i64c (by omega), q3⟩
    ·rintro sl ro gn ⟨s2, r4096, s4, r8208, s5, s6, s7, s8, r28736, s9, r28752, s10, s11, r53248, s12, q3⟩
     dsimp only at s2 r4096 s4 r8208 s5 s6 s7 s8 r28736 s9 r28752 s10 s11 r53248 s12
     have hk' : ¬ (((spl 47 l).length : Nat) : Int) < ((spl 47 l).length : Nat) := by omega
     dsimp only at q3
     simp (maxSteps := 10000000) (disch := first | assumption | omega) only [go_sem, ↓reduceIte, Nat.reduceEqDiff, reduceCtorEq, Nat.reduceAdd, Nat.reduceMul, Nat.reduceLeDiff, zc, Int.reduceToNat, s2, r4096, s4, r8208, s5, s6, s7, s8, r28736, s9, r28752, s10, s11, r53248, s12, hk', tiSt, tiSS, ti31, ti33, hj2]
     exact ⟨i64c (by omega), q3⟩
   ·rintro sl ro gn ⟨s2, r4096, s4, r8208, s5, s6, s7, s8, r28736, s9, r28752, s10, q2⟩
    dsimp only at s2 r4096 s4 r8208 s5 s6 s7 s8 r28736 s9 r28752 s10
    have hj' : ¬ (((spl 47 l).length : Nat) : Int) < ((spl 47 l).length : Nat) := by omega
    dsimp only at q2
    rcases q2 with ⟨hi0, q2⟩ | ⟨hi0, q2, q3⟩
    ·simp (maxSteps := 10000000) (disch := first | assumption | omega) only [go_sem, ↓reduceIte, Nat.reduceEqDiff, reduceCtorEq, Nat.reduceAdd, Nat.reduceMul, Nat.reduceLeDiff, zc, Int.reduceToNat, s2, r4096, s4, r8208, s5, s6, s7, s8, r28736, s9, r28752, s10, hj', tiSt, tiSS, ti31, ti33, q2]
     subst hi0
     exact ⟨i64c (by omega), .inr ⟨by omega, rfl, rfl⟩, fun x hx => by
      rcases Nat.lt_or_eq_of_le (Nat.le_of_lt_succ hx) with h | h
      ·exact hq x h
      ·rw [h]; exact hL⟩
    ·simp (maxSteps := 10000000) (disch := first | assumption | omega) only [go_sem, ↓reduceIte, Nat.reduceEqDiff, reduceCtorEq, Nat.reduceAdd, Nat.reduceMul, Nat.reduceLeDiff, zc, Int.reduceToNat, s2, r4096, s4, r8208, s5, s6, s7, s8, r28736, s9, r28752, s10, hj', tiSt, tiSS, ti31, ti33, q2, q3, hi2]
     exact ⟨i64c (by omega), .inr trivial, fun x hx => by
      rcases Nat.lt_or_eq_of_le (Nat.le_of_lt_succ hx) with h | h
      ·exact hq x h
      ·rw [h]; exact hL⟩
  ·have hL' : ¬ (((wdl l i).length : Nat) : Int) = (((spl 47 l).length * (spl 47 l).length : Nat) : Int) := by omega
   simp (maxSteps := 10000000) (disch := first | assumption | omega) only [go_sem, ↓reduceIte, Nat.reduceEqDiff, reduceCtorEq, Nat.reduceAdd, Nat.reduceMul, Nat.reduceLeDiff, zc, Int.reduceToNat, s2, r4096, s4, r8208, s5, s6, s7, hi', hi, tiSS, impE_row, List.length_map, ti31, ti33, e1, w2, eq_false hL']
   rw [h2 fun h => hL (h.1 i hi)]
   simp only [zr, zb, retR, resL, outT, outL, zes, zez, oneV, zcp, zed, zfi, Ro.dl, St.ev, zhk, ↓za, ↓reduceIte, Nat.reduceEqDiff, Nat.reduceAdd, Nat.reduceLeDiff, ti31, ti33, s2, r4096]
 ·rintro sl ro gn ⟨s2, r4096, s4, r8208, s5, s6, s7, q, hq⟩
  dsimp only at s2 r4096 s4 r8208 s5 s6 s7
  have hi' : ¬ (((spl 47 l).length : Nat) : Int) < ((spl 47 l).length : Nat) := by omega
  dsimp only at q
  rcases q with ⟨hi0, q2⟩ | ⟨hi0, q2, q3⟩
  ·exact absurd wp (by omega)
  by_cases hr : RingP (cubeL (FVr l) (spl 47 l).length)
  ·have c := c108 (isLLL_immC (FVr l) (spl 47 l).length) (t := true) (by simp [hr])
   simp (maxSteps := 10000000) (disch := first | assumption | omega) only [go_sem, ↓reduceIte, Nat.reduceEqDiff, reduceCtorEq, Nat.reduceAdd, Nat.reduceMul, Nat.reduceLeDiff, zc, Int.reduceToNat, s2, r4096, s4, r8208, s5, s6, s7, hi', tiSS, ti31, ti33, q2, q3]
   refine CLL_q _ c (.cons (exq_agg (.cons (exq_cube q3 (by decide)) .nil)) .nil) rfl rfl rfl ?_
   rw [h1 hq hr]
   simp (maxSteps := 10000000) (disch := first | assumption | omega) only [go_sem, ↓reduceIte, Nat.reduceEqDiff, reduceCtorEq, Nat.reduceAdd, Nat.reduceMul, Nat.reduceLeDiff, zc, Int.reduceToNat, s2, r4096, s4, r8208, s5, s6, s7, hi', ti31, ti33, q2, q3]
   simp only [zr, zb, retR, resL, outT, outL, zes, zez, oneV, zcp, zed, zfi, Ro.dl, St.ev, zhk, ↓za, ↓reduceIte, Nat.reduceEqDiff, Nat.reduceAdd, Nat.reduceLeDiff, ti31, ti33, s2, q2, q3]
  ·have c := c108 (isLLL_immC (FVr l) (spl 47 l).length) (t := false) (by simp [hr])
   simp (maxSteps := 10000000) (disch := first | assumption | omega) only [go_sem, ↓reduceIte, Nat.reduceEqDiff, reduceCtorEq, Nat.reduceAdd, Nat.reduceMul, Nat.reduceLeDiff, zc, Int.reduceToNat, s2, r4096, s4, r8208, s5, s6, s7, hi', tiSS, ti31, ti33, q2, q3]
   refine CLL_q _ c (.cons (exq_agg (.cons (exq_cube q3 (by decide)) .nil)) .nil) rfl rfl rfl ?_
   rw [h2 fun h => hr h.2]
   simp (maxSteps := 10000000) (disch := first | assumption | omega) only [go_sem, ↓reduceIte, Nat.reduceEqDiff, reduceCtorEq, Nat.reduceAdd, Nat.reduceMul, Nat.reduceLeDiff, zc, Int.reduceToNat, s2, r4096, s4, r8208, s5, s6, s7, hi', ti31, ti33, q2, q3]
   simp only [zr, zb, retR, resL, outT, outL, zes, zez, oneV, zcp, zed, zfi, Ro.dl, St.ev, zhk, ↓za, ↓reduceIte, Nat.reduceEqDiff, Nat.reduceAdd, Nat.reduceLeDiff, ti31, ti33, s2, q2, q3]
end Go.Proofs.YteaaangdibabnaaDoor
/- Rings out of a text: the program's. -/
namespace Go.Proofs.YteaaangdibabnaaDoor
open Go.RowKit
set_option maxRecDepth 1000000
theorem cCloR {xs : List Int} (hx : xs.length ≤ maxN) : CallOK Tryd.prog 15 [immL xs] (rowL xs) := by
 have hx' : 0 + xs.length ≤ 4294967296 := by have : xs.length ≤ 4294967296 := hx; omega
 have hall : (xs.map i64).all zez = true := List.all_eq_true.2 fun x hx => by obtain ⟨y, -, rfl⟩ := List.mem_map.1 hx; rfl
 refine call_of (fn := Tryd.f15) (code := bodyOf Tryd.f15) Tryd.func15 rfl (by kernel_rfl) (noRef_rowL _) ?_
 intro sl hs
 have s0 : sl 0 = immL xs := hs 0
 dsimp only [Tryd.f15, bodyOf, Option.getD]
 simp (maxSteps := 10000000) (disch := first | assumption | omega) only [go_sem, ↓reduceIte, Nat.reduceEqDiff, reduceCtorEq, Nat.reduceAdd, Nat.reduceMul, Nat.reduceLeDiff, zc, Int.reduceToNat, s0, hall, List.length_map, hx']
 simp only [zr, zb, retR, resL, outT, outL, zes, zez, oneV, zcp, zed, zfi, Ro.dl, St.ev, zhk, ↓za, ↓reduceIte, Nat.reduceEqDiff, Nat.reduceAdd, Nat.reduceLeDiff]
theorem exq_refO {n : Nat} {ro : Ro} {s g off m : Nat} {xs : List Int} (h : ro s g = some (rowL xs)) (hn : 2 ≤ n) : exq n ro (.ref s g [] off m) (immL ((xs.drop off).take m)) := by
 refine ⟨fun j hj => ?_, fun hp => by simp [pureA] at hp⟩
 obtain ⟨j, rfl⟩ : ∃ i, j = i + 2 := ⟨j - 2, by omega⟩
 show (match ro.cells s g [] with | some cs => AV.imm (((cs.drop off).take m).map (ex ro (j + 1))) | none => .dead) = _
 have : ro.cells s g [] = some (xs.map i64) := by unfold Ro.cells; rw [h]; rfl
 rw [this]
 simp only
 rw [← List.map_drop, ← List.map_take]
 congr 1
 rw [List.map_map]
 rfl
theorem inChunk {ro : Ro} {gn : Nat → Nat} {s g M n : Nat} {xs : List Int} (hn : 1 ≤ n) (hs : ro s g = some (rowL xs)) :
  InOK Tryd.prog 14 [.ref s g [] 0 M, i64 (n : Int)] ro gn (.fn 24 [.ptr 4096 (gn 4096 + 1) [] 0, .ptr 4112 (gn 4112 + 1) [] 0])
   (upr (upr ro 4096 (gn 4096 + 1) (.bx [.ref s g [] 0 M])) 4112 (gn 4112 + 1) (.bx [i64 (n : Int)])) (upg (upg gn 4096 (gn 4096 + 1)) 4112 (gn 4112 + 1)) := by
 have h1 : ¬ (n : Int) < 1 := by omega
 refine in_of (fn := Tryd.f14) (code := bodyOf Tryd.f14) Tryd.func14 rfl (by kernel_rfl) ?_
 intro sl hs'
 have s0 : sl 0 = .ref s g [] 0 M := hs' 0
 have s1 : sl 1 = i64 (n : Int) := hs' 1
 dsimp only [Tryd.f14, bodyOf, Option.getD]
 simp (maxSteps := 10000000) (disch := first | omega | assumption) only [go_sem, ↓reduceIte, Nat.reduceEqDiff, reduceCtorEq, Nat.reduceAdd, Nat.reduceMul, Nat.reduceLeDiff, zc, ti3, ti4, s0, s1, h1, hs]
 refine ⟨.inr rfl, ⟨_, rfl, ?_⟩, rfl, rfl⟩
 simp only [↓za, ↓reduceIte, Nat.reduceEqDiff, zb, reduceCtorEq, oneOrA]
theorem imp_tL (b : Nat) (gn : Nat → Nat) (xs : List AV) (v : Value) : impE b gn (.tup [.row xs, .sc v]) = ⟨.tup [.ref b (gn b + 1) [] 0 xs.length, .sc v], none, [], [(b, .row xs)]⟩ := nr _
theorem imp_t2 (b : Nat) (gn : Nat → Nat) (v x : Value) : impE b gn (.tup [.sc v, .sc x]) = ⟨.tup [.sc v, .sc x], none, [], []⟩ := nr _
theorem uptoF_all (n : Nat) : uptoF n n = List.finRange n := by
 unfold uptoF
 rw [List.take_of_length_le (by simp)]
theorem piece_row {xs : List Int} {n y : Nat} (hx : xs.length = n * n) (hy : y < n) : ((xs.drop (y * n)).take n).map i64 = rws (fun z => i64 (atI xs (y * n + z))) n := by
 have hp : y * n + n ≤ n * n := piece_le ⟨y, hy⟩
 apply List.ext_getElem?
 intro z
 by_cases h : z < n
 ·rw [rws_get _ _ _ h, List.getElem?_map, List.getElem?_take_of_lt h, List.getElem?_drop]
  have hlt : y * n + z < xs.length := by omega
  rw [List.getElem?_eq_getElem hlt]
  unfold atI
  rw [List.getD_eq_getElem?_getD, List.getElem?_eq_getElem hlt]
  rfl
 ·rw [List.getElem?_eq_none (by simp; omega), List.getElem?_eq_none (by rw [zfe]; omega)]
theorem upto_rows {xs : List Int} {n : Nat} (hx : xs.length = n * n) : (uptoF n n).map (fun x => rowL ((xs.drop (x.val * n)).take n)) = rws (fun y => .row (rws (fun z => i64 (atI xs (y * n + z))) n)) n := by
 rw [uptoF_all]
 apply List.ext_getElem?
 intro y
 by_cases h : y < n
 ·rw [rws_get _ _ _ h, List.getElem?_map, List.getElem?_eq_getElem (by simpa using h), List.getElem_finRange]
  show some (AV.row _) = some (AV.row _)
  exact congrArg (fun z => some (AV.row z)) (piece_row hx h)
 ·rw [List.getElem?_eq_none (by simp; omega), List.getElem?_eq_none (by rw [zfe]; omega)]
end Go.Proofs.YteaaangdibabnaaDoor
/- Rings out of a text: the program's. -/
namespace Go.Proofs.YteaaangdibabnaaDoor
open Go.RowKit
set_option maxRecDepth 1000000
def okP (l : List UInt8) : Prop := ∀ i, i < (spl 47 l).length → okW ((spl 47 l).getD i [])
def FQ (l : List UInt8) (i j k : Nat) : Int := atI (RP ((spl 47 l).getD i [])) (j * (spl 47 l).length + k)
attribute [local go_sem] Oper.semAt_some
theorem assign_in {l k : Nat} {t : Array Value} {v : Value} {W : World} {K : Act → World → Prop} {id : Nat} {ty : TypeId} {ps : String} (ht : 44 < t.size) (hK : K { tmps := (t.setIfInBounds 44 v).setIfInBounds 11 v, defers := [] } W) :
  (Code.region id #[{ dst := some 11, op := Op.assign (Operand.tmp 44), type := ty, pos := ps, after := #[], guard := none }] false).wpIn (Fence.wide.inRound l) k Tryd.prog (Exit.then K fun _ _ _ => False) { tmps := t.setIfInBounds 44 v, defers := [] } W := by
 have hg : (t.setIfInBounds 44 v).getD 44 undef = v := by simp [Array.getD, ht]
 gi_wp2
 exact hK
def InvC (st0 : St) (xs : List Int) (n : Nat) (pre : List (Fin n)) (st : St) : Prop :=
 st.sl = st0.sl ∧ (∀ s, s ≠ 36864 → s ≠ 36880 → s ≠ 49184 → s ≠ 49200 → st.ro s = st0.ro s ∧ st.gn s = st0.gn s) ∧ st.gn 36880 = st0.gn 36880 ∧
  st.ro 36880 (st0.gn 36880) = some (.bx [.ref 36864 (st.gn 36864) [] 0 pre.length]) ∧ st.ro 36864 (st.gn 36864) = some (.row (pre.map fun x => rowL ((xs.drop (x.val * n)).take n)))
theorem cPRi {l : List UInt8} (hl : l.length ≤ 2000000) {R : AV} (hR : noRef R = true) (h1 : okP l → lenP l → RingP (cubeL (FQ l) (spl 47 l).length) → R = .tup [.agg [cubeA (FQ l) (spl 47 l).length], i64 0])
  (h2 : ¬ (okP l ∧ lenP l ∧ RingP (cubeL (FQ l) (spl 47 l).length)) → R = .tup [.agg [nilA], i64 6]) : CallOK Tryd.prog 5 [sB l] R := by
 have w1 := spl_len 47 l
 have wp := spl_pos 47 l
 have cs := cSplit (l := l) (c := 47) (by omega)
 have hmm := Nat.mul_le_mul (Nat.le_trans w1 (Nat.succ_le_succ hl)) (Nat.le_trans w1 (Nat.succ_le_succ hl))
 have e1 : ((spl 47 l).length : Int) * ((spl 47 l).length : Int) = (((spl 47 l).length * (spl 47 l).length : Nat) : Int) := by omega
 have w2 : wrF (((spl 47 l).length * (spl 47 l).length : Nat) : Int) = (((spl 47 l).length * (spl 47 l).length : Nat) : Int) := zfu (by omega) (by omega)
 refine call_of (fn := Tryd.f5) (code := bodyOf Tryd.f5) Tryd.func5 rfl (by kernel_rfl) (hR) ?_
 intro sl hs
 have s0 : sl 0 = sB l := hs 0
 dsimp only [Tryd.f5, bodyOf, Option.getD]
 simp (maxSteps := 10000000) (disch := first | assumption | omega) only [go_sem, ↓reduceIte, Nat.reduceEqDiff, reduceCtorEq, Nat.reduceAdd, Nat.reduceMul, Nat.reduceLeDiff, zc, Int.reduceToNat, s0, tiSt, tiBy, tiSS, ti33]
 refine CLL_pure _ cs rfl rfl rfl ?_
 simp (maxSteps := 10000000) (disch := first | assumption | omega) only [go_sem, ↓reduceIte, Nat.reduceEqDiff, reduceCtorEq, Nat.reduceAdd, Nat.reduceMul, Nat.reduceLeDiff, zc, Int.reduceToNat, s0, tiSS, tiSt, impE_row, List.length_map, ti31, ti33]
 refine WK_for (fun i st => st.sl 2 = .ptr 4096 1 [] 0 ∧ st.ro 4096 1 = some (.bx [nilA]) ∧ st.sl 4 = .ref 8208 1 [] 0 (spl 47 l).length ∧ st.sl 15 = .ref 8208 1 [] 0 (spl 47 l).length ∧ st.ro 8208 1 = some (rowS (spl 47 l)) ∧ st.sl 5 = .ptr 8240 1 [] 0 ∧ st.sl 16 = i64 ((spl 47 l).length : Nat) ∧ st.sl 17 = i64 (i : Int) ∧ ((i = 0 ∧ st.ro 8240 1 = some (.bx [nilA])) ∨ (0 < i ∧ st.ro 8240 1 = some (.bx [.ref 53312 (st.gn 53312) [] 0 i]) ∧ st.ro 53312 (st.gn 53312) = some (.row (rws (fun x => .row (rws (fun y => .row (rws (fun z => i64 (FQ l x y z)) (spl 47 l).length)) (spl 47 l).length)) i)))) ∧ (1 ≤ st.gn 4096) ∧ (∀ x, x < i → okW ((spl 47 l).getD x []) ∧ (wdl l x).length = (spl 47 l).length * (spl 47 l).length)) ((spl 47 l).length) ?_ ?_ ?_
 ·simp only [↓za, ↓reduceIte, Nat.reduceEqDiff, zb, reduceCtorEq, rws_zero, s0]
  exact ⟨rfl, .inl trivial, Nat.le_refl _, fun x hx => absurd hx (Nat.not_lt_zero x)⟩
 ·rintro i sl ro gn hi ⟨s2, r4096, s4, s15, r8208, s5, s16, s17, q, hg, hq⟩
  dsimp only at s2 r4096 s4 s15 r8208 s5 s16 s17
  have hi' : (i : Int) < ((spl 47 l).length : Nat) := by omega
  dsimp only at q hg
  have hi2 : i + 1 ≤ 4294967296 := by omega
  have hp := spl_mem_len _ l (Nat.le_refl _) _ (getD_mem hi)
  have hw : (wdl l i).length ≤ ((spl 47 l).getD i []).length + 1 := spl_len 32 ((spl 47 l).getD i [])
  have hrl : (RP ((spl 47 l).getD i [])).length = (wdl l i).length := RP_len _
  by_cases ho : okW ((spl 47 l).getD i [])
  ·have c := cReadI (l := (spl 47 l).getD i []) (by omega) ho
   by_cases hL : (wdl l i).length = (spl 47 l).length * (spl 47 l).length
   ·have hL' : (((wdl l i).length : Nat) : Int) = (((spl 47 l).length * (spl 47 l).length : Nat) : Int) := by rw [hL]
    simp (maxSteps := 10000000) (disch := first | assumption | omega) only [go_sem, ↓reduceIte, Nat.reduceEqDiff, reduceCtorEq, Nat.reduceAdd, Nat.reduceMul, Nat.reduceLeDiff, zc, Int.reduceToNat, s2, r4096, s4, s15, r8208, s5, s16, s17, hi', hi, tiSt, tiSS, rowS_get hi, zfn]
    refine CLL_pure _ c rfl rfl rfl ?_
    simp (maxSteps := 10000000) (disch := first | assumption | omega) only [go_sem, ↓reduceIte, Nat.reduceEqDiff, reduceCtorEq, Nat.reduceAdd, Nat.reduceMul, Nat.reduceLeDiff, zc, Int.reduceToNat, s2, r4096, s4, s15, r8208, s5, s16, s17, hi', hi, tiSt, tiSS, imp_tL, List.length_map, hrl, ti31, ti33, e1, w2, eq_true hL', undef]
    refine CLL_in rfl _ _ _ (inChunk (xs := RP ((spl 47 l).getD i [])) wp Ur) ?_
    simp (maxSteps := 10000000) (disch := first | assumption | omega) only [go_sem, ↓reduceIte, Nat.reduceEqDiff, reduceCtorEq, Nat.reduceAdd, Nat.reduceMul, Nat.reduceLeDiff, zc, Int.reduceToNat, s2, r4096, s4, s15, r8208, s5, s16, s17, hi', hi, tiSS, ti31, ti33]
    have hg1 : ¬ 1 = gn 4096 + 1 := by omega
    generalize hst : St.mk _ _ _ = st0
    have s43 : st0.sl 43 = .fn 24 [.ptr 4096 (st0.gn 4096) [] 0, .ptr 4112 (st0.gn 4112) [] 0] := by rw [← hst]; simp only [↓za, ↓reduceIte, Nat.reduceEqDiff, zb, reduceCtorEq]
    have b1 : st0.ro 4096 (st0.gn 4096) = some (.bx [.ref 24592 (st0.gn 24592) [] 0 ((spl 47 l).length * (spl 47 l).length)]) := by rw [← hst]; simp only [↓za, ↓reduceIte, Nat.reduceEqDiff, zb, reduceCtorEq, hL]
    have b2 : st0.ro 4112 (st0.gn 4112) = some (.bx [i64 ((spl 47 l).length : Nat)]) := by rw [← hst]; simp only [↓za, ↓reduceIte, Nat.reduceEqDiff, zb, reduceCtorEq]
    have r2 : st0.ro 24592 (st0.gn 24592) = some (rowL (RP ((spl 47 l).getD i []))) := by rw [← hst]; simp only [↓za, ↓reduceIte, Nat.reduceEqDiff, zb, reduceCtorEq]
    have t10 : st0.sl 10 = .ptr 36880 (st0.gn 36880) [] 0 := by rw [← hst]; simp only [↓za, ↓reduceIte, Nat.reduceEqDiff, zb, reduceCtorEq]
    have r80 : st0.ro 36880 (st0.gn 36880) = some (.bx [.ref 36864 (st0.gn 36864) [] 0 0]) := by rw [← hst]; simp only [↓za, ↓reduceIte, Nat.reduceEqDiff, zb, reduceCtorEq]
    have r64 : st0.ro 36864 (st0.gn 36864) = some (.row []) := by rw [← hst]; simp only [↓za, ↓reduceIte, Nat.reduceEqDiff, zb, reduceCtorEq]
    have k2 : st0.sl 2 = .ptr 4096 1 [] 0 := by rw [← hst]; simp only [↓za, ↓reduceIte, Nat.reduceEqDiff, zb, reduceCtorEq, s2]
    have k4 : st0.sl 4 = .ref 8208 1 [] 0 (spl 47 l).length := by rw [← hst]; simp only [↓za, ↓reduceIte, Nat.reduceEqDiff, zb, reduceCtorEq, s4]
    have k15 : st0.sl 15 = .ref 8208 1 [] 0 (spl 47 l).length := by rw [← hst]; simp only [↓za, ↓reduceIte, Nat.reduceEqDiff, zb, reduceCtorEq, s15]
    have k5 : st0.sl 5 = .ptr 8240 1 [] 0 := by rw [← hst]; simp only [↓za, ↓reduceIte, Nat.reduceEqDiff, zb, reduceCtorEq, s5]
    have k16 : st0.sl 16 = i64 ((spl 47 l).length : Nat) := by rw [← hst]; simp only [↓za, ↓reduceIte, Nat.reduceEqDiff, zb, reduceCtorEq, s16]
    have k17 : st0.sl 17 = i64 (i : Int) := by rw [← hst]; simp only [↓za, ↓reduceIte, Nat.reduceEqDiff, zb, reduceCtorEq, s17]
    have f96 : st0.ro 4096 1 = some (.bx [nilA]) := by rw [← hst]; simp only [↓za, ↓reduceIte, Nat.reduceEqDiff, zb, reduceCtorEq, hg1, r4096]
    have f08 : st0.ro 8208 1 = some (rowS (spl 47 l)) := by rw [← hst]; simp only [↓za, ↓reduceIte, Nat.reduceEqDiff, zb, reduceCtorEq, r8208]
    have f40 : st0.ro 8240 1 = ro 8240 1 := by rw [← hst]; simp only [↓za, ↓reduceIte, Nat.reduceEqDiff, zb, reduceCtorEq]
    have f53 : st0.gn 53312 = gn 53312 := by rw [← hst]; simp only [↓za, ↓reduceIte, Nat.reduceEqDiff, zb, reduceCtorEq]
    have f54 : st0.ro 53312 (gn 53312) = ro 53312 (gn 53312) := by rw [← hst]; simp only [↓za, ↓reduceIte, Nat.reduceEqDiff, zb, reduceCtorEq]
    have g96 : 1 ≤ st0.gn 4096 := by rw [← hst]; simp only [↓za, ↓reduceIte, Nat.reduceEqDiff, zb, reduceCtorEq]; omega
    clear hst
    refine WK_rf _ (semC_chunk (n := (spl 47 l).length) (ta := 11) (s2 := 24592) (g2 := st0.gn 24592) wp (by omega) s43 (InvC st0 (RP ((spl 47 l).getD i [])) (spl 47 l).length) ⟨rfl, fun _ _ _ _ _ => ⟨rfl, rfl⟩, rfl, r80, r64⟩ ?_ (by kernel_rfl) ?_ ?_ ?_) ?_
    ·rintro pre st ⟨q0, qf, q2, q3, q4⟩
     refine ⟨q0, by rw [(qf 4096 (by decide) (by decide) (by decide) (by decide)).1]; exact b1, by rw [(qf 4112 (by decide) (by decide) (by decide) (by decide)).1]; exact b2, (RP ((spl 47 l).getD i [])).map i64, ?_⟩
     unfold Ro.cells
     rw [(qf 24592 (by decide) (by decide) (by decide) (by decide)).1, r2]
     rfl
    ·intro k h
     simpa [dstOK] using h
    ·intro l k t v W K ht hK
     exact assign_in ht hK
    ·rintro pre x ⟨sl, ro, gn⟩ ⟨q0, qf, q2, q3, q4⟩ hlen
     dsimp only at q0 qf q2 q3 q4
     have r24 : ro 24592 (st0.gn 24592) = some (rowL (RP ((spl 47 l).getD i []))) := by rw [(qf 24592 (by decide) (by decide) (by decide) (by decide)).1]; exact r2
     refine wk_ok (X := XX) _ ?_
     show WK XX _ [] _ _
     simp (maxSteps := 10000000) (disch := first | assumption | omega) only [go_sem, ↓reduceIte, Nat.reduceEqDiff, reduceCtorEq, Nat.reduceAdd, Nat.reduceMul, Nat.reduceLeDiff, zc, Int.reduceToNat, t10, q3, q4, r24]
     have hpx := piece_le x
     have hpl : (((RP ((spl 47 l).getD i [])).drop (x.val * (spl 47 l).length)).take (spl 47 l).length).length = (spl 47 l).length := by rw [List.length_take, List.length_drop]; omega
     have hpm : pre.length + 1 ≤ 4294967296 := by omega
     refine CLLD_q _ (cCloR (xs := ((RP ((spl 47 l).getD i [])).drop (x.val * (spl 47 l).length)).take (spl 47 l).length) (by rw [hpl]; unfold maxN; omega)) (.cons (exq_refO r24 (by decide)) .nil) rfl (noI_rowL _) ?_
     simp (maxSteps := 10000000) (disch := first | assumption | omega) only [go_sem, ↓reduceIte, Nat.reduceEqDiff, reduceCtorEq, Nat.reduceAdd, Nat.reduceMul, Nat.reduceLeDiff, zc, Int.reduceToNat, t10, q3, q4, r24, impE_row, List.length_map, hpm]
     refine FIN_of (by kernel_rfl) ?_
     simp (maxSteps := 10000000) (disch := first | assumption | omega) only [go_sem, ↓reduceIte, Nat.reduceEqDiff, reduceCtorEq, Nat.reduceAdd, Nat.reduceMul, Nat.reduceLeDiff, zc, Int.reduceToNat, t10, q3, q4, r24, List.length_map, hpm]
     refine ⟨rfl, fun s h1 h2 h3 h4 => ⟨?_, ?_⟩, ?_, ?_, ?_⟩
     ·funext g
      simp only [zdb, h1, h2, h3, h4, false_and, ↓reduceIte]
      rw [(qf s h1 h2 h3 h4).1]
     ·simp only [zda, h1, h2, h3, h4, ↓reduceIte]
      exact (qf s h1 h2 h3 h4).2
     ·simp only [↓za, ↓reduceIte, Nat.reduceEqDiff, zb, reduceCtorEq]
      exact q2
     ·simp only [↓za, ↓reduceIte, Nat.reduceEqDiff, zb, reduceCtorEq, List.length_append, List.length_cons, List.length_nil]
     ·simp only [↓za, ↓reduceIte, Nat.reduceEqDiff, zb, reduceCtorEq]
      rw [List.map_append, List.take_of_length_le (by rw [List.length_map]; exact Nat.le_refl _)]
      rfl
    ·rintro e ⟨sl', ro', gn'⟩ ⟨rfl, q0, qf, q2, q3, q4⟩
     dsimp only at q0 qf q2 q3 q4
     subst q0
     have hxl : (RP ((spl 47 l).getD i [])).length = (spl 47 l).length * (spl 47 l).length := hrl.trans hL
     have u40 : ro' 8240 1 = ro 8240 1 := by rw [(qf 8240 (by decide) (by decide) (by decide) (by decide)).1]; exact f40
     have u53 : gn' 53312 = gn 53312 := (qf 53312 (by decide) (by decide) (by decide) (by decide)).2.trans f53
     have u54 : ro' 53312 (gn 53312) = ro 53312 (gn 53312) := by rw [(qf 53312 (by decide) (by decide) (by decide) (by decide)).1]; exact f54
     have u96 : ro' 4096 1 = some (.bx [nilA]) := by rw [(qf 4096 (by decide) (by decide) (by decide) (by decide)).1]; exact f96
     have u08 : ro' 8208 1 = some (rowS (spl 47 l)) := by rw [(qf 8208 (by decide) (by decide) (by decide) (by decide)).1]; exact f08
     have ug : 1 ≤ gn' 4096 := by rw [(qf 4096 (by decide) (by decide) (by decide) (by decide)).2]; exact g96
     rw [uptoF_length (Nat.le_refl _)] at q3
     rw [upto_rows hxl] at q4
     have q5 : ro' 36864 (gn' 36864) = some (.row (rws (fun y => .row (rws (fun z => i64 (FQ l i y z)) (spl 47 l).length)) (spl 47 l).length)) := q4
     have hqn : ∀ x, x < i + 1 → okW ((spl 47 l).getD x []) ∧ (wdl l x).length = (spl 47 l).length * (spl 47 l).length := fun x hx => by
      rcases Nat.lt_or_eq_of_le (Nat.le_of_lt_succ hx) with h | h
      ·exact hq x h
      ·rw [h]; exact ⟨ho, hL⟩
     rcases q with ⟨hi0, qa⟩ | ⟨hi0, qa, qb⟩
     ·rw [qa] at u40
      simp (maxSteps := 10000000) (disch := first | assumption | omega) only [go_sem, ↓reduceIte, Nat.reduceEqDiff, reduceCtorEq, Nat.reduceAdd, Nat.reduceMul, Nat.reduceLeDiff, zc, Int.reduceToNat, k2, k4, k15, k5, k16, k17, t10, u40, u53, u54, u96, u08, q3, q5, ti31, ti33, hi2]
      subst hi0
      exact ⟨i64c (by omega), .inr ⟨by omega, rfl, rfl⟩, ug, hqn⟩
     ·rw [qa] at u40
      rw [qb] at u54
      simp (maxSteps := 10000000) (disch := first | assumption | omega) only [go_sem, ↓reduceIte, Nat.reduceEqDiff, reduceCtorEq, Nat.reduceAdd, Nat.reduceMul, Nat.reduceLeDiff, zc, Int.reduceToNat, k2, k4, k15, k5, k16, k17, t10, u40, u53, u54, u96, u08, q3, q5, ti31, ti33, hi2]
      exact ⟨i64c (by omega), .inr trivial, ug, hqn⟩
   ·have hL' : ¬ (((wdl l i).length : Nat) : Int) = (((spl 47 l).length * (spl 47 l).length : Nat) : Int) := by omega
    simp (maxSteps := 10000000) (disch := first | assumption | omega) only [go_sem, ↓reduceIte, Nat.reduceEqDiff, reduceCtorEq, Nat.reduceAdd, Nat.reduceMul, Nat.reduceLeDiff, zc, Int.reduceToNat, s2, r4096, s4, s15, r8208, s5, s16, s17, hi', hi, tiSt, tiSS, rowS_get hi, zfn]
    refine CLL_pure _ c rfl rfl rfl ?_
    simp (maxSteps := 10000000) (disch := first | assumption | omega) only [go_sem, ↓reduceIte, Nat.reduceEqDiff, reduceCtorEq, Nat.reduceAdd, Nat.reduceMul, Nat.reduceLeDiff, zc, Int.reduceToNat, s2, r4096, s4, s15, r8208, s5, s16, s17, hi', hi, tiSt, tiSS, imp_tL, List.length_map, hrl, ti31, ti33, e1, w2, eq_false hL', undef]
    rw [h2 fun h => hL (h.2.1 i hi)]
    simp only [zr, zb, retR, resL, outT, outL, zes, zez, oneV, zcp, zed, zfi, Ro.dl, St.ev, zhk, ↓za, ↓reduceIte, Nat.reduceEqDiff, Nat.reduceAdd, Nat.reduceLeDiff, ti31, ti33, s2, r4096]
  ·have c := cReadN (l := (spl 47 l).getD i []) (by omega) ho
   simp (maxSteps := 10000000) (disch := first | assumption | omega) only [go_sem, ↓reduceIte, Nat.reduceEqDiff, reduceCtorEq, Nat.reduceAdd, Nat.reduceMul, Nat.reduceLeDiff, zc, Int.reduceToNat, s2, r4096, s4, s15, r8208, s5, s16, s17, hi', hi, tiSt, tiSS, rowS_get hi, zfn]
   refine CLL_pure _ c rfl rfl rfl ?_
   simp (maxSteps := 10000000) (disch := first | assumption | omega) only [go_sem, ↓reduceIte, Nat.reduceEqDiff, reduceCtorEq, Nat.reduceAdd, Nat.reduceMul, Nat.reduceLeDiff, zc, Int.reduceToNat, s2, r4096, s4, s15, r8208, s5, s16, s17, hi', hi, tiSt, tiSS, imp_t2, List.length_map, ti31, ti33, e1, w2, undef]
   rw [h2 fun h => ho (h.1 i hi)]
   simp only [zr, zb, retR, resL, outT, outL, zes, zez, oneV, zcp, zed, zfi, Ro.dl, St.ev, zhk, ↓za, ↓reduceIte, Nat.reduceEqDiff, Nat.reduceAdd, Nat.reduceLeDiff, ti31, ti33, s2, r4096]
 ·rintro sl ro gn ⟨s2, r4096, s4, s15, r8208, s5, s16, s17, q, hg, hq⟩
  dsimp only at s2 r4096 s4 s15 r8208 s5 s16 s17
  have hi' : ¬ (((spl 47 l).length : Nat) : Int) < ((spl 47 l).length : Nat) := by omega
  dsimp only at q hg
  rcases q with ⟨hi0, q2⟩ | ⟨hi0, q2, q3⟩
  ·exact absurd wp (by omega)
  have hk : okP l := fun x hx => (hq x hx).1
  have hn : lenP l := fun x hx => (hq x hx).2
  have hrr : ∀ i, i < (cubeL (FQ l) (spl 47 l).length).length → (mat (cubeL (FQ l) (spl 47 l).length) i).length ≤ maxN ∧ ∀ j, j < (mat (cubeL (FQ l) (spl 47 l).length) i).length → (row (mat (cubeL (FQ l) (spl 47 l).length) i) j).length ≤ maxN := fun i hi => by
   have hi' : i < (spl 47 l).length := by simpa [cubeL, zfe] using hi
   rw [mat_cube hi', zfe]
   refine ⟨by unfold maxN; omega, fun j hj => ?_⟩
   rw [row_rws _ hj, zfe]
   unfold maxN
   omega
  by_cases hr : RingP (cubeL (FQ l) (spl 47 l).length)
  ·have c := c118 (isLLL_immC (FQ l) (spl 47 l).length) (by unfold cubeL; rw [zfe]; unfold maxN; omega) hrr (t := true) (by simp [hr])
   simp (maxSteps := 10000000) (disch := first | assumption | omega) only [go_sem, ↓reduceIte, Nat.reduceEqDiff, reduceCtorEq, Nat.reduceAdd, Nat.reduceMul, Nat.reduceLeDiff, zc, Int.reduceToNat, s2, r4096, s4, s15, r8208, s5, s16, s17, hi', tiSS, ti31, ti33, q2, q3]
   refine CLL_q _ c (.cons (exq_agg (.cons (exq_cube q3 (by decide)) .nil)) .nil) rfl rfl rfl ?_
   rw [h1 hk hn hr]
   simp (maxSteps := 10000000) (disch := first | assumption | omega) only [go_sem, ↓reduceIte, Nat.reduceEqDiff, reduceCtorEq, Nat.reduceAdd, Nat.reduceMul, Nat.reduceLeDiff, zc, Int.reduceToNat, s2, r4096, s4, s15, r8208, s5, s16, s17, hi', ti31, ti33, q2, q3]
   simp only [zr, zb, retR, resL, outT, outL, zes, zez, oneV, zcp, zed, zfi, Ro.dl, St.ev, zhk, ↓za, ↓reduceIte, Nat.reduceEqDiff, Nat.reduceAdd, Nat.reduceLeDiff, ti31, ti33, s2, q2, q3]
  ·have c := c118 (isLLL_immC (FQ l) (spl 47 l).length) (by unfold cubeL; rw [zfe]; unfold maxN; omega) hrr (t := false) (by simp [hr])
   simp (maxSteps := 10000000) (disch := first | assumption | omega) only [go_sem, ↓reduceIte, Nat.reduceEqDiff, reduceCtorEq, Nat.reduceAdd, Nat.reduceMul, Nat.reduceLeDiff, zc, Int.reduceToNat, s2, r4096, s4, s15, r8208, s5, s16, s17, hi', tiSS, ti31, ti33, q2, q3]
   refine CLL_q _ c (.cons (exq_agg (.cons (exq_cube q3 (by decide)) .nil)) .nil) rfl rfl rfl ?_
   rw [h2 fun h => hr h.2.2]
   simp (maxSteps := 10000000) (disch := first | assumption | omega) only [go_sem, ↓reduceIte, Nat.reduceEqDiff, reduceCtorEq, Nat.reduceAdd, Nat.reduceMul, Nat.reduceLeDiff, zc, Int.reduceToNat, s2, r4096, s4, s15, r8208, s5, s16, s17, hi', ti31, ti33, q2, q3]
   simp only [zr, zb, retR, resL, outT, outL, zes, zez, oneV, zcp, zed, zfi, Ro.dl, St.ev, zhk, ↓za, ↓reduceIte, Nat.reduceEqDiff, Nat.reduceAdd, Nat.reduceLeDiff, ti31, ti33, s2, q2, q3]
end Go.Proofs.YteaaangdibabnaaDoor
/- The law of ParseRing. -/
namespace Go.Proofs.YteaaangdibabnaaDoor
open Go.RowKit
set_option maxRecDepth 1000000
theorem FVr_at {l : List UInt8} (hn : lenP l) {i j k : Nat} (hi : i < (spl 47 l).length) (hj : j < (spl 47 l).length) (hk : k < (spl 47 l).length) : FVr l i j k = atI (RV ((spl 47 l).getD i [])) (j * (spl 47 l).length + k) := by
 have h := hn i hi
 have hp := piece_le (⟨j, hj⟩ : Fin (spl 47 l).length)
 have hp' : j * (spl 47 l).length + (spl 47 l).length ≤ (spl 47 l).length * (spl 47 l).length := hp
 have h' : (spl 32 ((spl 47 l).getD i [])).length = (spl 47 l).length * (spl 47 l).length := h
 unfold FVr RV
 rw [atI_map (by omega)]
theorem numL_of {xs : List Int} {n : Nat} (hx : xs.length = n * n) (h : ∀ j, j < n → ∀ k, k < n → 0 ≤ atI xs (j * n + k) ∧ atI xs (j * n + k) ≤ 1000) : numL xs := by
 intro k
 unfold num
 rcases Nat.lt_or_ge k xs.length with hk | hk
 ·rw [hx] at hk
  have hn : 0 < n := by
   rcases Nat.eq_zero_or_pos n with e | e
   ·subst e; omega
   ·exact e
  have h1 := h (k / n) (Nat.div_lt_of_lt_mul hk) (k % n) (Nat.mod_lt _ hn)
  rw [Nat.div_add_mod' k n] at h1
  omega
 ·have : atI xs k = 0 := by unfold atI; rw [List.getD_eq_getElem?_getD, List.getElem?_eq_none hk]; rfl
  omega
theorem cube_bnd {F : Nat → Nat → Nat → Int} {n : Nat} (h : RingP (cubeL F n)) : n ≤ 16 ∧ ∀ i j k, i < n → j < n → k < n → 0 ≤ F i j k ∧ F i j k ≤ 1000 := by
 have hl : (cubeL F n).length = n := zfe _ _
 obtain ⟨_, h16, hc⟩ := h.1
 rw [hl] at h16 hc
 refine ⟨h16, fun i j k hi hj hk => ?_⟩
 have := ((hc i hi).2 j hj).2 k hk
 rw [at3_cube hi hj hk] at this
 exact this
theorem pr_eq {l : List UInt8} (hn : lenP l) (ho : ∀ i, i < (spl 47 l).length → RP ((spl 47 l).getD i []) = RV ((spl 47 l).getD i [])) : ∀ i j k, i < (spl 47 l).length → j < (spl 47 l).length → k < (spl 47 l).length → FQ l i j k = FVr l i j k := by
 intro i j k hi hj hk
 rw [FVr_at hn hi hj hk, ← ho i hi]
 rfl
theorem noRef_tagR (F : Nat → Nat → Nat → Int) (n : Nat) (z : Int) : noRef (.tup [.agg [cubeA F n], i64 z]) = true := by
 simp only [noRef, noRefL, Bool.and_true]
 exact noRef_cube F n
theorem pr_both {l : List UInt8} (hl : l.length ≤ 2000000) :
  (∃ F n, n ≤ 16 ∧ CallOK Tryd.prog 4 [sB l] (.tup [.agg [cubeA F n], i64 0]) ∧ CallOK Tryd.prog 5 [sB l] (.tup [.agg [cubeA F n], i64 0])) ∨
  (CallOK Tryd.prog 4 [sB l] (.tup [.agg [nilA], i64 6]) ∧ CallOK Tryd.prog 5 [sB l] (.tup [.agg [nilA], i64 6])) := by
 by_cases hn : lenP l
 ·have hV : ∀ i, i < (spl 47 l).length → (RV ((spl 47 l).getD i [])).length = (spl 47 l).length * (spl 47 l).length := fun i hi => (RV_len _).trans (hn i hi)
  have hP : ∀ i, i < (spl 47 l).length → (RP ((spl 47 l).getD i [])).length = (spl 47 l).length * (spl 47 l).length := fun i hi => (RP_len _).trans (hn i hi)
  by_cases hr : RingP (cubeL (FVr l) (spl 47 l).length)
  ·obtain ⟨h16, hb⟩ := cube_bnd hr
   have nv : ∀ i, i < (spl 47 l).length → okW ((spl 47 l).getD i []) ∧ RP ((spl 47 l).getD i []) = RV ((spl 47 l).getD i []) := fun i hi => nv_ok (numL_of (hV i hi) fun j hj k hk => by
    have := hb i j k hi hj hk
    rw [FVr_at hn hi hj hk] at this
    exact this)
   have e := pr_eq hn fun i hi => (nv i hi).2
   have e1 : cubeL (FQ l) (spl 47 l).length = cubeL (FVr l) (spl 47 l).length := cubeL_congr e
   have e2 : cubeA (FQ l) (spl 47 l).length = cubeA (FVr l) (spl 47 l).length := cube_congr e
   refine .inl ⟨FVr l, (spl 47 l).length, h16, cPRs hl (noRef_tagR _ _ _) (fun _ _ => rfl) (fun h => absurd ⟨hn, hr⟩ h), cPRi hl (noRef_tagR _ _ _) (fun _ _ _ => by rw [e2]) (fun h => absurd ⟨fun i hi => (nv i hi).1, hn, by rw [e1]; exact hr⟩ h)⟩
  ·refine .inr ⟨cPRs hl rfl (fun _ h => absurd h hr) (fun _ => rfl), cPRi hl rfl (fun ho _ h => ?_) (fun _ => rfl)⟩
   exfalso
   obtain ⟨h16, hb⟩ := cube_bnd h
   have np : ∀ i, i < (spl 47 l).length → RP ((spl 47 l).getD i []) = RV ((spl 47 l).getD i []) := fun i hi => (np_ok (ho i hi) (numL_of (hP i hi) fun j hj k hk => hb i j k hi hj hk)).symm
   exact hr (by rw [← cubeL_congr (pr_eq hn np)]; exact h)
 ·exact .inr ⟨cPRs hl rfl (fun h => absurd h hn) (fun _ => rfl), cPRi hl rfl (fun _ h => absurd h hn) (fun _ => rfl)⟩
theorem argsX_r2 {ro : Ro} {s g s' g' m : Nat} {F G : Nat → Nat → Nat → Int} (h1 : ro s g = some (cubeA F m)) (h2 : ro s' g' = some (cubeA G m)) :
  argsX ro [.agg [.ref s g [] 0 m], .agg [.ref s' g' [] 0 m]] = [.agg [immC F m], .agg [immC G m]] := by
 have hp : pureL [.agg [.ref s g [] 0 m], .agg [.ref s' g' [] 0 m]] = false := rfl
 unfold argsX
 rw [hp, if_neg Bool.false_ne_true]
 show [AV.agg [ex ro 7 _], AV.agg [ex ro 7 _]] = _
 rw [ex_cube h1 3, ex_cube h2 3]
theorem argsX_r1 {ro : Ro} {s g m : Nat} {F : Nat → Nat → Nat → Int} {v : Value} (h1 : ro s g = some (cubeA F m)) :
  argsX ro [.agg [.ref s g [] 0 m], .sc v] = [.agg [immC F m], .sc v] := by
 have hp : pureL [.agg [.ref s g [] 0 m], .sc v] = false := rfl
 unfold argsX
 rw [hp, if_neg Bool.false_ne_true]
 show [AV.agg [ex ro 7 _], AV.sc v] = _
 rw [ex_cube h1 3]
theorem in48n {ro : Ro} {gn : Nat → Nat} {k : Int} : InOK Tryd.prog 18 [nilA, i64 k] ro gn (i64 k) ro gn := by
 refine in_of (fn := Tryd.f18) (code := bodyOf Tryd.f18) Tryd.func18 rfl (by kernel_rfl) ?_
 intro sl hs
 have s0 : sl 0 = nilA := hs 0
 have s1 : sl 1 = i64 k := hs 1
 simp only [Tryd.f18, bodyOf, Option.getD, go_sem, ↓reduceIte, Nat.reduceEqDiff, reduceCtorEq, Nat.reduceAdd, Nat.reduceMul, Nat.reduceLeDiff, ti2, ti3, ti4, ti31, s0, s1]
 refine WK_for (fun j st => st.sl 0 = nilA ∧ st.sl 1 = i64 k ∧ st.sl 5 = i64 (j : Int) ∧ st.ro = ro ∧ st.gn = gn) 0 ?_ ?_ ?_
 ·simp only [↓za, ↓reduceIte, Nat.reduceEqDiff, zb, reduceCtorEq, s0, s1, Int.natCast_zero]
 ·intro j sl ro' gn' hj; omega
 ·rintro sl ro' gn' ⟨s0, s1, s5, rfl, rfl⟩
  dsimp only at s0 s1 s5
  simp (maxSteps := 10000000) (disch := first | omega | assumption) only [go_sem, ↓reduceIte, Nat.reduceEqDiff, reduceCtorEq, Nat.reduceAdd, Nat.reduceMul, Nat.reduceLeDiff, zc, ti2, ti3, ti4, ti31, s0, s1, s5, kLen1, Int.natCast_zero, Int.lt_irrefl]
  refine ⟨.inr rfl, ⟨_, rfl, ?_⟩, rfl, rfl⟩
  simp only [↓za, ↓reduceIte, Nat.reduceEqDiff, zb, reduceCtorEq, oneOrA]
theorem c49n {k : Int} : CallOK Tryd.prog 19 [nilA, i64 k] (i64 k) := by
 refine call_of (fn := Tryd.f19) (code := bodyOf Tryd.f19) Tryd.func19 rfl (by kernel_rfl) rfl ?_
 intro sl hs
 have s0 : sl 0 = nilA := hs 0
 have s1 : sl 1 = i64 k := hs 1
 simp only [Tryd.f19, bodyOf, Option.getD, go_sem, ↓reduceIte, Nat.reduceEqDiff, reduceCtorEq, Nat.reduceAdd, Nat.reduceMul, Nat.reduceLeDiff, ti2, ti3, ti4, ti31, s0, s1]
 refine WK_for (fun j st => st.sl 0 = nilA ∧ st.sl 1 = i64 k ∧ st.sl 5 = i64 (j : Int)) 0 ?_ ?_ ?_
 ·simp only [↓za, ↓reduceIte, Nat.reduceEqDiff, zb, reduceCtorEq, s0, s1, Int.natCast_zero]
 ·intro j sl ro' gn' hj; omega
 ·rintro sl ro' gn' ⟨s0, s1, s5⟩
  dsimp only at s0 s1 s5
  simp (maxSteps := 10000000) (disch := first | omega | assumption) only [go_sem, ↓reduceIte, Nat.reduceEqDiff, reduceCtorEq, Nat.reduceAdd, Nat.reduceMul, Nat.reduceLeDiff, zc, ti2, ti3, ti4, ti31, s0, s1, s5, kLen1, Int.natCast_zero, Int.lt_irrefl]
  simp only [zr, zb, retR, resL, outT, outL, zes, zez, oneV, zcp, zed, zfi, Ro.dl, St.ev, zhk, ↓za, ↓reduceIte, Nat.reduceEqDiff, Nat.reduceAdd, Nat.reduceLeDiff]
theorem in18n {ro : Ro} {gn : Nat → Nat} {k : Int} : InOK Tryd.prog 7 [.agg [nilA], i64 k] ro gn (i64 k) (upr ro 4096 (gn 4096 + 1) (.bx [nilA])) (upg gn 4096 (gn 4096 + 1)) := by
 refine in_of (fn := Tryd.f7) (code := bodyOf Tryd.f7) Tryd.func7 rfl (by kernel_rfl) ?_
 intro sl hs
 have s0 : sl 0 = .agg [nilA] := hs 0
 have s1 : sl 1 = i64 k := hs 1
 simp only [Tryd.f7, bodyOf, Option.getD, go_sem, ↓reduceIte, Nat.reduceEqDiff, reduceCtorEq, Nat.reduceAdd, Nat.reduceMul, Nat.reduceLeDiff, ti2, ti3, ti4, ti31, ti33, s0, s1]
 refine CLL_in rfl _ _ _ in48n ?_
 simp (maxSteps := 10000000) (disch := first | omega | assumption) only [go_sem, ↓reduceIte, Nat.reduceEqDiff, reduceCtorEq, Nat.reduceAdd, Nat.reduceMul, Nat.reduceLeDiff, zc, ti2, ti3, ti4, ti31, ti33, s0, s1]
 refine ⟨.inr rfl, ⟨_, rfl, ?_⟩, rfl, rfl⟩
 simp only [↓za, ↓reduceIte, Nat.reduceEqDiff, zb, reduceCtorEq, oneOrA]
theorem c19n {k : Int} (hk : 0 ≤ k) : CallOK Tryd.prog 8 [.agg [nilA], i64 k] (i64 k) := by
 refine call_of (fn := Tryd.f8) (code := bodyOf Tryd.f8) Tryd.func8 rfl (by kernel_rfl) rfl ?_
 intro sl hs
 have s0 : sl 0 = .agg [nilA] := hs 0
 have s1 : sl 1 = i64 k := hs 1
 simp only [Tryd.f8, bodyOf, Option.getD, go_sem, ↓reduceIte, Nat.reduceEqDiff, reduceCtorEq, Nat.reduceAdd, Nat.reduceMul, Nat.reduceLeDiff, ti2, ti3, ti4, ti31, ti33, s0, s1]
 refine CLL_pure _ c49n rfl rfl rfl ?_
 have hge : ¬ (k < 0) := by omega
 simp (maxSteps := 10000000) (disch := first | omega | assumption) only [go_sem, ↓reduceIte, Nat.reduceEqDiff, reduceCtorEq, Nat.reduceAdd, Nat.reduceMul, Nat.reduceLeDiff, zc, ti2, ti3, ti4, ti31, ti33, s0, s1, hge]
 simp only [zr, zb, retR, resL, outT, outL, zes, zez, oneV, zcp, zed, zfi, Ro.dl, St.ev, zhk, ↓za, ↓reduceIte, Nat.reduceEqDiff, Nat.reduceAdd, Nat.reduceLeDiff]
theorem impE_tupN1 (b : Nat) (gn : Nat → Nat) (v x : Value) : impE b gn (.tup [.agg [.sc v], .sc x]) = ⟨.tup [.agg [.sc v], .sc x], none, [], []⟩ := nr _
theorem cLPR {l : List UInt8} (hl : l.length < 2^63) : CallOK Tryd.prog 3 [sB l] (bo true) := by
 refine call_of (fn := Tryd.f3) (code := bodyOf Tryd.f3) Tryd.func3 rfl (by kernel_rfl) (rfl) ?_
 intro sl hs
 have s0 : sl 0 = sB l := hs 0
 by_cases hlen : (1048576 : Int) < (l.length : Nat)
 ·dsimp only [Tryd.f3, bodyOf, Option.getD]
  simp (maxSteps := 10000000) (disch := first | assumption | omega) only [go_sem, ↓reduceIte, Nat.reduceEqDiff, reduceCtorEq, Nat.reduceAdd, Nat.reduceMul, Nat.reduceLeDiff, zc, Int.reduceToNat, s0, tiSt, kLen_sB, eq_true hlen]
  simp only [zr, zb, retR, resL, outT, outL, zes, zez, oneV, zcp, zed, zfi, Ro.dl, St.ev, zhk, ↓za, ↓reduceIte, Nat.reduceEqDiff, Nat.reduceAdd, Nat.reduceLeDiff]
 rcases pr_both (l := l) (by omega) with ⟨F, m, hm, hL, hI⟩ | ⟨hL, hI⟩
 ·have hmN : m ≤ maxN := by unfold maxN; omega
  have e17 : CallOK Tryd.prog 6 [.agg [immC F m], .agg [immC F m]] (bo true) := c17g (immC_sh (fun _ _ => none) F m) (fun _ _ _ => rfl) (fun _ => rfl) (c47 hmN)
  have hge : ¬ ((1 : Int) + (m * m * m : Nat) < 0) := by omega
  dsimp only [Tryd.f3, bodyOf, Option.getD]
  simp (maxSteps := 10000000) (disch := first | assumption | omega) only [go_sem, ↓reduceIte, Nat.reduceEqDiff, reduceCtorEq, Nat.reduceAdd, Nat.reduceMul, Nat.reduceLeDiff, zc, Int.reduceToNat, s0, tiSt, kLen_sB, eq_false hlen, ti33, ti34]
  refine CLL_pure _ hL rfl rfl rfl ?_
  simp (maxSteps := 10000000) (disch := first | assumption | omega) only [go_sem, ↓reduceIte, Nat.reduceEqDiff, reduceCtorEq, Nat.reduceAdd, Nat.reduceMul, Nat.reduceLeDiff, zc, Int.reduceToNat, s0, impE_tupR, ti33, ti34]
  refine CLL_pure _ hI rfl rfl rfl ?_
  simp (maxSteps := 10000000) (disch := first | assumption | omega) only [go_sem, ↓reduceIte, Nat.reduceEqDiff, reduceCtorEq, Nat.reduceAdd, Nat.reduceMul, Nat.reduceLeDiff, zc, Int.reduceToNat, s0, impE_tupR, ti33, ti34]
  refine CLL_args _ e17 (argsX_r2 Ur Ur) rfl rfl rfl ?_
  simp (maxSteps := 10000000) (disch := first | assumption | omega) only [go_sem, ↓reduceIte, Nat.reduceEqDiff, reduceCtorEq, Nat.reduceAdd, Nat.reduceMul, Nat.reduceLeDiff, zc, Int.reduceToNat, s0, ti33, ti34]
  refine CLL_in rfl _ _ _ (in18 (F := F) (n := m) (k := 1) Ur Ur hm (by decide) (by decide)) ?_
  simp (maxSteps := 10000000) (disch := first | assumption | omega) only [go_sem, ↓reduceIte, Nat.reduceEqDiff, reduceCtorEq, Nat.reduceAdd, Nat.reduceMul, Nat.reduceLeDiff, zc, Int.reduceToNat, s0, ti33, ti34]
  refine CLL_args _ (c19 hm (k := 1) (by decide) (by decide)) (argsX_r1 Ur) rfl rfl rfl ?_
  simp (maxSteps := 10000000) (disch := first | assumption | omega) only [go_sem, ↓reduceIte, Nat.reduceEqDiff, reduceCtorEq, Nat.reduceAdd, Nat.reduceMul, Nat.reduceLeDiff, zc, Int.reduceToNat, s0, ti33, ti34, hge]
  refine CLL_pure _ hI rfl rfl rfl ?_
  simp (maxSteps := 10000000) (disch := first | assumption | omega) only [go_sem, ↓reduceIte, Nat.reduceEqDiff, reduceCtorEq, Nat.reduceAdd, Nat.reduceMul, Nat.reduceLeDiff, zc, Int.reduceToNat, s0, impE_tupR, ti33, ti34]
  refine CLL_args _ e17 (argsX_r2 Ur Ur) rfl rfl rfl ?_
  simp (maxSteps := 10000000) (disch := first | assumption | omega) only [go_sem, ↓reduceIte, Nat.reduceEqDiff, reduceCtorEq, Nat.reduceAdd, Nat.reduceMul, Nat.reduceLeDiff, zc, Int.reduceToNat, s0, ti33, ti34]
  refine CLL_args _ (c19 hm (k := 1) (by decide) (by decide)) (argsX_r1 Ur) rfl rfl rfl ?_
  simp (maxSteps := 10000000) (disch := first | assumption | omega) only [go_sem, ↓reduceIte, Nat.reduceEqDiff, reduceCtorEq, Nat.reduceAdd, Nat.reduceMul, Nat.reduceLeDiff, zc, Int.reduceToNat, s0, ti33, ti34, hge]
  simp only [zr, zb, retR, resL, outT, outL, zes, zez, oneV, zcp, zed, zfi, Ro.dl, St.ev, zhk, ↓za, ↓reduceIte, Nat.reduceEqDiff, Nat.reduceAdd, Nat.reduceLeDiff]
 ·have e17 : CallOK Tryd.prog 6 [.agg [nilA], .agg [nilA]] (bo true) := c17g rfl (fun _ _ _ => rfl) (fun _ => rfl) c47n
  have e19 := c19n (k := 1) (by decide)
  have hge : ¬ ((1 : Int) < 0) := by decide
  dsimp only [Tryd.f3, bodyOf, Option.getD]
  simp (maxSteps := 10000000) (disch := first | assumption | omega) only [go_sem, ↓reduceIte, Nat.reduceEqDiff, reduceCtorEq, Nat.reduceAdd, Nat.reduceMul, Nat.reduceLeDiff, zc, Int.reduceToNat, s0, tiSt, kLen_sB, eq_false hlen, ti33, ti34]
  refine CLL_pure _ hL rfl rfl rfl ?_
  simp (maxSteps := 10000000) (disch := first | assumption | omega) only [go_sem, ↓reduceIte, Nat.reduceEqDiff, reduceCtorEq, Nat.reduceAdd, Nat.reduceMul, Nat.reduceLeDiff, zc, Int.reduceToNat, s0, impE_tupN1, ti33, ti34]
  refine CLL_pure _ hI rfl rfl rfl ?_
  simp (maxSteps := 10000000) (disch := first | assumption | omega) only [go_sem, ↓reduceIte, Nat.reduceEqDiff, reduceCtorEq, Nat.reduceAdd, Nat.reduceMul, Nat.reduceLeDiff, zc, Int.reduceToNat, s0, impE_tupN1, ti33, ti34]
  refine CLL_pure _ e17 rfl rfl rfl ?_
  simp (maxSteps := 10000000) (disch := first | assumption | omega) only [go_sem, ↓reduceIte, Nat.reduceEqDiff, reduceCtorEq, Nat.reduceAdd, Nat.reduceMul, Nat.reduceLeDiff, zc, Int.reduceToNat, s0, ti33, ti34]
  refine CLL_in rfl _ _ _ in18n ?_
  simp (maxSteps := 10000000) (disch := first | assumption | omega) only [go_sem, ↓reduceIte, Nat.reduceEqDiff, reduceCtorEq, Nat.reduceAdd, Nat.reduceMul, Nat.reduceLeDiff, zc, Int.reduceToNat, s0, ti33, ti34]
  refine CLL_pure _ e19 rfl rfl rfl ?_
  simp (maxSteps := 10000000) (disch := first | assumption | omega) only [go_sem, ↓reduceIte, Nat.reduceEqDiff, reduceCtorEq, Nat.reduceAdd, Nat.reduceMul, Nat.reduceLeDiff, zc, Int.reduceToNat, s0, ti33, ti34, hge]
  refine CLL_pure _ hI rfl rfl rfl ?_
  simp (maxSteps := 10000000) (disch := first | assumption | omega) only [go_sem, ↓reduceIte, Nat.reduceEqDiff, reduceCtorEq, Nat.reduceAdd, Nat.reduceMul, Nat.reduceLeDiff, zc, Int.reduceToNat, s0, impE_tupN1, ti33, ti34]
  refine CLL_pure _ e17 rfl rfl rfl ?_
  simp (maxSteps := 10000000) (disch := first | assumption | omega) only [go_sem, ↓reduceIte, Nat.reduceEqDiff, reduceCtorEq, Nat.reduceAdd, Nat.reduceMul, Nat.reduceLeDiff, zc, Int.reduceToNat, s0, ti33, ti34]
  refine CLL_pure _ e19 rfl rfl rfl ?_
  simp (maxSteps := 10000000) (disch := first | assumption | omega) only [go_sem, ↓reduceIte, Nat.reduceEqDiff, reduceCtorEq, Nat.reduceAdd, Nat.reduceMul, Nat.reduceLeDiff, zc, Int.reduceToNat, s0, ti33, ti34, hge]
  simp only [zr, zb, retR, resL, outT, outL, zes, zez, oneV, zcp, zed, zfi, Ro.dl, St.ev, zhk, ↓za, ↓reduceIte, Nat.reduceEqDiff, Nat.reduceAdd, Nat.reduceLeDiff]
theorem cLPRs {s : ByteArray} (hs : s.size < 2^63) : CallOK Tryd.prog 3 [.sc (.string s)] (bo true) := by
 have e : s = ⟨s.data.toList.toArray⟩ := by cases s; simp
 have hl : s.data.toList.length < 2^63 := by rw [Array.length_toList]; exact hs
 rw [e]
 exact cLPR hl
end Go.Proofs.YteaaangdibabnaaDoor
