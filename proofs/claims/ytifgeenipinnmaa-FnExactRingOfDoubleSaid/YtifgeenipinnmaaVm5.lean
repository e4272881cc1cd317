/- The abstract machine: memory. What the roots own, and how it goes on over a step. -/
import Derived.Test.YtifgeenipinnmaaVm4
set_option linter.all false
namespace Go.Proofs.Ytifgeenipinnmaa
open Go.RowKit

def hd (x : Nat × Nat) : AV → Value → Prop
  | .row cs, v => ∃ cap, v = .slice (some ⟨x.1, x.2, none⟩) cs.length cap
  | .bx _, v => v = .pointer (some ⟨x.1, x.2, none⟩)
  | _, _ => True

structure Sim (w0 : World) (A0 : Nat → Prop) (F0 : List Nat) (c : Cx) (Φ : Nat → Nat → List Nat) (R : List Nat) : Prop where
  rt : ∀ s g a, c.ro s g = some a → g ≤ c.gn s ∧ ∃ v, Rel c a v (Φ s g) ∧ hd (c.L s g) a v
  no : ∀ s g, c.ro s g = none → Φ s g = []
  dj : ∀ s g s' g', ¬(s = s' ∧ g = g') → ∀ x, x ∈ Φ s g → x ∉ Φ s' g'
  own : ∀ s g x, x ∈ Φ s g → c.A x ∧ ¬ A0 x ∧ (w0.heap.size ≤ x ∨ x ∈ F0)
  rd : ∀ s g x, x ∈ Φ s g → x ∉ R
  rown : ∀ x, x ∈ R → c.A x ∧ ¬ A0 x ∧ (w0.heap.size ≤ x ∨ x ∈ F0)
  a0 : ∀ x, A0 x → c.A x
  al : ∀ x, c.A x → x < c.w.heap.size
  bw : Blw w0 c.w F0

theorem Rel.bx_inv {c : Cx} {cs v F} (h : Rel c (.bx cs) v F) :
    ∃ g b cap us F', v = .pointer (some ⟨g, b, none⟩) ∧ F = g :: F' ∧ RelL c cs us F' ∧ ownB c.w g b us cap ∧ g ∉ F' := by
  cases h with
  | @bx _ _ G _ us F g b cap h1 h2 h3 h4 h =>
    cases h
    exact ⟨g, b, cap, us, F, rfl, by simp, h1, h2, h3⟩

theorem Rel.mk_bx {c : Cx} {cs us F} (g b cap : Nat) (h1 : RelL c cs us F) (h2 : ownB c.w g b us cap) (h3 : g ∉ F) :
    Rel c (.bx cs) (.pointer (some ⟨g, b, none⟩)) (g :: F) := by
  simpa using RelL.bx g b cap h1 h2 h3 (by simp) .nil

/-- What lies at a place that is there: where, and its cells. -/
theorem Sim.place {w0 A0 F0 c Φ R} (h : Sim w0 A0 F0 c Φ R) {s g p cs} (ha : c.ro.cells s g p = some cs) :
    ∃ x us F cap, locp c.w p (c.L s g) = some x ∧ RelL c cs us F ∧ ownB c.w x.1 x.2 us cap ∧ x.1 ∉ F ∧ x.1 ∈ Φ s g ∧ (∀ y, y ∈ F → y ∈ Φ s g) ∧
      (∀ w' : World, (∀ y, y ∈ Φ s g → w'.heap[y]? = c.w.heap[y]?) → locp w' p (c.L s g) = some x) := by
  cases p with
  | nil =>
    simp only [Ro.cells] at ha
    cases hr : c.ro s g with
    | none => simp [hr] at ha
    | some a =>
      simp only [hr] at ha
      obtain ⟨_, v, hv, hh⟩ := h.rt s g a hr
      cases a <;> simp [blk] at ha
      case row cs' =>
        subst ha
        obtain ⟨g1, b1, cap, us, F', rfl, hF, h1, h2, h3⟩ := Rel.row_inv hv
        obtain ⟨cap', e⟩ := hh
        simp only [Value.slice.injEq, Option.some.injEq, Addr.mk.injEq] at e
        obtain ⟨⟨e1, e2, _⟩, _, _⟩ := e
        refine ⟨c.L s g, us, F', cap, rfl, h1, by rw [← e1, ← e2]; exact h2, by rw [← e1]; exact h3, by rw [hF, ← e1]; simp, fun y hy => by rw [hF]; simp [hy], fun _ _ => rfl⟩
      case bx cs' =>
        subst ha
        obtain ⟨g1, b1, cap, us, F', rfl, hF, h1, h2, h3⟩ := Rel.bx_inv hv
        simp only [hd, Value.pointer.injEq, Option.some.injEq, Addr.mk.injEq] at hh
        obtain ⟨e1, e2, _⟩ := hh
        refine ⟨c.L s g, us, F', cap, rfl, h1, by rw [← e1, ← e2]; exact h2, by rw [← e1]; exact h3, by rw [hF, ← e1]; simp, fun y hy => by rw [hF]; simp [hy], fun _ _ => rfl⟩
  | cons i q =>
    simp only [Ro.cells, Ro.at] at ha
    cases hr : c.ro s g with
    | none => simp [hr] at ha
    | some a =>
      simp only [hr] at ha
      cases hq : ath (i :: q) a with
      | none => simp [hq] at ha
      | some a1 =>
        simp only [hq] at ha
        cases a1 <;> simp at ha
        subst ha
        obtain ⟨_, v, hv, hh⟩ := h.rt s g a hr
        cases a <;> simp [ath] at hq
        rename_i cs1 cs0
        obtain ⟨cap', rfl⟩ := hh
        obtain ⟨x, cap1, F1, hx, hrel, hs, hw⟩ := place_of (i :: q) hv (by simpa [ath] using hq)
        obtain ⟨g1, b1, cap, us, F', e, hF, h1, h2, h3⟩ := Rel.row_inv hrel
        simp only [Value.slice.injEq, Option.some.injEq, Addr.mk.injEq] at e
        obtain ⟨⟨e1, e2, _⟩, _, _⟩ := e
        refine ⟨x, us, F', cap, hx, h1, by rw [e1, e2]; exact h2, by rw [e1]; exact h3, hs _ (by rw [hF, e1]; simp), fun y hy => hs y (by rw [hF]; simp [hy]), hw⟩

/-- The cell that a pointer leads to. -/
theorem Sim.cell {w0 A0 F0 c Φ R} (h : Sim w0 A0 F0 c Φ R) {s g p cs i a} (ha : c.ro.cells s g p = some cs) (hi : cs[i]? = some a) :
    ∃ x u F, locp c.w p (c.L s g) = some x ∧ c.w.cell? ⟨x.1, x.2 + i, none⟩ = some u ∧ Rel c a u F ∧ (∀ y, y ∈ F → y ∈ Φ s g) := by
  obtain ⟨x, us, F, cap, hx, h1, h2, h3, h4, h5, h6⟩ := h.place ha
  obtain ⟨l, r, vl, u, vr, Fl, Fa, Fr, rfl, hl, rfl, hvl, rfl, _, hA, _⟩ := h1.nth hi
  refine ⟨x, u, Fa, hx, h2.cell (by rw [← hvl]; simp), hA, fun y hy => h5 y (by simp [hy])⟩

/-- A value without aliases lifts to one that a slot may hold: an owned row as an alias of its place. -/
theorem Sim.lift {w0 A0 F0 c Φ R} (_h : Sim w0 A0 F0 c Φ R) {s g p cs i a x} (hg : g ≤ c.gn s) (ha : c.ro.cells s g p = some cs) (hi : cs[i]? = some a)
    (hx : locp c.w p (c.L s g) = some x) {u : Value} (hu : c.w.cell? ⟨x.1, x.2 + i, none⟩ = some u) {F : List Nat} (hr : Rel c a u F) : Rel c (lift s g (p ++ [i]) a) u [] := by
  cases a <;> simp only [Go.Proofs.Ytifgeenipinnmaa.lift]
  case row ds =>
    obtain ⟨g1, b1, cap, us, F', rfl, hF, h1, h2, h3⟩ := Rel.row_inv hr
    refine .ref s g (p ++ [i]) 0 ds.length _ hg (fun cs' hcs' => ?_) .nil
    have hap : ∀ (p : List Nat) (x0 : Nat × Nat), locp c.w p x0 = some x → locp c.w (p ++ [i]) x0 = some (g1, b1) := by
      intro p
      induction p with
      | nil => intro x0 e; simp only [locp, Option.some.injEq] at e; subst e; simp [locp, hu]
      | cons j q ih =>
        intro x0 e
        simp only [locp, List.cons_append] at e ⊢
        split at e
        · split at e
          · rename_i hs
            simp only [hs, if_true]
            exact ih _ e
          · cases e
        · cases e
    refine ⟨(g1, b1), hap p _ hx, ?_, ?_⟩
    · obtain ⟨arr, E, k1, k2, k3, k4, k5⟩ := h2
      exact ⟨b1, cap, arr, E, by rw [h1.len], .inl rfl, k1, k2, by rw [h1.len]; exact k3, k4⟩
    · have hat : ∀ (p : List Nat) (a0 : AV) (l : List AV), ath p a0 = some (.row l) → l[i]? = some (.row ds) → ath (p ++ [i]) a0 = some (.row ds) := by
        intro p
        induction p with
        | nil => intro a0 l e hl; simp only [ath, Option.some.injEq] at e; subst e; simp [ath, hl]
        | cons j q ih =>
          intro a0 l e hl
          cases a0 <;> simp only [ath, List.cons_append] at e ⊢
          case row l0 =>
            cases hj : l0[j]? with
            | none => simp [hj] at e
            | some y => simp only [hj] at e; exact ih y l e hl
          all_goals cases e
      have hrow : c.ro.cells s g (p ++ [i]) = some ds ∨ c.ro.cells s g (p ++ [i]) = none := by
        cases p with
        | nil =>
          simp only [Ro.cells] at ha
          cases hr0 : c.ro s g with
          | none => simp [hr0] at ha
          | some a0 =>
            simp only [hr0] at ha
            cases a0 <;> simp [blk] at ha
            case row l => subst ha; left; simp [Ro.cells, Ro.at, hr0, ath, hi]
            case bx l => right; simp [Ro.cells, Ro.at, hr0, ath]
        | cons j q =>
          left
          simp only [Ro.cells, Ro.at] at ha
          cases hr0 : c.ro s g with
          | none => simp [hr0] at ha
          | some a0 =>
            simp only [hr0] at ha
            cases hq : ath (j :: q) a0 with
            | none => simp [hq] at ha
            | some a1 =>
              simp only [hq] at ha
              cases a1 <;> simp at ha
              subst ha
              have := hat (j :: q) a0 _ hq hi
              simp only [List.cons_append] at this
              simp [Ro.cells, Ro.at, hr0, this]
      rcases hrow with e | e
      · rw [e] at hcs'; simp only [Option.some.injEq] at hcs'; subst hcs'; omega
      · rw [e] at hcs'; cases hcs'
  case sc v => cases hr; exact .sc _ .nil
  case dead => exact .dead _ .nil
  case imm cs' =>
    cases hr with
    | imm g b cap h1 h2 h3 h => exact .imm g b cap h1 h2 h3 .nil
  case bx cs' => exact .dead _ .nil
  case ref => cases hr with | ref s g p off n v h1 h2 h => exact .ref _ _ _ _ _ _ h1 h2 .nil
  case ptr => cases hr with | ptr s g p i v h1 h2 h => exact .ptr _ _ _ _ _ h1 h2 .nil
  case iptr cs' => cases hr with | iptr g b h1 h2 h => exact .iptr g b h1 h2 .nil
  case agg cs' => exact .dead _ .nil
  case tup cs' => exact .dead _ .nil
  case fn f cs' => cases hr with | fn f h1 h => exact .fn f h1 .nil

theorem cells_upr_ne {ro : Ro} {s g s' g' : Nat} {a : AV} {p : List Nat} (h : ¬(s' = s ∧ g' = g)) : Ro.cells (upr ro s g a) s' g' p = Ro.cells ro s' g' p := by
  have e : upr ro s g a s' g' = ro s' g' := by simp [upr, h]
  cases p <;> simp [Ro.cells, Ro.at, e]

/-- What keeps a place: the blocks of its root are as they were. -/
theorem Sim.hdr_keep {w w' : World} {x : Nat × Nat} {off n : Nat} {v : Value} (h : w'.heap[x.1]? = w.heap[x.1]?) (hh : hdr w x.1 (x.2 + off) n v) : hdr w' x.1 (x.2 + off) n v := by
  obtain ⟨b', cap, arr, E, h1, h2, h3, r⟩ := hh
  exact ⟨b', cap, arr, E, h1, h2, h.trans h3, r⟩

/-- The keeping law's premise on places, where the roots that stay keep their blocks. -/
theorem Sim.keepP {w0 A0 F0 c Φ R} (h : Sim w0 A0 F0 c Φ R) (c' : Cx)
    (hk : ∀ s g p cs, g ≤ c.gn s → c'.ro.cells s g p = some cs → ∃ cs0, c.ro.cells s g p = some cs0 ∧ cs0.length ≤ cs.length ∧ c'.L s g = c.L s g ∧ (∀ y, y ∈ Φ s g → c'.w.heap[y]? = c.w.heap[y]?)) :
    ∀ s g p cs, g ≤ c.gn s → c'.ro.cells s g p = some cs → ∃ cs0, c.ro.cells s g p = some cs0 ∧ cs0.length ≤ cs.length ∧
      ∀ x, locp c.w p (c.L s g) = some x → locp c'.w p (c'.L s g) = some x ∧ ∀ off n v, hdr c.w x.1 (x.2 + off) n v → hdr c'.w x.1 (x.2 + off) n v := by
  intro s g p cs hg hcs
  obtain ⟨cs0, h0, hl, hL, hb⟩ := hk s g p cs hg hcs
  refine ⟨cs0, h0, hl, fun x hx => ?_⟩
  obtain ⟨x', us, F, cap, hx', h1, h2, h3, h4, h5, h6⟩ := h.place h0
  rw [hx] at hx'
  simp only [Option.some.injEq] at hx'
  subst hx'
  exact ⟨by rw [hL]; exact h6 _ hb, fun off n v hh => Sim.hdr_keep (hb _ h4) hh⟩

/-- A root is given up: what it held is at hand. -/
theorem Sim.take {w0 A0 F0 c Φ R s g cs} (h : Sim w0 A0 F0 c Φ R) (hr : c.ro s g = some (.row cs)) :
    ∃ c' Φ' v, c' = { c with ro := upr c.ro s g .dead } ∧ Keep c c' ∧ Sim w0 A0 F0 c' Φ' (R ++ Φ s g) ∧ Rel c' (.row cs) v (Φ s g) ∧ hd (c.L s g) (.row cs) v := by
  obtain ⟨hg, v, hv, hh⟩ := h.rt s g _ hr
  have hP := h.keepP { c with ro := upr c.ro s g .dead } (fun s' g' p cs' hg' hcs' => by
    by_cases e : s' = s ∧ g' = g
    · obtain ⟨rfl, rfl⟩ := e
      exfalso
      revert hcs'
      cases p <;> simp [Ro.cells, Ro.at, upr, blk, ath]
    · rw [cells_upr_ne e] at hcs'
      exact ⟨cs', hcs', Nat.le_refl _, rfl, fun _ _ => rfl⟩)
  have k : Keep c { c with ro := upr c.ro s g .dead } := ⟨Nat.le_refl _, fun _ _ h => h, fun _ _ _ => rfl, fun _ => Nat.le_refl _, hP⟩
  refine ⟨_, fun s' g' => if s' = s ∧ g' = g then [] else Φ s' g', v, rfl, k, ?_, hv.mono k (fun _ _ => rfl), hh⟩
  constructor
  · intro s' g' a ha
    by_cases e : s' = s ∧ g' = g
    · obtain ⟨rfl, rfl⟩ := e
      simp [upr] at ha
      subst ha
      exact ⟨hg, v, by simpa using RelL.dead v .nil, trivial⟩
    · simp only [upr, e, if_false] at ha
      obtain ⟨h1, u, h2, h3⟩ := h.rt s' g' a ha
      exact ⟨h1, u, by simp only [e, if_false]; exact h2.mono k (fun _ _ => rfl), h3⟩
  · intro s' g' ha
    by_cases e : s' = s ∧ g' = g
    · simp [e]
    · simp only [upr, e, if_false] at ha ⊢
      exact h.no s' g' ha
  · intro s1 g1 s2 g2 hne x hx
    by_cases e1 : s1 = s ∧ g1 = g
    · simp [e1] at hx
    · by_cases e2 : s2 = s ∧ g2 = g
      · simp [e2]
      · simp only [e1, e2, if_false] at hx ⊢
        exact h.dj _ _ _ _ hne x hx
  · intro s' g' x hx
    by_cases e : s' = s ∧ g' = g
    · simp [e] at hx
    · simp only [e, if_false] at hx
      exact h.own s' g' x hx
  · intro s' g' x hx
    by_cases e : s' = s ∧ g' = g
    · simp [e] at hx
    · simp only [e, if_false] at hx
      simp only [List.mem_append, not_or]
      exact ⟨h.rd s' g' x hx, h.dj _ _ _ _ e x hx⟩
  · intro x hx
    simp only [List.mem_append] at hx
    rcases hx with hx | hx
    · exact h.rown x hx
    · exact h.own s g x hx
  · exact h.a0
  · exact h.al
  · exact h.bw

/-- THE WORLD GOES ON: only what is at hand, and new blocks, may differ. -/
theorem frozen_of {w w' : World} (h : ∀ k : Nat, (w'.heap[k]? = w.heap[k]?) ∨ ((∃ c E, w'.heap[k]? = some (Obj.cells c E (0, 0))) ∧ (w.heap[k]? = none ∨ ∃ c E, w.heap[k]? = some (Obj.cells c E (0, 0))))) (a : Addr) : w'.frozen? a = w.frozen? a := by
  unfold World.frozen?
  rcases h a.block with h | ⟨⟨c, E, h1⟩, h2 | ⟨c2, E2, h2⟩⟩
  · rw [h]
  · rw [h1, h2]; simp
  · rw [h1, h2]

theorem Sim.wchg {w0 A0 F0 c Φ R} (h : Sim w0 A0 F0 c Φ R) (w' : World) (R' : List Nat) (hos : w'.os = c.w.os) (htp : w'.tape = c.w.tape) (hout : w'.output = c.w.output) (hsz : c.w.heap.size ≤ w'.heap.size) (hfr : ∀ a, w'.frozen? a = c.w.frozen? a)
    (hb : ∀ b, b < c.w.heap.size → b ∉ R → w'.heap[b]? = c.w.heap[b]?) (hR : ∀ x, x ∈ R' → x ∈ R ∨ (c.w.heap.size ≤ x ∧ x < w'.heap.size)) :
    ∃ c' : Cx, c'.w = w' ∧ c'.ro = c.ro ∧ c'.gn = c.gn ∧ c'.L = c.L ∧ (∀ x, c'.A x ↔ c.A x ∨ x ∈ R') ∧ Keep c c' ∧ Sim w0 A0 F0 c' Φ R' := by
  have hΦ : ∀ s g x, x ∈ Φ s g → w'.heap[x]? = c.w.heap[x]? := fun s g x hx => hb x (h.al x (h.own s g x hx).1) (h.rd s g x hx)
  have hP := h.keepP ⟨w', fun x => c.A x ∨ x ∈ R', c.ro, c.gn, c.L⟩ (fun s g p cs _ hcs => ⟨cs, hcs, Nat.le_refl _, rfl, fun y hy => hΦ s g y hy⟩)
  have k : Keep c ⟨w', fun x => c.A x ∨ x ∈ R', c.ro, c.gn, c.L⟩ := by
    refine ⟨hsz, fun b hlt hA => ?_, fun b hlt hA => hb b hlt (fun hr => hA (h.rown b hr).1), fun _ => Nat.le_refl _, hP⟩
    rcases hA with hA | hA
    · exact hA
    · rcases hR b hA with hr | ⟨hr, _⟩
      · exact (h.rown b hr).1
      · omega
  refine ⟨⟨w', fun x => c.A x ∨ x ∈ R', c.ro, c.gn, c.L⟩, rfl, rfl, rfl, rfl, fun _ => Iff.rfl, k, ?_⟩
  constructor
  · intro s g a ha
    obtain ⟨h1, v, h2, h3⟩ := h.rt s g a ha
    exact ⟨h1, v, h2.mono k (fun b hx => hΦ s g b hx), h3⟩
  · exact h.no
  · exact h.dj
  · intro s g x hx
    obtain ⟨h1, h2, h3⟩ := h.own s g x hx
    exact ⟨.inl h1, h2, h3⟩
  · intro s g x hx hr
    rcases hR x hr with hr | ⟨hr, _⟩
    · exact h.rd s g x hx hr
    · have := h.al x (h.own s g x hx).1; omega
  · intro x hx
    rcases hR x hx with hr | ⟨hr, _⟩
    · obtain ⟨h1, h2, h3⟩ := h.rown x hr
      exact ⟨.inl h1, h2, h3⟩
    · refine ⟨.inr hx, fun hA => ?_, .inl (Nat.le_trans h.bw.size hr)⟩
      have := h.al x (h.a0 x hA); omega
  · intro x hx; exact .inl (h.a0 x hx)
  · intro x hx
    rcases hx with hx | hx
    · exact Nat.lt_of_lt_of_le (h.al x hx) hsz
    · rcases hR x hx with hr | ⟨_, hr⟩
      · exact Nat.lt_of_lt_of_le (h.al x (h.rown x hr).1) hsz
      · exact hr
  · refine ⟨hos.trans h.bw.os, htp.trans h.bw.tape, hout.trans h.bw.output, Nat.le_trans h.bw.size hsz, fun k hk hf => ?_, fun a => (hfr a).trans (h.bw.fr a)⟩
    have hk' : k < c.w.heap.size := Nat.lt_of_lt_of_le hk h.bw.size
    show w'.heap[k]? = _
    rw [hb k hk' (fun hr => ?_)]
    · exact h.bw.block k hk hf
    · rcases (h.rown k hr).2.2 with h1 | h1
      · omega
      · exact hf h1

/-- What is at hand becomes a root. -/
theorem Sim.renew {w0 A0 F0 c Φ F R a v} (h : Sim w0 A0 F0 c Φ (F ++ R)) (s : Nat) (x : Nat × Nat) (hv : Rel c a v F) (hx : hd x a v) (hd' : ∀ y, y ∈ F → y ∉ R) :
    ∃ c' Φ', c' = { c with ro := upr c.ro s (c.gn s + 1) a, gn := upg c.gn s (c.gn s + 1), L := fun s' g' => if s' = s ∧ g' = c.gn s + 1 then x else c.L s' g' } ∧ Keep c c' ∧ Sim w0 A0 F0 c' Φ' R ∧ c'.L s (c.gn s + 1) = x := by
  let c' : Cx := { c with ro := upr c.ro s (c.gn s + 1) a, gn := upg c.gn s (c.gn s + 1), L := fun s' g' => if s' = s ∧ g' = c.gn s + 1 then x else c.L s' g' }
  have hgn : ∀ s', c.gn s' ≤ c'.gn s' := by
    intro s'
    show c.gn s' ≤ upg c.gn s (c.gn s + 1) s'
    simp only [upg]
    split
    · rename_i e; subst e; omega
    · exact Nat.le_refl _
  have hP := h.keepP c' (fun s' g' p cs' hg' hcs' => by
    have e : ¬(s' = s ∧ g' = c.gn s + 1) := by rintro ⟨rfl, rfl⟩; omega
    have hcs'' : c.ro.cells s' g' p = some cs' := by rwa [show c'.ro = upr c.ro s (c.gn s + 1) a from rfl, cells_upr_ne e] at hcs'
    exact ⟨cs', hcs'', Nat.le_refl _, by show (if _ then _ else _) = _; rw [if_neg e], fun y hy => rfl⟩)
  have k : Keep c c' := ⟨Nat.le_refl _, fun _ _ h => h, fun _ _ _ => rfl, hgn, hP⟩
  refine ⟨c', fun s' g' => if s' = s ∧ g' = c.gn s + 1 then F else Φ s' g', rfl, k, ?_, by simp [c']⟩
  have hro : ∀ s' g' b, c'.ro s' g' = b ↔ (if s' = s ∧ g' = c.gn s + 1 then some a else c.ro s' g') = b := fun _ _ _ => Iff.rfl
  constructor
  · intro s' g' b hb
    rw [hro] at hb
    by_cases e : s' = s ∧ g' = c.gn s + 1
    · rw [if_pos e] at hb
      simp only [Option.some.injEq] at hb
      subst hb
      obtain ⟨rfl, rfl⟩ := e
      refine ⟨by show _ ≤ upg c.gn s' _ s'; simp [upg], v, ?_, ?_⟩
      · simp only [and_self, if_true]; exact hv.mono k (fun _ _ => rfl)
      · show hd (if _ then _ else _) a v
        simpa using hx
    · rw [if_neg e] at hb
      obtain ⟨h1, u, h2, h3⟩ := h.rt s' g' b hb
      refine ⟨Nat.le_trans h1 (hgn s'), u, ?_, ?_⟩
      · simp only [e, if_false]; exact h2.mono k (fun _ _ => rfl)
      · show hd (if _ then _ else _) b u
        rw [if_neg e]; exact h3
  · intro s' g' hb
    rw [hro] at hb
    by_cases e : s' = s ∧ g' = c.gn s + 1
    · rw [if_pos e] at hb; cases hb
    · rw [if_neg e] at hb
      simp only [e, if_false]; exact h.no s' g' hb
  · intro s1 g1 s2 g2 hne y hy
    by_cases e1 : s1 = s ∧ g1 = c.gn s + 1
    · by_cases e2 : s2 = s ∧ g2 = c.gn s + 1
      · exact absurd ⟨e1.1.trans e2.1.symm, e1.2.trans e2.2.symm⟩ hne
      · simp only [e1, and_self, if_true, e2, if_false] at hy ⊢
        exact fun hy2 => h.rd _ _ y hy2 (by simp [hy])
    · by_cases e2 : s2 = s ∧ g2 = c.gn s + 1
      · simp only [e1, if_false, e2, and_self, if_true] at hy ⊢
        exact fun hy2 => h.rd _ _ y hy (by simp [hy2])
      · simp only [e1, e2, if_false] at hy ⊢
        exact h.dj _ _ _ _ hne y hy
  · intro s' g' y hy
    by_cases e : s' = s ∧ g' = c.gn s + 1
    · simp only [e, and_self, if_true] at hy
      exact h.rown y (by simp [hy])
    · simp only [e, if_false] at hy
      exact h.own s' g' y hy
  · intro s' g' y hy
    by_cases e : s' = s ∧ g' = c.gn s + 1
    · simp only [e, and_self, if_true] at hy
      exact hd' y hy
    · simp only [e, if_false] at hy
      exact fun hr => h.rd s' g' y hy (by simp [hr])
  · intro y hy; exact h.rown y (by simp [hy])
  · exact h.a0
  · exact h.al
  · exact h.bw

theorem length_setL {α : Type} : ∀ (i : Nat) (as cs : List α), (setL i as cs).length = cs.length
  | _, [], cs => rfl
  | i, a :: as, cs => by rw [setL, length_setL (i + 1) as (cs.set i a), List.length_set]

theorem getElem?_setL {α : Type} : ∀ (i : Nat) (as cs : List α) (j : Nat), (setL i as cs)[j]? = if j < i then cs[j]? else if j < i + as.length ∧ j < cs.length then as[j - i]? else cs[j]?
  | i, [], cs, j => by
    simp only [setL, List.length_nil, Nat.add_zero]
    split
    · rfl
    · split
      · omega
      · rfl
  | i, a :: as, cs, j => by
    rw [setL, getElem?_setL (i + 1) as (cs.set i a) j]
    simp only [List.length_set, List.length_cons]
    by_cases h1 : j < i
    · rw [if_pos (by omega), if_pos h1, List.getElem?_set]
      rw [if_neg (by omega)]
    · rw [if_neg h1]
      by_cases h2 : j = i
      · subst h2
        rw [if_pos (by omega), List.getElem?_set]
        by_cases h3 : j < cs.length
        · simp [h3]
        · simp [h3]
      · rw [if_neg (by omega)]
        by_cases h3 : j < i + 1 + as.length ∧ j < cs.length
        · rw [if_pos h3, if_pos (by omega)]
          have : j - i = (j - (i + 1)) + 1 := by omega
          rw [this, List.getElem?_cons_succ]
        · rw [if_neg h3, if_neg (by omega), List.getElem?_set, if_neg (by omega)]

/-- Cells laid over cells. -/
theorem RelL.setL {c : Cx} : ∀ (as : List AV) (us' : List Value) (i : Nat) {cs : List AV} {us : List Value} {F : List Nat}, RelL c cs us F → RelL c as us' [] → i + as.length ≤ cs.length →
    ∃ F', RelL c (Go.Proofs.Ytifgeenipinnmaa.setL i as cs) (Go.Proofs.Ytifgeenipinnmaa.setL i us' us) F' ∧ ∀ x, x ∈ F' → x ∈ F
  | [], us', i, cs, us, F, h, ha, _ => by
    obtain ⟨rfl, _⟩ := RelL.nilF ha
    exact ⟨F, h, fun _ h => h⟩
  | a :: as, us', i, cs, us, F, h, ha, hl => by
    obtain ⟨v, vs', Fa, G', rfl, hG, hav, har, _⟩ := RelL.uncons ha
    simp only [List.length_cons] at hl
    have hnil : Fa = [] ∧ G' = [] := by simpa using hG.symm
    obtain ⟨rfl, rfl⟩ := hnil
    obtain ⟨a0, ha0⟩ : ∃ a0, cs[i]? = some a0 := ⟨_, List.getElem?_eq_getElem (show i < cs.length by omega)⟩
    obtain ⟨l, r, vl, u, vr, Fl, Fx, Fr, rfl, hli, rfl, hvl, rfl, hL, hX, hR, d1, d2, d3⟩ := h.nth ha0
    have e1 : (l ++ a0 :: r).set i a = l ++ a :: r := by rw [← hli]; simp
    have e2 : (vl ++ u :: vr).set i v = vl ++ v :: vr := by rw [← hvl]; simp
    have hnew : RelL c (l ++ a :: r) (vl ++ v :: vr) (Fl ++ ([] ++ Fr)) := RelL.append hL (RelL.cons hav hR (by simp)) (fun x hx h => d2 x hx (by simpa using h))
    obtain ⟨F', h1, h2⟩ := RelL.setL as vs' (i + 1) hnew har (by simp only [List.length_append, List.length_cons] at hl ⊢; omega)
    refine ⟨F', by simpa only [Go.Proofs.Ytifgeenipinnmaa.setL, e1, e2] using h1, fun x hx => ?_⟩
    have := h2 x hx
    simp only [List.nil_append, List.mem_append] at this ⊢
    rcases this with h | h
    · exact .inl h
    · exact .inr (.inr h)

theorem isRow_cell {a : AV} (h : zez a = true) : ∀ ds, a ≠ .row ds := by
  intro ds e; subst e; cases h

/-- A place turned: which rows lie below, and where. -/
theorem put_loc {c : Cx} {w' : World} (f : List AV → List AV) : ∀ (p : List Nat) {a : AV} {g b n cap : Nat} {F : List Nat} {cs1 : List AV}, Rel c a (.slice (some ⟨g, b, none⟩) n cap) F → ath p a = some (.row cs1) →
    ∀ (x : Nat × Nat), locp c.w p (g, b) = some x → (f cs1).length = cs1.length →
    (∀ y, y ∈ F → y ≠ x.1 → w'.heap[y]? = c.w.heap[y]?) →
    (∀ j ds, (f cs1)[j]? = some (.row ds) → cs1[j]? = some (.row ds) ∧ w'.cell? ⟨x.1, x.2 + j, none⟩ = c.w.cell? ⟨x.1, x.2 + j, none⟩) →
      ∀ p' ds, ath p' (putR f p a) = some (.row ds) → ∃ ds0, ath p' a = some (.row ds0) ∧ ds0.length = ds.length ∧ locp w' p' (g, b) = locp c.w p' (g, b)
  | [], a, g, b, n, cap, F, cs1, h, hp, x, hx, hlen, hblk, hrow => by
    simp only [ath, Option.some.injEq] at hp
    subst hp
    simp only [locp, Option.some.injEq] at hx
    subst hx
    obtain ⟨g', b', cap', us, F1, hv, hF, h1, h2, h3⟩ := Rel.row_inv h
    simp only [Value.slice.injEq, Option.some.injEq, Addr.mk.injEq] at hv
    obtain ⟨⟨rfl, rfl, _⟩, rfl, rfl⟩ := hv
    intro p' ds hp'
    cases p' with
    | nil =>
      simp only [putR, ath, Option.some.injEq, AV.row.injEq] at hp'
      subst hp'
      exact ⟨cs1, rfl, hlen.symm, rfl⟩
    | cons j q =>
      simp only [putR, ath] at hp'
      cases hj : (f cs1)[j]? with
      | none => simp [hj] at hp'
      | some d =>
        simp only [hj] at hp'
        have hd : ∃ ds1, d = .row ds1 := by
          cases q with
          | nil => simp only [ath, Option.some.injEq] at hp'; exact ⟨_, hp'⟩
          | cons i q => cases d <;> simp [ath] at hp'; exact ⟨_, rfl⟩
        obtain ⟨ds1, rfl⟩ := hd
        obtain ⟨e1, e2⟩ := hrow j ds1 hj
        refine ⟨ds, by simp [ath, e1, hp'], rfl, ?_⟩
        obtain ⟨l, r, vl, u, vr, Fl, Fx, Fr, rfl, hli, rfl, hvl, rfl, hL, hX, hR, d1, d2, d3⟩ := h1.nth e1
        obtain ⟨g2, b2, cap2, us2, F2, rfl, rfl, _, _, _⟩ := Rel.row_inv hX
        have hc : c.w.cell? ⟨g, b + j, none⟩ = some (.slice (some ⟨g2, b2, none⟩) us2.length cap2) := h2.cell (by rw [← hvl]; simp)
        simp only [locp, e2, hc, if_true]
        obtain ⟨x', cap1, F1, hx', _, _, hw⟩ := place_of q hX hp'
        rw [hx']
        refine hw _ fun y hy => hblk y (by rw [hF]; simp only [List.mem_cons, List.mem_append]; exact .inr (.inr (.inl (by simpa using hy)))) ?_
        rintro rfl
        exact h3 (by simp only [List.mem_append]; exact .inr (.inl hy))
  | i :: q, a, g, b, n, cap, F, cs1, h, hp, x, hx, hlen, hblk, hrow => by
    cases a with
    | row cs =>
      simp only [ath] at hp
      cases hi : cs[i]? with
      | none => simp [hi] at hp
      | some ci =>
        simp only [hi] at hp
        obtain ⟨g', b', cap', us, F', hv, hF, h1, h2, h3⟩ := Rel.row_inv h
        simp only [Value.slice.injEq, Option.some.injEq, Addr.mk.injEq] at hv
        obtain ⟨⟨rfl, rfl, _⟩, rfl, rfl⟩ := hv
        obtain ⟨l, r, vl, vi, vr, Fl, Fa, Fr, rfl, hl, rfl, hvl, rfl, hL, ha, hR, d1, d2, d3⟩ := h1.nth hi
        have hcirow : ∃ ds, ci = .row ds := by
          cases q with
          | nil => simp only [ath, Option.some.injEq] at hp; exact ⟨_, hp⟩
          | cons j q => cases ci <;> simp [ath] at hp; exact ⟨_, rfl⟩
        obtain ⟨ds, rfl⟩ := hcirow
        obtain ⟨g2, b2, cap2, us2, F2, rfl, rfl, _, _, _⟩ := Rel.row_inv ha
        have hc : c.w.cell? ⟨g, b + i, none⟩ = some (.slice (some ⟨g2, b2, none⟩) us2.length cap2) := h2.cell (by rw [← hvl]; simp)
        simp only [locp, hc, if_true] at hx
        obtain ⟨x', _, F1, hx', hr', hs', _⟩ := place_of q ha hp
        rw [hx] at hx'
        simp only [Option.some.injEq] at hx'
        subst hx'
        have hxF : x.1 ∈ F1 := by
          obtain ⟨g5, b5, cap5, us5, F5, e, hF5, _, _, _⟩ := Rel.row_inv hr'
          simp only [Value.slice.injEq, Option.some.injEq, Addr.mk.injEq] at e
          rw [hF5, e.1.1]; simp
        have hxa := hs' _ hxF
        have hgx : g ≠ x.1 := by
          rintro rfl
          exact h3 (by simp only [List.mem_append]; exact .inr (.inl hxa))
        have hFsub : ∀ y, y ∈ Fl ∨ y ∈ (g2 :: F2) ∨ y ∈ Fr → y ∈ F := by
          intro y hy
          rw [hF]
          simp only [List.mem_cons, List.mem_append] at hy ⊢
          rcases hy with hy | hy | hy
          · exact .inr (.inl hy)
          · exact .inr (.inr (.inl hy))
          · exact .inr (.inr (.inr hy))
        have pa := put_loc f q ha hp x hx hlen (fun y hy hne => hblk y (hFsub y (.inr (.inl hy))) hne) hrow
        have eset : (l ++ AV.row ds :: r).set i (putR f q (.row ds)) = l ++ putR f q (.row ds) :: r := by rw [← hl]; simp
        have hgh : w'.heap[g]? = c.w.heap[g]? := hblk g (by rw [hF]; simp) hgx
        have hput : putR f (i :: q) (.row (l ++ AV.row ds :: r)) = .row (l ++ putR f q (.row ds) :: r) := by
          simp only [putR, hi, eset]
        rw [hput]
        intro p' ds' hp'
        cases p' with
        | nil =>
          simp only [ath, Option.some.injEq, AV.row.injEq] at hp'
          subst hp'
          exact ⟨_, rfl, by simp, rfl⟩
        | cons j q' =>
          simp only [ath] at hp' ⊢
          by_cases hji : j = i
          · subst hji
            have e1 : (l ++ putR f q (.row ds) :: r)[j]? = some (putR f q (.row ds)) := by rw [← hl]; simp
            simp only [e1] at hp'
            obtain ⟨ds0, e2, e3, e4⟩ := pa q' ds' hp'
            refine ⟨ds0, by simp only [hi]; exact e2, e3, ?_⟩
            have hc' : w'.cell? ⟨g, b + j, none⟩ = some (.slice (some ⟨g2, b2, none⟩) us2.length cap2) := by rw [cell_of_heap hgh]; exact hc
            simp only [locp, hc, hc', if_true]
            exact e4
          · have e1 : (l ++ putR f q (.row ds) :: r)[j]? = (l ++ AV.row ds :: r)[j]? := by
              rw [← eset, List.getElem?_set, if_neg (fun e => hji e.symm)]
            rw [e1] at hp'
            cases hj : (l ++ AV.row ds :: r)[j]? with
            | none => simp [hj] at hp'
            | some d =>
              simp only [hj] at hp' ⊢
              refine ⟨ds', hp', rfl, ?_⟩
              have hdr : ∃ ds1, d = .row ds1 := by
                cases q' with
                | nil => simp only [ath, Option.some.injEq] at hp'; exact ⟨_, hp'⟩
                | cons i q => cases d <;> simp [ath] at hp'; exact ⟨_, rfl⟩
              obtain ⟨ds1, rfl⟩ := hdr
              have hXj : ∃ u3 F3, Rel c (.row ds1) u3 F3 ∧ (vl ++ Value.slice (some ⟨g2, b2, none⟩) us2.length cap2 :: vr)[j]? = some u3 ∧ (∀ y, y ∈ F3 → y ∈ Fl ∨ y ∈ Fr) := by
                by_cases hlt : j < i
                · have hj' : l[j]? = some (.row ds1) := by rw [List.getElem?_append_left (by omega)] at hj; exact hj
                  obtain ⟨l3, r3, vl3, u3, vr3, Fl3, Fx3, Fr3, e5, hli3, e6, hvl3, e7, _, hX3, _, _, _, _⟩ := hL.nth hj'
                  refine ⟨u3, Fx3, hX3, ?_, fun y hy => .inl (by rw [e7]; simp [hy])⟩
                  rw [List.getElem?_append_left (by rw [hvl]; omega), e6, ← hvl3]; simp
                · have hj' : r[j - (i + 1)]? = some (.row ds1) := by
                    rw [List.getElem?_append_right (by omega), hl] at hj
                    have : j - i = (j - (i + 1)) + 1 := by omega
                    rw [this, List.getElem?_cons_succ] at hj; exact hj
                  obtain ⟨l3, r3, vl3, u3, vr3, Fl3, Fx3, Fr3, e5, hli3, e6, hvl3, e7, _, hX3, _, _, _, _⟩ := hR.nth hj'
                  refine ⟨u3, Fx3, hX3, ?_, fun y hy => .inr (by rw [e7]; simp [hy])⟩
                  rw [List.getElem?_append_right (by omega), hvl]
                  have : j - i = (j - (i + 1)) + 1 := by omega
                  rw [this, List.getElem?_cons_succ, e6, ← hvl3]; simp
              obtain ⟨u3, F3, hX3, hu3, hF3⟩ := hXj
              obtain ⟨g4, b4, cap4, us4, F4, rfl, rfl, _, _, _⟩ := Rel.row_inv hX3
              have hcj : c.w.cell? ⟨g, b + j, none⟩ = some (.slice (some ⟨g4, b4, none⟩) us4.length cap4) := h2.cell hu3
              have hcj' : w'.cell? ⟨g, b + j, none⟩ = some (.slice (some ⟨g4, b4, none⟩) us4.length cap4) := by rw [cell_of_heap hgh]; exact hcj
              simp only [locp, hcj, hcj', if_true]
              obtain ⟨x', cap1, F1', hx', _, _, hw⟩ := place_of q' hX3 hp'
              rw [hx']
              refine hw _ fun y hy => hblk y (hFsub y ?_) ?_
              · rcases hF3 y hy with h | h
                · exact .inl h
                · exact .inr (.inr h)
              · rintro rfl
                rcases hF3 _ hy with h | h
                · exact d1 _ h hxa
                · exact d3 _ hxa h
    | _ => simp [ath] at hp

/-- A PLACE TURNED: its row has other cells of the same number; none of them is a row that was not there. -/
theorem put_place {c c' : Cx} (k : Keep c c') (f : List AV → List AV) : ∀ (p : List Nat) {a : AV} {g b n cap : Nat} {F : List Nat} {cs1 : List AV}, Rel c a (.slice (some ⟨g, b, none⟩) n cap) F → ath p a = some (.row cs1) →
    ∀ (x : Nat × Nat), locp c.w p (g, b) = some x → (f cs1).length = cs1.length →
    (∀ y, y ∈ F → y ≠ x.1 → c'.w.heap[y]? = c.w.heap[y]?) →
    (∀ us F1 cap1, RelL c cs1 us F1 → ownB c.w x.1 x.2 us cap1 → x.1 ∉ F1 → ∃ us' F1', RelL c' (f cs1) us' F1' ∧ ownB c'.w x.1 x.2 us' cap1 ∧ ∀ y, y ∈ F1' → y ∈ F1) →
    ∃ F', Rel c' (putR f p a) (.slice (some ⟨g, b, none⟩) n cap) F' ∧ (∀ y, y ∈ F' → y ∈ F)
  | [], a, g, b, n, cap, F, cs1, h, hp, x, hx, hlen, hblk, hnew => by
    simp only [ath, Option.some.injEq] at hp
    subst hp
    simp only [locp, Option.some.injEq] at hx
    subst hx
    obtain ⟨g', b', cap', us, F1, hv, hF, h1, h2, h3⟩ := Rel.row_inv h
    simp only [Value.slice.injEq, Option.some.injEq, Addr.mk.injEq] at hv
    obtain ⟨⟨rfl, rfl, _⟩, rfl, rfl⟩ := hv
    obtain ⟨us', F1', k1, k2, k3⟩ := hnew us F1 cap h1 h2 h3
    have hul : us'.length = us.length := by rw [← k1.len, hlen, h1.len]
    refine ⟨g :: F1', ?_, ?_⟩
    · have := Rel.mk_row g b cap k1 k2 (fun hh => h3 (k3 _ hh))
      rw [hul] at this
      exact this
    · intro y hy
      rw [hF]
      rcases List.mem_cons.1 hy with rfl | hy
      · simp
      · simp [k3 y hy]
  | i :: q, a, g, b, n, cap, F, cs1, h, hp, x, hx, hlen, hblk, hnew => by
    cases a with
    | row cs =>
      simp only [ath] at hp
      cases hi : cs[i]? with
      | none => simp [hi] at hp
      | some ci =>
        simp only [hi] at hp
        obtain ⟨g', b', cap', us, F', hv, hF, h1, h2, h3⟩ := Rel.row_inv h
        simp only [Value.slice.injEq, Option.some.injEq, Addr.mk.injEq] at hv
        obtain ⟨⟨rfl, rfl, _⟩, rfl, rfl⟩ := hv
        obtain ⟨l, r, vl, vi, vr, Fl, Fa, Fr, rfl, hl, rfl, hvl, rfl, hL, ha, hR, d1, d2, d3⟩ := h1.nth hi
        have hcirow : ∃ ds, ci = .row ds := by
          cases q with
          | nil => simp only [ath, Option.some.injEq] at hp; exact ⟨_, hp⟩
          | cons j q => cases ci <;> simp [ath] at hp; exact ⟨_, rfl⟩
        obtain ⟨ds, rfl⟩ := hcirow
        obtain ⟨g2, b2, cap2, us2, F2, rfl, rfl, _, _, _⟩ := Rel.row_inv ha
        have hc : c.w.cell? ⟨g, b + i, none⟩ = some (.slice (some ⟨g2, b2, none⟩) us2.length cap2) := h2.cell (by rw [← hvl]; simp)
        simp only [locp, hc, if_true] at hx
        obtain ⟨x', _, F1, hx', hr', hs', _⟩ := place_of q ha hp
        rw [hx] at hx'
        simp only [Option.some.injEq] at hx'
        subst hx'
        have hxF : x.1 ∈ F1 := by
          obtain ⟨g5, b5, cap5, us5, F5, e, hF5, _, _, _⟩ := Rel.row_inv hr'
          simp only [Value.slice.injEq, Option.some.injEq, Addr.mk.injEq] at e
          rw [hF5, e.1.1]; simp
        have hxa := hs' _ hxF
        have hgx : g ≠ x.1 := by
          rintro rfl
          exact h3 (by simp only [List.mem_append]; exact .inr (.inl hxa))
        have hFsub : ∀ y, y ∈ Fl ∨ y ∈ (g2 :: F2) ∨ y ∈ Fr → y ∈ F := by
          intro y hy
          rw [hF]
          simp only [List.mem_cons, List.mem_append] at hy ⊢
          rcases hy with hy | hy | hy
          · exact .inr (.inl hy)
          · exact .inr (.inr (.inl hy))
          · exact .inr (.inr (.inr hy))
        obtain ⟨Fa', ra, sa⟩ := put_place k f q ha hp x hx hlen (fun y hy hne => hblk y (hFsub y (.inr (.inl hy))) hne) hnew
        have eset : (l ++ AV.row ds :: r).set i (putR f q (.row ds)) = l ++ putR f q (.row ds) :: r := by rw [← hl]; simp
        have hgh : c'.w.heap[g]? = c.w.heap[g]? := hblk g (by rw [hF]; simp) hgx
        have hL' : RelL c' l vl Fl := hL.mono k (fun y hy => hblk y (hFsub y (.inl hy)) (by rintro rfl; exact d1 _ hy hxa))
        have hR' : RelL c' r vr Fr := hR.mono k (fun y hy => hblk y (hFsub y (.inr (.inr hy))) (by rintro rfl; exact d3 _ hxa hy))
        have hall : RelL c' (l ++ putR f q (.row ds) :: r) (vl ++ .slice (some ⟨g2, b2, none⟩) us2.length cap2 :: vr) (Fl ++ (Fa' ++ Fr)) :=
          RelL.append hL' (RelL.cons ra hR' (fun y hy => d3 y (sa y hy))) (fun y hy hh => by
            rcases List.mem_append.1 hh with hh | hh
            · exact d1 y hy (sa y hh)
            · exact d2 y hy hh)
        have hput : putR f (i :: q) (.row (l ++ AV.row ds :: r)) = .row (l ++ putR f q (.row ds) :: r) := by
          simp only [putR, hi, eset]
        rw [hput]
        refine ⟨g :: (Fl ++ (Fa' ++ Fr)), ?_, ?_⟩
        · exact Rel.mk_row g b cap hall (h2.keep hgh) (fun hh => h3 (by
            simp only [List.mem_append] at hh ⊢
            rcases hh with hh | hh | hh
            · exact .inl hh
            · exact .inr (.inl (sa _ hh))
            · exact .inr (.inr hh)))
        · intro y hy
          rw [hF]
          simp only [List.mem_cons, List.mem_append] at hy ⊢
          rcases hy with rfl | hy | hy | hy
          · exact .inl rfl
          · exact .inr (.inl hy)
          · have := sa y hy; simp only [List.mem_cons] at this; exact .inr (.inr (.inl this))
          · exact .inr (.inr (.inr hy))
    | _ => simp [ath] at hp

/-- A STORE: cells laid over the cells of a place. -/
theorem Sim.store {w0 A0 F0 c Φ R} (h : Sim w0 A0 F0 c Φ R) {s g p cs} (ha : c.ro.cells s g p = some cs) (i : Nat) (as : List AV) (us' : List Value) (hi : i + as.length ≤ cs.length) (hR : RelL c as us' []) (has : ∀ a, a ∈ as → ∀ ds, a ≠ .row ds) :
    ∃ x arr E, locp c.w p (c.L s g) = some x ∧ c.w.heap[x.1]? = some (.cells arr E (0, 0)) ∧ x.2 + i + us'.length ≤ arr.size ∧
      ∃ c' Φ', c'.w = c.w.setRow x.1 (arr.toList.take (x.2 + i) ++ us' ++ arr.toList.drop (x.2 + i + us'.length)).toArray ∧ c'.ro = c.ro.wr ⟨s, g, p, i, as⟩ ∧ c'.gn = c.gn ∧ c'.A = c.A ∧ Keep c c' ∧ Sim w0 A0 F0 c' Φ' R := by
  obtain ⟨x, us, F, cap, hx, h1, h2, h3, h4, h5, h6⟩ := h.place ha
  obtain ⟨arr, E, k1, k2, k3, k4, k5⟩ := h2
  have hul : us'.length = as.length := hR.len.symm
  have hcl : us.length = cs.length := h1.len.symm
  have hfit : x.2 + i + us'.length ≤ arr.size := by omega
  refine ⟨x, arr, E, hx, k1, hfit, ?_⟩
  generalize hw' : c.w.setRow x.1 (arr.toList.take (x.2 + i) ++ us' ++ arr.toList.drop (x.2 + i + us'.length)).toArray = w'
  have hnew : w'.heap[x.1]? = some (.cells (arr.toList.take (x.2 + i) ++ us' ++ arr.toList.drop (x.2 + i + us'.length)).toArray E (0, 0)) := by rw [← hw']; exact setRow_heap _ _ _ _ _ _ k1
  have hold : ∀ k, k ≠ x.1 → w'.heap[k]? = c.w.heap[k]? := fun k hk => by rw [← hw']; exact setRow_other _ _ _ _ hk
  have hsz : w'.heap.size = c.w.heap.size := by rw [← hw']; simp [World.setRow]
  have harrg : ∀ j, (arr.toList.take (x.2 + i) ++ us' ++ arr.toList.drop (x.2 + i + us'.length))[j]? = if j < x.2 + i then arr[j]? else if j < x.2 + i + us'.length then us'[j - (x.2 + i)]? else arr[j]? := by
    intro j
    have hlt : (arr.toList.take (x.2 + i)).length = x.2 + i := by rw [List.length_take, Array.length_toList]; omega
    by_cases e1 : j < x.2 + i
    · rw [if_pos e1, List.append_assoc, List.getElem?_append_left (by omega), List.getElem?_take, if_pos e1]; simp
    · rw [if_neg e1]
      by_cases e2 : j < x.2 + i + us'.length
      · rw [if_pos e2, List.getElem?_append_left (by rw [List.length_append]; omega), List.getElem?_append_right (by omega), hlt]
      · rw [if_neg e2, List.getElem?_append_right (by rw [List.length_append]; omega), List.length_append, hlt, List.getElem?_drop, Array.getElem?_toList]
        congr 1; omega
  have hsize : (arr.toList.take (x.2 + i) ++ us' ++ arr.toList.drop (x.2 + i + us'.length)).length = arr.size := by simp; omega
  let ro' := c.ro.wr ⟨s, g, p, i, as⟩
  have hroot : ∃ a0, c.ro s g = some a0 := by
    cases hr : c.ro s g with
    | none => cases p <;> simp [Ro.cells, Ro.at, hr] at ha
    | some a0 => exact ⟨a0, rfl⟩
  obtain ⟨a0, hr0⟩ := hroot
  have hro' : ro' = upr c.ro s g (putR (setL i as) p a0) := by simp [ro', Ro.wr, hr0]
  let c' : Cx := ⟨w', c.A, ro', c.gn, c.L⟩
  have hcellkeep : ∀ j, j < i ∨ i + as.length ≤ j → j < cs.length → w'.cell? ⟨x.1, x.2 + j, none⟩ = c.w.cell? ⟨x.1, x.2 + j, none⟩ := by
    intro j hj hjl
    simp only [World.cell?, hnew, k1]
    simp only [Option.isSome_none, Bool.false_eq_true, if_false, List.getElem?_toArray, harrg]
    rcases hj with hj | hj
    · rw [if_pos (by omega)]
    · rw [if_neg (by omega), if_neg (by omega)]
  have hrowkeep : ∀ j ds, (setL i as cs)[j]? = some (.row ds) → cs[j]? = some (.row ds) ∧ w'.cell? ⟨x.1, x.2 + j, none⟩ = c.w.cell? ⟨x.1, x.2 + j, none⟩ := by
    intro j ds hj
    have hjl : j < cs.length := by
      have := (List.getElem?_eq_some_iff.1 hj).1
      rwa [length_setL] at this
    rw [getElem?_setL] at hj
    by_cases e1 : j < i
    · rw [if_pos e1] at hj; exact ⟨hj, hcellkeep j (.inl e1) hjl⟩
    · rw [if_neg e1] at hj
      by_cases e2 : j < i + as.length ∧ j < cs.length
      · rw [if_pos e2] at hj
        exact absurd rfl (has _ (List.mem_of_getElem? hj) ds)
      · rw [if_neg e2] at hj; exact ⟨hj, hcellkeep j (.inr (by omega)) hjl⟩
  have hownnew : ∀ us1 cap1, us1.length = cs.length → ownB c.w x.1 x.2 us1 cap1 → ownB w' x.1 x.2 (setL i us' us1) cap1 := by
    intro us1 cap1 hl1 ho
    obtain ⟨arr1, E1, q1, q2, q3, q4, q5⟩ := ho
    rw [k1] at q1
    simp only [Option.some.injEq, Obj.cells.injEq] at q1
    obtain ⟨rfl, rfl, _⟩ := q1
    refine ⟨_, E, hnew, by simp only [List.size_toArray]; rw [hsize]; exact q2, by rw [length_setL]; exact q3, q4, fun j u hu => ?_⟩
    simp only [List.getElem?_toArray, harrg]
    rw [getElem?_setL] at hu
    by_cases e1 : j < i
    · rw [if_pos e1] at hu; rw [if_pos (by omega)]; exact q5 j u hu
    · rw [if_neg e1] at hu
      by_cases e2 : j < i + us'.length ∧ j < us1.length
      · rw [if_pos e2] at hu; rw [if_neg (by omega), if_pos (by omega)]
        have : x.2 + j - (x.2 + i) = j - i := by omega
        rw [this]; exact hu
      · rw [if_neg e2] at hu
        have hj1 : j < us1.length := (List.getElem?_eq_some_iff.1 hu).1
        rw [if_neg (by omega), if_neg (by omega)]; exact q5 j u hu
  -- where the places of the new root lie
  have hloc : ∀ p' ds, ro'.cells s g p' = some ds → ∃ ds0, c.ro.cells s g p' = some ds0 ∧ ds0.length ≤ ds.length ∧ ∀ y, locp c.w p' (c.L s g) = some y → locp w' p' (c.L s g) = some y := by
    intro p' ds hds
    rw [hro'] at hds
    obtain ⟨_, v0, hv0, hh0⟩ := h.rt s g a0 hr0
    have hup : upr c.ro s g (putR (setL i as) p a0) s g = some (putR (setL i as) p a0) := by simp [upr]
    cases a0 with
    | bx cs0 =>
      have hp0 : p = [] := by
        cases p with
        | nil => rfl
        | cons j q => simp [Ro.cells, Ro.at, hr0, ath] at ha
      subst hp0
      cases p' with
      | nil =>
        simp [Ro.cells, upr, putR, blk] at hds
        subst hds
        exact ⟨cs0, by simp [Ro.cells, hr0, blk], by rw [length_setL]; exact Nat.le_refl _, fun y hy => hy⟩
      | cons j q => simp [Ro.cells, Ro.at, upr, putR, ath] at hds
    | row cs0 =>
      obtain ⟨cap0, rfl⟩ := hh0
      have hath : ath p (.row cs0) = some (.row cs) := by
        cases p with
        | nil => simp only [Ro.cells, hr0, blk, Option.some.injEq] at ha; subst ha; rfl
        | cons j q =>
          simp only [Ro.cells, Ro.at, hr0] at ha
          cases hq : ath (j :: q) (.row cs0) with
          | none => simp [hq] at ha
          | some a1 => simp only [hq] at ha; cases a1 <;> simp at ha; subst ha; rfl
      have hl := put_loc (w' := w') (setL i as) p hv0 hath x hx (length_setL _ _ _) (fun y hy hne => hold y hne) hrowkeep
      have hrowp : ∀ ds, ath p' (putR (setL i as) p (.row cs0)) = some (.row ds) → ∃ ds0, c.ro.cells s g p' = some ds0 ∧ ds0.length ≤ ds.length ∧ ∀ y, locp c.w p' (c.L s g) = some y → locp w' p' (c.L s g) = some y := by
        intro ds hd
        obtain ⟨ds0, e1, e2, e3⟩ := hl p' ds hd
        refine ⟨ds0, ?_, by omega, fun y hy => by rw [← hy]; exact e3⟩
        cases p' with
        | nil => simp only [ath, Option.some.injEq, AV.row.injEq] at e1; subst e1; simp [Ro.cells, hr0, blk]
        | cons j q => simp [Ro.cells, Ro.at, hr0, e1]
      cases p' with
      | nil =>
        simp only [Ro.cells, hup] at hds
        have hrow0 : ∃ l, putR (setL i as) p (.row cs0) = .row l := by
          cases p with
          | nil => exact ⟨_, rfl⟩
          | cons j q => simp only [putR]; split <;> exact ⟨_, rfl⟩
        obtain ⟨l, el⟩ := hrow0
        rw [el] at hds
        simp only [blk, Option.some.injEq] at hds
        subst hds
        exact hrowp l (by rw [el]; rfl)
      | cons j q =>
        simp only [Ro.cells, Ro.at, hup] at hds
        cases hq : ath (j :: q) (putR (setL i as) p (.row cs0)) with
        | none => simp [hq] at hds
        | some a1 =>
          simp only [hq] at hds
          cases a1 <;> simp at hds
          subst hds
          exact hrowp _ hq
    | _ => cases p <;> simp [Ro.cells, Ro.at, hr0, blk, ath] at ha
  have hΦlt : ∀ s g y, y ∈ Φ s g → y < c.w.heap.size := fun s g y hy => h.al y (h.own s g y hy).1
  have hhdr : ∀ (y : Nat × Nat) off n v, hdr c.w y.1 (y.2 + off) n v → hdr w' y.1 (y.2 + off) n v := by
    intro y off n v hh
    obtain ⟨b', cap', arr', E', q1, q2, q3, q4, q5, q6⟩ := hh
    by_cases e : y.1 = x.1
    · rw [e] at q1 q3 ⊢
      rw [k1] at q3
      simp only [Option.some.injEq, Obj.cells.injEq] at q3
      obtain ⟨rfl, rfl, _⟩ := q3
      exact ⟨b', cap', _, E, q1, q2, hnew, by simp only [List.size_toArray]; rw [hsize]; exact q4, q5, q6⟩
    · exact ⟨b', cap', arr', E', q1, q2, by rw [hold _ e]; exact q3, q4, q5, q6⟩
  have k : Keep c c' := by
    refine ⟨by show _ ≤ w'.heap.size; omega, fun _ _ h => h, fun b _ hA => hold b (fun e => hA (e ▸ (h.own s g _ h4).1)), fun _ => Nat.le_refl _, ?_⟩
    intro s' g' p' ds hg' hds
    by_cases e : s' = s ∧ g' = g
    · obtain ⟨rfl, rfl⟩ := e
      obtain ⟨ds0, e1, e2, e3⟩ := hloc p' ds hds
      exact ⟨ds0, e1, e2, fun y hy => ⟨e3 y hy, hhdr y⟩⟩
    · have hds' : c.ro.cells s' g' p' = some ds := by
        have : ro'.cells s' g' p' = some ds := hds
        rwa [hro', cells_upr_ne e] at this
      obtain ⟨y', us1, F1, cap1, q0, q1, q2, q3, q4, q5, q6⟩ := h.place hds'
      refine ⟨ds, hds', Nat.le_refl _, fun y hy => ⟨?_, hhdr y⟩⟩
      rw [q0] at hy
      simp only [Option.some.injEq] at hy
      subst hy
      exact q6 w' fun z hz => hold z (fun ez => h.dj _ _ _ _ e z hz (by rw [ez]; exact h4))
  have hnewR : RelL c' as us' [] := hR.mono k (by simp)
  have hroot' : ∃ v F', Rel c' (putR (setL i as) p a0) v F' ∧ (∀ y, y ∈ F' → y ∈ Φ s g) ∧ hd (c.L s g) (putR (setL i as) p a0) v := by
    obtain ⟨_, v0, hv0, hh0⟩ := h.rt s g a0 hr0
    have hcommon : ∀ us1 F1 cap1, RelL c cs us1 F1 → (∀ y, y ∈ F1 → y ∈ Φ s g) → ownB c.w x.1 x.2 us1 cap1 → x.1 ∉ F1 → ∃ us'' F1', RelL c' (setL i as cs) us'' F1' ∧ ownB c'.w x.1 x.2 us'' cap1 ∧ ∀ y, y ∈ F1' → y ∈ F1 := by
      intro us1 F1 cap1 r1 rs o1 n1
      have r1' : RelL c' cs us1 F1 := r1.mono k (fun y hy => hold y (by rintro rfl; exact n1 hy))
      obtain ⟨F1', q1, q2⟩ := RelL.setL as us' i r1' hnewR hi
      exact ⟨_, F1', q1, hownnew us1 cap1 r1.len.symm o1, q2⟩
    cases a0 with
    | bx cs0 =>
      have hp0 : p = [] := by
        cases p with
        | nil => rfl
        | cons j q => simp [Ro.cells, Ro.at, hr0, ath] at ha
      subst hp0
      simp only [Ro.cells, hr0, blk, Option.some.injEq] at ha
      subst ha
      simp only [locp, Option.some.injEq] at hx
      obtain ⟨g1, b1, cap1, us1, F1, rfl, hF, r1, o1, n1⟩ := Rel.bx_inv hv0
      simp only [hd, Value.pointer.injEq, Option.some.injEq, Addr.mk.injEq] at hh0
      obtain ⟨e1, e2, _⟩ := hh0
      have e1' : g1 = x.1 := by rw [e1, hx]
      have e2' : b1 = x.2 := by rw [e2, hx]
      subst e1' e2'
      obtain ⟨us'', F1', q1, q2, q3⟩ := hcommon us1 F1 cap1 r1 (fun y hy => by rw [hF]; simp [hy]) o1 n1
      refine ⟨_, x.1 :: F1', Rel.mk_bx _ _ cap1 q1 q2 (fun hh => n1 (q3 _ hh)), fun y hy => ?_, ?_⟩
      · rw [hF]
        rcases List.mem_cons.1 hy with rfl | hy
        · simp
        · simp [q3 y hy]
      · rw [← hx]; rfl
    | row cs0 =>
      obtain ⟨cap0, rfl⟩ := hh0
      have hath : ath p (.row cs0) = some (.row cs) := by
        cases p with
        | nil => simp only [Ro.cells, hr0, blk, Option.some.injEq] at ha; subst ha; rfl
        | cons j q =>
          simp only [Ro.cells, Ro.at, hr0] at ha
          cases hq : ath (j :: q) (.row cs0) with
          | none => simp [hq] at ha
          | some a1 => simp only [hq] at ha; cases a1 <;> simp at ha; subst ha; rfl
      obtain ⟨F', q1, q2⟩ := put_place k (setL i as) p hv0 hath x hx (length_setL _ _ _) (fun y hy hne => hold y hne) (fun us1 F1 cap1 r1 o1 n1 => by
        have r1' : RelL c' cs us1 F1 := r1.mono k (fun y hy => hold y (by rintro rfl; exact n1 hy))
        obtain ⟨F1', q1, q2⟩ := RelL.setL as us' i r1' hnewR hi
        exact ⟨_, F1', q1, hownnew us1 cap1 r1.len.symm o1, q2⟩)
      refine ⟨_, F', q1, q2, ?_⟩
      cases p with
      | nil =>
        simp only [ath, Option.some.injEq, AV.row.injEq] at hath
        subst hath
        exact ⟨cap0, by rw [length_setL]⟩
      | cons j q =>
        simp only [putR]
        split
        · exact ⟨cap0, by simp⟩
        · exact ⟨cap0, rfl⟩
    | _ => cases p <;> simp [Ro.cells, Ro.at, hr0, blk, ath] at ha
  obtain ⟨vn, Fn, hvn, hFn, hhn⟩ := hroot'
  refine ⟨c', fun s' g' => if s' = s ∧ g' = g then Fn else Φ s' g', rfl, rfl, rfl, rfl, k, ?_⟩
  have hgen : ∀ s' g' y, y ∈ (if s' = s ∧ g' = g then Fn else Φ s' g') → y ∈ Φ s' g' := by
    intro s' g' y hy
    by_cases e : s' = s ∧ g' = g
    · rw [if_pos e] at hy; obtain ⟨rfl, rfl⟩ := e; exact hFn y hy
    · rw [if_neg e] at hy; exact hy
  constructor
  · intro s' g' b hb
    have hb' : ro' s' g' = some b := hb
    rw [hro'] at hb'
    by_cases e : s' = s ∧ g' = g
    · obtain ⟨rfl, rfl⟩ := e
      simp only [upr, and_self, if_true, Option.some.injEq] at hb'
      subst hb'
      refine ⟨(h.rt s' g' a0 hr0).1, vn, ?_, hhn⟩
      simp only [and_self, if_true]; exact hvn
    · simp only [upr, e, if_false] at hb'
      obtain ⟨q1, u, q2, q3⟩ := h.rt s' g' b hb'
      refine ⟨q1, u, ?_, q3⟩
      simp only [e, if_false]
      exact q2.mono k (fun y hy => hold y (fun ez => h.dj _ _ _ _ e y hy (by rw [ez]; exact h4)))
  · intro s' g' hb
    have hb' : ro' s' g' = none := hb
    rw [hro'] at hb'
    by_cases e : s' = s ∧ g' = g
    · simp [upr, e] at hb'
    · simp only [upr, e, if_false] at hb' ⊢
      exact h.no s' g' hb'
  · intro s1 g1 s2 g2 hne y hy hy2
    exact h.dj _ _ _ _ hne y (hgen _ _ y hy) (hgen _ _ y hy2)
  · intro s' g' y hy
    exact h.own s' g' y (hgen _ _ y hy)
  · intro s' g' y hy
    exact h.rd s' g' y (hgen _ _ y hy)
  · exact h.rown
  · exact h.a0
  · intro y hy; show y < w'.heap.size; rw [hsz]; exact h.al y hy
  · refine ⟨?_, ?_, ?_, by show _ ≤ w'.heap.size; rw [hsz]; exact h.bw.size, fun k0 hk hf => ?_, fun a => (frozen_of (fun k => by
      by_cases e : k = x.1
      · subst e; exact .inr ⟨⟨_, _, hnew⟩, .inr ⟨_, _, k1⟩⟩
      · exact .inl (hold k e)) a).trans (h.bw.fr a)⟩
    · show w'.os = _; rw [← hw']; exact h.bw.os
    · show w'.tape = _; rw [← hw']; exact h.bw.tape
    · show w'.output = _; rw [← hw']; exact h.bw.output
    · show w'.heap[k0]? = _
      rw [hold k0 (fun e => by
        rcases (h.own s g _ h4).2.2 with q | q
        · omega
        · exact hf (e ▸ q))]
      exact h.bw.block k0 hk hf

end Go.Proofs.Ytifgeenipinnmaa
