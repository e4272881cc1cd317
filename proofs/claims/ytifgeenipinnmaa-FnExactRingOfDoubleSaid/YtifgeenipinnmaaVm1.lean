/- The abstract machine: laws of the reading relation: splitting, keeping over a change of the world, places, freezing. -/
import Derived.Test.YtifgeenipinnmaaVm0
set_option linter.all false
namespace Go.Proofs.Ytifgeenipinnmaa
open Go.RowKit

theorem RelL.append {c : Cx} {as bs vs us F G} (h : RelL c as vs F) : RelL c bs us G → (∀ x, x ∈ F → x ∉ G) → RelL c (as ++ bs) (vs ++ us) (F ++ G) := by
  intro hb
  induction h with
  | nil => intro _; simpa using hb
  | sc v _ ih => intro d; exact .sc v (ih d)
  | dead v _ ih => intro d; exact .dead v (ih d)
  | imm g b cap h1 h2 h3 _ _ ih => intro d; exact .imm g b cap h1 h2 h3 (ih d)
  | row g b cap h1 h2 h3 h4 _ _ ih =>
    intro d
    have := RelL.row g b cap h1 h2 h3 (fun x hx => ?_) (ih (fun x hx => d x (by simp [hx])))
    · simpa using this
    · simp only [List.mem_append, not_or]
      refine ⟨h4 x hx, d x ?_⟩
      rcases hx with rfl | hx
      · simp
      · simp [hx]
  | bx g b cap h1 h2 h3 h4 _ _ ih =>
    intro d
    have := RelL.bx g b cap h1 h2 h3 (fun x hx => ?_) (ih (fun x hx => d x (by simp [hx])))
    · simpa using this
    · simp only [List.mem_append, not_or]
      refine ⟨h4 x hx, d x ?_⟩
      rcases hx with rfl | hx
      · simp
      · simp [hx]
  | ref s g p off n v h1 h2 _ ih => intro d; exact .ref s g p off n v h1 h2 (ih d)
  | ptr s g p i v h1 h2 _ ih => intro d; exact .ptr s g p i v h1 h2 (ih d)
  | iptr g b h1 h2 _ _ ih => intro d; exact .iptr g b h1 h2 (ih d)
  | agg h1 h2 _ _ ih =>
    intro d
    have := RelL.agg h1 (fun x hx => ?_) (ih (fun x hx => d x (by simp [hx])))
    · simpa using this
    · simp only [List.mem_append, not_or]
      exact ⟨h2 x hx, d x (by simp [hx])⟩
  | tup h1 h2 _ _ ih =>
    intro d
    have := RelL.tup h1 (fun x hx => ?_) (ih (fun x hx => d x (by simp [hx])))
    · simpa using this
    · simp only [List.mem_append, not_or]
      exact ⟨h2 x hx, d x (by simp [hx])⟩
  | fn f h1 _ _ ih => intro d; exact .fn f h1 (ih d)

theorem RelL.cons {c : Cx} {a v as vs F G} (h : Rel c a v F) (hs : RelL c as vs G) (d : ∀ x, x ∈ F → x ∉ G) : RelL c (a :: as) (v :: vs) (F ++ G) :=
  RelL.append h hs d

/-- One head, the rest. -/
theorem RelL.uncons {c : Cx} {a as vs G} (h : RelL c (a :: as) vs G) :
    ∃ v vs' F G', vs = v :: vs' ∧ G = F ++ G' ∧ Rel c a v F ∧ RelL c as vs' G' ∧ (∀ x, x ∈ F → x ∉ G') := by
  cases h with
  | sc v h => exact ⟨v, _, [], _, rfl, rfl, .sc v .nil, h, by simp⟩
  | dead v h => exact ⟨v, _, [], _, rfl, rfl, .dead v .nil, h, by simp⟩
  | imm g b cap h1 h2 h3 h => exact ⟨_, _, [], _, rfl, rfl, .imm g b cap h1 h2 h3 .nil, h, by simp⟩
  | @row _ _ G cs us F g b cap h1 h2 h3 h4 h =>
    exact ⟨_, _, g :: F, G, rfl, rfl, by simpa using RelL.row g b cap h1 h2 h3 (by simp) .nil, h, by simpa using h4⟩
  | @bx _ _ G cs us F g b cap h1 h2 h3 h4 h =>
    exact ⟨_, _, g :: F, G, rfl, rfl, by simpa using RelL.bx g b cap h1 h2 h3 (by simp) .nil, h, by simpa using h4⟩
  | ref s g p off n v h1 h2 h => exact ⟨v, _, [], _, rfl, rfl, .ref s g p off n v h1 h2 .nil, h, by simp⟩
  | ptr s g p i v h1 h2 h => exact ⟨v, _, [], _, rfl, rfl, .ptr s g p i v h1 h2 .nil, h, by simp⟩
  | iptr g b h1 h2 h => exact ⟨_, _, [], _, rfl, rfl, .iptr g b h1 h2 .nil, h, by simp⟩
  | @agg _ _ G cs us F h1 h2 h => exact ⟨_, _, F, G, rfl, rfl, by simpa using RelL.agg h1 (by simp) .nil, h, h2⟩
  | @tup _ _ G cs us F h1 h2 h => exact ⟨_, _, F, G, rfl, rfl, by simpa using RelL.tup h1 (by simp) .nil, h, h2⟩
  | fn f h1 h => exact ⟨_, _, [], _, rfl, rfl, .fn f h1 .nil, h, by simp⟩

theorem RelL.split {c : Cx} : ∀ {l r : List AV} {vs F}, RelL c (l ++ r) vs F →
    ∃ vl vr Fl Fr, vs = vl ++ vr ∧ F = Fl ++ Fr ∧ RelL c l vl Fl ∧ RelL c r vr Fr ∧ (∀ x, x ∈ Fl → x ∉ Fr)
  | [], r, vs, F, h => ⟨[], vs, [], F, rfl, rfl, .nil, h, by simp⟩
  | a :: l, r, vs, F, h => by
    obtain ⟨v, vs', Fa, G', rfl, rfl, ha, hr, hd⟩ := RelL.uncons h
    obtain ⟨vl, vr, Fl, Fr, rfl, rfl, hl, hr', hd'⟩ := RelL.split hr
    refine ⟨v :: vl, vr, Fa ++ Fl, Fr, rfl, by simp, RelL.cons ha hl (fun x hx h => hd x hx (by simp [h])), hr', ?_⟩
    intro x hx
    simp only [List.mem_append] at hx
    rcases hx with hx | hx
    · exact fun h => hd x hx (by simp [h])
    · exact hd' x hx

/-- The i-th of a list. -/
theorem RelL.nth {c : Cx} {cs : List AV} {vs F} (h : RelL c cs vs F) {i : Nat} {a : AV} (hi : cs[i]? = some a) :
    ∃ l r vl v vr Fl Fa Fr, cs = l ++ a :: r ∧ l.length = i ∧ vs = vl ++ v :: vr ∧ vl.length = i ∧ F = Fl ++ (Fa ++ Fr) ∧ RelL c l vl Fl ∧ Rel c a v Fa ∧ RelL c r vr Fr ∧
      (∀ x, x ∈ Fl → x ∉ Fa) ∧ (∀ x, x ∈ Fl → x ∉ Fr) ∧ (∀ x, x ∈ Fa → x ∉ Fr) := by
  obtain ⟨hlt, rfl⟩ := List.getElem?_eq_some_iff.1 hi
  have e : cs = cs.take i ++ cs[i] :: cs.drop (i + 1) := by simp
  rw [e] at h
  obtain ⟨vl, vr, Fl, Fr, rfl, rfl, hl, hr, hd⟩ := RelL.split h
  obtain ⟨v, vs', Fa, G', rfl, rfl, ha, hr', hd'⟩ := RelL.uncons hr
  have hlen := hl.len
  simp only [List.length_take] at hlen
  exact ⟨cs.take i, cs.drop (i + 1), vl, v, vs', Fl, Fa, G', e, by simp; omega, rfl, by omega, rfl, hl, ha, hr', fun x hx h => hd x hx (by simp [h]), fun x hx h => hd x hx (by simp [h]), hd'⟩

theorem cell_of_heap {w w' : World} {g o : Nat} (h : w'.heap[g]? = w.heap[g]?) : w'.cell? ⟨g, o, none⟩ = w.cell? ⟨g, o, none⟩ := by simp [World.cell?, h]

theorem ownB.keep {w w' : World} {g b vs cap} (h : ownB w g b vs cap) (e : w'.heap[g]? = w.heap[g]?) : ownB w' g b vs cap := by
  obtain ⟨arr, E, h1, r⟩ := h
  exact ⟨arr, E, e.trans h1, r⟩

theorem ownB.cell {w : World} {g b vs cap} (h : ownB w g b vs cap) {i : Nat} {u : Value} (hi : vs[i]? = some u) : w.cell? ⟨g, b + i, none⟩ = some u := by
  obtain ⟨arr, E, h1, _, _, _, h5⟩ := h
  simp [World.cell?, h1, h5 i u hi]

theorem ownB.lt {w : World} {g b vs cap} (h : ownB w g b vs cap) : g < w.heap.size := by
  obtain ⟨arr, E, h1, _⟩ := h
  exact (Array.getElem?_eq_some_iff.1 h1).1

/-- What a change of the world and of the context keeps, whatever is owned. -/
structure Keep (c c' : Cx) : Prop where
  hsz : c.w.heap.size ≤ c'.w.heap.size
  hA : ∀ b, b < c.w.heap.size → c'.A b → c.A b
  hI : ∀ b, b < c.w.heap.size → ¬ c.A b → c'.w.heap[b]? = c.w.heap[b]?
  hgn : ∀ s, c.gn s ≤ c'.gn s
  hP : ∀ s g p cs, g ≤ c.gn s → c'.ro.cells s g p = some cs → ∃ cs0, c.ro.cells s g p = some cs0 ∧ cs0.length ≤ cs.length ∧
      ∀ x, locp c.w p (c.L s g) = some x → locp c'.w p (c'.L s g) = some x ∧ ∀ off n v, hdr c.w x.1 (x.2 + off) n v → hdr c'.w x.1 (x.2 + off) n v

/-- THE KEEPING LAW: what reads so in one world and context reads so in the next. -/
theorem RelL.mono {c c' : Cx} {as vs G} (h : RelL c as vs G) (k : Keep c c') :
    (∀ b, b ∈ G → c'.w.heap[b]? = c.w.heap[b]?) → RelL c' as vs G := by
  obtain ⟨hsz, hA, hI, hgn, hP⟩ := k
  induction h with
  | nil => intro _; exact .nil
  | sc v _ ih => intro hG; exact .sc v (ih hG)
  | dead v _ ih => intro hG; exact .dead v (ih hG)
  | imm g b cap _ h2 h3 _ ih1 ih =>
    intro hG
    refine .imm g b cap (ih1 (by simp)) ⟨fun h => h2.1 (hA g h2.2.1 h), Nat.lt_of_lt_of_le h2.2.1 hsz, fun i u hu => ?_⟩ h3 (ih hG)
    rw [cell_of_heap (hI g h2.2.1 h2.1)]
    exact h2.2.2 i u hu
  | row g b cap _ h2 h3 h4 _ ih1 ih =>
    intro hG
    refine .row g b cap (ih1 fun x hx => hG x (by simp [hx])) (h2.keep (hG g (by simp))) h3 h4 (ih fun x hx => hG x (by simp [hx]))
  | bx g b cap _ h2 h3 h4 _ ih1 ih =>
    intro hG
    refine .bx g b cap (ih1 fun x hx => hG x (by simp [hx])) (h2.keep (hG g (by simp))) h3 h4 (ih fun x hx => hG x (by simp [hx]))
  | ref s g p off n v h1 h2 _ ih =>
    intro hG
    refine .ref s g p off n v (Nat.le_trans h1 (hgn s)) (fun cs hcs => ?_) (ih hG)
    obtain ⟨cs0, h0, hl, hk⟩ := hP s g p cs h1 hcs
    obtain ⟨x, hx, hh, hb⟩ := h2 cs0 h0
    exact ⟨x, (hk x hx).1, (hk x hx).2 _ _ _ hh, by omega⟩
  | ptr s g p i v h1 h2 _ ih =>
    intro hG
    refine .ptr s g p i v (Nat.le_trans h1 (hgn s)) (fun cs hcs => ?_) (ih hG)
    obtain ⟨cs0, h0, hl, hk⟩ := hP s g p cs h1 hcs
    obtain ⟨x, hx, hv⟩ := h2 cs0 h0
    exact ⟨x, (hk x hx).1, hv⟩
  | iptr g b _ h2 _ ih1 ih =>
    intro hG
    refine .iptr g b (ih1 (by simp)) ⟨fun h => h2.1 (hA g h2.2.1 h), Nat.lt_of_lt_of_le h2.2.1 hsz, fun i u hu => ?_⟩ (ih hG)
    rw [cell_of_heap (hI g h2.2.1 h2.1)]
    exact h2.2.2 i u hu
  | agg _ h2 _ ih1 ih => intro hG; exact .agg (ih1 fun x hx => hG x (by simp [hx])) h2 (ih fun x hx => hG x (by simp [hx]))
  | tup _ h2 _ ih1 ih => intro hG; exact .tup (ih1 fun x hx => hG x (by simp [hx])) h2 (ih fun x hx => hG x (by simp [hx]))
  | fn f _ _ ih1 ih => intro hG; exact .fn f (ih1 (by simp)) (ih hG)

/-- A row's parts. -/
theorem Rel.row_inv {c : Cx} {cs v F} (h : Rel c (.row cs) v F) :
    ∃ g b cap us F', v = .slice (some ⟨g, b, none⟩) us.length cap ∧ F = g :: F' ∧ RelL c cs us F' ∧ ownB c.w g b us cap ∧ g ∉ F' := by
  cases h with
  | @row _ _ G _ us F g b cap h1 h2 h3 h4 h =>
    cases h
    exact ⟨g, b, cap, us, F, rfl, by simp, h1, h2, h3⟩

theorem Rel.mk_row {c : Cx} {cs us F} (g b cap : Nat) (h1 : RelL c cs us F) (h2 : ownB c.w g b us cap) (h3 : g ∉ F) :
    Rel c (.row cs) (.slice (some ⟨g, b, none⟩) us.length cap) (g :: F) := by
  simpa using RelL.row g b cap h1 h2 h3 (by simp) .nil

/-- A PLACE: where it lies, what reads there; and that worlds alike on the footprint lead there alike. -/
theorem place_of {c : Cx} : ∀ (p : List Nat) {a : AV} {g b n cap : Nat} {F : List Nat} {cs1 : List AV}, Rel c a (.slice (some ⟨g, b, none⟩) n cap) F → ath p a = some (.row cs1) →
    ∃ x cap1 F1, locp c.w p (g, b) = some x ∧ Rel c (.row cs1) (.slice (some ⟨x.1, x.2, none⟩) cs1.length cap1) F1 ∧ (∀ y, y ∈ F1 → y ∈ F) ∧
      (∀ w' : World, (∀ y, y ∈ F → w'.heap[y]? = c.w.heap[y]?) → locp w' p (g, b) = some x)
  | [], a, g, b, n, cap, F, cs1, h, hp => by
    simp only [ath, Option.some.injEq] at hp
    subst hp
    obtain ⟨g', b', cap', us, F', hv, hF, h1, h2, h3⟩ := Rel.row_inv h
    simp only [Value.slice.injEq, Option.some.injEq, Addr.mk.injEq] at hv
    obtain ⟨⟨rfl, rfl, _⟩, rfl, rfl⟩ := hv
    refine ⟨(g, b), cap, F, rfl, ?_, fun _ h => h, fun _ _ => rfl⟩
    rw [h1.len]
    exact h
  | i :: q, a, g, b, n, cap, F, cs1, h, hp => by
    cases a with
    | row cs =>
      simp only [ath] at hp
      cases hi : cs[i]? with
      | none => simp [hi] at hp
      | some ci =>
        simp only [hi] at hp
        obtain ⟨g', b', cap', us, F', hv, hF, h1, h2, h3⟩ := Rel.row_inv h
        simp only [Value.slice.injEq, Option.some.injEq, Addr.mk.injEq] at hv
        obtain ⟨⟨rfl, rfl, _⟩, rfl, rfl⟩ := hv
        obtain ⟨l, r, vl, vi, vr, Fl, Fa, Fr, rfl, hl, rfl, hvl, rfl, hL, ha, hR, d1, d2, d3⟩ := h1.nth hi
        have hrow : ∃ ds, ci = .row ds := by
          cases q with
          | nil => simp only [ath, Option.some.injEq] at hp; exact ⟨_, hp⟩
          | cons j q => cases ci <;> simp [ath] at hp; exact ⟨_, rfl⟩
        obtain ⟨ds, rfl⟩ := hrow
        obtain ⟨g2, b2, cap2, us2, F2, rfl, rfl, _, _, _⟩ := Rel.row_inv ha
        obtain ⟨x, cap1, F1, hx, hr, hs, hw⟩ := place_of q ha hp
        have hc : c.w.cell? ⟨g, b + i, none⟩ = some (.slice (some ⟨g2, b2, none⟩) us2.length cap2) := h2.cell (by rw [← hvl]; simp)
        subst hF
        refine ⟨x, cap1, F1, by simp [locp, hc, hx], hr, fun y hy => ?_, fun w' hw' => ?_⟩
        · have := hs y hy
          simp only [List.mem_cons, List.mem_append]
          exact .inr (.inr (.inl (by simpa using this)))
        · have hc' : w'.cell? ⟨g, b + i, none⟩ = some (.slice (some ⟨g2, b2, none⟩) us2.length cap2) := by
            rw [cell_of_heap (hw' g (by simp))]; exact hc
          simp only [locp, hc', if_true]
          exact hw w' fun y hy => hw' y (by
            simp only [List.mem_cons, List.mem_append]
            exact .inr (.inr (.inl (by simpa using hy))))
    | _ => simp [ath] at hp

end Go.Proofs.Ytifgeenipinnmaa
