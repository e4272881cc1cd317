/- The abstract machine: operations that may go in any order. -/
import Derived.Test.YtifgeenipinnmaaVm14
set_option linter.all false
namespace Go.Proofs.Ytifgeenipinnmaa
open Go.RowKit

section
variable {ti : Nat → Option TI} {b : Nat} {ro ro' : Ro} {gn gn' : Nat → Nat} {ev ev' : Operand → AV} {e : Eff}

theorem cells_loc {s g : Nat} {p : List Nat} (h : ro' s = ro s) : ro'.cells s g p = ro.cells s g p := by
  cases p <;> simp [Ro.cells, Ro.at, h]

theorem at_loc {s g : Nat} {p : List Nat} (h : ro' s = ro s) : ro'.at s g p = ro.at s g p := by simp [Ro.at, h]

theorem liveA_loc {a : AV} (h : ∀ s, s ∈ zdy a → ro' s = ro s) : zee ro' a = zee ro a := by
  cases a <;> simp only [zee]
  case ref s g p off n => rw [cells_loc (h s (by simp [zdy]))]
  case ptr s g p i => rw [cells_loc (h s (by simp [zdy]))]

theorem cellOkB_loc {a : AV} (h : ∀ s, s ∈ zdy a → ro' s = ro s) : cellOkB ro' a = cellOkB ro a := by
  cases a <;> simp only [cellOkB]
  case ref s g p off n => rw [cells_loc (h s (by simp [zdy]))]
  case ptr s g p i => rw [cells_loc (h s (by simp [zdy]))]

theorem all_cellOkB_loc : ∀ {as : List AV}, (∀ s, s ∈ zdz as → ro' s = ro s) → as.all (cellOkB ro') = as.all (cellOkB ro)
  | [], _ => rfl
  | a :: as, h => by
    simp only [List.all_cons]
    rw [cellOkB_loc (a := a) (fun s hs => h s (by simp [zdz, hs])), all_cellOkB_loc (fun s hs => h s (by simp [zdz, hs]))]

theorem sites_cellsA {a : AV} : ∀ s, s ∈ zdz (zem a) → s ∈ zdy a := by
  intro s hs
  cases a <;> simpa [zem, zdz, zdy] using hs

theorem dl_loc : ∀ (l : List (Nat × Nat)) {ro ro' : Ro} {s : Nat}, ro' s = ro s → (ro'.dl l) s = (ro.dl l) s
  | [], _, _, _, h => h
  | (x, g) :: l, ro, ro', s, h => dl_loc l (ro := upr ro x g .dead) (ro' := upr ro' x g .dead) (by funext g'; simp [upr, h])

theorem dl_off : ∀ (l : List (Nat × Nat)) {ro : Ro} {s : Nat}, s ∉ l.map (·.1) → (ro.dl l) s = ro s
  | [], _, _, _ => rfl
  | (x, g) :: l, ro, s, h => by
    simp only [List.map_cons, List.mem_cons, not_or] at h
    show (Ro.dl (upr ro x g .dead) l) s = ro s
    rw [dl_off l h.2]
    funext g'
    simp [upr, h.1]

theorem moveIn_loc {a : AV} (h : ∀ s, s ∈ zdy a → ro' s = ro s) : zes ro' a = zes ro a := by
  cases a
  case ref s g p off n =>
    have := h s (by simp [zdy])
    cases p with
    | nil => cases off with
      | zero => simp only [zes, this]
      | succ k => rfl
    | cons i q => rfl
  all_goals rfl

theorem moveParts_loc : ∀ (ps : List (Nat × Operand)) {ro ro' : Ro}, (∀ p, p ∈ ps → ev' p.2 = ev p.2) → (∀ s, s ∈ ps.flatMap (fun p => zdy (ev p.2)) → ro' s = ro s) → zer ro' ev' ps = zer ro ev ps
  | [], _, _, _, _ => rfl
  | (i, x) :: r, ro, ro', he, hr => by
    simp only [zer]
    rw [he (i, x) (by simp), moveIn_loc (ro := ro) (ro' := ro') (fun s hs => hr s (by simp [hs]))]
    cases hm : zes ro (ev x) with
    | none => rfl
    | some q =>
      obtain ⟨a, w⟩ := q
      simp only
      rw [moveParts_loc r (ro := ro.dl w) (ro' := ro'.dl w) (fun p hp => he p (by simp [hp])) (fun s hs => dl_loc w (hr s (by simp only [List.flatMap_cons, List.mem_append]; exact .inr hs)))]

theorem buildParts_loc (flds : List (Nat × Nat)) : ∀ (ps : List (Nat × Operand)) (cs : List AV), (∀ p, p ∈ ps → ev' p.2 = ev p.2) → (∀ s, s ∈ ps.flatMap (fun p => zdy (ev p.2)) → ro' s = ro s) → zfa ti ro' flds ev' cs ps = zfa ti ro flds ev cs ps
  | [], _, _, _ => rfl
  | (i, x) :: r, cs, he, hr => by
    simp only [zfa]
    rw [he (i, x) (by simp)]
    rw [all_cellOkB_loc (ro := ro) (ro' := ro') (as := zem (ev x)) (fun s hs => hr s (by simp [sites_cellsA s hs]))]
    cases flds[i]? with
    | none => rfl
    | some q =>
      simp only
      cases ti q.2 with
      | none => rfl
      | some inf =>
        simp only
        rw [buildParts_loc flds r _ (fun p hp => he p (by simp [hp])) (fun s hs => hr s (by simp only [List.flatMap_cons, List.mem_append]; exact .inr hs))]

theorem appSrc_loc {a : AV} (h : ∀ s, s ∈ zdy a → ro' s = ro s) : zeu ro' a = zeu ro a := by
  cases a
  case ref s g p off n =>
    have e0 := h s (by simp [zdy])
    have e1 : ro'.cells s g p = ro.cells s g p := cells_loc e0
    have e2 : isBxAt ro' s g p = isBxAt ro s g p := by simp only [isBxAt, at_loc e0]
    simp only [zeu, e1, e2]
  all_goals rfl

theorem opC_loc {op : Op} (h : opC ti b ro gn ev op = some e) (he : ∀ x, x ∈ op.operands → ev' x = ev x) (hr : ∀ r, rdS ev op = some r → ∀ s, s ∈ r → ro' s = ro s) (hw : ∀ s, s ∈ e.sites → ro' s = ro s ∧ gn' s = gn s)
    (hcall : ∀ c f, op = .call c → c.callee ≠ .value f) : opC ti b ro' gn' ev' op = some e := by
  cases op
  case move x => have := he x (by simp [Op.operands]); simp only [opC, this] at h ⊢; exact h
  case assign x => have := he x (by simp [Op.operands]); simp only [opC, this] at h ⊢; exact h
  case pick c x y =>
    have h1 := he c (by simp [Op.operands]); have h2 := he x (by simp [Op.operands]); have h3 := he y (by simp [Op.operands])
    simp only [opC, h1, h2, h3] at h ⊢; exact h
  case unOp op t x => have := he x (by simp [Op.operands]); simp only [opC, this] at h ⊢; exact h
  case convert s d x => have := he x (by simp [Op.operands]); simp only [opC, this] at h ⊢; exact h
  case field t x f => have := he x (by simp [Op.operands]); simp only [opC, this] at h ⊢; exact h
  case index t x y =>
    have h1 := he x (by simp [Op.operands]); have h2 := he y (by simp [Op.operands])
    simp only [opC, h1, h2] at h ⊢; exact h
  case extract x i => have := he x (by simp [Op.operands]); simp only [opC, this] at h ⊢; exact h
  case makeFunc fn first caps =>
    have h1 : caps.toList.map ev' = caps.toList.map ev := List.map_congr_left fun x hx => he x (by simp [Op.operands]; exact .inr (by simpa using hx))
    cases fn <;> simp only [opC, h1] at h ⊢ <;> exact h
  case binOp op t x y t' =>
    have h1 := he x (by simp [Op.operands]); have h2 := he y (by simp [Op.operands])
    have h3 := liveA_loc (ro := ro) (ro' := ro') (a := ev x) (hr _ rfl)
    simp only [opC, h1, h2, h3] at h ⊢; exact h
  case fieldAddr t x f =>
    have h1 := he x (by simp [Op.operands])
    have h3 := liveA_loc (ro := ro) (ro' := ro') (a := ev x) (hr _ rfl)
    simp only [opC, h1, h3] at h ⊢; exact h
  case indexAddr t x y =>
    have h1 := he x (by simp [Op.operands]); have h2 := he y (by simp [Op.operands])
    have h3 := hr _ rfl
    simp only [opC, h1, h2] at h ⊢
    cases hx : ev x <;> simp only [hx] at h h3 ⊢ <;> try exact h
    rename_i s g p off n
    rw [cells_loc (h3 s (by simp [zdy]))]; exact h
  case load t x =>
    have h1 := he x (by simp [Op.operands])
    have h3 := hr _ rfl
    simp only [opC, h1] at h ⊢
    cases hx : ev x <;> simp only [hx] at h h3 ⊢ <;> try exact h
    rename_i s g p i
    rw [cells_loc (h3 s (by simp [zdy]))]; exact h
  case store t x y =>
    have h1 := he x (by simp [Op.operands]); have h2 := he y (by simp [Op.operands])
    have h3 := hr _ rfl
    have h4 := all_cellOkB_loc (ro := ro) (ro' := ro') (as := zem (ev y)) (fun s hs => h3 s (by simp [sites_cellsA s hs]))
    simp only [opC, h1, h2] at h ⊢
    cases hx : ev x <;> simp only [hx] at h h3 ⊢ <;> try exact h
    rename_i s g p i
    have h5 : ro' s = ro s := h3 s (by simp [zdy])
    rw [cells_loc h5]
    have h6 : isBxAt ro' s g p = isBxAt ro s g p := by simp only [isBxAt, at_loc h5]
    rw [h6]
    cases hb : isBxAt ro s g p
    · simp only [hb] at h ⊢; exact h
    · simp only [hb, if_true, h4] at h ⊢; exact h
  case alloc t =>
    simp only [opC] at h ⊢
    cases hi : ti t with
    | none => simp [hi] at h
    | some inf =>
      simp only [hi, Option.some.injEq] at h ⊢
      have := (hw b (by rw [← h]; simp [Eff.sites])).2
      rw [this]; exact h
  case box t x =>
    have h1 := he x (by simp [Op.operands])
    have h3 := hr _ rfl
    have h4 := all_cellOkB_loc (ro := ro) (ro' := ro') (as := zem (ev x)) (fun s hs => h3 s (sites_cellsA s hs))
    simp only [opC, h1, h4] at h ⊢
    split at h
    · rename_i hc
      rw [if_pos hc]
      split at h
      · rename_i hc2
        rw [if_pos hc2]
        simp only [Option.some.injEq] at h ⊢
        have := (hw b (by rw [← h]; simp [Eff.sites])).2
        rw [this]; exact h
      · cases h
    · cases h
  case build t ps =>
    have h1 : ∀ p, p ∈ ps.toList → ev' p.2 = ev p.2 := fun p hp => he p.2 (by simp only [Op.operands, List.mem_toArray]; exact List.mem_map_of_mem hp)
    have h3 := hr _ rfl
    simp only [opC] at h ⊢
    cases hi : ti t with
    | none => simp [hi] at h
    | some inf =>
      simp only [hi] at h ⊢
      rw [buildParts_loc (ro := ro) (ev := ev) inf.flds ps.toList _ h1 h3]; exact h
  case buildSlice t n ps =>
    have h1 : ∀ p, p ∈ ps.toList → ev' p.2 = ev p.2 := fun p hp => he p.2 (by simp only [Op.operands, List.mem_toArray]; exact List.mem_map_of_mem hp)
    have h3 := hr _ rfl
    simp only [opC] at h ⊢
    rw [moveParts_loc (ro := ro) (ev := ev) ps.toList h1 h3]
    cases hi : ti t with
    | none => simp [hi] at h
    | some inf =>
      simp only [hi] at h ⊢
      cases hel : inf.elem with
      | none => simp [hel] at h
      | some el =>
        simp only [hel] at h ⊢
        cases hie : ti el with
        | none => simp [hie] at h
        | some ie =>
          simp only [hie] at h ⊢
          cases hm : zer ro ev ps.toList with
          | none => simp [hm] at h
          | some q =>
            simp only [hm] at h ⊢
            split at h
            · rename_i hc
              rw [if_pos hc]
              simp only [Option.some.injEq] at h ⊢
              have := (hw b (by rw [← h]; simp [Eff.sites])).2
              rw [this]; exact h
            · cases h
  case makeSlice t x y =>
    have h1 := he x (by simp [Op.operands]); have h2 := he y (by simp [Op.operands])
    simp only [opC, h1, h2] at h ⊢
    cases hi : ti t with
    | none => simp [hi] at h
    | some inf =>
      simp only [hi] at h ⊢
      cases hel : inf.elem with
      | none => simp [hel] at h
      | some el =>
        simp only [hel] at h ⊢
        split at h
        · rename_i ie n m q1 q2 q3
          split at h
          · rename_i hc
            rw [if_pos hc]
            simp only [Option.some.injEq] at h ⊢
            have := (hw b (by rw [← h]; simp [Eff.sites])).2
            rw [this]; exact h
          · cases h
        · cases h
  case slice t x lo hi mx =>
    cases mx with
    | some y => simp [opC] at h
    | none =>
      have h1 := he x (by simp [Op.operands])
      have h4 := hr _ rfl
      have hc : ∀ s g p off n, ev x = .ref s g p off n → ro'.cells s g p = ro.cells s g p := fun s g p off n hx => cells_loc (h4 s (by simp [hx, zdy]))
      have hlo : ∀ y, lo = some y → ev' y = ev y := fun y hy => he y (by simp [Op.operands, hy])
      have hhi : ∀ y, hi = some y → ev' y = ev y := fun y hy => he y (by simp [Op.operands, hy])
      cases lo with
      | none =>
        cases hi with
        | none =>
          simp only [opC, h1] at h ⊢
          cases hx : ev x <;> simp only [hx] at h ⊢ <;> first | exact h | (rw [hc _ _ _ _ _ hx]; exact h) | (rename_i v; cases v <;> exact h)
        | some z =>
          have e2 := hhi z rfl
          simp only [opC, h1, e2] at h ⊢
          cases hx : ev x <;> simp only [hx] at h ⊢ <;> first | exact h | (rw [hc _ _ _ _ _ hx]; exact h) | (rename_i v; cases v <;> exact h)
      | some y =>
        have e1 := hlo y rfl
        cases hi with
        | none =>
          simp only [opC, h1, e1] at h ⊢
          cases hx : ev x <;> simp only [hx] at h ⊢ <;> first | exact h | (rw [hc _ _ _ _ _ hx]; exact h) | (rename_i v; cases v <;> exact h)
        | some z =>
          have e2 := hhi z rfl
          simp only [opC, h1, e1, e2] at h ⊢
          cases hx : ev x <;> simp only [hx] at h ⊢ <;> first | exact h | (rw [hc _ _ _ _ _ hx]; exact h) | (rename_i v; cases v <;> exact h)
  case call c =>
    have hcv := fun f => hcall c f rfl
    simp only [opC] at h
    have hargs : ∀ x, x ∈ c.args.toList → ev' x = ev x := fun x hx => he x (by simp only [Op.operands, Call.operands]; exact Array.mem_append.2 (.inr (by simpa using hx)))
    have h4 : ∀ s, s ∈ c.args.toList.flatMap (fun x => zdy (ev x)) → ro' s = ro s := by
      refine hr _ ?_
      cases hc : c.callee <;> first | exact absurd hc (hcv _) | simp [rdS, hc]
    split at h
    · rename_i x t hc ha ht
      have h1 := hargs x (by simp [ha])
      simp only [opC, hc, ha, ht, h1]
      cases hi : ti t with
      | none => simp [hi] at h
      | some inf =>
        simp only [hi] at h ⊢
        have hc' : ∀ s g p off n, ev x = .ref s g p off n → ro'.cells s g p = ro.cells s g p := fun s g p off n hx => cells_loc (h4 s (by simp [ha, hx, zdy]))
        cases hx : ev x <;> simp only [hx] at h ⊢ <;> first | exact h | (rw [hc' _ _ _ _ _ hx]; exact h) | (rename_i v; cases v <;> first | exact h | (rename_i a n c; cases a <;> first | exact h | (cases n <;> first | exact h | (cases c <;> exact h))))
    · rename_i x y t t' hc ha ht
      have h1 := hargs x (by simp [ha])
      have h2 := hargs y (by simp [ha])
      simp only [opC, hc, ha, ht, h1, h2]
      split at h
      · rename_i hcnd
        rw [if_pos hcnd, appSrc_loc (ro := ro) (fun s hs => h4 s (by simp [ha, hs]))]
        cases hsrc : zeu ro (ev y) with
        | none => simp [hsrc] at h
        | some q =>
          obtain ⟨el, ws⟩ := q
          simp only [hsrc] at h ⊢
          split at h
          · rename_i hx
            split at h
            · rename_i h0; rw [if_pos h0]; exact h
            · rename_i h0
              rw [if_neg h0]
              split at h
              · rename_i h5
                rw [if_pos h5]
                simp only [Option.some.injEq] at h ⊢
                have := (hw b (by rw [← h]; simp [Eff.sites])).2
                rw [this]; exact h
              · cases h
          · rename_i s g off n hx
            have h5 : ro' s = ro s := h4 s (by simp [ha, hx, zdy])
            rw [dl_loc ws h5]
            split at h
            · rename_i cs hroot
              split at h
              · rename_i hle
                rw [if_pos hle]
                simp only [Option.some.injEq] at h ⊢
                have := (hw s (by rw [← h]; simp [Eff.sites])).2
                rw [this]; exact h
              · cases h
            · cases h
          · cases h
      · cases h
    · rename_i x y hc ha
      have h1 := hargs x (by simp [ha])
      have h2 := hargs y (by simp [ha])
      simp only [opC, hc, ha, h1, h2]; exact h
    · rename_i x y hc ha
      have h1 := hargs x (by simp [ha])
      have h2 := hargs y (by simp [ha])
      simp only [opC, hc, ha, h1, h2]; exact h
    · cases h
  all_goals simp [opC] at h

/-! ### Effects -/

theorem wr_off {x : Wr} {ro : Ro} {s : Nat} (h : s ≠ x.s) : (ro.wr x) s = ro s := by
  unfold Ro.wr
  cases ro x.s x.g with
  | none => rfl
  | some a => funext g'; simp [upr, h]

theorem wr_loc {x : Wr} {ro ro' : Ro} {s : Nat} (h : ro' x.s = ro x.s) (hs : ro' s = ro s) : (ro'.wr x) s = (ro.wr x) s := by
  unfold Ro.wr
  rw [h]
  cases ro x.s x.g with
  | none => exact hs
  | some a => funext g'; simp only [upr, hs]

theorem alRo_off : ∀ (l : List (Nat × AV)) {ro : Ro} {gn : Nat → Nat} {s : Nat}, s ∉ l.map (·.1) → (alRo ro gn l).1 s = ro s ∧ (alRo ro gn l).2 s = gn s
  | [], _, _, _, _ => ⟨rfl, rfl⟩
  | (x, a) :: l, ro, gn, s, h => by
    simp only [List.map_cons, List.mem_cons, not_or] at h
    have := alRo_off l (ro := upr ro x (gn x + 1) a) (gn := upg gn x (gn x + 1)) h.2
    refine ⟨this.1.trans ?_, this.2.trans ?_⟩
    · funext g'; simp [upr, h.1]
    · simp [upg, h.1]

theorem alRo_loc : ∀ (l : List (Nat × AV)) {ro ro' : Ro} {gn gn' : Nat → Nat} {s : Nat}, (∀ x, x ∈ l.map (·.1) → gn' x = gn x) → ro' s = ro s → gn' s = gn s → (alRo ro' gn' l).1 s = (alRo ro gn l).1 s ∧ (alRo ro' gn' l).2 s = (alRo ro gn l).2 s
  | [], _, _, _, _, _, _, h1, h2 => ⟨h1, h2⟩
  | (x, a) :: l, ro, ro', gn, gn', s, h, h1, h2 => by
    have hx : gn' x = gn x := h x (by simp)
    refine alRo_loc l (fun y hy => ?_) ?_ ?_
    · simp only [upg, hx]
      split
      · rfl
      · exact h y (by simp only [List.map_cons, List.mem_cons]; exact .inr hy)
    · funext g'; simp [upr, hx, h1]
    · simp only [upg, hx, h2]

theorem eff_off {st : St} {e : Eff} {s : Nat} (h : s ∉ e.sites) : (st.eff e).ro s = st.ro s ∧ (st.eff e).gn s = st.gn s := by
  simp only [Eff.sites, List.mem_append, not_or] at h
  obtain ⟨⟨h1, h2⟩, h3⟩ := h
  have hal := St.al_eq e.al { st with ro := (st.ro.wrO e.wr).dl e.dl }
  have := alRo_off e.al (ro := (st.ro.wrO e.wr).dl e.dl) (gn := st.gn) h3
  refine ⟨?_, ?_⟩
  · show ((St.al _ e.al).ro) s = _
    rw [hal.1, this.1, dl_off e.dl h2]
    cases hw : e.wr with
    | none => rfl
    | some x => rw [hw] at h1; exact wr_off (by simpa using h1)
  · show ((St.al _ e.al).gn) s = _
    rw [hal.2.1, this.2]

theorem eff_loc {st st' : St} {e : Eff} (h : ∀ s, s ∈ e.sites → st'.ro s = st.ro s ∧ st'.gn s = st.gn s) {s : Nat} (hs : s ∈ e.sites) : (st'.eff e).ro s = (st.eff e).ro s ∧ (st'.eff e).gn s = (st.eff e).gn s := by
  have hal := St.al_eq e.al { st with ro := (st.ro.wrO e.wr).dl e.dl }
  have hal' := St.al_eq e.al { st' with ro := (st'.ro.wrO e.wr).dl e.dl }
  have h1 : ((st'.ro.wrO e.wr).dl e.dl) s = ((st.ro.wrO e.wr).dl e.dl) s := by
    refine dl_loc e.dl ?_
    cases hw : e.wr with
    | none => exact (h s hs).1
    | some x => exact wr_loc (h x.s (by simp [Eff.sites, hw])).1 (h s hs).1
  have := alRo_loc e.al (ro := (st.ro.wrO e.wr).dl e.dl) (ro' := (st'.ro.wrO e.wr).dl e.dl) (gn := st.gn) (gn' := st'.gn) (s := s) (fun x hx => (h x (by simp only [Eff.sites, List.mem_append]; exact .inr hx)).2) h1 (h s hs).2
  refine ⟨?_, ?_⟩
  · show ((St.al _ e.al).ro) s = ((St.al _ e.al).ro) s
    rw [hal.1, hal'.1]; exact this.1
  · show ((St.al _ e.al).gn) s = ((St.al _ e.al).gn) s
    rw [hal.2.1, hal'.2.1]; exact this.2

/-- Two effects on different sites go in either order. -/
theorem eff_comm {st : St} {e f : Eff} (h : ∀ s, s ∈ e.sites → s ∉ f.sites) : ((st.eff e).eff f).ro = ((st.eff f).eff e).ro ∧ ((st.eff e).eff f).gn = ((st.eff f).eff e).gn := by
  have key : ∀ s, ((st.eff e).eff f).ro s = ((st.eff f).eff e).ro s ∧ ((st.eff e).eff f).gn s = ((st.eff f).eff e).gn s := by
    intro s
    by_cases he : s ∈ e.sites
    · have hf := h s he
      have h1 := eff_off (st := st.eff e) hf
      have h2 := eff_loc (st := st) (st' := st.eff f) (e := e) (fun x hx => eff_off (h x hx)) he
      exact ⟨h1.1.trans h2.1.symm, h1.2.trans h2.2.symm⟩
    · by_cases hf : s ∈ f.sites
      · have h1 := eff_off (st := st.eff f) he
        have h2 := eff_loc (st := st) (st' := st.eff e) (e := f) (fun x hx => eff_off (fun hxe => h x hxe hx)) hf
        exact ⟨h2.1.trans h1.1.symm, h2.2.trans h1.2.symm⟩
      · have h1 := eff_off (st := st.eff e) hf
        have h2 := eff_off (st := st) he
        have h3 := eff_off (st := st.eff f) he
        have h4 := eff_off (st := st) hf
        exact ⟨h1.1.trans (h2.1.trans (h4.1.symm.trans h3.1.symm)), h1.2.trans (h2.2.trans (h4.2.symm.trans h3.2.symm))⟩
  exact ⟨funext fun s => (key s).1, funext fun s => (key s).2⟩

end

end Go.Proofs.Ytifgeenipinnmaa
