/- The abstract machine: its operations are the model's (6): append. -/
import Derived.Test.YtifgeenipinnmaaVm10
set_option linter.all false
namespace Go.Proofs.Ytifgeenipinnmaa
open Go.RowKit

section
variable {P : Program} {ti : Nat → Option TI} {w0 : World} {A0 : Nat → Prop} {F0 : List Nat} {c : Cx} {Φ : Nat → Nat → List Nat} {R : List Nat} {st : St} {ρ : Operand → Value} {o : Oper} {e : Eff} {b : Nat}

theorem RelL.flat {as us F} (h : RelL c as us F) : as.all zez = true → F = [] := by
  induction h <;> simp_all [zez]

theorem RelL.ones {as us F} (h : RelL c as us F) : as.all (fun a => zez a || zey a) = true → ∀ v, v ∈ us → oneV v = true := by
  induction h <;> simp_all [zez, zey, oneV]

theorem all_or {as : List AV} (h : as.all zez = true) : as.all (fun a => zez a || zey a) = true := by
  rw [List.all_eq_true] at h ⊢
  intro x hx
  simp [h x hx]

theorem run_first (g b cap n : Nat) (us : List Value) (hn : us.length = n) (w : World) (h : ∀ (i : Nat) (u : Value), us[i]? = some u → w.cell? ⟨g, b + i, none⟩ = some u) :
    (Builtin.firstCells 1 n (.slice (some ⟨g, b, none⟩) n cap)).run P w = .ok us.toArray w :=
  run_firstCells_some (P := P) w 1 n ⟨g, b, none⟩ n cap us (by omega) (fun j v hj => by rw [addr_add]; exact h j v hj)

theorem appSrc_ok (hs : Sim w0 A0 F0 c Φ []) {a : AV} {u : Value} (hr : Rel c a u []) {el : List AV} {dl : List (Nat × Nat)} (h : zeu c.ro a = some (el, dl)) :
    ∃ c' Φ' R' F us, c'.w = c.w ∧ c'.ro = c.ro.dl dl ∧ c'.gn = c.gn ∧ c'.L = c.L ∧ c'.A = c.A ∧ Keep c c' ∧ Sim w0 A0 F0 c' Φ' R' ∧ RelL c' el us F ∧ (∀ y, y ∈ F → y ∈ R') ∧ (∀ v, v ∈ us → oneV v = true) ∧ (∀ w, (Builtin.lenOf u).run P w = .ok us.length w) ∧
      (∀ w', w'.heap = c.w.heap → (Builtin.firstCells 1 us.length u).run P w' = .ok us.toArray w') := by
  have hcell : ∀ w' : World, w'.heap = c.w.heap → ∀ a, w'.cell? a = c.w.cell? a := fun w' hw a => by simp [World.cell?, hw]
  unfold zeu at h
  split at h
  · rename_i cs
    split at h
    · rename_i hall
      simp only [Option.some.injEq, Prod.mk.injEq] at h
      obtain ⟨rfl, rfl⟩ := h
      obtain ⟨g1, b1, cap, us, rfl, k1, k2, k3, _⟩ := Rel.imm_inv hr
      refine ⟨c, Φ, [], [], us, rfl, rfl, rfl, rfl, rfl, Keep.refl c, hs, k1, by simp, k1.ones (all_or hall), fun w => rfl, fun w' hw => ?_⟩
      exact run_first g1 b1 cap us.length us rfl w' (fun i v hv => by rw [hcell w' hw]; exact k2.2.2 i v hv)
    · cases h
  · split at h
    · rename_i hn
      simp only [Option.some.injEq, Prod.mk.injEq] at h
      obtain ⟨rfl, rfl⟩ := h
      obtain ⟨rfl, _⟩ := Rel.sc_inv hr
      rw [isNilV_eq hn]
      exact ⟨c, Φ, [], [], [], rfl, rfl, rfl, rfl, rfl, Keep.refl c, hs, .nil, by simp, by simp, fun w => rfl, fun w' hw => run_firstCells_none (P := P) w' 1 0 0 0⟩
    · cases h
  · rename_i s g p off n
    cases hcs : c.ro.cells s g p with
    | none => simp [hcs] at h
    | some cs =>
      simp only [hcs] at h
      obtain ⟨x, cs', e0, e1, e2, e3⟩ := ref_hdr hr (by rw [hcs]; rfl)
      rw [hcs] at e0
      simp only [Option.some.injEq] at e0
      subst e0
      obtain ⟨x', us, F, cap, q0, q1, q2, q3, q4, q5, q6⟩ := hs.place hcs
      rw [e1] at q0
      simp only [Option.some.injEq] at q0
      subst q0
      obtain ⟨b', cap', arr, E, f1, f2, f3, f4, f5, f6⟩ := e2
      have hul : us.length = cs.length := q1.len.symm
      have hlen : ((us.drop off).take n).length = n := by rw [List.length_take, List.length_drop]; omega
      have hfirst : ∀ w', w'.heap = c.w.heap → (Builtin.firstCells 1 n u).run P w' = .ok ((us.drop off).take n).toArray w' := by
        intro w' hw
        rw [f1]
        rcases f2 with f2 | f2
        · rw [f2]
          exact run_first x.1 (x.2 + off) cap' n _ hlen w' (fun i v hv => by
            rw [hcell w' hw, Nat.add_assoc]
            refine q2.cell ?_
            rw [List.getElem?_take] at hv
            split at hv
            · rw [List.getElem?_drop] at hv; exact hv
            · cases hv)
        · have hn0 : n = 0 := by omega
          subst hn0
          exact run_first x.1 b' cap' 0 _ hlen w' (fun i v hv => by simp at hv)
      split at h
      · rename_i hall
        simp only [Option.some.injEq, Prod.mk.injEq] at h
        obtain ⟨rfl, rfl⟩ := h
        obtain ⟨F', k1, _⟩ := q1.cut off n
        have := k1.flat hall
        subst this
        refine ⟨c, Φ, [], [], _, rfl, rfl, rfl, rfl, rfl, Keep.refl c, hs, k1, by simp, k1.ones (all_or hall), fun w => by rw [f1, hlen]; rfl, fun w' hw => by rw [hlen]; exact hfirst w' hw⟩
      · split at h
        · rename_i hc
          obtain ⟨rfl, rfl, rfl, hall, hbx⟩ := hc
          simp only [Option.some.injEq, Prod.mk.injEq] at h
          obtain ⟨rfl, rfl⟩ := h
          have hroot : c.ro s g = some (.row cs) := by
            simp only [Ro.cells] at hcs
            cases hq : c.ro s g with
            | none => simp [hq] at hcs
            | some a =>
              simp only [hq] at hcs
              cases a <;> simp [blk] at hcs
              case row l => subst hcs; rfl
              case bx l => simp [isBxAt, Ro.at, hq, ath] at hbx
          obtain ⟨c', Φ', v, rfl, k1, k2, k3, k4⟩ := hs.take hroot
          obtain ⟨g1, b1, cap1, us1, F1, p1, p2, p3, p4, p5⟩ := Rel.row_inv k3
          obtain ⟨cap2, k4⟩ := k4
          rw [p1] at k4
          simp only [Value.slice.injEq, Option.some.injEq, Addr.mk.injEq] at k4
          obtain ⟨⟨e4, e5, _⟩, e6, _⟩ := k4
          simp only [locp, Option.some.injEq] at e1
          have hus : us1 = us := by
            apply List.ext_getElem?
            intro i
            by_cases hi : i < cs.length
            · have h1 := p4.cell (List.getElem?_eq_getElem (show i < us1.length by omega))
              have h2 := q2.cell (List.getElem?_eq_getElem (show i < us.length by omega))
              rw [e4, e5, e1] at h1
              have h1' : c.w.cell? ⟨x.1, x.2 + i, none⟩ = some us1[i] := h1
              rw [h1'] at h2
              rw [List.getElem?_eq_getElem (show i < us1.length by omega), List.getElem?_eq_getElem (show i < us.length by omega)]
              exact h2
            · rw [List.getElem?_eq_none (by omega), List.getElem?_eq_none (by omega)]
          subst hus
          have hfl : (us1.drop 0).take cs.length = us1 := by rw [List.drop_zero, List.take_of_length_le (by omega)]
          rw [hfl] at hfirst hlen
          refine ⟨{ c with ro := upr c.ro s g .dead }, Φ', [] ++ Φ s g, F1, us1, rfl, rfl, rfl, rfl, rfl, k1, k2, p3, fun y hy => by rw [p2]; simp [hy], p3.ones hall, fun w => by rw [f1, hlen]; rfl, fun w' hw => by rw [hlen]; exact hfirst w' hw⟩
        · cases h
  · cases h

/-- append, onto nothing. -/
theorem append_nil_ok (T : TOK P ti) (hs : Sim w0 A0 F0 c Φ []) (hro : c.ro = st.ro) (hgn : c.gn = st.gn) (hev : ∀ x, Rel c (st.ev x) (ρ x) []) {cl : Call} {x y : Operand} {t : Nat} {inf : TI} (ho : o.op = .call cl) (hc : cl.callee = .builtin .append)
    (ha : cl.args.toList = [x, y]) (ht : cl.argTypes.toList = [t, t]) (hi : ti t = some inf) {elt : Nat} (hel : inf.elem = some elt) {el : List AV} {ws : List (Nat × Nat)} (hsrc : zeu st.ro (st.ev y) = some (el, ws)) (hx : st.ev x = .sc (.slice none 0 0))
    (h : (if el.length = 0 then some (⟨.sc (.slice none 0 0), none, [], []⟩ : Eff)
            else if el.length ≤ maxN then some ⟨.ref b (st.gn b + 1) [] 0 el.length, none, ws, [(b, .row el)]⟩ else none) = some e) : OpOK P w0 A0 F0 c st ρ o e := by
  have hxv := hev x
  rw [hx] at hxv
  obtain ⟨hxv, _⟩ := Rel.sc_inv hxv
  have ha' : cl.args = #[x, y] := by rw [← Array.toArray_toList (xs := cl.args), ha]
  have ht' : cl.argTypes = #[t, t] := by rw [← Array.toArray_toList (xs := cl.argTypes), ht]
  rw [← hro] at hsrc
  obtain ⟨c1, Φ1, R1, F, us, e1, e2, e3, e4, e5, e6, e7, e8, e9, e10, e11, e12⟩ := appSrc_ok (P := P) hs (hev y) hsrc
  have hrun : ∀ v w', (Builtin.append_ #[t, t] o.type #[.slice none 0 0, ρ y]).run P c.w = .ok v w' → (execOp ρ o).run P c.w = .ok (.value v) w' := by
    intro v w' hv
    simp [execOp, ho, resolve, hc, ha', ht', invoke, builtin, hxv, hv]
  split at h
  · rename_i h0
    simp only [Option.some.injEq] at h
    subst h
    have hus : us = [] := List.eq_nil_of_length_eq_zero (by rw [← e8.len]; exact h0)
    subst hus
    refine OpOK.pure (v := .slice none 0 0) hs hro hgn (hrun _ _ ?_) (.sc _ .nil)
    obtain ⟨hd, ie, in2, z, _, h2, h3, _⟩ := (T.ok t inf hi).elem elt hel
    have hl := e11 c.w
    have hf := e12 c.w rfl
    simp only [List.length_nil] at hl hf
    simp [Builtin.append_, run_underlying hd, sizeOf, typeInfo, h2, h3, hl, hf]
  · rename_i h0
    split at h
    · rename_i hle
      simp only [Option.some.injEq] at h
      subst h
      have hul : us.length = el.length := e8.len.symm
      have hle' : us.length ≤ 4294967296 := by rw [hul]; exact hle
      obtain ⟨nc, rest, n1, n2, n3, n4⟩ := run_app_grow T hi hel c.w o.type (.slice none 0 0) none 0 0 rfl [] (fun w' _ => run_firstCells_none (P := P) w' 1 0 0 0) (ρ y) us us.length rfl (e11 c.w) e12 (by omega) (by omega)
      obtain ⟨c', Φ', h1, h2, h3, h4, h5, _, h6⟩ := new_ok e7 false b el us e8 e9 c1.w.drew rfl rfl rfl rfl ([] ++ us ++ rest).toArray elt nc (by omega) (by simp; omega) n2 (fun i u hu => by
        have := (List.getElem?_eq_some_iff.1 hu).1
        simp only [List.nil_append, List.getElem?_toArray]
        rw [List.getElem?_append_left this]; exact hu)
      refine ⟨.slice (some ⟨c.w.heap.size, 0, none⟩) us.length nc, _, c', Φ', .inl (hrun _ _ ?_), h1, ?_, ?_, h5, e6.trans h4, ?_⟩
      · rw [n4, e1]; simp
      · rw [h2, e2, e3, hro, hgn]; rfl
      · rw [h3, e3, hgn]; rfl
      · rw [← hgn, ← e3, ← e1, ← hul]
        exact h6 us.length (Nat.le_refl _)
    · cases h

theorem dl_append : ∀ (l1 l2 : List (Nat × Nat)) (ro : Ro), ro.dl (l1 ++ l2) = (ro.dl l1).dl l2
  | [], _, _ => rfl
  | (s, g) :: l1, l2, ro => dl_append l1 l2 (upr ro s g .dead)

/-- append, onto a slice of the call's own. -/
theorem append_ref_ok (T : TOK P ti) (hs : Sim w0 A0 F0 c Φ []) (hro : c.ro = st.ro) (hgn : c.gn = st.gn) (hev : ∀ x, Rel c (st.ev x) (ρ x) []) {cl : Call} {x y : Operand} {t : Nat} {inf : TI} (ho : o.op = .call cl) (hc : cl.callee = .builtin .append)
    (ha : cl.args.toList = [x, y]) (ht : cl.argTypes.toList = [t, t]) (hi : ti t = some inf) {elt : Nat} (hel : inf.elem = some elt) {el : List AV} {ws : List (Nat × Nat)} (hsrc : zeu st.ro (st.ev y) = some (el, ws)) {s g off n : Nat} (hx : st.ev x = .ref s g [] off n)
    {cs : List AV} (hroot : (st.ro.dl ws) s g = some (.row cs)) (hle : n + el.length ≤ maxN)
    (h : e = ⟨.ref s (st.gn s + 1) [] 0 (n + el.length), none, ws ++ [(s, g)], [(s, .row ((cs.drop off).take n ++ el))]⟩) : OpOK P w0 A0 F0 c st ρ o e := by
  subst h
  have hxv := hev x
  rw [hx] at hxv
  have ha' : cl.args = #[x, y] := by rw [← Array.toArray_toList (xs := cl.args), ha]
  have ht' : cl.argTypes = #[t, t] := by rw [← Array.toArray_toList (xs := cl.argTypes), ht]
  rw [← hro] at hsrc hroot
  obtain ⟨c1, Φ1, R1, F, us, e1, e2, e3, e4, e5, e6, e7, e8, e9, e10, e11, e12⟩ := appSrc_ok (P := P) hs (hev y) hsrc
  rw [← e2] at hroot
  have hxv1 : Rel c1 (.ref s g [] off n) (ρ x) [] := hxv.mono e6 (by simp)
  have hcells : c1.ro.cells s g [] = some cs := by simp [Ro.cells, hroot, blk]
  obtain ⟨z, cs', p0, p1, p2, p3⟩ := ref_hdr hxv1 (by rw [hcells]; rfl)
  rw [hcells] at p0
  simp only [Option.some.injEq] at p0
  subst p0
  simp only [locp, Option.some.injEq] at p1
  obtain ⟨b', cap, arr, E, f1, f2, f3, f4, f5, f6⟩ := p2
  have hΦR : ∀ q, q ∈ Φ1 s g → q ∉ R1 := fun q hq => e7.rd s g q hq
  obtain ⟨c2, Φ2, v, hc2, k1, k2, k3, k4⟩ := e7.take hroot
  have hc2w : c2.w = c1.w := by rw [hc2]
  have hc2r : c2.ro = upr c1.ro s g .dead := by rw [hc2]
  have hc2g : c2.gn = c1.gn := by rw [hc2]
  obtain ⟨g1, b1, cap1, us1, F1, q1, q2, q3, q4, q5⟩ := Rel.row_inv k3
  obtain ⟨cap2, k4⟩ := k4
  rw [q1] at k4
  simp only [Value.slice.injEq, Option.some.injEq, Addr.mk.injEq] at k4
  obtain ⟨⟨r1, r2, _⟩, r3, _⟩ := k4
  rw [p1] at r1 r2
  obtain ⟨F2, m1, m2⟩ := q3.cut off n
  have hlen : ((us1.drop off).take n).length = n := by rw [List.length_take, List.length_drop]; omega
  have hel2 : RelL c2 el us F := e8.mono k1 (fun y _ => by rw [hc2w])
  have hdisj : ∀ q, q ∈ F2 → q ∉ F := fun q hq hq2 => hΦR q (by rw [q2]; simp [m2 q hq]) (e9 q hq2)
  have hnew : RelL c2 ((cs.drop off).take n ++ el) ((us1.drop off).take n ++ us) (F2 ++ F) := m1.append hel2 hdisj
  have hg1F : g1 ∉ F2 ++ F := by
    intro hq
    rcases List.mem_append.1 hq with hq | hq
    · exact q5 (m2 _ hq)
    · exact hΦR g1 (by rw [q2]; simp) (e9 _ hq)
  have hpend : ∀ q, q ∈ g1 :: (F2 ++ F) → q ∈ R1 ++ Φ1 s g := by
    intro q hq
    simp only [List.mem_cons, List.mem_append] at hq ⊢
    rcases hq with rfl | hq | hq
    · right; rw [q2]; simp
    · right; rw [q2]; simp [m2 q hq]
    · left; exact e9 q hq
  have hul : us.length = el.length := e8.len.symm
  have hcellv : ∀ (i : Nat) (u : Value), ((us1.drop off).take n)[i]? = some u → c.w.cell? ⟨z.1, z.2 + off + i, none⟩ = some u := by
    intro i u hu
    rw [List.getElem?_take] at hu
    split at hu
    · rw [List.getElem?_drop] at hu
      have := q4.cell hu
      rw [r1, r2, hc2w, e1, ← Nat.add_assoc] at this
      exact this
    · cases hu
  have holds : ∀ w', w'.heap = c.w.heap → (Builtin.firstCells 1 n (ρ x)).run P w' = .ok ((us1.drop off).take n).toArray w' := by
    intro w' hw
    rw [f1]
    rcases f2 with f2 | f2
    · rw [f2]
      exact run_first z.1 (z.2 + off) cap n _ hlen w' (fun i v hv => by
        have := hcellv i v hv
        simpa [World.cell?, hw] using this)
    · have hn0 : n = 0 := by omega
      subst hn0
      exact run_first z.1 b' cap 0 _ hlen w' (fun i v hv => by simp at hv)
  have hrun : ∀ v w', (Builtin.append_ #[t, t] o.type #[ρ x, ρ y]).run P c.w = .ok v w' → (execOp ρ o).run P c.w = .ok (.value v) w' := by
    intro v w' hv
    simp [execOp, ho, resolve, hc, ha', ht', invoke, builtin, hv]
  -- how it ends, once the new row reads as it should
  have hend : ∀ (w' : World) (g2 b2 cap3 : Nat), w'.os = c2.w.os → w'.tape = c2.w.tape → w'.output = c2.w.output → c2.w.heap.size ≤ w'.heap.size → (∀ a, w'.frozen? a = c2.w.frozen? a) → (∀ q, q < c2.w.heap.size → q ∉ R1 ++ Φ1 s g → w'.heap[q]? = c2.w.heap[q]?) →
      (g2 = g1 ∨ (c2.w.heap.size ≤ g2 ∧ g2 < w'.heap.size)) → (∀ q, q ∈ F2 ++ F → w'.heap[q]? = c2.w.heap[q]?) → ownB w' g2 b2 ((us1.drop off).take n ++ us) cap3 → (execOp ρ o).run P c.w = .ok (.value (.slice (some ⟨g2, b2, none⟩) (n + us.length) cap3)) w' →
      OpOK P w0 A0 F0 c st ρ o ⟨.ref s (st.gn s + 1) [] 0 (n + el.length), none, ws ++ [(s, g)], [(s, .row ((cs.drop off).take n ++ el))]⟩ := by
    intro w' g2 b2 cap3 hos htp hout hsz hfr hold hg2 hkeep hown hr
    have hg2F : g2 ∉ F2 ++ F := by
      rcases hg2 with rfl | hg2
      · exact hg1F
      · intro hq
        have := k2.al g2 (k2.rown g2 (hpend g2 (by simp [List.mem_append.1 hq]))).1
        omega
    obtain ⟨c3, d1, d2, d3, d4, d5, d6, d7⟩ := k2.wchg w' (g2 :: (F2 ++ F)) hos htp hout hsz hfr hold (fun q hq => by
      rcases List.mem_cons.1 hq with rfl | hq
      · rcases hg2 with rfl | hg2
        · left; exact hpend _ (by simp)
        · right; exact hg2
      · left; exact hpend q (by simp [List.mem_append.1 hq]))
    have hnew3 : RelL c3 ((cs.drop off).take n ++ el) ((us1.drop off).take n ++ us) (F2 ++ F) := hnew.mono d6 (fun q hq => by rw [d1]; exact hkeep q hq)
    have hrow := Rel.mk_row (c := c3) g2 b2 cap3 hnew3 (by rw [d1]; exact hown) hg2F
    obtain ⟨c4, Φ4, g41, g42, g43, g44⟩ := Sim.renew (R := []) (by simpa using d7) s (g2, b2) hrow ⟨cap3, by rw [hnew3.len]⟩ (by simp)
    have hlen2 : ((us1.drop off).take n ++ us).length = n + us.length := by rw [List.length_append, hlen]
    refine ⟨_, w', c4, Φ4, .inl hr, by rw [g41]; exact d1, ?_, ?_, g43, e6.trans (k1.trans (d6.trans g42)), ?_⟩
    · rw [g41]
      simp only [d2, d3, hc2r, hc2g, e3, hgn, e2, hro]
      simp [St.eff, St.al, Ro.wrO, dl_append, Ro.dl]
    · rw [g41]
      simp only [d3, hc2g, e3, hgn]
      rfl
    · have hgs : c3.gn s = st.gn s := by rw [d3, hc2g, e3, hgn]
      rw [hgs] at g44
      rw [← hul]
      refine .ref s _ [] 0 _ _ (by rw [g41]; simp [upg, hgs]) (fun ds hds => ⟨(g2, b2), by simp [locp, g44], ?_, ?_⟩) .nil
      · obtain ⟨arr3, E3, o1, o2, o3, o4, o5⟩ := hown
        exact ⟨b2, cap3, arr3, E3, rfl, .inl rfl, by rw [g41]; show c3.w.heap[g2]? = _; rw [d1]; exact o1, o2, by rw [← hlen2]; exact o3, o4⟩
      · have hd3 : ds = (cs.drop off).take n ++ el := by
          rw [g41] at hds
          simp [Ro.cells, upr, hgs, blk] at hds
          exact hds.symm
        rw [hd3, hnew3.len, hlen2]; omega
  by_cases hroom : n + us.length ≤ cap
  · -- there is room
    have hbr : b' = z.2 + off ∨ us.length = 0 := by
      rcases f2 with f2 | f2
      · exact .inl f2
      · right; omega
    obtain ⟨arr1, E1, o1, o2, o3, o4, o5⟩ := q4
    have harr : arr1 = arr ∧ E1 = E := by
      rw [r1, hc2w, f3] at o1
      simp only [Option.some.injEq, Obj.cells.injEq] at o1
      exact ⟨o1.1.symm, o1.2.1.symm⟩
    obtain ⟨rfl, rfl⟩ := harr
    have f3' : c.w.heap[z.1]? = some (.cells arr1 E1 (0, 0)) := by rw [← e1]; exact f3
    have hr := run_app_room T hi hel c.w o.type z.1 b' n cap arr1 E1 f3' (ρ y) us us.length rfl (e11 c.w) (e12 c.w rfl) e10 hroom (by omega)
    have hsz : ∀ l : Array Value, (c.w.setRow z.1 l).heap.size = c.w.heap.size := fun l => by simp [World.setRow]
    have hw2 : c2.w = c.w := by rw [hc2w, e1]
    refine hend _ z.1 b' cap ?_ ?_ ?_ ?_ ?_ ?_ (.inl r1.symm) ?_ ?_ (hrun _ _ (by rw [f1]; exact hr))
    · rw [hw2]; rfl
    · rw [hw2]; rfl
    · rw [hw2]; rfl
    · rw [hw2, hsz]; exact Nat.le_refl _
    · refine frozen_of fun k => ?_
      rw [hw2]
      by_cases e : k = z.1
      · subst e; exact .inr ⟨⟨_, _, setRow_heap _ _ _ _ _ _ f3'⟩, .inr ⟨_, _, f3'⟩⟩
      · exact .inl (setRow_other _ _ _ _ e)
    · intro q hq hnq
      rw [hw2]
      refine setRow_other _ _ _ _ (fun eq => hnq ?_)
      rw [eq, ← r1, List.mem_append, q2]; right; simp
    · intro q hq
      rw [hw2]
      refine setRow_other _ _ _ _ (fun eq => hg1F ?_)
      rw [r1, ← eq]; exact hq
    · refine ⟨_, E1, setRow_heap _ _ _ _ _ _ f3', ?_, by rw [List.length_append, hlen]; exact hroom, f6, fun i u hu => ?_⟩
      · simp; omega
      · simp only [List.getElem?_toArray]
        have hla : (arr1.toList.take (b' + n)).length = b' + n := by rw [List.length_take, Array.length_toList]; omega
        by_cases hin : i < n
        · rw [List.getElem?_append_left (by rw [hlen]; exact hin)] at hu
          have hb2 : b' = z.2 + off := by
            rcases f2 with f2 | f2
            · exact f2
            · omega
          rw [List.append_assoc, List.getElem?_append_left (by omega), List.getElem?_take, if_pos (by omega)]
          rw [List.getElem?_take, if_pos hin, List.getElem?_drop] at hu
          have := o5 (off + i) u hu
          rw [r2] at this
          simp only [Array.getElem?_toList]
          rw [hb2, Nat.add_assoc]; exact this
        · rw [List.getElem?_append_right (by rw [hlen]; omega), hlen] at hu
          have hiu := (List.getElem?_eq_some_iff.1 hu).1
          rw [List.getElem?_append_left (by rw [List.length_append, hla]; omega), List.getElem?_append_right (by rw [hla]; omega), hla]
          have : b' + i - (b' + n) = i - n := by omega
          rw [this]; exact hu
  · -- it grows
    obtain ⟨nc, rest, n1, n2, n3, n4⟩ := run_app_grow T hi hel c.w o.type (ρ x) _ n cap f1 ((us1.drop off).take n) holds (ρ y) us us.length rfl (e11 c.w) e12 (by omega) (by rw [hul]; exact hle)
    have hw2 : c2.w = c.w := by rw [hc2w, e1]
    have hnb : ∀ q, q < c.w.heap.size → (c.w.drew.alloc (.cells ((us1.drop off).take n ++ us ++ rest).toArray elt)).heap[q]? = c.w.heap[q]? := fun q hq => Below.heap_alloc c.w.drew _ q hq
    refine hend _ c.w.heap.size 0 nc ?_ ?_ ?_ ?_ (fun a => by rw [hw2]; exact (frozen?_alloc_cells _ _ _ a).trans rfl) ?_ (.inr ?_) ?_ ?_ (hrun _ _ n4)
    · rw [hw2]; rfl
    · rw [hw2]; rfl
    · rw [hw2]; rfl
    · rw [hw2]; simp
    · intro q hq _; rw [hw2] at hq ⊢; exact hnb q hq
    · rw [hw2]; simp
    · intro q hq
      rw [hw2]
      have := k2.al q (k2.rown q (hpend q (by simp [List.mem_append.1 hq]))).1
      rw [hw2] at this
      exact hnb q this
    · refine ⟨((us1.drop off).take n ++ us ++ rest).toArray, elt, heap_alloc_new c.w.drew _, ?_, by rw [List.length_append, hlen]; exact n1, n2, fun i u hu => ?_⟩
      · simp only [List.size_toArray, List.length_append, hlen]; omega
      · simp only [Nat.zero_add, List.getElem?_toArray]
        rw [List.getElem?_append_left (List.getElem?_eq_some_iff.1 hu).1]; exact hu

end

end Go.Proofs.Ytifgeenipinnmaa
