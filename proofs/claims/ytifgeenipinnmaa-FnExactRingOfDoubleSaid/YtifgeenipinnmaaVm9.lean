/- The abstract machine: its operations are the model's (4): those that make or write memory. -/
import Derived.Test.YtifgeenipinnmaaVm8
set_option linter.all false
namespace Go.Proofs.Ytifgeenipinnmaa
open Go.RowKit

section
variable {P : Program} {ti : Nat → Option TI} {w0 : World} {A0 : Nat → Prop} {F0 : List Nat} {c : Cx} {Φ : Nat → Nat → List Nat} {R : List Nat} {st : St} {ρ : Operand → Value} {o : Oper} {e : Eff} {b : Nat}

theorem eff_al (st : St) (v : AV) (s : Nat) (a : AV) : (st.eff ⟨v, none, [], [(s, a)]⟩).ro = upr st.ro s (st.gn s + 1) a ∧ (st.eff ⟨v, none, [], [(s, a)]⟩).gn = upg st.gn s (st.gn s + 1) := ⟨rfl, rfl⟩

/-- A new block: the pointer and the header that come of it. -/
theorem new_ok (h : Sim w0 A0 F0 c Φ R) (isb : Bool) (s : Nat) (cs : List AV) (us : List Value) {F : List Nat} (hR : RelL c cs us F) (hFR : ∀ x, x ∈ F → x ∈ R) (w1 : World) (hw1 : w1.heap = c.w.heap) (hos : w1.os = c.w.os) (htp : w1.tape = c.w.tape) (hout : w1.output = c.w.output)
    (arr : Array Value) (E : Nat) (cap : Nat) (hc1 : us.length ≤ cap) (hc2 : cap ≤ arr.size) (hc3 : cap ≤ maxLen) (harr : ∀ (i : Nat) (u : Value), us[i]? = some u → arr[i]? = some u) :
    ∃ c' Φ', c'.w = w1.alloc (.cells arr E) ∧ c'.ro = upr c.ro s (c.gn s + 1) (if isb then .bx cs else .row cs) ∧ c'.gn = upg c.gn s (c.gn s + 1) ∧ Keep c c' ∧ Sim w0 A0 F0 c' Φ' [] ∧
      Rel c' (.ptr s (c.gn s + 1) [] 0) (.pointer (some ⟨c.w.heap.size, 0, none⟩)) [] ∧
      ∀ n, n ≤ us.length → Rel c' (.ref s (c.gn s + 1) [] 0 n) (.slice (some ⟨c.w.heap.size, 0, none⟩) n cap) [] := by
  have hsz : (w1.alloc (.cells arr E)).heap.size = c.w.heap.size + 1 := by simp [hw1]
  have hold : ∀ b, b < c.w.heap.size → (w1.alloc (.cells arr E)).heap[b]? = c.w.heap[b]? := fun b hb => by
    rw [Below.heap_alloc w1 _ b (by rw [hw1]; exact hb), hw1]
  have hnew : (w1.alloc (.cells arr E)).heap[c.w.heap.size]? = some (.cells arr E (0, 0)) := by
    have := heap_alloc_new w1 (.cells arr E)
    rwa [hw1] at this
  have hRlt : ∀ x, x ∈ F → x < c.w.heap.size := fun x hx => h.al x (h.rown x (hFR x hx)).1
  obtain ⟨c1, q1, q2, q3, q4, q5, q6, q7⟩ := h.wchg (w1.alloc (.cells arr E)) (c.w.heap.size :: F) hos htp hout (by omega) (frozen_of fun k => by
    rcases Nat.lt_trichotomy k c.w.heap.size with hk | hk | hk
    · exact .inl (hold k hk)
    · subst hk; exact .inr ⟨⟨_, _, hnew⟩, .inl (by simp)⟩
    · left; rw [Array.getElem?_eq_none (by omega), Array.getElem?_eq_none (by omega)]) (fun b hb _ => hold b hb) (fun x hx => by
    rcases List.mem_cons.1 hx with rfl | hx
    · right; omega
    · exact .inl (hFR x hx))
  have hR1 : RelL c1 cs us F := hR.mono q6 (fun b hb => by rw [q1]; exact hold b (hRlt b hb))
  have hown : ownB c1.w c.w.heap.size 0 us cap := ⟨arr, E, by rw [q1]; exact hnew, by omega, hc1, hc3, fun i u hu => by rw [Nat.zero_add]; exact harr i u hu⟩
  have hnotR : c.w.heap.size ∉ F := fun hx => Nat.lt_irrefl _ (hRlt _ hx)
  obtain ⟨v, hv, hh⟩ : ∃ v, Rel c1 (if isb then AV.bx cs else AV.row cs) v (c.w.heap.size :: F) ∧ hd (c.w.heap.size, 0) (if isb then AV.bx cs else AV.row cs) v := by
    cases isb
    · exact ⟨_, Rel.mk_row _ 0 cap hR1 hown hnotR, ⟨cap, by rw [hR.len]⟩⟩
    · exact ⟨_, Rel.mk_bx _ 0 cap hR1 hown hnotR, rfl⟩
  obtain ⟨c', Φ', e1, e2, e3, e4⟩ := Sim.renew (R := []) (by simpa using q7) s (c.w.heap.size, 0) hv hh (by simp)
  have e1w : c'.w = w1.alloc (.cells arr E) := by rw [e1]; exact q1
  have e1r : c'.ro = upr c.ro s (c.gn s + 1) (if isb then .bx cs else .row cs) := by rw [e1]; simp only [q2, q3]
  have e1g : c'.gn = upg c.gn s (c.gn s + 1) := by rw [e1]; simp only [q3]
  rw [q3] at e4
  have hg : c.gn s + 1 ≤ c'.gn s := by rw [e1g]; simp [upg]
  have hcells : ∀ ds, c'.ro.cells s (c.gn s + 1) [] = some ds → ds = cs := by
    intro ds hds
    rw [e1r] at hds
    cases isb <;> simp [Ro.cells, upr, blk] at hds <;> exact hds.symm
  refine ⟨c', Φ', e1w, e1r, e1g, q6.trans e2, e3, ?_, fun n hn => ?_⟩
  · exact .ptr s _ [] 0 _ hg (fun ds _ => ⟨(c.w.heap.size, 0), by simp [locp, e4], rfl⟩) .nil
  · refine .ref s _ [] 0 n _ hg (fun ds hds => ⟨(c.w.heap.size, 0), by simp [locp, e4], ?_, ?_⟩) .nil
    · refine ⟨0, cap, arr, E, rfl, .inl rfl, ?_, by omega, by omega, hc3⟩
      rw [e1w]; exact hnew
    · rw [hcells ds hds, hR.len]; omega

theorem relL_sc (c : Cx) : ∀ us : List Value, RelL c (us.map .sc) us []
  | [] => .nil
  | u :: us => .sc u (relL_sc c us)

theorem cellOk_one {a : AV} {u : Value} (h : zez a = true) (hr : Rel c a u []) : oneV u = true := by
  cases a <;> simp [zez] at h
  case sc v => obtain ⟨rfl, _⟩ := Rel.sc_inv hr; exact h
  case imm cs => obtain ⟨g, b, cap, us, rfl, _⟩ := Rel.imm_inv hr; rfl
  case iptr cs => obtain ⟨g, b, us, rfl, _⟩ := Rel.iptr_inv hr; rfl
  case fn f cs => obtain ⟨us, rfl, _⟩ := Rel.fn_inv hr; rfl

theorem cellOkB_one {a : AV} {u : Value} (h : cellOkB c.ro a = true) (hr : Rel c a u []) : oneV u = true := by
  cases a <;> simp only [cellOkB, Bool.and_eq_true] at h
  case ref s g p off n =>
    obtain ⟨x, cs, _, _, h2, _⟩ := ref_hdr hr h.2
    obtain ⟨b', cap, arr, E, h3, _⟩ := h2
    rw [h3]; rfl
  case ptr s g p i =>
    obtain ⟨cs, hcs⟩ := Option.isSome_iff_exists.1 h.2
    obtain ⟨x, _, hv⟩ := ptr_loc hr hcs
    rw [hv]; rfl
  all_goals exact cellOk_one h hr

theorem one_cells {u : Value} (h : oneV u = true) : u.cells = #[u] := by cases u <;> first | rfl | cases h

/-- The cells of a value and of what reads so. -/
theorem cellsA_rel {a : AV} {u : Value} (hr : Rel c a u []) (f : AV → Bool) (hf : ∀ a u, f a = true → Rel c a u [] → oneV u = true) (h : (zem a).all f = true) :
    RelL c (zem a) u.cells.toList [] ∧ ∀ v, v ∈ u.cells.toList → oneV v = true := by
  have hl : ∀ (as : List AV) (us : List Value), RelL c as us [] → as.all f = true → ∀ v, v ∈ us → oneV v = true := by
    intro as
    induction as with
    | nil => intro us h1 _ v hv; obtain ⟨rfl, _⟩ := RelL.nilF h1; cases hv
    | cons a as ih =>
      intro us h1 h2 v hv
      obtain ⟨u, us', F, G, rfl, hF, ha, hr', _⟩ := RelL.uncons h1
      have : F = [] ∧ G = [] := by simpa using hF.symm
      obtain ⟨rfl, rfl⟩ := this
      simp only [List.all_cons, Bool.and_eq_true] at h2
      rcases List.mem_cons.1 hv with rfl | hv
      · exact hf _ _ h2.1 ha
      · exact ih us' hr' h2.2 v hv
  by_cases hagg : ∃ cs, a = .agg cs
  · obtain ⟨cs, rfl⟩ := hagg
    obtain ⟨us, rfl, h1⟩ := Rel.agg_inv hr
    simp only [zem] at h ⊢
    exact ⟨by simpa [Value.cells] using h1, by simpa [Value.cells] using hl cs us h1 h⟩
  · have hc : zem a = [a] := by cases a <;> first | rfl | exact absurd ⟨_, rfl⟩ hagg
    rw [hc] at h ⊢
    simp only [List.all_cons, List.all_nil, Bool.and_true] at h
    have h1 := hf a u h hr
    rw [one_cells h1]
    exact ⟨by simpa using hr, by simpa using h1⟩

theorem alloc_ok (T : TOK P ti) (hs : Sim w0 A0 F0 c Φ []) (hro : c.ro = st.ro) (hgn : c.gn = st.gn) {t : Nat} (ho : o.op = .alloc t)
    (h : opC ti b st.ro st.gn st.ev (.alloc t) = some e) : OpOK P w0 A0 F0 c st ρ o e := by
  simp only [opC] at h
  cases hi : ti t with
  | none => simp [hi] at h
  | some inf =>
    simp only [hi, Option.some.injEq] at h
    subst h
    have hz := (T.ok t inf hi).zl
    obtain ⟨c', Φ', h1, h2, h3, h4, h5, h6, _⟩ := new_ok hs true b (inf.zero.map .sc) inf.zero (relL_sc c _) (by simp) c.w rfl rfl rfl rfl inf.zero.toArray t inf.zero.length (Nat.le_refl _) (by simp) (by unfold maxLen; omega) (fun i u hu => by simpa using hu)
    refine ⟨.pointer (some ⟨c.w.heap.size, 0, none⟩), _, c', Φ', .inl ?_, h1, ?_, ?_, h5, h4, ?_⟩
    · have := run_alloc T hi c.w
      simp [execOp, ho, this]
    · rw [h2, hro, hgn]; rfl
    · rw [h3, hgn]; rfl
    · rw [← hgn]; exact h6

theorem box_ok (hs : Sim w0 A0 F0 c Φ []) (hro : c.ro = st.ro) (hgn : c.gn = st.gn) (hev : ∀ x, Rel c (st.ev x) (ρ x) []) {t : Nat} {x : Operand} (ho : o.op = .box t x)
    (h : opC ti b st.ro st.gn st.ev (.box t x) = some e) : OpOK P w0 A0 F0 c st ρ o e := by
  simp only [opC] at h
  split at h
  · rename_i hall
    split at h
    · rename_i hlen
      simp only [Option.some.injEq] at h
      subst h
      rw [← hro] at hall
      obtain ⟨k1, k2⟩ := cellsA_rel (hev x) (cellOkB c.ro) (fun a u => cellOkB_one) hall
      have hl : (ρ x).cells.size ≤ 65536 := by rw [← Array.length_toList, ← k1.len]; exact hlen
      obtain ⟨c', Φ', h1, h2, h3, h4, h5, h6, _⟩ := new_ok hs true b (zem (st.ev x)) (ρ x).cells.toList k1 (by simp) c.w rfl rfl rfl rfl (ρ x).cells t (ρ x).cells.size (by simp) (Nat.le_refl _) (by unfold maxLen; omega) (fun i u hu => by simpa using hu)
      refine ⟨.pointer (some ⟨c.w.heap.size, 0, none⟩), _, c', Φ', .inl ?_, h1, ?_, ?_, h5, h4, ?_⟩
      · have := run_box (P := P) c.w t (ρ x)
        simp [execOp, ho, this]
      · rw [h2, hro, hgn]; rfl
      · rw [h3, hgn]; rfl
      · rw [← hgn]; exact h6
    · cases h
  · cases h

theorem store_ok (T : TOK P ti) (hs : Sim w0 A0 F0 c Φ []) (hro : c.ro = st.ro) (hgn : c.gn = st.gn) (hev : ∀ x, Rel c (st.ev x) (ρ x) []) {t : Nat} {x y : Operand} (ho : o.op = .store t x y)
    (h : opC ti b st.ro st.gn st.ev (.store t x y) = some e) : OpOK P w0 A0 F0 c st ρ o e := by
  simp only [opC] at h
  cases hi : ti t with
  | none => simp [hi] at h
  | some inf =>
    simp only [hi] at h
    have hx := hev x
    split at h
    · rename_i s g p i hxe
      rw [hxe] at hx
      cases hcs : st.ro.cells s g p with
      | none => simp [hcs] at h
      | some cs =>
        simp only [hcs] at h
        by_cases hc : i + inf.size ≤ cs.length ∧ (zem (st.ev y)).length = inf.size ∧ (zem (st.ev y)).all (if isBxAt st.ro s g p then cellOkB st.ro else zez) = true
        · rw [if_pos hc] at h
          obtain ⟨hle, hsz, hall⟩ := hc
          simp only [Option.some.injEq] at h
          subst h
          rw [← hro] at hcs hall
          have hone : ∀ a u, (if isBxAt c.ro s g p then cellOkB c.ro else zez) a = true → Rel c a u [] → oneV u = true := by
            intro a u h1 h2
            split at h1
            · exact cellOkB_one h1 h2
            · exact cellOk_one h1 h2
          obtain ⟨k1, k2⟩ := cellsA_rel (hev y) _ hone hall
          obtain ⟨z, hz, hv⟩ := ptr_loc hx hcs
          obtain ⟨z', arr, E, e1, e2, e3, c', Φ', h1, h2, h3, h4, h5, h6⟩ := hs.store hcs i (zem (st.ev y)) (ρ y).cells.toList (by omega) k1 (fun a ha ds e => by
            have := List.all_eq_true.1 hall a ha
            subst e
            split at this <;> simp [cellOkB, zez] at this)
          rw [hz] at e1
          simp only [Option.some.injEq] at e1
          subst e1
          have hsz' : (ρ y).cells.size = inf.size := by rw [← Array.length_toList, ← k1.len]; exact hsz
          have hr := run_storeAt T hi c.w z.1 (z.2 + i) (ρ y) arr E e2 hsz' (by simpa using e3) k2
          refine ⟨undef, _, c', Φ', .inr ⟨rfl, ?_⟩, h1, ?_, ?_, h6, h5, .sc _ .nil⟩
          · simp [execOp, ho, hv, hr]
          · rw [h2, hro]; rfl
          · rw [h3, hgn]; rfl
        · rw [if_neg hc] at h; cases h
    · cases h

theorem makeSlice_ok (T : TOK P ti) (hs : Sim w0 A0 F0 c Φ []) (hro : c.ro = st.ro) (hgn : c.gn = st.gn) (hev : ∀ x, Rel c (st.ev x) (ρ x) []) {t : Nat} {x y : Operand} (ho : o.op = .makeSlice t x y)
    (h : opC ti b st.ro st.gn st.ev (.makeSlice t x y) = some e) : OpOK P w0 A0 F0 c st ρ o e := by
  simp only [opC] at h
  cases hi : ti t with
  | none => simp [hi] at h
  | some inf =>
    simp only [hi] at h
    cases hel : inf.elem with
    | none => simp [hel] at h
    | some el =>
      simp only [hel] at h
      split at h
      · rename_i ie n m hie hxe hye
        have hx := hev x; rw [hxe] at hx
        have hy := hev y; rw [hye] at hy
        obtain ⟨hx, _⟩ := Rel.sc_inv hx
        obtain ⟨hy, _⟩ := Rel.sc_inv hy
        split at h
        · rename_i hc
          obtain ⟨h0, h1, h2⟩ := hc
          simp only [Option.some.injEq] at h
          subst h
          obtain ⟨hd, ie', in2, z, q1, q2, q3, q4, q5, q6⟩ := (T.ok t inf hi).elem el hel
          rw [hie] at q1
          simp only [Option.some.injEq] at q1
          subst q1
          have hm : m ≤ 4294967296 := h2
          have hbytes : (in2.bytes : Int) * m ≤ 281474976710656 := by
            have : (in2.bytes : Int) * m ≤ 1024 * 4294967296 := by
              have hb : (in2.bytes : Int) ≤ 1024 := by omega
              exact Int.mul_le_mul hb hm (by omega) (by omega)
            omega
          have hr := run_make (P := P) c.w t el in2 z hd q2 q5 .i64 .i64 n m h0 h1 hbytes (by omega)
          have hsz : (madeCells z.cells (m.toNat * in2.size)).size = m.toNat := by rw [size_madeCells, q3, Nat.mul_one]
          obtain ⟨c', Φ', k1, k2, k3, k4, k5, _, k6⟩ := new_ok hs false b ((List.replicate n.toNat (ie.zero.getD 0 undef)).map .sc) (List.replicate n.toNat (ie.zero.getD 0 undef)) (relL_sc c _) (by simp) c.w rfl rfl rfl rfl
            (madeCells z.cells (m.toNat * in2.size)) el m.toNat (by simp; omega) (by rw [hsz]; exact Nat.le_refl _) (by unfold maxLen; omega) (fun i u hu => by
              have hlt : i < n.toNat := by have := (List.getElem?_eq_some_iff.1 hu).1; simpa using this
              have : u = ie.zero.getD 0 undef := by
                rw [List.getElem?_replicate, if_pos hlt] at hu
                exact (Option.some.inj hu).symm
              subst this
              rw [q3, Nat.mul_one, q6]
              have hlt2 : i < m.toNat := by omega
              generalize ie.zero.getD 0 undef = zz
              simp [madeCells, hlt2, Nat.mod_one])
          refine ⟨.slice (some ⟨c.w.heap.size, 0, none⟩) n.toNat m.toNat, _, c', Φ', .inl ?_, k1, ?_, ?_, k5, k4, ?_⟩
          · simp [execOp, ho, hx, hy, hr]
          · rw [k2, hro, hgn]
            simp [St.eff, St.al, Ro.wrO, Ro.dl]
          · rw [k3, hgn]; rfl
          · rw [← hgn]; exact k6 n.toNat (by simp)
        · cases h
      · cases h

/-- A part of a new slice: what it becomes, and what is at hand for it. -/
theorem moveIn_ok (hs : Sim w0 A0 F0 c Φ R) {a : AV} {u : Value} (hr : Rel c a u []) {a' : AV} {dl : List (Nat × Nat)} (h : zes c.ro a = some (a', dl)) :
    ∃ c' Φ' F, c'.w = c.w ∧ c'.ro = c.ro.dl dl ∧ c'.gn = c.gn ∧ c'.L = c.L ∧ c'.A = c.A ∧ Keep c c' ∧ Sim w0 A0 F0 c' Φ' (R ++ F) ∧ Rel c' a' u F ∧ oneV u = true ∧ (∀ x, x ∈ R → x ∉ F) := by
  have hplain : zez a = true → a' = a → dl = [] → ∃ c' Φ' F, c'.w = c.w ∧ c'.ro = c.ro.dl dl ∧ c'.gn = c.gn ∧ c'.L = c.L ∧ c'.A = c.A ∧ Keep c c' ∧ Sim w0 A0 F0 c' Φ' (R ++ F) ∧ Rel c' a' u F ∧ oneV u = true ∧ (∀ x, x ∈ R → x ∉ F) := by
    rintro h1 rfl rfl
    exact ⟨c, Φ, [], rfl, rfl, rfl, rfl, rfl, Keep.refl c, by simpa using hs, hr, cellOk_one h1 hr, by simp⟩
  unfold zes at h
  split at h
  · rename_i s g n
    cases hro : c.ro s g with
    | none => simp [hro] at h
    | some x =>
      cases x <;> simp only [hro, reduceCtorEq] at h
      rename_i cs
      split at h
      · rename_i hn
        simp only [Option.some.injEq, Prod.mk.injEq] at h
        obtain ⟨rfl, rfl⟩ := h
        have hl : c.ro.cells s g [] = some cs := by simp [Ro.cells, hro, blk]
        obtain ⟨x, cs', h1, h2, h3, h4⟩ := ref_hdr hr (by rw [hl]; rfl)
        rw [hl] at h1
        simp only [Option.some.injEq] at h1
        subst h1
        simp only [locp, Option.some.injEq] at h2
        subst h2
        obtain ⟨b', cap, arr, E, e1, e2, e3, e4, e5, e6⟩ := h3
        obtain ⟨c', Φ', v, rfl, k1, k2, k3, k4⟩ := hs.take hro
        obtain ⟨g1, b1, cap1, us, F', q1, q2, q3, q4, q5⟩ := Rel.row_inv k3
        obtain ⟨cap2, q6⟩ := k4
        rw [q1] at q6
        simp only [Value.slice.injEq, Option.some.injEq, Addr.mk.injEq] at q6
        obtain ⟨⟨q7, q8, _⟩, q9, _⟩ := q6
        refine ⟨{ c with ro := upr c.ro s g .dead }, Φ', Φ s g, rfl, rfl, rfl, rfl, rfl, k1, k2, ?_, by rw [e1]; rfl, fun y hy hy' => hs.rd s g y hy' hy⟩
        have hb : ownB c.w g1 b' us cap := by
          obtain ⟨arr1, E1, p1, p2, p3, p4, p5⟩ := q4
          have p1' : c.w.heap[g1]? = some (.cells arr1 E1 (0, 0)) := p1
          rw [q7, e3] at p1'
          simp only [Option.some.injEq, Obj.cells.injEq] at p1'
          obtain ⟨rfl, rfl, _⟩ := p1'
          refine ⟨arr, E, by rw [q7]; exact e3, e4, by rw [q9, ← hn]; exact e5, e6, fun i u hu => ?_⟩
          rcases e2 with e2 | e2
          · have := p5 i u hu
            rw [e2, Nat.add_zero, ← q8]; exact this
          · have : us.length = 0 := by omega
            have := (List.getElem?_eq_some_iff.1 hu).1
            omega
        have := Rel.mk_row (c := { c with ro := upr c.ro s g .dead }) g1 b' cap q3 hb q5
        rw [q2, e1, ← q7]
        rw [q9] at this
        rw [hn]
        exact this
      · cases h
  · split at h
    · rename_i hok
      simp only [Option.some.injEq, Prod.mk.injEq] at h
      exact hplain hok h.1.symm h.2.symm
    · cases h

end

end Go.Proofs.Ytifgeenipinnmaa
