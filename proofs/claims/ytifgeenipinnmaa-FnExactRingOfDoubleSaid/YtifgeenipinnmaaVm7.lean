/- The abstract machine: its operations are the model's (2): those that make no memory. -/
import Derived.Test.YtifgeenipinnmaaVm6
set_option linter.all false
namespace Go.Proofs.Ytifgeenipinnmaa
open Go.RowKit

section
variable {P : Program} {ti : Nat → Option TI} {w0 : World} {A0 : Nat → Prop} {F0 : List Nat} {c : Cx} {Φ : Nat → Nat → List Nat} {st : St} {ρ : Operand → Value} {o : Oper} {e : Eff} {b : Nat}

/-- A live alias: its header. -/
theorem ref_hdr {s g p off n v} (hv : Rel c (.ref s g p off n) v []) (hl : (c.ro.cells s g p).isSome = true) :
    ∃ x cs, c.ro.cells s g p = some cs ∧ locp c.w p (c.L s g) = some x ∧ hdr c.w x.1 (x.2 + off) n v ∧ off + n ≤ cs.length := by
  obtain ⟨cs, hcs⟩ := Option.isSome_iff_exists.1 hl
  obtain ⟨_, h⟩ := Rel.ref_inv hv
  obtain ⟨x, h1, h2, h3⟩ := h cs hcs
  exact ⟨x, cs, hcs, h1, h2, h3⟩

theorem ptr_loc {s g p i v} (hv : Rel c (.ptr s g p i) v []) {cs} (hcs : c.ro.cells s g p = some cs) :
    ∃ x, locp c.w p (c.L s g) = some x ∧ v = .pointer (some ⟨x.1, x.2 + i, none⟩) := (Rel.ptr_inv hv).2 cs hcs

/-- A shorter alias. -/
theorem ref_cut {s g p off n v} (hv : Rel c (.ref s g p off n) v []) {l h : Nat} {v' : Value} (hl : l ≤ h) (hh : h ≤ n)
    (hv' : ∀ x : Nat × Nat, hdr c.w x.1 (x.2 + off) n v → hdr c.w x.1 (x.2 + (off + l)) (h - l) v') : Rel c (.ref s g p (off + l) (h - l)) v' [] := by
  obtain ⟨h1, h2⟩ := Rel.ref_inv hv
  refine .ref s g p (off + l) (h - l) v' h1 (fun cs hcs => ?_) .nil
  obtain ⟨x, h3, h4, h5⟩ := h2 cs hcs
  exact ⟨x, h3, hv' x h4, by omega⟩

theorem RelL.nth0 {cs us} (h : RelL c cs us []) {i : Nat} {a : AV} (hi : cs[i]? = some a) : ∃ u, us[i]? = some u ∧ Rel c a u [] := by
  obtain ⟨l, r, vl, v, vr, Fl, Fa, Fr, rfl, hl, rfl, hvl, hF, _, ha, _⟩ := h.nth hi
  have : Fa = [] := by
    have := congrArg List.length hF
    simp only [List.length_nil, List.length_append] at this
    exact List.eq_nil_of_length_eq_zero (by omega)
  subst this
  exact ⟨v, by rw [← hvl]; simp, ha⟩

theorem RelL.cut0 {cs us} (h : RelL c cs us []) (i n : Nat) : RelL c ((cs.drop i).take n) ((us.drop i).take n) [] := by
  have e1 : cs = cs.take i ++ cs.drop i := (List.take_append_drop i cs).symm
  rw [e1] at h
  obtain ⟨vl, vr, Fl, Fr, rfl, hF, hl, hr, _⟩ := h.split
  have hF' : Fl = [] ∧ Fr = [] := by simpa using hF.symm
  obtain ⟨rfl, rfl⟩ := hF'
  have hlen := hl.len
  rw [List.length_take] at hlen
  have e2 : (vl ++ vr).drop i = vr.drop (i - vl.length) := by
    rw [List.drop_append]
    have : vl.drop i = [] := List.drop_eq_nil_of_le (by omega)
    rw [this, List.nil_append]
  by_cases hi : i ≤ cs.length
  · have : i - vl.length = 0 := by omega
    rw [e2, this, List.drop_zero]
    have e3 : cs.drop i = (cs.drop i).take n ++ (cs.drop i).drop n := (List.take_append_drop n _).symm
    rw [e3] at hr
    obtain ⟨vl', vr', Fl', Fr', rfl, hF', hl', hr', _⟩ := hr.split
    have hF'' : Fl' = [] ∧ Fr' = [] := by simpa using hF'.symm
    obtain ⟨rfl, rfl⟩ := hF''
    have hlen' := hl'.len
    have : (vl' ++ vr').take n = vl' := by
      rw [List.length_take] at hlen'
      by_cases hn : n ≤ (cs.drop i).length
      · have : vl'.length = n := by omega
        rw [← this]; simp
      · have hr0 : (cs.drop i).drop n = [] := List.drop_eq_nil_of_le (by omega)
        rw [hr0] at hr'
        obtain ⟨rfl, _⟩ := RelL.nilF hr'
        rw [List.append_nil, List.take_of_length_le (by omega)]
    rw [this]
    exact hl'
  · have h0 : cs.drop i = [] := List.drop_eq_nil_of_le (by omega)
    rw [h0] at hr
    obtain ⟨rfl, _⟩ := RelL.nilF hr
    rw [h0]
    have : (vl ++ ([] : List Value)).drop i = [] := List.drop_eq_nil_of_le (by simp; omega)
    rw [this]
    simpa using RelL.nil

theorem inW.cut {g b0 us} (h : c.inW g b0 us) (i n : Nat) : c.inW g (b0 + i) ((us.drop i).take n) := by
  refine ⟨h.1, h.2.1, fun j u hu => ?_⟩
  have : us[i + j]? = some u := by
    rw [List.getElem?_take] at hu
    split at hu
    · rw [List.getElem?_drop] at hu; exact hu
    · cases hu
  have := h.2.2 (i + j) u this
  rwa [← Nat.add_assoc] at this

theorem Rel.imm_mk {cs us} (g b0 cap : Nat) (h1 : RelL c cs us []) (h2 : c.inW g b0 us) (h3 : us.length ≤ cap) : Rel c (.imm cs) (.slice (some ⟨g, b0, none⟩) us.length cap) [] :=
  .imm g b0 cap h1 h2 h3 .nil

/-- Loads. -/
theorem load_ok (T : TOK P ti) (hs : Sim w0 A0 F0 c Φ []) (hro : c.ro = st.ro) (hgn : c.gn = st.gn) (hev : ∀ x, Rel c (st.ev x) (ρ x) []) {t : Nat} {x : Operand} (ho : o.op = .load t x)
    (h : opC ti b st.ro st.gn st.ev (.load t x) = some e) : OpOK P w0 A0 F0 c st ρ o e := by
  simp only [opC] at h
  cases hi : ti t with
  | none => simp [hi] at h
  | some inf =>
    simp only [hi] at h
    have hx := hev x
    cases hxe : st.ev x <;> simp only [hxe, reduceCtorEq] at h hx
    case ptr s g p i =>
      cases hcs : st.ro.cells s g p with
      | none => simp [hcs] at h
      | some cs =>
        simp only [hcs] at h
        rw [← hro] at hcs
        obtain ⟨y, hy, hv⟩ := ptr_loc hx hcs
        obtain ⟨hg, _⟩ := Rel.ptr_inv hx
        obtain ⟨y', us, F, cap, q0, q1, q2, q3, q4, q5, q6⟩ := hs.place hcs
        rw [hy] at q0
        simp only [Option.some.injEq] at q0
        subst q0
        split at h
        · rename_i hag
          split at h
          · rename_i hle
            simp only [Option.some.injEq] at h
            subst h
            have hlift : ∀ (m j : Nat), j + m ≤ cs.length → RelL c (zfi s g p j ((cs.drop j).take m)) ((us.drop j).take m) [] := by
              intro m
              induction m with
              | zero => intro j _; simpa [zfi] using RelL.nil
              | succ m ih =>
                intro j hj
                have hlt : j < cs.length := by omega
                have hlt' : j < us.length := by rw [← q1.len]; exact hlt
                rw [List.drop_eq_getElem_cons hlt, List.drop_eq_getElem_cons hlt', List.take_succ_cons, List.take_succ_cons]
                simp only [zfi]
                obtain ⟨z, u, Fz, z1, z2, z3, z4⟩ := hs.cell hcs (List.getElem?_eq_getElem hlt)
                rw [hy] at z1
                simp only [Option.some.injEq] at z1
                subst z1
                have hu : u = us[j] := by
                  have := q2.cell (List.getElem?_eq_getElem hlt')
                  rw [this] at z2
                  simpa using z2.symm
                rw [← hu]
                exact RelL.cons (hs.lift hg hcs (List.getElem?_eq_getElem hlt) hy z2 z3) (ih (j + 1) (by omega)) (by simp)
            refine OpOK.pure (v := .agg ((us.drop i).take inf.size).toArray) hs hro hgn ?_ ?_
            · have hl : ((us.drop i).take inf.size).length = inf.size := by rw [List.length_take, List.length_drop, ← q1.len]; omega
              have hr := run_load_agg T hi hag c.w y.1 (y.2 + i) ((us.drop i).take inf.size) hl (fun j u hu => by
                have : us[i + j]? = some u := by
                  rw [List.getElem?_take] at hu
                  split at hu
                  · rw [List.getElem?_drop] at hu; exact hu
                  · cases hu
                have := q2.cell this
                rwa [← Nat.add_assoc] at this)
              simp [execOp, ho, hv, hr]
            · have := RelL.agg (hlift inf.size i hle) (by simp) RelL.nil
              simpa using this
          · cases h
        · rename_i hag
          cases hi' : cs[i]? with
          | none => simp [hi'] at h
          | some a =>
            simp only [hi', Option.some.injEq] at h
            subst h
            obtain ⟨z, u, Fz, z1, z2, z3, z4⟩ := hs.cell hcs hi'
            rw [hy] at z1
            simp only [Option.some.injEq] at z1
            subst z1
            refine OpOK.pure (v := u) hs hro hgn ?_ (hs.lift hg hcs hi' hy z2 z3)
            have hr := run_load_flat T hi (by simpa using hag) c.w ⟨y.1, y.2 + i, none⟩ u z2
            simp [execOp, ho, hv, hr]
    case iptr cs =>
      obtain ⟨g1, b1, us, hv, h1, h2, _⟩ := Rel.iptr_inv hx
      split at h
      · rename_i hag
        split at h
        · rename_i hle
          simp only [Option.some.injEq] at h
          subst h
          refine OpOK.pure (v := .agg (us.take inf.size).toArray) hs hro hgn ?_ ?_
          · have hl : (us.take inf.size).length = inf.size := by rw [List.length_take, ← h1.len]; omega
            have hr := run_load_agg T hi hag c.w g1 b1 (us.take inf.size) hl (fun j u hu => by
              rw [List.getElem?_take] at hu
              split at hu
              · exact h2.2.2 j u hu
              · cases hu)
            simp [execOp, ho, hv, hr]
          · have := RelL.agg (by simpa using h1.cut0 0 inf.size) (by simp) (RelL.nil (c := c))
            simpa using this
        · cases h
      · rename_i hag
        cases cs with
        | nil => simp at h
        | cons a cs =>
          simp only [Option.some.injEq] at h
          subst h
          obtain ⟨u, hu, ha⟩ := h1.nth0 (i := 0) (a := a) rfl
          refine OpOK.pure (v := u) hs hro hgn ?_ ha
          have hr := run_load_flat T hi (by simpa using hag) c.w ⟨g1, b1, none⟩ u (by have := h2.2.2 0 u hu; simpa using this)
          simp [execOp, ho, hv, hr]

/-- Operations on values alone. -/
theorem move_ok (hs : Sim w0 A0 F0 c Φ []) (hro : c.ro = st.ro) (hgn : c.gn = st.gn) (hev : ∀ x, Rel c (st.ev x) (ρ x) []) {x : Operand} (ho : o.op = .move x ∨ o.op = .assign x)
    (h : e = ⟨st.ev x, none, [], []⟩) : OpOK P w0 A0 F0 c st ρ o e := by
  subst h
  refine OpOK.pure (v := ρ x) hs hro hgn ?_ (hev x)
  rcases ho with ho | ho <;> simp [execOp, ho]

theorem pick_ok (hs : Sim w0 A0 F0 c Φ []) (hro : c.ro = st.ro) (hgn : c.gn = st.gn) (hev : ∀ x, Rel c (st.ev x) (ρ x) []) {x y z : Operand} (ho : o.op = .pick x y z)
    (h : opC ti b st.ro st.gn st.ev (.pick x y z) = some e) : OpOK P w0 A0 F0 c st ρ o e := by
  simp only [opC] at h
  have hx := hev x
  split at h
  · rename_i t hxe
    rw [hxe] at hx
    obtain ⟨hx, _⟩ := Rel.sc_inv hx
    simp only [Option.some.injEq] at h
    subst h
    refine OpOK.pure (v := if t then ρ y else ρ z) hs hro hgn (by simp [execOp, ho, hx, asBool]) ?_
    cases t
    · exact hev z
    · exact hev y
  · cases h

theorem bin_ok (T : TOK P ti) (hs : Sim w0 A0 F0 c Φ []) (hro : c.ro = st.ro) (hgn : c.gn = st.gn) (hev : ∀ x, Rel c (st.ev x) (ρ x) []) {op : BinOp} {t t' : Nat} {x y : Operand} (ho : o.op = .binOp op t x y t')
    (h : opC ti b st.ro st.gn st.ev (.binOp op t x y t') = some e) : OpOK P w0 A0 F0 c st ρ o e := by
  simp only [opC] at h
  cases hi : ti t with
  | none => simp [hi] at h
  | some inf =>
    simp only [hi] at h
    split at h
    · rename_i hl
      cases hb : binA inf op (st.ev x) (st.ev y) with
      | none => simp [hb] at h
      | some u =>
        simp only [hb, Option.some.injEq] at h
        subst h
        have := binA_sound T hi hb (hev x) (hev y) (fun s g p off n hxe => by
          rw [hxe] at hl
          simp only [zee] at hl
          rw [← hro] at hl
          have hx := hev x
          rw [hxe] at hx
          obtain ⟨z, cs, _, _, h3, _⟩ := ref_hdr hx hl
          obtain ⟨b', cap, arr, E, h4, _⟩ := h3
          exact ⟨_, _, _, h4⟩) x y
        refine OpOK.pure (v := u) hs hro hgn ?_ (.sc u .nil)
        simp only [execOp, ho]
        rw [Sem.run_bind, this]
        rfl
    · cases h

theorem un_ok (hs : Sim w0 A0 F0 c Φ []) (hro : c.ro = st.ro) (hgn : c.gn = st.gn) (hev : ∀ x, Rel c (st.ev x) (ρ x) []) {op : UnOp} {t : Nat} {x : Operand} (ho : o.op = .unOp op t x)
    (h : opC ti b st.ro st.gn st.ev (.unOp op t x) = some e) : OpOK P w0 A0 F0 c st ρ o e := by
  simp only [opC] at h
  have hx := hev x
  split at h
  · rename_i v hxe
    rw [hxe] at hx
    obtain ⟨hx, _⟩ := Rel.sc_inv hx
    cases hu : semPure (Op.unary op v) with
    | none => simp [hu] at h
    | some u =>
      simp only [hu, Option.some.injEq] at h
      subst h
      refine OpOK.pure (v := u) hs hro hgn ?_ (.sc u .nil)
      have := semPure_run (P := P) hu c.w
      simp [execOp, ho, hx, this]
  · cases h

theorem conv_ok (T : TOK P ti) (hs : Sim w0 A0 F0 c Φ []) (hro : c.ro = st.ro) (hgn : c.gn = st.gn) (hev : ∀ x, Rel c (st.ev x) (ρ x) []) {s d : Nat} {x : Operand} (ho : o.op = .convert s d x)
    (h : opC ti b st.ro st.gn st.ev (.convert s d x) = some e) : OpOK P w0 A0 F0 c st ρ o e := by
  simp only [opC] at h
  have hx := hev x
  split at h
  · rename_i i j k n hi hj hxe
    rw [hxe] at hx
    obtain ⟨hx, _⟩ := Rel.sc_inv hx
    split at h
    · rename_i ki kj hki hkj
      cases hu : semPure (Conv.intToInt kj n) with
      | none => simp [hu] at h
      | some u =>
        simp only [hu, Option.some.injEq] at h
        subst h
        refine OpOK.pure (v := u) hs hro hgn ?_ (.sc u .nil)
        have := semPure_run (P := P) hu c.w
        have h1 := (T.ok s i hi).ik ki hki
        have h2 := (T.ok d j hj).ik kj hkj
        simp [execOp, ho, hx, convert, run_underlying h1, run_underlying h2, this]
    · cases h
  · cases h

theorem fieldAddr_ok (T : TOK P ti) (hs : Sim w0 A0 F0 c Φ []) (hro : c.ro = st.ro) (hgn : c.gn = st.gn) (hev : ∀ x, Rel c (st.ev x) (ρ x) []) {t f : Nat} {x : Operand} (ho : o.op = .fieldAddr t x f)
    (h : opC ti b st.ro st.gn st.ev (.fieldAddr t x f) = some e) : OpOK P w0 A0 F0 c st ρ o e := by
  simp only [opC] at h
  cases hi : ti t with
  | none => simp [hi] at h
  | some inf =>
    simp only [hi] at h
    cases hf : inf.flds[f]? with
    | none => simp [hf] at h
    | some q =>
      obtain ⟨off, ft⟩ := q
      simp only [hf] at h
      split at h
      · rename_i hl
        obtain ⟨hag, hl⟩ := hl
        have hx := hev x
        cases hxe : st.ev x <;> simp only [hxe, reduceCtorEq] at h hx hl
        case ptr s g p i =>
          simp only [Option.some.injEq] at h
          subst h
          simp only [zee] at hl
          rw [← hro] at hl
          obtain ⟨cs, hcs⟩ := Option.isSome_iff_exists.1 hl
          obtain ⟨y, hy, hv⟩ := ptr_loc hx hcs
          refine OpOK.pure (v := .pointer (some ⟨y.1, y.2 + i + off, none⟩)) hs hro hgn ?_ ?_
          · have hr := run_fieldAt T hi hf hag c.w y.1 (y.2 + i)
            simp [execOp, ho, hv, hr]
          · refine .ptr s g p (i + off) _ (Rel.ptr_inv hx).1 (fun cs' hcs' => ?_) .nil
            exact ⟨y, hy, by rw [Nat.add_assoc]⟩
        case iptr cs =>
          split at h
          · rename_i hle
            simp only [Option.some.injEq] at h
            subst h
            obtain ⟨g1, b1, us, hv, h1, h2, _⟩ := Rel.iptr_inv hx
            refine OpOK.pure (v := .pointer (some ⟨g1, b1 + off, none⟩)) hs hro hgn ?_ ?_
            · have hr := run_fieldAt T hi hf hag c.w g1 b1
              simp [execOp, ho, hv, hr]
            · have k1 := h1.cut0 off cs.length
              have k2 := inW.cut h2 off cs.length
              rw [List.take_of_length_le (by simp)] at k1
              have e2 : (us.drop off).take cs.length = us.drop off := List.take_of_length_le (by rw [List.length_drop, h1.len]; omega)
              rw [e2] at k1 k2
              exact .iptr g1 (b1 + off) k1 k2 .nil
          · cases h
      · cases h

theorem field_ok (T : TOK P ti) (hs : Sim w0 A0 F0 c Φ []) (hro : c.ro = st.ro) (hgn : c.gn = st.gn) (hev : ∀ x, Rel c (st.ev x) (ρ x) []) {t f : Nat} {x : Operand} (ho : o.op = .field t x f)
    (h : opC ti b st.ro st.gn st.ev (.field t x f) = some e) : OpOK P w0 A0 F0 c st ρ o e := by
  simp only [opC] at h
  cases hi : ti t with
  | none => simp [hi] at h
  | some inf =>
    simp only [hi] at h
    cases hf : inf.flds[f]? with
    | none => simp [hf] at h
    | some q =>
      obtain ⟨off, ft⟩ := q
      simp only [hf] at h
      have hx := hev x
      split at h
      · rename_i fi cs hfi hxe
        rw [hxe] at hx
        obtain ⟨us, hv, h1⟩ := Rel.agg_inv hx
        split at h
        · rename_i hl
          obtain ⟨hag, hle⟩ := hl
          have hr := run_field T hi hf hag hfi c.w us (by rw [← h1.len]; exact hle)
          split at h
          · rename_i hfa
            simp only [Option.some.injEq] at h
            subst h
            refine OpOK.pure (v := .agg ((us.drop off).take fi.size).toArray) hs hro hgn ?_ ?_
            · have := hr.1 hfa
              simp [execOp, ho, hv, this]
            · have := RelL.agg (h1.cut0 off fi.size) (by simp) (RelL.nil (c := c))
              simpa using this
          · rename_i hfa
            cases hoff : cs[off]? with
            | none => simp [hoff] at h
            | some a =>
              simp only [hoff, Option.some.injEq] at h
              subst h
              obtain ⟨u, hu, ha⟩ := h1.nth0 hoff
              refine OpOK.pure (v := u) hs hro hgn ?_ ha
              have := hr.2 (by simpa using hfa) u hu
              simp [execOp, ho, hv, this]
        · cases h
      · cases h

theorem indexAddr_ok (T : TOK P ti) (hs : Sim w0 A0 F0 c Φ []) (hro : c.ro = st.ro) (hgn : c.gn = st.gn) (hev : ∀ x, Rel c (st.ev x) (ρ x) []) {t : Nat} {x y : Operand} (ho : o.op = .indexAddr t x y)
    (h : opC ti b st.ro st.gn st.ev (.indexAddr t x y) = some e) : OpOK P w0 A0 F0 c st ρ o e := by
  simp only [opC] at h
  cases hi : ti t with
  | none => simp [hi] at h
  | some inf =>
    simp only [hi] at h
    have hx := hev x
    have hy := hev y
    split at h
    · rename_i el k i hel hye
      rw [hye] at hy
      obtain ⟨hy, _⟩ := Rel.sc_inv hy
      cases hxe : st.ev x <;> simp only [hxe, reduceCtorEq] at h hx
      case ref s g p off n =>
        split at h
        · rename_i hc
          obtain ⟨h0, hn, hl⟩ := hc
          simp only [Option.some.injEq] at h
          subst h
          rw [← hro] at hl
          obtain ⟨z, cs, hcs, h1, h2, h3⟩ := ref_hdr hx hl
          obtain ⟨b', cap, arr, E, h4, h5, h6, h7, h8, h9⟩ := h2
          have hb' : b' = z.2 + off := by
            rcases h5 with h5 | h5
            · exact h5
            · omega
          subst hb'
          refine OpOK.pure (v := .pointer (some ⟨z.1, z.2 + off + i.toNat, none⟩)) hs hro hgn ?_ ?_
          · have hr := run_indexAt T hi hel c.w z.1 (z.2 + off) n cap k i h0 hn
            simp [execOp, ho, h4, hy, hr]
          · refine .ptr s g p _ _ (Rel.ref_inv hx).1 (fun cs' hcs' => ⟨z, h1, by rw [Nat.add_assoc]⟩) .nil
        · cases h
      case imm cs =>
        split at h
        · rename_i h0
          cases hcs : cs[i.toNat]? with
          | none => simp [hcs] at h
          | some a =>
            simp only [hcs, Option.some.injEq] at h
            subst h
            obtain ⟨g1, b1, cap, us, hv, h1, h2, h3, _⟩ := Rel.imm_inv hx
            obtain ⟨u, hu, ha⟩ := h1.nth0 hcs
            have hlt : i.toNat < us.length := (List.getElem?_eq_some_iff.1 hu).1
            refine OpOK.pure (v := .pointer (some ⟨g1, b1 + i.toNat, none⟩)) hs hro hgn ?_ ?_
            · have hr := run_indexAt T hi hel c.w g1 b1 us.length cap k i h0 (by omega)
              simp [execOp, ho, hv, hy, hr]
            · refine .iptr g1 _ (us := [u]) ha ⟨h2.1, h2.2.1, fun j v hj => ?_⟩ .nil
              cases j with
              | zero => simp at hj; subst hj; exact h2.2.2 _ _ hu
              | succ j => simp at hj
        · cases h
    · cases h

theorem index_ok (T : TOK P ti) (hs : Sim w0 A0 F0 c Φ []) (hro : c.ro = st.ro) (hgn : c.gn = st.gn) (hev : ∀ x, Rel c (st.ev x) (ρ x) []) {t : Nat} {x y : Operand} (ho : o.op = .index t x y)
    (h : opC ti b st.ro st.gn st.ev (.index t x y) = some e) : OpOK P w0 A0 F0 c st ρ o e := by
  simp only [opC] at h
  cases hi : ti t with
  | none => simp [hi] at h
  | some inf =>
    simp only [hi] at h
    have hx := hev x
    have hy := hev y
    split at h
    · rename_i s k i hstr hxe hye
      rw [hxe] at hx; rw [hye] at hy
      obtain ⟨hx, _⟩ := Rel.sc_inv hx
      obtain ⟨hy, _⟩ := Rel.sc_inv hy
      split at h
      · rename_i h0
        cases hu : s[i.toNat]? with
        | none => simp [hu] at h
        | some u =>
          simp only [hu, Option.some.injEq] at h
          subst h
          refine OpOK.pure (v := .int .u8 u.toNat) hs hro hgn ?_ (.sc _ .nil)
          have h1 := (T.ok t inf hi).str hstr
          simp [execOp, ho, hx, hy, Instr.index, asIntOf, run_underlying h1, h0, hu]
      · cases h
    · cases h

theorem extract_ok (hs : Sim w0 A0 F0 c Φ []) (hro : c.ro = st.ro) (hgn : c.gn = st.gn) (hev : ∀ x, Rel c (st.ev x) (ρ x) []) {x : Operand} {i : Nat} (ho : o.op = .extract x i)
    (h : opC ti b st.ro st.gn st.ev (.extract x i) = some e) : OpOK P w0 A0 F0 c st ρ o e := by
  simp only [opC] at h
  have hx := hev x
  split at h
  · rename_i cs hxe
    rw [hxe] at hx
    obtain ⟨us, hv, h1⟩ := Rel.tup_inv hx
    cases hi : cs[i]? with
    | none => simp [hi] at h
    | some a =>
      simp only [hi, Option.some.injEq] at h
      subst h
      obtain ⟨u, hu, ha⟩ := h1.nth0 hi
      refine OpOK.pure (v := u) hs hro hgn ?_ ha
      simp [execOp, ho, hv, Instr.extract, hu]
  · cases h

theorem RelL.of_map : ∀ (xs : List Operand), (∀ x, Rel c (st.ev x) (ρ x) []) → RelL c (xs.map st.ev) (xs.map ρ) []
  | [], _ => .nil
  | x :: xs, h => by simpa using RelL.cons (h x) (RelL.of_map xs h) (by simp)

theorem makeFunc_ok (hs : Sim w0 A0 F0 c Φ []) (hro : c.ro = st.ro) (hgn : c.gn = st.gn) (hev : ∀ x, Rel c (st.ev x) (ρ x) []) {fn : Fn} {first caps : Array Operand} (ho : o.op = .makeFunc fn first caps)
    (h : opC ti b st.ro st.gn st.ev (.makeFunc fn first caps) = some e) : OpOK P w0 A0 F0 c st ρ o e := by
  cases fn <;> simp only [opC, reduceCtorEq] at h
  rename_i f
  split at h
  · rename_i hf
    simp only [Option.some.injEq] at h
    subst h
    refine OpOK.pure (v := .func (.func f) #[] (caps.toList.map ρ).toArray) hs hro hgn ?_ (.fn f (RelL.of_map _ hev) .nil)
    have : first = #[] := by simpa using hf
    simp [execOp, ho, Instr.makeFunc, this]
    rw [← Array.toList_map]
  · cases h

end

end Go.Proofs.Ytifgeenipinnmaa
