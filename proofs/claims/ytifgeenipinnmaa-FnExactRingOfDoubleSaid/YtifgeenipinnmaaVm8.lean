/- The abstract machine: its operations are the model's (3): slices of slices, lengths, structs. -/
import Derived.Test.YtifgeenipinnmaaVm7
set_option linter.all false
namespace Go.Proofs.Ytifgeenipinnmaa
open Go.RowKit

section
variable {P : Program} {ti : Nat → Option TI} {w0 : World} {A0 : Nat → Prop} {F0 : List Nat} {c : Cx} {Φ : Nat → Nat → List Nat} {st : St} {ρ : Operand → Value} {o : Oper} {e : Eff} {b : Nat}

theorem run_bound_ok (k : IntKind) (i : Int) (y : Nat) (code : BoundsCode) (h0 : 0 ≤ i) (h1 : i ≤ y) (w : World) : (Instr.sliceBound (.int k i) y code).run P w = .ok i.toNat w := by
  simp [Instr.sliceBound, asIntOf, h0, h1]

theorem evInt_inv {x : AV} {i : Int} (h : evInt x = some i) : ∃ k, x = .sc (.int k i) := by
  unfold evInt at h
  split at h
  · simp only [Option.some.injEq] at h; subst h; exact ⟨_, rfl⟩
  · cases h

/-- The bounds of a slice expression. -/
theorem bounds_ok (hev : ∀ x, Rel c (st.ev x) (ρ x) []) (isS : Bool) (n cap : Nat) (hn : n ≤ cap) (lo hi : Option Operand) {l h : Int}
    (hl : (match lo with | none => some 0 | some y => evInt (st.ev y)) = some l) (hh : (match hi with | none => some (n : Int) | some y => evInt (st.ev y)) = some h)
    (h0 : 0 ≤ l) (h1 : l ≤ h) (h2 : h ≤ n) (w : World) :
    (Instr.sliceBounds isS n cap (lo.map ρ) (hi.map ρ) none).run P w = .ok (l.toNat, h.toNat, cap) w := by
  have H : ∀ y : Operand, ∀ i, evInt (st.ev y) = some i → ∃ k, ρ y = .int k i := by
    intro y i hy
    obtain ⟨k, hk⟩ := evInt_inv hy
    have := hev y
    rw [hk] at this
    exact ⟨k, (Rel.sc_inv this).1⟩
  cases hi with
  | none =>
    simp only [Option.some.injEq] at hh
    subst hh
    cases lo with
    | none =>
      simp only [Option.some.injEq] at hl
      subst hl
      simp [Instr.sliceBounds]
    | some y =>
      obtain ⟨k, hk⟩ := H y l hl
      have := run_bound_ok (P := P) k l n .sliceB h0 h1 w
      simp [Instr.sliceBounds, hk, this]
  | some z =>
    obtain ⟨k2, hk2⟩ := H z h hh
    have hb1 := fun code => run_bound_ok (P := P) k2 h cap code (by omega) (by omega) w
    cases lo with
    | none =>
      simp only [Option.some.injEq] at hl
      subst hl
      cases isS <;> simp [Instr.sliceBounds, hk2, hb1]
    | some y =>
      obtain ⟨k, hk⟩ := H y l hl
      have := fun code => run_bound_ok (P := P) k l h.toNat code h0 (by omega) w
      cases isS <;> simp [Instr.sliceBounds, hk2, hb1, hk, this]

theorem slice_ok (T : TOK P ti) (hs : Sim w0 A0 F0 c Φ []) (hro : c.ro = st.ro) (hgn : c.gn = st.gn) (hev : ∀ x, Rel c (st.ev x) (ρ x) []) {t : Nat} {x : Operand} {lo hi mx : Option Operand} (ho : o.op = .slice t x lo hi mx)
    (h : opC ti b st.ro st.gn st.ev (.slice t x lo hi mx) = some e) : OpOK P w0 A0 F0 c st ρ o e := by
  cases mx with
  | some y => simp [opC] at h
  | none =>
  simp only [opC] at h
  cases hi' : ti t with
  | none => simp [hi'] at h
  | some inf =>
    simp only [hi'] at h
    have hx := hev x
    split at h
    · rename_i s g p off n hxe
      rw [hxe] at hx
      split at h
      · rename_i hel
        obtain ⟨el, hel⟩ := Option.isSome_iff_exists.1 hel
        have hd := ((T.ok t inf hi').elem el hel).1
        obtain ⟨_, ie, in2, z2, _, hin, hsz, _⟩ := (T.ok t inf hi').elem el hel
        split at h
        · rename_i l hh hl hhe
          split at h
          · rename_i hc
            obtain ⟨h0, h1, h2, hlv⟩ := hc
            simp only [Option.some.injEq] at h
            subst h
            rw [← hro] at hlv
            obtain ⟨z, cs, hcs, e1, e2, e3⟩ := ref_hdr hx hlv
            obtain ⟨b', cap, arr, E, e4, e5, e6, e7, e8, e9⟩ := e2
            have hb := bounds_ok (P := P) (c := c) hev true n cap e8 lo hi hl hhe h0 h1 h2 c.w
            refine OpOK.pure (v := .slice (some ⟨z.1, if cap = l.toNat then b' else b' + l.toNat, none⟩) (hh.toNat - l.toNat) (cap - l.toNat)) hs hro hgn ?_ ?_
            · simp [execOp, ho, e4, Instr.sliceAt, Instr.slice, run_underlying hd, hb, sizeOf, typeInfo, hin, hsz, addr_add]
              split <;> rfl
            · have heq : (hh - l).toNat = hh.toNat - l.toNat := by omega
              rw [heq]
              refine ref_cut hx (by omega) (by omega) (fun y hy => ?_)
              obtain ⟨b1, cap1, arr1, E1, q1, q2, q3, q4, q5, q6⟩ := hy
              rw [e4] at q1
              simp only [Value.slice.injEq, Option.some.injEq, Addr.mk.injEq] at q1
              obtain ⟨⟨e10, e11, _⟩, _, e12⟩ := q1
              subst e11 e12
              rw [e10]
              refine ⟨if cap = l.toNat then b' else b' + l.toNat, cap - l.toNat, arr1, E1, rfl, ?_, q3, ?_, by omega, by omega⟩
              · by_cases hcl : cap = l.toNat
                · right; omega
                · left
                  rw [if_neg hcl]
                  rcases q2 with q2 | q2
                  · omega
                  · omega
              · split <;> omega
          · cases h
        · cases h
      · cases h
    · rename_i cs hxe
      rw [hxe] at hx
      split at h
      · rename_i hel
        obtain ⟨el, hel⟩ := Option.isSome_iff_exists.1 hel
        have hd := ((T.ok t inf hi').elem el hel).1
        obtain ⟨_, ie, in2, z2, _, hin, hsz, _⟩ := (T.ok t inf hi').elem el hel
        obtain ⟨g1, b1, cap, us, hv, k1, k2, k3, _⟩ := Rel.imm_inv hx
        rw [k1.len] at h
        split at h
        · rename_i l hh hl hhe
          split at h
          · rename_i hc
            obtain ⟨h0, h1, h2⟩ := hc
            simp only [Option.some.injEq] at h
            subst h
            have hb := bounds_ok (P := P) (c := c) hev true us.length cap k3 lo hi hl hhe h0 h1 h2 c.w
            have hlen : ((us.drop l.toNat).take (hh - l).toNat).length = hh.toNat - l.toNat := by rw [List.length_take, List.length_drop]; omega
            refine OpOK.pure (v := .slice (some ⟨g1, if cap = l.toNat then b1 else b1 + l.toNat, none⟩) (hh.toNat - l.toNat) (cap - l.toNat)) hs hro hgn ?_ ?_
            · simp [execOp, ho, hv, Instr.sliceAt, Instr.slice, run_underlying hd, hb, sizeOf, typeInfo, hin, hsz, addr_add]
              split <;> rfl
            · rw [← hlen]
              by_cases hcl : cap = l.toNat
              · rw [if_pos hcl]
                have hnil : (us.drop l.toNat).take (hh - l).toNat = [] := List.eq_nil_of_length_eq_zero (by omega)
                refine Rel.imm_mk g1 b1 _ (k1.cut0 _ _) ⟨k2.1, k2.2.1, fun i u hu => ?_⟩ (by omega)
                rw [hnil] at hu; simp at hu
              · rw [if_neg hcl]
                exact Rel.imm_mk g1 _ _ (k1.cut0 _ _) (inW.cut k2 _ _) (by omega)
          · cases h
        · cases h
      · cases h
    · rename_i s hxe
      rw [hxe] at hx
      split at h
      · rename_i hstr
        have hd := (T.ok t inf hi').str hstr
        obtain ⟨hx, _⟩ := Rel.sc_inv hx
        split at h
        · rename_i l hh hl hhe
          split at h
          · rename_i hc
            obtain ⟨h0, h1, h2⟩ := hc
            simp only [Option.some.injEq] at h
            subst h
            have hb := bounds_ok (P := P) (c := c) hev false s.size s.size (Nat.le_refl _) lo hi hl hhe h0 h1 h2 c.w
            refine OpOK.pure (v := .string (s.extract l.toNat hh.toNat)) hs hro hgn ?_ (.sc _ .nil)
            simp [execOp, ho, hx, Instr.sliceAt, Instr.slice, run_underlying hd, hb]
          · cases h
        · cases h
      · cases h
    · cases h

theorem len_ok (T : TOK P ti) (hs : Sim w0 A0 F0 c Φ []) (hro : c.ro = st.ro) (hgn : c.gn = st.gn) (hev : ∀ x, Rel c (st.ev x) (ρ x) []) {cl : Call} {x : Operand} {t : Nat} {inf : TI} (ho : o.op = .call cl) (hc : cl.callee = .builtin .len)
    (ha : cl.args.toList = [x]) (ht : cl.argTypes.toList = [t]) (hi : ti t = some inf)
    (h : (match st.ev x with
        | .ref s g p _ n => if inf.elem.isSome ∧ (st.ro.cells s g p).isSome then some (⟨.sc (.int .i64 n), none, [], []⟩ : Eff) else none
        | .imm cs => if inf.elem.isSome then some ⟨.sc (.int .i64 cs.length), none, [], []⟩ else none
        | .sc (.string s) => if inf.str then some ⟨.sc (.int .i64 s.size), none, [], []⟩ else none
        | .sc (.slice none 0 0) => if inf.elem.isSome then some ⟨.sc (.int .i64 0), none, [], []⟩ else none
        | _ => none) = some e) : OpOK P w0 A0 F0 c st ρ o e := by
  have hx := hev x
  have ha' : cl.args = #[x] := by rw [← Array.toArray_toList (xs := cl.args), ha]
  have ht' : cl.argTypes = #[t] := by rw [← Array.toArray_toList (xs := cl.argTypes), ht]
  have hrun : ∀ v, (Builtin.len_ #[t] o.type #[ρ x]).run P c.w = .ok v c.w → (execOp ρ o).run P c.w = .ok (.value v) c.w := by
    intro v hv
    simp [execOp, ho, resolve, hc, ha', ht', invoke, builtin, hv]
  split at h
  · rename_i s g p off n hxe
    rw [hxe] at hx
    split at h
    · rename_i hcnd
      obtain ⟨hel, hl⟩ := hcnd
      simp only [Option.some.injEq] at h
      subst h
      obtain ⟨el, hel⟩ := Option.isSome_iff_exists.1 hel
      have hd := ((T.ok t inf hi).elem el hel).1
      rw [← hro] at hl
      obtain ⟨z, cs, _, _, h2, _⟩ := ref_hdr hx hl
      obtain ⟨b', cap, arr, E, h4, _⟩ := h2
      refine OpOK.pure hs hro hgn (hrun (.int .i64 n) ?_) (.sc _ .nil)
      simp [Builtin.len_, run_underlying hd, h4, goInt]
    · cases h
  · rename_i cs hxe
    rw [hxe] at hx
    split at h
    · rename_i hel
      simp only [Option.some.injEq] at h
      subst h
      obtain ⟨el, hel⟩ := Option.isSome_iff_exists.1 hel
      have hd := ((T.ok t inf hi).elem el hel).1
      obtain ⟨g1, b1, cap, us, hv, k1, _⟩ := Rel.imm_inv hx
      refine OpOK.pure hs hro hgn (hrun (.int .i64 cs.length) ?_) (.sc _ .nil)
      simp [Builtin.len_, run_underlying hd, hv, goInt, k1.len]
    · cases h
  · rename_i s hxe
    rw [hxe] at hx
    obtain ⟨hx, _⟩ := Rel.sc_inv hx
    split at h
    · rename_i hstr
      simp only [Option.some.injEq] at h
      subst h
      have hd := (T.ok t inf hi).str hstr
      refine OpOK.pure hs hro hgn (hrun (.int .i64 s.size) ?_) (.sc _ .nil)
      simp [Builtin.len_, run_underlying hd, hx, goInt]
    · cases h
  · rename_i hxe
    rw [hxe] at hx
    obtain ⟨hx, _⟩ := Rel.sc_inv hx
    split at h
    · rename_i hel
      simp only [Option.some.injEq] at h
      subst h
      obtain ⟨el, hel⟩ := Option.isSome_iff_exists.1 hel
      have hd := ((T.ok t inf hi).elem el hel).1
      refine OpOK.pure hs hro hgn (hrun (.int .i64 0) ?_) (.sc _ .nil)
      simp [Builtin.len_, run_underlying hd, hx, goInt]
    · cases h
  · cases h

theorem max_ok (hs : Sim w0 A0 F0 c Φ []) (hro : c.ro = st.ro) (hgn : c.gn = st.gn) (hev : ∀ x, Rel c (st.ev x) (ρ x) []) {cl : Call} {x y : Operand} (ho : o.op = .call cl) (hc : cl.callee = .builtin .max)
    (ha : cl.args.toList = [x, y])
    (h : (match st.ev x, st.ev y with
      | .sc (.int k n), .sc (.int k' m) => if k = k' then some (⟨.sc (.int k (if m > n then m else n)), none, [], []⟩ : Eff) else none
      | _, _ => none) = some e) : OpOK P w0 A0 F0 c st ρ o e := by
  have hx := hev x
  have hy := hev y
  have ha' : cl.args = #[x, y] := by rw [← Array.toArray_toList (xs := cl.args), ha]
  split at h
  · rename_i k n k' m hxe hye
    rw [hxe] at hx; rw [hye] at hy
    obtain ⟨hx, _⟩ := Rel.sc_inv hx
    obtain ⟨hy, _⟩ := Rel.sc_inv hy
    split at h
    · simp only [Option.some.injEq] at h
      subst h
      refine OpOK.pure (v := .int k (if m > n then m else n)) hs hro hgn ?_ (.sc _ .nil)
      simp [execOp, ho, resolve, hc, ha', invoke, builtin, hx, hy, Builtin.max_, Builtin.max2]
    · cases h
  · cases h

theorem min_ok (hs : Sim w0 A0 F0 c Φ []) (hro : c.ro = st.ro) (hgn : c.gn = st.gn) (hev : ∀ x, Rel c (st.ev x) (ρ x) []) {cl : Call} {x y : Operand} (ho : o.op = .call cl) (hc : cl.callee = .builtin .min)
    (ha : cl.args.toList = [x, y])
    (h : (match st.ev x, st.ev y with
      | .sc (.int k n), .sc (.int k' m) => if k = k' then some (⟨.sc (.int k (if m < n then m else n)), none, [], []⟩ : Eff) else none
      | _, _ => none) = some e) : OpOK P w0 A0 F0 c st ρ o e := by
  have hx := hev x
  have hy := hev y
  have ha' : cl.args = #[x, y] := by rw [← Array.toArray_toList (xs := cl.args), ha]
  split at h
  · rename_i k n k' m hxe hye
    rw [hxe] at hx; rw [hye] at hy
    obtain ⟨hx, _⟩ := Rel.sc_inv hx
    obtain ⟨hy, _⟩ := Rel.sc_inv hy
    split at h
    · simp only [Option.some.injEq] at h
      subst h
      refine OpOK.pure (v := .int k (if m < n then m else n)) hs hro hgn ?_ (.sc _ .nil)
      simp [execOp, ho, resolve, hc, ha', invoke, builtin, hx, hy, Builtin.min_, Builtin.min2]
    · cases h
  · cases h

end

end Go.Proofs.Ytifgeenipinnmaa
