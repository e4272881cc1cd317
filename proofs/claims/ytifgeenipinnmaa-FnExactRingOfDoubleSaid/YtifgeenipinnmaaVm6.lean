/- The abstract machine: its operations are the model's. -/
import Derived.Test.YtifgeenipinnmaaVm5
set_option linter.all false
namespace Go.Proofs.Ytifgeenipinnmaa
open Go.RowKit

section
variable {P : Program} {ti : Nat → Option TI} {w0 : World} {A0 : Nat → Prop} {F0 : List Nat} {c : Cx} {Φ : Nat → Nat → List Nat} {st : St} {ρ : Operand → Value} {o : Oper} {e : Eff}

/-- The operation o goes as the effect e says. -/
def OpOK (P : Program) (w0 : World) (A0 : Nat → Prop) (F0 : List Nat) (c : Cx) (st : St) (ρ : Operand → Value) (o : Oper) (e : Eff) : Prop :=
  ∃ v w' c' Φ', ((execOp ρ o).run P c.w = .ok (.value v) w' ∨ (v = undef ∧ (execOp ρ o).run P c.w = .ok .skip w')) ∧ c'.w = w' ∧ c'.ro = (st.eff e).ro ∧ c'.gn = (st.eff e).gn ∧
    Sim w0 A0 F0 c' Φ' [] ∧ Keep c c' ∧ Rel c' e.v v []

theorem Keep.refl (c : Cx) : Keep c c := ⟨Nat.le_refl _, fun _ _ h => h, fun _ _ _ => rfl, fun _ => Nat.le_refl _, fun _ _ _ cs _ h => ⟨cs, h, Nat.le_refl _, fun _ hx => ⟨hx, fun _ _ _ h => h⟩⟩⟩

theorem Keep.trans {c c1 c2 : Cx} (h : Keep c c1) (k : Keep c1 c2) : Keep c c2 := by
  refine ⟨Nat.le_trans h.hsz k.hsz, fun b hb hA => h.hA b hb (k.hA b (Nat.lt_of_lt_of_le hb h.hsz) hA), fun b hb hA => ?_, fun s => Nat.le_trans (h.hgn s) (k.hgn s), fun s g p cs hg hcs => ?_⟩
  · rw [k.hI b (Nat.lt_of_lt_of_le hb h.hsz) (fun hA' => hA (h.hA b hb hA')), h.hI b hb hA]
  · obtain ⟨cs1, h1, h2, h3⟩ := k.hP s g p cs (Nat.le_trans hg (h.hgn s)) hcs
    obtain ⟨cs0, h4, h5, h6⟩ := h.hP s g p cs1 hg h1
    exact ⟨cs0, h4, Nat.le_trans h5 h2, fun x hx => ⟨(h3 x (h6 x hx).1).1, fun off n v hh => (h3 x (h6 x hx).1).2 off n v ((h6 x hx).2 off n v hh)⟩⟩

theorem OpOK.pure {va : AV} {v : Value} (hs : Sim w0 A0 F0 c Φ []) (hro : c.ro = st.ro) (hgn : c.gn = st.gn) (hr : (execOp ρ o).run P c.w = .ok (.value v) c.w) (h : Rel c va v []) : OpOK P w0 A0 F0 c st ρ o ⟨va, none, [], []⟩ :=
  ⟨v, c.w, c, Φ, .inl hr, rfl, hro, hgn, hs, Keep.refl c, h⟩

theorem Rel.sc_inv {x v : Value} {F} (h : Rel c (.sc x) v F) : v = x ∧ F = [] := by
  cases h with
  | sc v h => cases h; exact ⟨rfl, rfl⟩

theorem Rel.imm_inv {cs v F} (h : Rel c (.imm cs) v F) : ∃ g b cap us, v = .slice (some ⟨g, b, none⟩) us.length cap ∧ RelL c cs us [] ∧ c.inW g b us ∧ us.length ≤ cap ∧ F = [] := by
  cases h with
  | imm g b cap h1 h2 h3 h => cases h; exact ⟨g, b, cap, _, rfl, h1, h2, h3, rfl⟩

theorem Rel.iptr_inv {cs v F} (h : Rel c (.iptr cs) v F) : ∃ g b us, v = .pointer (some ⟨g, b, none⟩) ∧ RelL c cs us [] ∧ c.inW g b us ∧ F = [] := by
  cases h with
  | iptr g b h1 h2 h => cases h; exact ⟨g, b, _, rfl, h1, h2, rfl⟩

theorem Rel.ref_inv {s g p off n v F} (h : Rel c (.ref s g p off n) v F) : g ≤ c.gn s ∧ (∀ cs, c.ro.cells s g p = some cs → ∃ x, locp c.w p (c.L s g) = some x ∧ hdr c.w x.1 (x.2 + off) n v ∧ off + n ≤ cs.length) := by
  cases h with
  | ref _ _ _ _ _ _ h1 h2 h => exact ⟨h1, h2⟩

theorem Rel.ptr_inv {s g p i v F} (h : Rel c (.ptr s g p i) v F) : g ≤ c.gn s ∧ (∀ cs, c.ro.cells s g p = some cs → ∃ x, locp c.w p (c.L s g) = some x ∧ v = .pointer (some ⟨x.1, x.2 + i, none⟩)) := by
  cases h with
  | ptr _ _ _ _ _ h1 h2 h => exact ⟨h1, h2⟩

theorem Rel.agg_inv {cs v F} (h : Rel c (.agg cs) v F) : ∃ us, v = .agg us.toArray ∧ RelL c cs us F := by
  cases h with
  | agg h1 h2 h => cases h; exact ⟨_, rfl, by simpa using h1⟩

theorem Rel.tup_inv {cs v F} (h : Rel c (.tup cs) v F) : ∃ us, v = .tuple us.toArray ∧ RelL c cs us F := by
  cases h with
  | tup h1 h2 h => cases h; exact ⟨_, rfl, by simpa using h1⟩

theorem Rel.fn_inv {f cs v F} (h : Rel c (.fn f cs) v F) : ∃ us, v = .func (.func f) #[] us.toArray ∧ RelL c cs us [] := by
  cases h with
  | fn f h1 h => cases h; exact ⟨_, rfl, h1⟩

theorem binOp_int (op : BinOp) (t k a k' b) : binOp op t (.int k a) (.int k' b) = binOp op 0 (.int k a) (.int k' b) := by cases op <;> rfl
theorem binOp_str (op : BinOp) (t a b) : binOp op t (.string a) (.string b) = binOp op 0 (.string a) (.string b) := by cases op <;> rfl

theorem eqGuard_int (op : BinOp) (t : Nat) (x y : Operand) (k a k' b) (w : World) : (eqGuard op t x y (.int k a) (.int k' b)).run P w = .ok () w := by cases op <;> rfl
theorem eqGuard_str (op : BinOp) (t : Nat) (x y : Operand) (a b) (w : World) : (eqGuard op t x y (.string a) (.string b)).run P w = .ok () w := by cases op <;> rfl
theorem eqGuard_bool (op : BinOp) (t : Nat) (x y : Operand) (a b) (w : World) : (eqGuard op t x y (.bool a) (.bool b)).run P w = .ok () w := by cases op <;> rfl
theorem eqGuard_sl (op : BinOp) (t : Nat) (x y : Operand) (a b : Option Addr) (n c m d : Nat) (w : World) : (eqGuard op t x y (.slice a n c) (.slice b m d)).run P w = .ok () w := by cases op <;> rfl

theorem isNilV_eq {v : Value} (h : isNilV v = true) : v = .slice none 0 0 := by
  unfold isNilV at h
  split at h
  · rfl
  · cases h

theorem run_equalIn_bool (d t : Nat) (hd : P.underlying t = some .bool) (a b : Bool) (w : World) : (Op.equalIn (d + 1) t (.bool a) (.bool b)).run P w = .ok (a == b) w := by
  simp only [Op.equalIn, Sem.run_bind, run_underlying hd, Result.andThen_ok]
  rfl

theorem run_equalIn_nil (d t e : Nat) (hd : P.underlying t = some (.slice e)) (a : Option Addr) (n cp : Nat) (w : World) : (Op.equalIn (d + 1) t (.slice a n cp) (.slice none 0 0)).run P w = .ok a.isNone w := by
  simp only [Op.equalIn, Sem.run_bind, run_underlying hd, Result.andThen_ok]
  cases a <;> rfl

theorem run_bin_bool (T : TOK P ti) {t : Nat} {inf : TI} (hi : ti t = some inf) (hb : inf.bl = true) (op : BinOp) (a b : Bool) (u : Value) (hu : nilCmp op (a == b) = some u) (w : World) :
    (binOp op t (.bool a) (.bool b)).run P w = .ok u w := by
  have hd := (T.ok t inf hi).bl hb
  have he : (Op.equal t (.bool a) (.bool b)).run P w = .ok (a == b) w := run_equalIn_bool 9999 t hd a b w
  cases op <;> simp only [nilCmp, Option.some.injEq, reduceCtorEq] at hu <;> subst hu <;> simp only [binOp, Sem.run_bind, he, Result.andThen_ok] <;> rfl

theorem run_bin_nil (T : TOK P ti) {t : Nat} {inf : TI} (hi : ti t = some inf) (hb : inf.elem.isSome = true) (op : BinOp) (a : Option Addr) (n cp : Nat) (u : Value) (hu : nilCmp op a.isNone = some u) (w : World) :
    (binOp op t (.slice a n cp) (.slice none 0 0)).run P w = .ok u w := by
  obtain ⟨e, he⟩ := Option.isSome_iff_exists.1 hb
  have hd := ((T.ok t inf hi).elem e he).1
  have he : (Op.equal t (.slice a n cp) (.slice none 0 0)).run P w = .ok a.isNone w := run_equalIn_nil 9999 t e hd a n cp w
  cases op <;> simp only [nilCmp, Option.some.injEq, reduceCtorEq] at hu <;> subst hu <;> simp only [binOp, Sem.run_bind, he, Result.andThen_ok] <;> rfl

theorem binA_sound (T : TOK P ti) {t : Nat} {inf : TI} (hi : ti t = some inf) {op : BinOp} {x y : AV} {u : Value} (h : binA inf op x y = some u) {vx vy : Value} (hx : Rel c x vx []) (hy : Rel c y vy [])
    (hlive : ∀ s g p off n, x = .ref s g p off n → ∃ ad m cp, vx = .slice (some ad) m cp) (X Y : Operand) : (do eqGuard op t X Y vx vy; binOp op t vx vy : Sem Value).run P c.w = .ok u c.w := by
  cases x with
  | sc x =>
    obtain ⟨rfl, _⟩ := Rel.sc_inv hx
    cases y with
    | sc y =>
      obtain ⟨rfl, _⟩ := Rel.sc_inv hy
      by_cases hnil : isNilV vx = true ∧ isNilV vy = true
      · obtain ⟨e1, e2⟩ := hnil
        have e1 := isNilV_eq e1
        have e2 := isNilV_eq e2
        subst e1 e2
        simp only [binA, isNilV, Bool.and_self, Bool.true_and] at h
        split at h
        · rename_i hb
          simp only [Sem.run_bind, eqGuard_sl, Result.andThen_ok]
          exact run_bin_nil T hi hb op none 0 0 u h _
        · cases h
      · have hf : (isNilV vx && isNilV vy && inf.elem.isSome) = false := by
          cases h1 : isNilV vx <;> cases h2 : isNilV vy <;> simp_all
        cases vx <;> cases vy <;> simp only [binA, hf, Bool.false_eq_true, if_false, reduceCtorEq] at h
        case bool.bool =>
          split at h
          · rename_i hb
            simp only [Sem.run_bind, eqGuard_bool, Result.andThen_ok]
            exact run_bin_bool T hi hb op _ _ u h _
          · cases h
        case int.int =>
          simp only [Sem.run_bind, eqGuard_int, Result.andThen_ok, binOp_int op t]
          exact semPure_run h _
        case string.string =>
          simp only [Sem.run_bind, eqGuard_str, Result.andThen_ok, binOp_str op t]
          exact semPure_run h _
    | _ => simp [binA] at h
  | imm cs =>
    cases y with
    | sc y =>
      obtain ⟨rfl, _⟩ := Rel.sc_inv hy
      simp only [binA] at h
      split at h
      · rename_i hb
        simp only [Bool.and_eq_true] at hb
        obtain ⟨g, b, cap, us, rfl, _⟩ := Rel.imm_inv hx
        rw [isNilV_eq hb.1]
        simp only [Sem.run_bind, eqGuard_sl, Result.andThen_ok]
        exact run_bin_nil T hi hb.2 op (some _) _ _ u h _
      · cases h
    | _ => simp [binA] at h
  | ref s g p off n =>
    cases y with
    | sc y =>
      obtain ⟨rfl, _⟩ := Rel.sc_inv hy
      simp only [binA] at h
      split at h
      · rename_i hb
        simp only [Bool.and_eq_true] at hb
        obtain ⟨ad, m, cp, rfl⟩ := hlive _ _ _ _ _ rfl
        rw [isNilV_eq hb.1]
        simp only [Sem.run_bind, eqGuard_sl, Result.andThen_ok]
        exact run_bin_nil T hi hb.2 op (some _) _ _ u h _
      · cases h
    | _ => simp [binA] at h
  | _ => simp [binA] at h

end

end Go.Proofs.Ytifgeenipinnmaa
