/- Comparing, marking and holding rings. -/
import Derived.Test.YtifgeenipinnmaaD10
set_option linter.all false
namespace Go.Proofs.Ytifgeenipinnmaa
open Go.RowKit

theorem plane_len (F : Nat → Nat → Nat → Int) (n i : Nat) : (plane F n i).length = n := zfe _ _
theorem plane_rowlen (F : Nat → Nat → Nat → Int) (n i j : Nat) : ((plane F n i).getD j []).length ≤ n := by
  show (row (plane F n i) j).length ≤ n
  rcases Nat.lt_or_ge j n with h | h
  · rw [show row (plane F n i) j = rws (fun k => F i j k) n from row_rws _ h, zfe]; exact Nat.le_refl n
  · rw [row_out (by rw [plane_len]; exact h)]; exact Nat.zero_le _
theorem immC_sh (ro : Ro) (F : Nat → Nat → Nat → Int) (n : Nat) : pureA (immC F n) = true := by
  have hp : ∀ (f : Nat → AV) (n : Nat), (∀ i, pureA (f i) = true) → pureL (rws f n) = true := by
    intro f n h
    unfold rws
    have : ∀ l : List Nat, pureL (l.map f) = true := by
      intro l; induction l with
      | nil => rfl
      | cons a l ih => simp only [List.map_cons, pureL, h, ih, Bool.and_self]
    exact this _
  simp only [immC, pureA]
  exact hp _ _ fun i => by simp only [pureA]; exact hp _ _ fun j => by simp only [pureA]; exact hp _ _ fun k => rfl

set_option maxRecDepth 1000000 in
theorem c47 {F : Nat → Nat → Nat → Int} {n : Nat} (hn : n ≤ maxN) : CallOK Try.prog 47 [immC F n, immC F n] (bo true) := by
  refine call_of (fn := Try.f47) (code := bodyOf Try.f47) Try.func47 rfl (by kernel_rfl) rfl ?_
  intro sl hs
  have s0 : sl 0 = immC F n := hs 0
  have s1 : sl 1 = immC F n := hs 1
  have hn' : n ≤ 4294967296 := hn
  simp only [Try.f47, bodyOf, Option.getD, go_sem, ↓reduceIte, Nat.reduceEqDiff, reduceCtorEq, Nat.reduceAdd, Nat.reduceMul, Nat.reduceLeDiff, ti2, ti3, ti4, ti31, s0, s1, kLen_immrws]
  refine WK_for (fun k st => st.sl 0 = immC F n ∧ st.sl 1 = immC F n ∧ st.sl 5 = i64 (k : Int)) n ?_ ?_ ?_
  · simp only [↓zcy, ↓zcz, ↓zda, ↓zdb, ↓reduceIte, Nat.reduceEqDiff, and_true, true_and, and_self, ne_eq, not_false_eq_true, eq_self, false_and, and_false, reduceCtorEq, s0, s1]
    rfl
  · rintro k sl ro gn hk ⟨s0, s1, s5⟩
    dsimp only at s0 s1 s5
    have hk' : (k : Int) < n := by omega
    have h1 := isLL_plane F n k
    simp (config := { maxSteps := 10000000 }) (disch := first | omega | assumption) only [go_sem, ↓reduceIte, Nat.reduceEqDiff, reduceCtorEq, Nat.reduceAdd, Nat.reduceMul, Nat.reduceLeDiff, zfu, Int.mul_def, Int.add_def, zfv, cond_false, cond_true, isub, ti2, ti3, ti4, ti22, ti31, s0, s1, s5, kLen_immrws, kIdx_immrws hk, hk']
    have c := c42 h1 h1 (by rw [plane_len]; exact hn) (fun j => Nat.le_trans (plane_rowlen F n k j) hn)
    rw [decide_eq_true rfl] at c
    have hp := isLL_pure h1
    have hpl : ∀ a : AV, pureA a = true → pureL [a, a] = true := fun a h => by simp only [pureL, h, Bool.and_self]
    refine CLLD_pure _ c (hpl _ hp) rfl ?_
    simp (config := { maxSteps := 10000000 }) (disch := first | omega | assumption) only [go_sem, ↓reduceIte, Nat.reduceEqDiff, reduceCtorEq, Nat.reduceAdd, Nat.reduceMul, Nat.reduceLeDiff, zfu, Int.mul_def, Int.add_def, zfv, cond_false, cond_true, isub, ti2, ti3, ti4, ti31, hpl _ hp]
    refine FIN_of (by kernel_rfl) ?_
    simp (config := { maxSteps := 10000000 }) (disch := first | omega | assumption) only [go_sem, ↓reduceIte, Nat.reduceEqDiff, reduceCtorEq, Nat.reduceAdd, Nat.reduceMul, Nat.reduceLeDiff, zfu, Int.mul_def, Int.add_def, zfv, cond_false, cond_true, isub, ti2, ti3, ti4, s0, s1, s5]
    exact i64c (by omega)
  · rintro sl ro gn ⟨s0, s1, s5⟩
    dsimp only at s0 s1 s5
    have hk' : ¬ (n : Int) < n := by omega
    simp (config := { maxSteps := 10000000 }) (disch := first | omega | assumption) only [go_sem, ↓reduceIte, Nat.reduceEqDiff, reduceCtorEq, Nat.reduceAdd, Nat.reduceMul, Nat.reduceLeDiff, zfu, Int.mul_def, Int.add_def, zfv, cond_false, cond_true, isub, ti2, ti3, ti4, ti31, s0, s1, s5, kLen_immrws, hk']
    simp only [zbj, zbk, retR, resL, outT, zes, zez, oneV, ↓zcy, ↓zcz, ↓reduceIte, Nat.reduceEqDiff, Option.some.injEq, AV.sc.injEq, Value.bool.injEq, Value.int.injEq, outL, outT, zft, zcp, zed, zef, zei, zeh, List.length_cons, List.length_nil, Nat.reduceAdd, Nat.zero_add, Nat.reduceLeDiff, List.drop_zero, List.take_succ_cons, List.take_zero, zfi, zfh, Ro.dl, zdb, zda, zfe, and_self, and_true, true_and, eq_self, List.append_nil, List.nil_append, List.cons_append, ne_eq, not_false_eq_true, and_false, false_and, Bool.false_eq_true, St.ev, zes, zfn]

set_option maxRecDepth 1000000 in
theorem c47n : CallOK Try.prog 47 [nilA, nilA] (bo true) := by
  refine call_of (fn := Try.f47) (code := bodyOf Try.f47) Try.func47 rfl (by kernel_rfl) rfl ?_
  intro sl hs
  have s0 : sl 0 = nilA := hs 0
  have s1 : sl 1 = nilA := hs 1
  simp only [Try.f47, bodyOf, Option.getD, go_sem, ↓reduceIte, Nat.reduceEqDiff, reduceCtorEq, Nat.reduceAdd, Nat.reduceMul, Nat.reduceLeDiff, ti2, ti3, ti4, ti31, s0, s1, kLen1]
  refine WK_for (fun k st => st.sl 0 = nilA ∧ st.sl 1 = nilA ∧ st.sl 5 = i64 (k : Int)) 0 ?_ ?_ ?_
  · simp only [↓zcy, ↓zcz, ↓zda, ↓zdb, ↓reduceIte, Nat.reduceEqDiff, and_true, true_and, and_self, ne_eq, not_false_eq_true, eq_self, false_and, and_false, reduceCtorEq, s0, s1]
    rfl
  · intro k sl ro gn hk; omega
  · rintro sl ro gn ⟨s0, s1, s5⟩
    dsimp only at s0 s1 s5
    simp (config := { maxSteps := 10000000 }) (disch := first | omega | assumption) only [go_sem, ↓reduceIte, Nat.reduceEqDiff, reduceCtorEq, Nat.reduceAdd, Nat.reduceMul, Nat.reduceLeDiff, zfu, Int.mul_def, Int.add_def, zfv, cond_false, cond_true, isub, ti2, ti3, ti4, ti31, s0, s1, s5, kLen1, Int.natCast_zero, Int.lt_irrefl]
    simp only [zbj, zbk, retR, resL, outT, zes, zez, oneV, ↓zcy, ↓zcz, ↓reduceIte, Nat.reduceEqDiff, Option.some.injEq, AV.sc.injEq, Value.bool.injEq, Value.int.injEq, outL, outT, zft, zcp, zed, zef, zei, zeh, List.length_cons, List.length_nil, Nat.reduceAdd, Nat.zero_add, Nat.reduceLeDiff, List.drop_zero, List.take_succ_cons, List.take_zero, zfi, zfh, Ro.dl, zdb, zda, zfe, and_self, and_true, true_and, eq_self, List.append_nil, List.nil_append, List.cons_append, ne_eq, not_false_eq_true, and_false, false_and, Bool.false_eq_true, St.ev, zes, zfn]

theorem c17g {a : AV} (hp : pureA a = true) (hl : ∀ s g p, lift s g p a = a) (hc : ∀ ro, cellOkB ro a = true) (h : CallOK Try.prog 47 [a, a] (bo true)) : CallOK Try.prog 17 [.agg [a], .agg [a]] (bo true) := by
  refine call_of (fn := Try.f17) (code := bodyOf Try.f17) Try.func17 rfl (by kernel_rfl) rfl ?_
  intro sl hs
  have s0 : sl 0 = .agg [a] := hs 0
  have s1 : sl 1 = .agg [a] := hs 1
  simp only [Try.f17, bodyOf, Option.getD, go_sem, ↓reduceIte, Nat.reduceEqDiff, reduceCtorEq, Nat.reduceAdd, Nat.reduceMul, Nat.reduceLeDiff, ti2, ti3, ti4, ti31, ti33, s0, s1, hl, hc]
  refine CLL_pure _ h (by simp only [pureL, hp, Bool.and_self]) rfl rfl ?_
  simp only [go_sem, ↓reduceIte, Nat.reduceEqDiff, reduceCtorEq, Nat.reduceAdd, Nat.reduceMul, Nat.reduceLeDiff, ti2, ti3, ti4, ti31, ti33]
  simp only [zbj, zbk, retR, resL, outT, zes, zez, oneV, ↓zcy, ↓zcz, ↓reduceIte, Nat.reduceEqDiff, Option.some.injEq, AV.sc.injEq, Value.bool.injEq, Value.int.injEq, outL, outT, zft, zcp, zed, zef, zei, zeh, List.length_cons, List.length_nil, Nat.reduceAdd, Nat.zero_add, Nat.reduceLeDiff, List.drop_zero, List.take_succ_cons, List.take_zero, zfi, zfh, Ro.dl, zdb, zda, zfe, and_self, and_true, true_and, eq_self, List.append_nil, List.nil_append, List.cons_append, ne_eq, not_false_eq_true, and_false, false_and, Bool.false_eq_true, St.ev, zes, zfn]

/-! ### Labels -/
def lbl (k : Int) (n : Nat) : Nat → Nat → Nat → Int := fun x y z => k + ((x * n + y) * n + z : Nat)
theorem iota_rws (k : Int) : ∀ n, iota k n = rws (fun z => k + (z : Int)) n
  | 0 => rfl
  | n + 1 => by rw [iota, iota_rws k n, rws_succ]
theorem labs_rws (n : Nat) : ∀ (m : Nat) (k : Int), labs k (List.replicate m n) = rws (fun y => iota (k + (y * n : Nat)) n) m
  | 0, _ => rfl
  | m + 1, k => by
    rw [List.replicate_succ', labs_snoc, labs_rws n m k, rws_succ]
    have : ∀ m, sumN (List.replicate m n) = m * n := by
      intro m; induction m with
      | zero => simp [sumN]
      | succ m ih => rw [List.replicate_succ, sumN, ih, Nat.succ_mul, Nat.add_comm]
    rw [this]
theorem sumN_rep (n m : Nat) : sumN (List.replicate m n) = m * n := by
  induction m with
  | zero => simp [sumN]
  | succ m ih => rw [List.replicate_succ, sumN, ih, Nat.succ_mul, Nat.add_comm]
theorem plane_lbl (k : Int) (n i : Nat) : plane (lbl k n) n i = labs (k + (i * n * n : Nat)) (List.replicate n n) := by
  rw [labs_rws]
  unfold plane
  refine rws_congr fun y _ => ?_
  rw [iota_rws]
  refine rws_congr fun z _ => ?_
  unfold lbl
  rw [Nat.add_mul]
  omega

set_option maxRecDepth 1000000 in
theorem c49 {n : Nat} {k : Int} (hn : n ≤ 16) (hk : 0 ≤ k) (hk2 : k ≤ 1000) : CallOK Try.prog 49 [immC (lbl k n) n, i64 k] (i64 (k + (n * n * n : Nat))) := by
  refine call_of (fn := Try.f49) (code := bodyOf Try.f49) Try.func49 rfl (by kernel_rfl) rfl ?_
  intro sl hs
  have s0 : sl 0 = immC (lbl k n) n := hs 0
  have s1 : sl 1 = i64 k := hs 1
  have hnn : ∀ x : Nat, x ≤ 16 → x * n * n ≤ 4096 := fun x hx => by
    have h1 : x * n ≤ 16 * 16 := Nat.mul_le_mul hx hn
    have h2 : x * n * n ≤ 256 * 16 := Nat.mul_le_mul h1 hn
    omega
  have hmN : n ≤ maxN := by unfold maxN; omega
  simp only [Try.f49, bodyOf, Option.getD, go_sem, ↓reduceIte, Nat.reduceEqDiff, reduceCtorEq, Nat.reduceAdd, Nat.reduceMul, Nat.reduceLeDiff, ti2, ti3, ti4, ti31, s0, s1]
  refine WK_for (fun i st => st.sl 0 = immC (lbl k n) n ∧ st.sl 1 = i64 (k + (i * n * n : Nat)) ∧ st.sl 5 = i64 (i : Int)) n ?_ ?_ ?_
  · simp only [↓zcy, ↓zcz, ↓zda, ↓zdb, ↓reduceIte, Nat.reduceEqDiff, and_true, true_and, and_self, ne_eq, not_false_eq_true, eq_self, false_and, and_false, reduceCtorEq, s0, s1, Nat.zero_mul, Int.natCast_zero, Int.add_zero]
  · rintro i sl ro gn hi ⟨s0, s1, s5⟩
    dsimp only at s0 s1 s5
    have hi' : (i : Int) < n := by omega
    have h1 := isLL_plane (lbl k n) n i
    rw [plane_lbl] at h1
    have hle := hnn i (by omega)
    have hle2 := hnn (i + 1) (by omega)
    have e1 : (i + 1) * n * n = i * n * n + n * n := by rw [Nat.add_mul, Nat.add_mul, Nat.one_mul]
    have hge : ¬ (k + (i * n * n : Nat) + (n * n : Nat) < 0) := by omega
    have c := c44 h1 (by rw [List.length_replicate]; exact hmN) (fun j => by
      rw [List.getD_eq_getElem?_getD, List.getElem?_replicate]
      split <;> simp [hmN]) (by omega) (by rw [sumN_rep]; omega)
    rw [sumN_rep] at c
    have hp := isLL_pure h1
    have hpl : ∀ (a : AV) (z : Int), pureA a = true → pureL [a, i64 z] = true := fun a z h => by simp only [pureL, h, pureA, Bool.and_self]
    simp (config := { maxSteps := 10000000 }) (disch := first | omega | assumption) only [go_sem, ↓reduceIte, Nat.reduceEqDiff, reduceCtorEq, Nat.reduceAdd, Nat.reduceMul, Nat.reduceLeDiff, zfu, Int.mul_def, Int.add_def, zfv, cond_false, cond_true, isub, ti2, ti3, ti4, ti22, ti31, s0, s1, s5, kLen_immrws, kIdx_immrws hi, hi']
    refine CLL_pure _ c (hpl _ _ hp) rfl rfl ?_
    simp (config := { maxSteps := 10000000 }) (disch := first | omega | assumption) only [go_sem, ↓reduceIte, Nat.reduceEqDiff, reduceCtorEq, Nat.reduceAdd, Nat.reduceMul, Nat.reduceLeDiff, zfu, Int.mul_def, Int.add_def, zfv, cond_false, cond_true, isub, ti2, ti3, ti4, ti22, ti31, s0, s1, s5, hge]
    exact ⟨i64c (by omega), i64c (by omega)⟩
  · rintro sl ro gn ⟨s0, s1, s5⟩
    dsimp only at s0 s1 s5
    have hi' : ¬ (n : Int) < n := by omega
    simp (config := { maxSteps := 10000000 }) (disch := first | omega | assumption) only [go_sem, ↓reduceIte, Nat.reduceEqDiff, reduceCtorEq, Nat.reduceAdd, Nat.reduceMul, Nat.reduceLeDiff, zfu, Int.mul_def, Int.add_def, zfv, cond_false, cond_true, isub, ti2, ti3, ti4, ti31, s0, s1, s5, kLen_immrws, hi']
    simp only [zbj, zbk, retR, resL, outT, zes, zez, oneV, ↓zcy, ↓zcz, ↓reduceIte, Nat.reduceEqDiff, Option.some.injEq, AV.sc.injEq, Value.bool.injEq, Value.int.injEq, outL, outT, zft, zcp, zed, zef, zei, zeh, List.length_cons, List.length_nil, Nat.reduceAdd, Nat.zero_add, Nat.reduceLeDiff, List.drop_zero, List.take_succ_cons, List.take_zero, zfi, zfh, Ro.dl, zdb, zda, zfe, and_self, and_true, true_and, eq_self, List.append_nil, List.nil_append, List.cons_append, ne_eq, not_false_eq_true, and_false, false_and, Bool.false_eq_true, St.ev, zes, zfn]
end Go.Proofs.Ytifgeenipinnmaa
