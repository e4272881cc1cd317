/- The field's small functions. -/
import Derived.Test.YtifgeenipinnmaaK2
import Derived.Test.YtifgeenipinnmaaK4a
set_option linter.all false
namespace Go.Proofs.Ytifgeenipinnmaa
open Go.RowKit

theorem c77 {a k : Int} (h1 : 0 ≤ a) (h2 : a < 55441) (h5 : 0 ≤ k) (h7 : k < 2^63) : CallOK Try.prog 77 [i64 a, i64 k] (i64 (a ^ k.toNat % 55441)) := of_body (f77_run h1 h2 h5 h7)
theorem c74 {a k : Int} (h1 : 0 ≤ a) (h2 : a < 55441) (h5 : 0 ≤ k) (h7 : k < 2^63) : CallOK Try.prog 74 [i64 a, i64 k] (i64 (a ^ k.toNat % 55441)) := of_body (f74_run h1 h2 h5 h7)

set_option maxRecDepth 1000000 in
theorem c40 {a b c : Int} : CallOK Try.prog 40 [i64 a, i64 b, i64 c] (bo (decide (b ≤ a ∧ a ≤ c))) := by
  refine call_of (fn := Try.f40) (code := bodyOf Try.f40) Try.func40 rfl (by kernel_rfl) rfl ?_
  intro sl hs
  have s0 : sl 0 = i64 a := hs 0
  have s1 : sl 1 = i64 b := hs 1
  have s2 : sl 2 = i64 c := hs 2
  rcases Int.lt_or_le a b with h | h
  · have h' : ¬ (b ≤ a) := by omega
    simp (config := { maxSteps := 10000000 }) (disch := first | omega | assumption) only [Try.f40, bodyOf, Option.getD, go_sem, ↓reduceIte, Nat.reduceEqDiff, reduceCtorEq, Nat.reduceAdd, Nat.reduceMul, Nat.reduceLeDiff, ti2, s0, s1, s2, h, h']
    simp only [zbj, zbk, retR, resL, outT, zes, zez, oneV, ↓zcy, ↓zcz, ↓reduceIte, Nat.reduceEqDiff, Option.some.injEq, AV.sc.injEq, Value.bool.injEq, Value.int.injEq, outL, outT, zft, zcp, zed, zef, zei, zeh, List.length_cons, List.length_nil, Nat.reduceAdd, Nat.zero_add, Nat.reduceLeDiff, List.drop_zero, List.take_succ_cons, List.take_zero, zfi, zfh, Ro.dl, zdb, zda, zfe, and_self, and_true, true_and, eq_self, List.append_nil, List.nil_append, List.cons_append, ne_eq, not_false_eq_true, and_false, false_and, Bool.false_eq_true, St.ev, zes, zfn]
  · have h' : ¬ (a < b) := by omega
    simp (config := { maxSteps := 10000000 }) (disch := first | omega | assumption) only [Try.f40, bodyOf, Option.getD, go_sem, ↓reduceIte, Nat.reduceEqDiff, reduceCtorEq, Nat.reduceAdd, Nat.reduceMul, Nat.reduceLeDiff, ti2, s0, s1, s2, h, h']
    simp only [zbj, zbk, retR, resL, outT, zes, zez, oneV, ↓zcy, ↓zcz, ↓reduceIte, Nat.reduceEqDiff, Option.some.injEq, AV.sc.injEq, Value.bool.injEq, Value.int.injEq, outL, outT, zft, zcp, zed, zef, zei, zeh, List.length_cons, List.length_nil, Nat.reduceAdd, Nat.zero_add, Nat.reduceLeDiff, List.drop_zero, List.take_succ_cons, List.take_zero, zfi, zfh, Ro.dl, zdb, zda, zfe, and_self, and_true, true_and, eq_self, List.append_nil, List.nil_append, List.cons_append, ne_eq, not_false_eq_true, and_false, false_and, Bool.false_eq_true, St.ev, zes, zfn, ← decide_not, Int.not_lt]

set_option maxRecDepth 1000000 in
theorem c38 {a b c : Int} : CallOK Try.prog 38 [i64 a, i64 b, i64 c] (bo (decide (b ≤ a ∧ a ≤ c))) := by
  refine call_of (fn := Try.f38) (code := bodyOf Try.f38) Try.func38 rfl (by kernel_rfl) rfl ?_
  intro sl hs
  have s0 : sl 0 = i64 a := hs 0
  have s1 : sl 1 = i64 b := hs 1
  have s2 : sl 2 = i64 c := hs 2
  rcases Int.lt_or_le a b with h | h
  · have h' : ¬ (b ≤ a) := by omega
    simp (config := { maxSteps := 10000000 }) (disch := first | omega | assumption) only [Try.f38, bodyOf, Option.getD, go_sem, ↓reduceIte, Nat.reduceEqDiff, reduceCtorEq, Nat.reduceAdd, Nat.reduceMul, Nat.reduceLeDiff, ti2, s0, s1, s2, h, h']
    simp only [zbj, zbk, retR, resL, outT, zes, zez, oneV, ↓zcy, ↓zcz, ↓reduceIte, Nat.reduceEqDiff, Option.some.injEq, AV.sc.injEq, Value.bool.injEq, Value.int.injEq, outL, outT, zft, zcp, zed, zef, zei, zeh, List.length_cons, List.length_nil, Nat.reduceAdd, Nat.zero_add, Nat.reduceLeDiff, List.drop_zero, List.take_succ_cons, List.take_zero, zfi, zfh, Ro.dl, zdb, zda, zfe, and_self, and_true, true_and, eq_self, List.append_nil, List.nil_append, List.cons_append, ne_eq, not_false_eq_true, and_false, false_and, Bool.false_eq_true, St.ev, zes, zfn]
  · have h' : ¬ (a < b) := by omega
    simp (config := { maxSteps := 10000000 }) (disch := first | omega | assumption) only [Try.f38, bodyOf, Option.getD, go_sem, ↓reduceIte, Nat.reduceEqDiff, reduceCtorEq, Nat.reduceAdd, Nat.reduceMul, Nat.reduceLeDiff, ti2, s0, s1, s2, h, h']
    simp only [zbj, zbk, retR, resL, outT, zes, zez, oneV, ↓zcy, ↓zcz, ↓reduceIte, Nat.reduceEqDiff, Option.some.injEq, AV.sc.injEq, Value.bool.injEq, Value.int.injEq, outL, outT, zft, zcp, zed, zef, zei, zeh, List.length_cons, List.length_nil, Nat.reduceAdd, Nat.zero_add, Nat.reduceLeDiff, List.drop_zero, List.take_succ_cons, List.take_zero, zfi, zfh, Ro.dl, zdb, zda, zfe, and_self, and_true, true_and, eq_self, List.append_nil, List.nil_append, List.cons_append, ne_eq, not_false_eq_true, and_false, false_and, Bool.false_eq_true, St.ev, zes, zfn, ← decide_not, Int.not_lt]

/-- Powers in the field. -/
def pw (a : Int) (k : Int) : Int := a ^ k.toNat % 55441
theorem pw_nonneg (a k : Int) : 0 ≤ pw a k := Int.emod_nonneg _ (by decide)
theorem pw_lt (a k : Int) : pw a k < 55441 := Int.emod_lt_of_pos _ (by decide)

set_option maxRecDepth 1000000 in
theorem c59 {a : Int} (h1 : 0 ≤ a) (h2 : a < 55441) : CallOK Try.prog 59 [i64 a] (i64 (pw a 55439)) := by
  refine call_of (fn := Try.f59) (code := bodyOf Try.f59) Try.func59 rfl (by kernel_rfl) rfl ?_
  intro sl hs
  have s0 : sl 0 = i64 a := hs 0
  simp (config := { maxSteps := 10000000 }) (disch := first | omega | assumption) only [Try.f59, bodyOf, Option.getD, go_sem, ↓reduceIte, Nat.reduceEqDiff, reduceCtorEq, Nat.reduceAdd, Nat.reduceMul, Nat.reduceLeDiff, ti2, s0]
  refine CLL_pure _ (c74 h1 h2 (by decide) (by decide)) rfl rfl rfl ?_
  simp (config := { maxSteps := 10000000 }) (disch := first | omega | assumption) only [go_sem, ↓reduceIte, Nat.reduceEqDiff, reduceCtorEq, Nat.reduceAdd, Nat.reduceMul, Nat.reduceLeDiff, ti2, s0]
  simp only [zbj, zbk, retR, resL, outT, zes, zez, oneV, ↓zcy, ↓zcz, ↓reduceIte, Nat.reduceEqDiff, Option.some.injEq, AV.sc.injEq, Value.bool.injEq, Value.int.injEq, outL, outT, zft, zcp, zed, zef, zei, zeh, List.length_cons, List.length_nil, Nat.reduceAdd, Nat.zero_add, Nat.reduceLeDiff, List.drop_zero, List.take_succ_cons, List.take_zero, zfi, zfh, Ro.dl, zdb, zda, zfe, and_self, and_true, true_and, eq_self, List.append_nil, List.nil_append, List.cons_append, ne_eq, not_false_eq_true, and_false, false_and, Bool.false_eq_true, St.ev, zes, zfn, pw]

/-- The quotient in the field. -/
def qt (a b : Int) : Int := a * pw b 55439 % 55441

set_option maxRecDepth 1000000 in
theorem c65 {a b : Int} (h1 : 0 ≤ a) (h2 : a < 55441) (h3 : 0 ≤ b) (h4 : b < 55441) : CallOK Try.prog 65 [i64 a, i64 b] (i64 (qt a b)) := by
  refine call_of (fn := Try.f65) (code := bodyOf Try.f65) Try.func65 rfl (by kernel_rfl) rfl ?_
  intro sl hs
  have s0 : sl 0 = i64 a := hs 0
  have s1 : sl 1 = i64 b := hs 1
  simp (config := { maxSteps := 10000000 }) (disch := first | omega | assumption) only [Try.f65, bodyOf, Option.getD, go_sem, ↓reduceIte, Nat.reduceEqDiff, reduceCtorEq, Nat.reduceAdd, Nat.reduceMul, Nat.reduceLeDiff, ti2, s0, s1]
  refine CLL_pure _ (c77 h3 h4 (by decide) (by decide)) rfl rfl rfl ?_
  have hb := bnd h1 h2 (pw_nonneg b 55439) (pw_lt b 55439)
  simp only [pw] at hb
  simp (config := { maxSteps := 10000000 }) (disch := first | omega | assumption) only [go_sem, ↓reduceIte, Nat.reduceEqDiff, reduceCtorEq, Nat.reduceAdd, Nat.reduceMul, Nat.reduceLeDiff, zfu, Int.mul_def, Int.add_def, zfv, cond_false, cond_true, isub, ti2, s0, s1, Int.tmod_eq_emod_of_nonneg]
  simp only [zbj, zbk, retR, resL, outT, zes, zez, oneV, ↓zcy, ↓zcz, ↓reduceIte, Nat.reduceEqDiff, Option.some.injEq, AV.sc.injEq, Value.bool.injEq, Value.int.injEq, outL, outT, zft, zcp, zed, zef, zei, zeh, List.length_cons, List.length_nil, Nat.reduceAdd, Nat.zero_add, Nat.reduceLeDiff, List.drop_zero, List.take_succ_cons, List.take_zero, zfi, zfh, Ro.dl, zdb, zda, zfe, and_self, and_true, true_and, eq_self, List.append_nil, List.nil_append, List.cons_append, ne_eq, not_false_eq_true, and_false, false_and, Bool.false_eq_true, St.ev, zes, zfn, qt, pw]

set_option maxRecDepth 1000000 in
theorem c75 {n : Int} (h1 : 1 ≤ n) (h2 : n ≤ 55440) : CallOK Try.prog 75 [i64 n] (i64 (pw 38 (55440 / n))) := by
  refine call_of (fn := Try.f75) (code := bodyOf Try.f75) Try.func75 rfl (by kernel_rfl) rfl ?_
  intro sl hs
  have s0 : sl 0 = i64 n := hs 0
  have hd : 0 ≤ 55440 / n := Int.ediv_nonneg (by decide) (by omega)
  have hd2 : 55440 / n ≤ 55440 := Int.ediv_le_self _ (by decide)
  simp (config := { maxSteps := 10000000 }) (disch := first | omega | assumption) only [Try.f75, bodyOf, Option.getD, go_sem, ↓reduceIte, Nat.reduceEqDiff, reduceCtorEq, Nat.reduceAdd, Nat.reduceMul, Nat.reduceLeDiff, zfu, Int.mul_def, Int.add_def, zfv, cond_false, cond_true, isub, ti2, s0, Int.tdiv_eq_ediv_of_nonneg]
  refine CLL_pure _ (c77 (by decide) (by decide) hd (by omega)) rfl rfl rfl ?_
  simp (config := { maxSteps := 10000000 }) (disch := first | omega | assumption) only [go_sem, ↓reduceIte, Nat.reduceEqDiff, reduceCtorEq, Nat.reduceAdd, Nat.reduceMul, Nat.reduceLeDiff, ti2, s0]
  simp only [zbj, zbk, retR, resL, outT, zes, zez, oneV, ↓zcy, ↓zcz, ↓reduceIte, Nat.reduceEqDiff, Option.some.injEq, AV.sc.injEq, Value.bool.injEq, Value.int.injEq, outL, outT, zft, zcp, zed, zef, zei, zeh, List.length_cons, List.length_nil, Nat.reduceAdd, Nat.zero_add, Nat.reduceLeDiff, List.drop_zero, List.take_succ_cons, List.take_zero, zfi, zfh, Ro.dl, zdb, zda, zfe, and_self, and_true, true_and, eq_self, List.append_nil, List.nil_append, List.cons_append, ne_eq, not_false_eq_true, and_false, false_and, Bool.false_eq_true, St.ev, zes, zfn, pw]

set_option maxRecDepth 1000000 in
theorem c73 {n : Int} (h1 : 1 ≤ n) (h2 : n ≤ 55440) : CallOK Try.prog 73 [i64 n] (i64 (pw 38 (55440 / n))) := by
  refine call_of (fn := Try.f73) (code := bodyOf Try.f73) Try.func73 rfl (by kernel_rfl) rfl ?_
  intro sl hs
  have s0 : sl 0 = i64 n := hs 0
  have hd : 0 ≤ 55440 / n := Int.ediv_nonneg (by decide) (by omega)
  have hd2 : 55440 / n ≤ 55440 := Int.ediv_le_self _ (by decide)
  simp (config := { maxSteps := 10000000 }) (disch := first | omega | assumption) only [Try.f73, bodyOf, Option.getD, go_sem, ↓reduceIte, Nat.reduceEqDiff, reduceCtorEq, Nat.reduceAdd, Nat.reduceMul, Nat.reduceLeDiff, zfu, Int.mul_def, Int.add_def, zfv, cond_false, cond_true, isub, ti2, s0, Int.tdiv_eq_ediv_of_nonneg]
  refine CLLD_pure _ c100 rfl rfl ?_
  simp (config := { maxSteps := 10000000 }) (disch := first | omega | assumption) only [go_sem, ↓reduceIte, Nat.reduceEqDiff, reduceCtorEq, Nat.reduceAdd, Nat.reduceMul, Nat.reduceLeDiff, zfu, Int.mul_def, Int.add_def, zfv, cond_false, cond_true, isub, ti2, s0, Int.tdiv_eq_ediv_of_nonneg]
  refine CLLD_pure _ (c74 (by decide) (by decide) hd (by omega)) rfl rfl ?_
  simp (config := { maxSteps := 10000000 }) (disch := first | omega | assumption) only [go_sem, ↓reduceIte, Nat.reduceEqDiff, reduceCtorEq, Nat.reduceAdd, Nat.reduceMul, Nat.reduceLeDiff, zfu, Int.mul_def, Int.add_def, zfv, cond_false, cond_true, isub, ti2, s0]
  refine FIN_of (by kernel_rfl) ?_
  simp (config := { maxSteps := 10000000 }) (disch := first | omega | assumption) only [go_sem, ↓reduceIte, Nat.reduceEqDiff, reduceCtorEq, Nat.reduceAdd, Nat.reduceMul, Nat.reduceLeDiff, zfu, Int.mul_def, Int.add_def, zfv, cond_false, cond_true, isub, ti2, s0]
  simp only [zbj, zbk, retR, resL, outT, zes, zez, oneV, ↓zcy, ↓zcz, ↓reduceIte, Nat.reduceEqDiff, Option.some.injEq, AV.sc.injEq, Value.bool.injEq, Value.int.injEq, outL, outT, zft, zcp, zed, zef, zei, zeh, List.length_cons, List.length_nil, Nat.reduceAdd, Nat.zero_add, Nat.reduceLeDiff, List.drop_zero, List.take_succ_cons, List.take_zero, zfi, zfh, Ro.dl, zdb, zda, zfe, and_self, and_true, true_and, eq_self, List.append_nil, List.nil_append, List.cons_append, ne_eq, not_false_eq_true, and_false, false_and, Bool.false_eq_true, St.ev, zes, zfn, pw]

/-- A power with any exponent, as impl.powerOf has it. -/
def pwz (a k : Int) : Int := if k < 0 then qt 1 (pw a (-k)) else pw a k

set_option maxRecDepth 1000000 in
theorem c76 {a k : Int} (h1 : 0 ≤ a) (h2 : a < 55441) (h3 : -2^62 ≤ k) (h4 : k < 2^62) : CallOK Try.prog 76 [i64 a, i64 k] (i64 (pwz a k)) := by
  refine call_of (fn := Try.f76) (code := bodyOf Try.f76) Try.func76 rfl (by kernel_rfl) rfl ?_
  intro sl hs
  have s0 : sl 0 = i64 a := hs 0
  have s1 : sl 1 = i64 k := hs 1
  simp (config := { maxSteps := 10000000 }) (disch := first | omega | assumption) only [Try.f76, bodyOf, Option.getD, go_sem, ↓reduceIte, Nat.reduceEqDiff, reduceCtorEq, Nat.reduceAdd, Nat.reduceMul, Nat.reduceLeDiff, zfu, Int.mul_def, Int.add_def, zfv, cond_false, cond_true, isub, ti2, s0, s1, Int.zero_sub]
  refine ⟨fun h => ?_, fun h => ?_⟩
  · refine CLL_pure _ (c77 h1 h2 (k := -k) (by omega) (by omega)) rfl rfl rfl ?_
    simp (config := { maxSteps := 10000000 }) (disch := first | omega | assumption) only [go_sem, ↓reduceIte, Nat.reduceEqDiff, reduceCtorEq, Nat.reduceAdd, Nat.reduceMul, Nat.reduceLeDiff, zfu, Int.mul_def, Int.add_def, zfv, cond_false, cond_true, isub, ti2, s0, s1]
    refine CLL_pure _ (c65 (by decide) (by decide) (pw_nonneg a (-k)) (pw_lt a (-k))) rfl rfl rfl ?_
    simp (config := { maxSteps := 10000000 }) (disch := first | omega | assumption) only [go_sem, ↓reduceIte, Nat.reduceEqDiff, reduceCtorEq, Nat.reduceAdd, Nat.reduceMul, Nat.reduceLeDiff, zfu, Int.mul_def, Int.add_def, zfv, cond_false, cond_true, isub, ti2, s0, s1]
    simp only [zbj, zbk, retR, resL, outT, zes, zez, oneV, ↓zcy, ↓zcz, ↓reduceIte, Nat.reduceEqDiff, Option.some.injEq, AV.sc.injEq, Value.bool.injEq, Value.int.injEq, outL, outT, zft, zcp, zed, zef, zei, zeh, List.length_cons, List.length_nil, Nat.reduceAdd, Nat.zero_add, Nat.reduceLeDiff, List.drop_zero, List.take_succ_cons, List.take_zero, zfi, zfh, Ro.dl, zdb, zda, zfe, and_self, and_true, true_and, eq_self, List.append_nil, List.nil_append, List.cons_append, ne_eq, not_false_eq_true, and_false, false_and, Bool.false_eq_true, St.ev, zes, zfn, pwz, if_pos h, and_self, true_and]
    rfl
  · refine CLL_pure _ (c77 h1 h2 (by omega) (by omega)) rfl rfl rfl ?_
    simp (config := { maxSteps := 10000000 }) (disch := first | omega | assumption) only [go_sem, ↓reduceIte, Nat.reduceEqDiff, reduceCtorEq, Nat.reduceAdd, Nat.reduceMul, Nat.reduceLeDiff, zfu, Int.mul_def, Int.add_def, zfv, cond_false, cond_true, isub, ti2, s0, s1]
    simp only [zbj, zbk, retR, resL, outT, zes, zez, oneV, ↓zcy, ↓zcz, ↓reduceIte, Nat.reduceEqDiff, Option.some.injEq, AV.sc.injEq, Value.bool.injEq, Value.int.injEq, outL, outT, zft, zcp, zed, zef, zei, zeh, List.length_cons, List.length_nil, Nat.reduceAdd, Nat.zero_add, Nat.reduceLeDiff, List.drop_zero, List.take_succ_cons, List.take_zero, zfi, zfh, Ro.dl, zdb, zda, zfe, and_self, and_true, true_and, eq_self, List.append_nil, List.nil_append, List.cons_append, ne_eq, not_false_eq_true, and_false, false_and, Bool.false_eq_true, St.ev, zes, zfn, pwz, if_neg h, pw]
end Go.Proofs.Ytifgeenipinnmaa
