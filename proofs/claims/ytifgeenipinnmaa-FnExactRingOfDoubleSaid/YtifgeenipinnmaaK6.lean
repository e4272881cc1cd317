/- The doubles of cyclic groups, told. -/
import Derived.Test.YtifgeenipinnmaaK5
set_option linter.all false
namespace Go.Proofs.Ytifgeenipinnmaa
open Go.RowKit
theorem noRef_tup1 (a : AV) (v : Value) (h : noRef a = true) : noRef (.tup [a, .sc v]) = true := by simp only [noRef, noRefL, h, Bool.and_self]
theorem c38t {a b c : Int} (h : b ≤ a ∧ a ≤ c) : CallOK Try.prog 38 [i64 a, i64 b, i64 c] (bo true) := by have := c38 (a := a) (b := b) (c := c); rwa [decide_eq_true h] at this
theorem c38f {a b c : Int} (h : ¬ (b ≤ a ∧ a ≤ c)) : CallOK Try.prog 38 [i64 a, i64 b, i64 c] (bo false) := by have := c38 (a := a) (b := b) (c := c); rwa [decide_eq_false h] at this
theorem c40t {a b c : Int} (h : b ≤ a ∧ a ≤ c) : CallOK Try.prog 40 [i64 a, i64 b, i64 c] (bo true) := by have := c40 (a := a) (b := b) (c := c); rwa [decide_eq_true h] at this
theorem c40f {a b c : Int} (h : ¬ (b ≤ a ∧ a ≤ c)) : CallOK Try.prog 40 [i64 a, i64 b, i64 c] (bo false) := by have := c40 (a := a) (b := b) (c := c); rwa [decide_eq_false h] at this
theorem impE_agg2 (b : Nat) (gn : Nat → Nat) (xs ys : List AV) : impE b gn (.agg [.row xs, .row ys]) = ⟨.agg [.ref b (gn b + 1) [] 0 xs.length, .ref (b + 1) (gn (b + 1) + 1) [] 0 ys.length], none, [], [(b, .row xs), (b + 1, .row ys)]⟩ := nr _

theorem c10_no1 {n k : Int} (hn : ¬ (1 ≤ n ∧ n ≤ 4)) : CallOK Try.prog 10 [i64 n, i64 k] (.tup [.agg [nilA, nilA], i64 2]) := by
  refine call_of (fn := Try.f10) (code := bodyOf Try.f10) Try.func10 rfl (by kernel_rfl) rfl ?_
  intro sl hs
  have s0 : sl 0 = i64 n := hs 0
  have s1 : sl 1 = i64 k := hs 1
  simp (config := { maxSteps := 10000000 }) (disch := first | omega | assumption) only [Try.f10, bodyOf, Option.getD, go_sem, ↓reduceIte, Nat.reduceEqDiff, reduceCtorEq, Nat.reduceAdd, Nat.reduceMul, Nat.reduceLeDiff, zfu, Int.mul_def, Int.add_def, zfv, cond_false, cond_true, isub, ti2, ti4, ti25, s0, s1, List.map_nil]
  refine CLL_pure (bo false) (c38f hn ) rfl rfl rfl ?_
  simp (config := { maxSteps := 10000000 }) (disch := first | omega | assumption) only [go_sem, ↓reduceIte, Nat.reduceEqDiff, reduceCtorEq, Nat.reduceAdd, Nat.reduceMul, Nat.reduceLeDiff, zfu, Int.mul_def, Int.add_def, zfv, cond_false, cond_true, isub, ti2, ti4, ti25, s0, s1, List.map_nil]
  simp only [zbj, zbk, retR, resL, outT, zes, zez, oneV, ↓zcy, ↓zcz, ↓reduceIte, Nat.reduceEqDiff, Option.some.injEq, AV.sc.injEq, Value.bool.injEq, Value.int.injEq, outL, outT, zft, zcp, zed, zef, zei, zeh, List.length_cons, List.length_nil, Nat.reduceAdd, Nat.zero_add, Nat.reduceLeDiff, List.drop_zero, List.take_succ_cons, List.take_zero, zfi, zfh, Ro.dl, zdb, zda, zfe, and_self, and_true, true_and, eq_self, List.append_nil, List.nil_append, List.cons_append, ne_eq, not_false_eq_true, and_false, false_and, Bool.false_eq_true, St.ev, zes, zfn, ti25]

theorem c10_no2 {n k : Int} (hn : 1 ≤ n ∧ n ≤ 4) (hk : ¬ (0 ≤ k ∧ k ≤ n - 1)) : CallOK Try.prog 10 [i64 n, i64 k] (.tup [.agg [nilA, nilA], i64 2]) := by
  refine call_of (fn := Try.f10) (code := bodyOf Try.f10) Try.func10 rfl (by kernel_rfl) rfl ?_
  intro sl hs
  have s0 : sl 0 = i64 n := hs 0
  have s1 : sl 1 = i64 k := hs 1
  simp (config := { maxSteps := 10000000 }) (disch := first | omega | assumption) only [Try.f10, bodyOf, Option.getD, go_sem, ↓reduceIte, Nat.reduceEqDiff, reduceCtorEq, Nat.reduceAdd, Nat.reduceMul, Nat.reduceLeDiff, zfu, Int.mul_def, Int.add_def, zfv, cond_false, cond_true, isub, ti2, ti4, ti25, s0, s1, List.map_nil]
  refine CLL_pure (bo true) (c38t hn ) rfl rfl rfl ?_
  simp (config := { maxSteps := 10000000 }) (disch := first | omega | assumption) only [go_sem, ↓reduceIte, Nat.reduceEqDiff, reduceCtorEq, Nat.reduceAdd, Nat.reduceMul, Nat.reduceLeDiff, zfu, Int.mul_def, Int.add_def, zfv, cond_false, cond_true, isub, ti2, ti4, ti25, s0, s1, List.map_nil]
  refine CLL_pure (bo false) (c38f hk ) rfl rfl rfl ?_
  simp (config := { maxSteps := 10000000 }) (disch := first | omega | assumption) only [go_sem, ↓reduceIte, Nat.reduceEqDiff, reduceCtorEq, Nat.reduceAdd, Nat.reduceMul, Nat.reduceLeDiff, zfu, Int.mul_def, Int.add_def, zfv, cond_false, cond_true, isub, ti2, ti4, ti25, s0, s1, List.map_nil]
  simp only [zbj, zbk, retR, resL, outT, zes, zez, oneV, ↓zcy, ↓zcz, ↓reduceIte, Nat.reduceEqDiff, Option.some.injEq, AV.sc.injEq, Value.bool.injEq, Value.int.injEq, outL, outT, zft, zcp, zed, zef, zei, zeh, List.length_cons, List.length_nil, Nat.reduceAdd, Nat.zero_add, Nat.reduceLeDiff, List.drop_zero, List.take_succ_cons, List.take_zero, zfi, zfh, Ro.dl, zdb, zda, zfe, and_self, and_true, true_and, eq_self, List.append_nil, List.nil_append, List.cons_append, ne_eq, not_false_eq_true, and_false, false_and, Bool.false_eq_true, St.ev, zes, zfn, ti25]

set_option maxRecDepth 1000000 in
theorem c10 {n k : Int} (hn : 1 ≤ n ∧ n ≤ 4) (hk : 0 ≤ k ∧ k ≤ n - 1) : CallOK Try.prog 10 [i64 n, i64 k]
    (.tup [.agg [.row (rws (fun i => .row (rws (fun j => i64 (pw (pw (dz n) 55439) (dE n k i j))) (n * n).toNat)) (n * n).toNat), .row (rws (fun i => i64 (pw (dz n) (dT n k i))) (n * n).toNat)], i64 0]) := by
  refine call_of (fn := Try.f10) (code := bodyOf Try.f10) Try.func10 rfl (by kernel_rfl) (noRef_tup1 _ _ (noRef_dbl _ _ _ _)) ?_
  intro sl hs
  have s0 : sl 0 = i64 n := hs 0
  have s1 : sl 1 = i64 k := hs 1
  simp (config := { maxSteps := 10000000 }) (disch := first | omega | assumption) only [Try.f10, bodyOf, Option.getD, go_sem, ↓reduceIte, Nat.reduceEqDiff, reduceCtorEq, Nat.reduceAdd, Nat.reduceMul, Nat.reduceLeDiff, zfu, Int.mul_def, Int.add_def, zfv, cond_false, cond_true, isub, ti2, ti4, ti25, s0, s1, List.map_nil]
  refine CLL_pure (bo true) (c38t hn ) rfl rfl rfl ?_
  simp (config := { maxSteps := 10000000 }) (disch := first | omega | assumption) only [go_sem, ↓reduceIte, Nat.reduceEqDiff, reduceCtorEq, Nat.reduceAdd, Nat.reduceMul, Nat.reduceLeDiff, zfu, Int.mul_def, Int.add_def, zfv, cond_false, cond_true, isub, ti2, ti4, ti25, s0, s1, List.map_nil]
  refine CLL_pure (bo true) (c38t hk ) rfl rfl rfl ?_
  simp (config := { maxSteps := 10000000 }) (disch := first | omega | assumption) only [go_sem, ↓reduceIte, Nat.reduceEqDiff, reduceCtorEq, Nat.reduceAdd, Nat.reduceMul, Nat.reduceLeDiff, zfu, Int.mul_def, Int.add_def, zfv, cond_false, cond_true, isub, ti2, ti4, ti25, s0, s1, List.map_nil]
  refine CLL_pure _ (c39 hn.1 hn.2 hk.1 (by omega)) rfl rfl rfl ?_
  simp (config := { maxSteps := 10000000 }) (disch := first | omega | assumption) only [go_sem, ↓reduceIte, Nat.reduceEqDiff, reduceCtorEq, Nat.reduceAdd, Nat.reduceMul, Nat.reduceLeDiff, zfu, Int.mul_def, Int.add_def, zfv, cond_false, cond_true, isub, ti2, ti4, ti25, s0, s1, List.map_nil, impE_agg2]
  simp only [zbj, zbk, retR, resL, outT, zes, zez, oneV, ↓zcy, ↓zcz, ↓reduceIte, Nat.reduceEqDiff, Option.some.injEq, AV.sc.injEq, Value.bool.injEq, Value.int.injEq, outL, outT, zft, zcp, zed, zef, zei, zeh, List.length_cons, List.length_nil, Nat.reduceAdd, Nat.zero_add, Nat.reduceLeDiff, List.drop_zero, List.take_succ_cons, List.take_zero, zfi, zfh, Ro.dl, zdb, zda, zfe, and_self, and_true, true_and, eq_self, List.append_nil, List.nil_append, List.cons_append, ne_eq, not_false_eq_true, and_false, false_and, Bool.false_eq_true, St.ev, zes, zfn, ti25]

theorem c11_no1 {n k : Int} (hn : ¬ (1 ≤ n ∧ n ≤ 4)) : CallOK Try.prog 11 [i64 n, i64 k] (.tup [.agg [nilA, nilA], i64 2]) := by
  refine call_of (fn := Try.f11) (code := bodyOf Try.f11) Try.func11 rfl (by kernel_rfl) rfl ?_
  intro sl hs
  have s0 : sl 0 = i64 n := hs 0
  have s1 : sl 1 = i64 k := hs 1
  simp (config := { maxSteps := 10000000 }) (disch := first | omega | assumption) only [Try.f11, bodyOf, Option.getD, go_sem, ↓reduceIte, Nat.reduceEqDiff, reduceCtorEq, Nat.reduceAdd, Nat.reduceMul, Nat.reduceLeDiff, zfu, Int.mul_def, Int.add_def, zfv, cond_false, cond_true, isub, ti2, ti4, ti25, s0, s1, List.map_nil]
  refine CLL_pure (bo false) (c40f hn ) rfl rfl rfl ?_
  simp (config := { maxSteps := 10000000 }) (disch := first | omega | assumption) only [go_sem, ↓reduceIte, Nat.reduceEqDiff, reduceCtorEq, Nat.reduceAdd, Nat.reduceMul, Nat.reduceLeDiff, zfu, Int.mul_def, Int.add_def, zfv, cond_false, cond_true, isub, ti2, ti4, ti25, s0, s1, List.map_nil]
  simp only [zbj, zbk, retR, resL, outT, zes, zez, oneV, ↓zcy, ↓zcz, ↓reduceIte, Nat.reduceEqDiff, Option.some.injEq, AV.sc.injEq, Value.bool.injEq, Value.int.injEq, outL, outT, zft, zcp, zed, zef, zei, zeh, List.length_cons, List.length_nil, Nat.reduceAdd, Nat.zero_add, Nat.reduceLeDiff, List.drop_zero, List.take_succ_cons, List.take_zero, zfi, zfh, Ro.dl, zdb, zda, zfe, and_self, and_true, true_and, eq_self, List.append_nil, List.nil_append, List.cons_append, ne_eq, not_false_eq_true, and_false, false_and, Bool.false_eq_true, St.ev, zes, zfn, ti25]

theorem c11_no2 {n k : Int} (hn : 1 ≤ n ∧ n ≤ 4) (hk : ¬ (0 ≤ k ∧ k ≤ n - 1)) : CallOK Try.prog 11 [i64 n, i64 k] (.tup [.agg [nilA, nilA], i64 2]) := by
  refine call_of (fn := Try.f11) (code := bodyOf Try.f11) Try.func11 rfl (by kernel_rfl) rfl ?_
  intro sl hs
  have s0 : sl 0 = i64 n := hs 0
  have s1 : sl 1 = i64 k := hs 1
  simp (config := { maxSteps := 10000000 }) (disch := first | omega | assumption) only [Try.f11, bodyOf, Option.getD, go_sem, ↓reduceIte, Nat.reduceEqDiff, reduceCtorEq, Nat.reduceAdd, Nat.reduceMul, Nat.reduceLeDiff, zfu, Int.mul_def, Int.add_def, zfv, cond_false, cond_true, isub, ti2, ti4, ti25, s0, s1, List.map_nil]
  refine CLL_pure (bo true) (c40t hn ) rfl rfl rfl ?_
  simp (config := { maxSteps := 10000000 }) (disch := first | omega | assumption) only [go_sem, ↓reduceIte, Nat.reduceEqDiff, reduceCtorEq, Nat.reduceAdd, Nat.reduceMul, Nat.reduceLeDiff, zfu, Int.mul_def, Int.add_def, zfv, cond_false, cond_true, isub, ti2, ti4, ti25, s0, s1, List.map_nil]
  refine CLL_pure (bo false) (c40f hk ) rfl rfl rfl ?_
  simp (config := { maxSteps := 10000000 }) (disch := first | omega | assumption) only [go_sem, ↓reduceIte, Nat.reduceEqDiff, reduceCtorEq, Nat.reduceAdd, Nat.reduceMul, Nat.reduceLeDiff, zfu, Int.mul_def, Int.add_def, zfv, cond_false, cond_true, isub, ti2, ti4, ti25, s0, s1, List.map_nil]
  simp only [zbj, zbk, retR, resL, outT, zes, zez, oneV, ↓zcy, ↓zcz, ↓reduceIte, Nat.reduceEqDiff, Option.some.injEq, AV.sc.injEq, Value.bool.injEq, Value.int.injEq, outL, outT, zft, zcp, zed, zef, zei, zeh, List.length_cons, List.length_nil, Nat.reduceAdd, Nat.zero_add, Nat.reduceLeDiff, List.drop_zero, List.take_succ_cons, List.take_zero, zfi, zfh, Ro.dl, zdb, zda, zfe, and_self, and_true, true_and, eq_self, List.append_nil, List.nil_append, List.cons_append, ne_eq, not_false_eq_true, and_false, false_and, Bool.false_eq_true, St.ev, zes, zfn, ti25]

set_option maxRecDepth 1000000 in
theorem c11 {n k : Int} (hn : 1 ≤ n ∧ n ≤ 4) (hk : 0 ≤ k ∧ k ≤ n - 1) : CallOK Try.prog 11 [i64 n, i64 k]
    (.tup [.agg [.row (rws (fun i => .row (rws (fun j => i64 (pwz (dz n) (-(dE n k i j)))) (n * n).toNat)) (n * n).toNat), .row (rws (fun i => i64 (pw (dz n) (dT n k i))) (n * n).toNat)], i64 0]) := by
  refine call_of (fn := Try.f11) (code := bodyOf Try.f11) Try.func11 rfl (by kernel_rfl) (noRef_tup1 _ _ (noRef_dbl _ _ _ _)) ?_
  intro sl hs
  have s0 : sl 0 = i64 n := hs 0
  have s1 : sl 1 = i64 k := hs 1
  simp (config := { maxSteps := 10000000 }) (disch := first | omega | assumption) only [Try.f11, bodyOf, Option.getD, go_sem, ↓reduceIte, Nat.reduceEqDiff, reduceCtorEq, Nat.reduceAdd, Nat.reduceMul, Nat.reduceLeDiff, zfu, Int.mul_def, Int.add_def, zfv, cond_false, cond_true, isub, ti2, ti4, ti25, s0, s1, List.map_nil]
  refine CLL_pure (bo true) (c40t hn ) rfl rfl rfl ?_
  simp (config := { maxSteps := 10000000 }) (disch := first | omega | assumption) only [go_sem, ↓reduceIte, Nat.reduceEqDiff, reduceCtorEq, Nat.reduceAdd, Nat.reduceMul, Nat.reduceLeDiff, zfu, Int.mul_def, Int.add_def, zfv, cond_false, cond_true, isub, ti2, ti4, ti25, s0, s1, List.map_nil]
  refine CLL_pure (bo true) (c40t hk ) rfl rfl rfl ?_
  simp (config := { maxSteps := 10000000 }) (disch := first | omega | assumption) only [go_sem, ↓reduceIte, Nat.reduceEqDiff, reduceCtorEq, Nat.reduceAdd, Nat.reduceMul, Nat.reduceLeDiff, zfu, Int.mul_def, Int.add_def, zfv, cond_false, cond_true, isub, ti2, ti4, ti25, s0, s1, List.map_nil]
  refine CLL_pure _ (c41 hn.1 hn.2 hk.1 (by omega)) rfl rfl rfl ?_
  simp (config := { maxSteps := 10000000 }) (disch := first | omega | assumption) only [go_sem, ↓reduceIte, Nat.reduceEqDiff, reduceCtorEq, Nat.reduceAdd, Nat.reduceMul, Nat.reduceLeDiff, zfu, Int.mul_def, Int.add_def, zfv, cond_false, cond_true, isub, ti2, ti4, ti25, s0, s1, List.map_nil, impE_agg2]
  simp only [zbj, zbk, retR, resL, outT, zes, zez, oneV, ↓zcy, ↓zcz, ↓reduceIte, Nat.reduceEqDiff, Option.some.injEq, AV.sc.injEq, Value.bool.injEq, Value.int.injEq, outL, outT, zft, zcp, zed, zef, zei, zeh, List.length_cons, List.length_nil, Nat.reduceAdd, Nat.zero_add, Nat.reduceLeDiff, List.drop_zero, List.take_succ_cons, List.take_zero, zfi, zfh, Ro.dl, zdb, zda, zfe, and_self, and_true, true_and, eq_self, List.append_nil, List.nil_append, List.cons_append, ne_eq, not_false_eq_true, and_false, false_and, Bool.false_eq_true, St.ev, zes, zfn, ti25]
end Go.Proofs.Ytifgeenipinnmaa
