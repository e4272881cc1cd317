/- The law of RingOfDouble. -/
import Derived.Test.YtifgeenipinnmaaD12
import Derived.Test.YtifgeenipinnmaaD13
set_option linter.all false
namespace Go.Proofs.Ytifgeenipinnmaa
open Go.RowKit

theorem argsX_r2 {ro : Ro} {s g s' g' m : Nat} {F G : Nat → Nat → Nat → Int} (h1 : ro s g = some (cubeA F m)) (h2 : ro s' g' = some (cubeA G m)) :
    argsX ro [.agg [.ref s g [] 0 m], .agg [.ref s' g' [] 0 m]] = [.agg [immC F m], .agg [immC G m]] := by
  have hp : pureL [.agg [.ref s g [] 0 m], .agg [.ref s' g' [] 0 m]] = false := rfl
  unfold argsX
  rw [hp, if_neg Bool.false_ne_true]
  show [AV.agg [ex ro 7 _], AV.agg [ex ro 7 _]] = _
  rw [ex_cube h1 3, ex_cube h2 3]
theorem argsX_r1 {ro : Ro} {s g m : Nat} {F : Nat → Nat → Nat → Int} {v : Value} (h1 : ro s g = some (cubeA F m)) :
    argsX ro [.agg [.ref s g [] 0 m], .sc v] = [.agg [immC F m], .sc v] := by
  have hp : pureL [.agg [.ref s g [] 0 m], .sc v] = false := rfl
  unfold argsX
  rw [hp, if_neg Bool.false_ne_true]
  show [AV.agg [ex ro 7 _], AV.sc v] = _
  rw [ex_cube h1 3]

set_option maxRecDepth 1000000 in
set_option maxHeartbeats 10000000 in
theorem c4_in {n k : Int} {F : Nat → Nat → Nat → Int} {m : Nat} (hm : m ≤ 16) (c15 : CallOK Try.prog 15 [i64 n, i64 k] (.tup [.agg [cubeA F m], i64 0])) (c16 : CallOK Try.prog 16 [i64 n, i64 k] (.tup [.agg [cubeA F m], i64 0])) : CallOK Try.prog 4 [i64 n, i64 k] (bo true) := by
  have hmN : m ≤ maxN := by unfold maxN; omega
  have e17 : CallOK Try.prog 17 [.agg [immC F m], .agg [immC F m]] (bo true) := c17g (immC_sh (fun _ _ => none) F m) (fun _ _ _ => rfl) (fun _ => rfl) (c47 hmN)
  refine call_of (fn := Try.f4) (code := bodyOf Try.f4) Try.func4 rfl (by kernel_rfl) rfl ?_
  intro sl hs
  have s0 : sl 0 = i64 n := hs 0
  have s1 : sl 1 = i64 k := hs 1
  simp (config := { maxSteps := 10000000 }) (disch := first | omega | assumption) only [Try.f4, bodyOf, Option.getD, go_sem, ↓reduceIte, Nat.reduceEqDiff, reduceCtorEq, Nat.reduceAdd, Nat.reduceMul, Nat.reduceLeDiff, zfu, Int.mul_def, Int.add_def, zfv, cond_false, cond_true, isub, ti2, ti3, ti4, ti33, ti34, s0, s1]
  refine CLL_pure _ c15 rfl rfl rfl ?_
  simp (config := { maxSteps := 10000000 }) (disch := first | omega | assumption) only [go_sem, ↓reduceIte, Nat.reduceEqDiff, reduceCtorEq, Nat.reduceAdd, Nat.reduceMul, Nat.reduceLeDiff, zfu, Int.mul_def, Int.add_def, zfv, cond_false, cond_true, isub, ti2, ti3, ti4, ti33, ti34, s0, s1, impE_tupR]
  refine CLL_pure _ c16 rfl rfl rfl ?_
  simp (config := { maxSteps := 10000000 }) (disch := first | omega | assumption) only [go_sem, ↓reduceIte, Nat.reduceEqDiff, reduceCtorEq, Nat.reduceAdd, Nat.reduceMul, Nat.reduceLeDiff, zfu, Int.mul_def, Int.add_def, zfv, cond_false, cond_true, isub, ti2, ti3, ti4, ti33, ti34, s0, s1, impE_tupR]
  refine CLL_args _ e17 (argsX_r2 (by simp only [↓zcy, ↓zcz, ↓zda, ↓zdb, ↓reduceIte, Nat.reduceEqDiff, and_true, true_and, and_self, ne_eq, not_false_eq_true, eq_self, false_and, and_false, reduceCtorEq]) (by simp only [↓zcy, ↓zcz, ↓zda, ↓zdb, ↓reduceIte, Nat.reduceEqDiff, and_true, true_and, and_self, ne_eq, not_false_eq_true, eq_self, false_and, and_false, reduceCtorEq])) rfl rfl rfl ?_
  simp (config := { maxSteps := 10000000 }) (disch := first | omega | assumption) only [go_sem, ↓reduceIte, Nat.reduceEqDiff, reduceCtorEq, Nat.reduceAdd, Nat.reduceMul, Nat.reduceLeDiff, zfu, Int.mul_def, Int.add_def, zfv, cond_false, cond_true, isub, ti2, ti3, ti4, ti33, ti34, s0, s1]
  refine CLL_in rfl _ _ _ (in18 (F := F) (n := m) (k := 1) (by simp only [↓zcy, ↓zcz, ↓zda, ↓zdb, ↓reduceIte, Nat.reduceEqDiff, and_true, true_and, and_self, ne_eq, not_false_eq_true, eq_self, false_and, and_false, reduceCtorEq]) (by simp only [↓zcy, ↓zcz, ↓zda, ↓zdb, ↓reduceIte, Nat.reduceEqDiff, and_true, true_and, and_self, ne_eq, not_false_eq_true, eq_self, false_and, and_false, reduceCtorEq]) hm (by decide) (by decide)) ?_
  simp (config := { maxSteps := 10000000 }) (disch := first | omega | assumption) only [go_sem, ↓reduceIte, Nat.reduceEqDiff, reduceCtorEq, Nat.reduceAdd, Nat.reduceMul, Nat.reduceLeDiff, zfu, Int.mul_def, Int.add_def, zfv, cond_false, cond_true, isub, ti2, ti3, ti4, ti33, ti34, s0, s1]
  refine CLL_args _ (c19 hm (k := 1) (by decide) (by decide)) (argsX_r1 (by simp only [↓zcy, ↓zcz, ↓zda, ↓zdb, ↓reduceIte, Nat.reduceEqDiff, and_true, true_and, and_self, ne_eq, not_false_eq_true, eq_self, false_and, and_false, reduceCtorEq])) rfl rfl rfl ?_
  have hge : ¬ ((1 : Int) + (m * m * m : Nat) < 0) := by omega
  simp (config := { maxSteps := 10000000 }) (disch := first | omega | assumption) only [go_sem, ↓reduceIte, Nat.reduceEqDiff, reduceCtorEq, Nat.reduceAdd, Nat.reduceMul, Nat.reduceLeDiff, zfu, Int.mul_def, Int.add_def, zfv, cond_false, cond_true, isub, ti2, ti3, ti4, ti33, ti34, s0, s1, hge]
  refine CLL_pure _ c16 rfl rfl rfl ?_
  simp (config := { maxSteps := 10000000 }) (disch := first | omega | assumption) only [go_sem, ↓reduceIte, Nat.reduceEqDiff, reduceCtorEq, Nat.reduceAdd, Nat.reduceMul, Nat.reduceLeDiff, zfu, Int.mul_def, Int.add_def, zfv, cond_false, cond_true, isub, ti2, ti3, ti4, ti33, ti34, s0, s1, impE_tupR]
  refine CLL_args _ e17 (argsX_r2 (by simp only [↓zcy, ↓zcz, ↓zda, ↓zdb, ↓reduceIte, Nat.reduceEqDiff, and_true, true_and, and_self, ne_eq, not_false_eq_true, eq_self, false_and, and_false, reduceCtorEq]) (by simp only [↓zcy, ↓zcz, ↓zda, ↓zdb, ↓reduceIte, Nat.reduceEqDiff, and_true, true_and, and_self, ne_eq, not_false_eq_true, eq_self, false_and, and_false, reduceCtorEq])) rfl rfl rfl ?_
  simp (config := { maxSteps := 10000000 }) (disch := first | omega | assumption) only [go_sem, ↓reduceIte, Nat.reduceEqDiff, reduceCtorEq, Nat.reduceAdd, Nat.reduceMul, Nat.reduceLeDiff, zfu, Int.mul_def, Int.add_def, zfv, cond_false, cond_true, isub, ti2, ti3, ti4, ti33, ti34, s0, s1]
  refine CLL_args _ (c19 hm (k := 1) (by decide) (by decide)) (argsX_r1 (by simp only [↓zcy, ↓zcz, ↓zda, ↓zdb, ↓reduceIte, Nat.reduceEqDiff, and_true, true_and, and_self, ne_eq, not_false_eq_true, eq_self, false_and, and_false, reduceCtorEq])) rfl rfl rfl ?_
  simp (config := { maxSteps := 10000000 }) (disch := first | omega | assumption) only [go_sem, ↓reduceIte, Nat.reduceEqDiff, reduceCtorEq, Nat.reduceAdd, Nat.reduceMul, Nat.reduceLeDiff, zfu, Int.mul_def, Int.add_def, zfv, cond_false, cond_true, isub, ti2, ti3, ti4, ti33, ti34, s0, s1, hge]
  simp only [zbj, zbk, retR, resL, outT, zes, zez, oneV, ↓zcy, ↓zcz, ↓reduceIte, Nat.reduceEqDiff, Option.some.injEq, AV.sc.injEq, Value.bool.injEq, Value.int.injEq, outL, outT, zft, zcp, zed, zef, zei, zeh, List.length_cons, List.length_nil, Nat.reduceAdd, Nat.zero_add, Nat.reduceLeDiff, List.drop_zero, List.take_succ_cons, List.take_zero, zfi, zfh, Ro.dl, zdb, zda, zfe, and_self, and_true, true_and, eq_self, List.append_nil, List.nil_append, List.cons_append, ne_eq, not_false_eq_true, and_false, false_and, Bool.false_eq_true, St.ev, zes, zfn]

set_option maxRecDepth 1000000 in
theorem in48n {ro : Ro} {gn : Nat → Nat} {k : Int} : InOK Try.prog 48 [nilA, i64 k] ro gn (i64 k) ro gn := by
  refine in_of (fn := Try.f48) (code := bodyOf Try.f48) Try.func48 rfl (by kernel_rfl) ?_
  intro sl hs
  have s0 : sl 0 = nilA := hs 0
  have s1 : sl 1 = i64 k := hs 1
  simp only [Try.f48, bodyOf, Option.getD, go_sem, ↓reduceIte, Nat.reduceEqDiff, reduceCtorEq, Nat.reduceAdd, Nat.reduceMul, Nat.reduceLeDiff, ti2, ti3, ti4, ti31, s0, s1]
  refine WK_for (fun j st => st.sl 0 = nilA ∧ st.sl 1 = i64 k ∧ st.sl 5 = i64 (j : Int) ∧ st.ro = ro ∧ st.gn = gn) 0 ?_ ?_ ?_
  · simp only [↓zcy, ↓zcz, ↓zda, ↓zdb, ↓reduceIte, Nat.reduceEqDiff, and_true, true_and, and_self, ne_eq, not_false_eq_true, eq_self, false_and, and_false, reduceCtorEq, s0, s1, Int.natCast_zero]
  · intro j sl ro' gn' hj; omega
  · rintro sl ro' gn' ⟨s0, s1, s5, rfl, rfl⟩
    dsimp only at s0 s1 s5
    simp (config := { maxSteps := 10000000 }) (disch := first | omega | assumption) only [go_sem, ↓reduceIte, Nat.reduceEqDiff, reduceCtorEq, Nat.reduceAdd, Nat.reduceMul, Nat.reduceLeDiff, zfu, Int.mul_def, Int.add_def, zfv, cond_false, cond_true, isub, ti2, ti3, ti4, ti31, s0, s1, s5, kLen1, Int.natCast_zero, Int.lt_irrefl]
    refine ⟨.inr rfl, ⟨_, rfl, ?_⟩, rfl, rfl⟩
    simp only [↓zcy, ↓zcz, ↓zda, ↓zdb, ↓reduceIte, Nat.reduceEqDiff, and_true, true_and, and_self, ne_eq, not_false_eq_true, eq_self, false_and, and_false, reduceCtorEq, oneOrA]

set_option maxRecDepth 1000000 in
theorem c49n {k : Int} : CallOK Try.prog 49 [nilA, i64 k] (i64 k) := by
  refine call_of (fn := Try.f49) (code := bodyOf Try.f49) Try.func49 rfl (by kernel_rfl) rfl ?_
  intro sl hs
  have s0 : sl 0 = nilA := hs 0
  have s1 : sl 1 = i64 k := hs 1
  simp only [Try.f49, bodyOf, Option.getD, go_sem, ↓reduceIte, Nat.reduceEqDiff, reduceCtorEq, Nat.reduceAdd, Nat.reduceMul, Nat.reduceLeDiff, ti2, ti3, ti4, ti31, s0, s1]
  refine WK_for (fun j st => st.sl 0 = nilA ∧ st.sl 1 = i64 k ∧ st.sl 5 = i64 (j : Int)) 0 ?_ ?_ ?_
  · simp only [↓zcy, ↓zcz, ↓zda, ↓zdb, ↓reduceIte, Nat.reduceEqDiff, and_true, true_and, and_self, ne_eq, not_false_eq_true, eq_self, false_and, and_false, reduceCtorEq, s0, s1, Int.natCast_zero]
  · intro j sl ro' gn' hj; omega
  · rintro sl ro' gn' ⟨s0, s1, s5⟩
    dsimp only at s0 s1 s5
    simp (config := { maxSteps := 10000000 }) (disch := first | omega | assumption) only [go_sem, ↓reduceIte, Nat.reduceEqDiff, reduceCtorEq, Nat.reduceAdd, Nat.reduceMul, Nat.reduceLeDiff, zfu, Int.mul_def, Int.add_def, zfv, cond_false, cond_true, isub, ti2, ti3, ti4, ti31, s0, s1, s5, kLen1, Int.natCast_zero, Int.lt_irrefl]
    simp only [zbj, zbk, retR, resL, outT, zes, zez, oneV, ↓zcy, ↓zcz, ↓reduceIte, Nat.reduceEqDiff, Option.some.injEq, AV.sc.injEq, Value.bool.injEq, Value.int.injEq, outL, outT, zft, zcp, zed, zef, zei, zeh, List.length_cons, List.length_nil, Nat.reduceAdd, Nat.zero_add, Nat.reduceLeDiff, List.drop_zero, List.take_succ_cons, List.take_zero, zfi, zfh, Ro.dl, zdb, zda, zfe, and_self, and_true, true_and, eq_self, List.append_nil, List.nil_append, List.cons_append, ne_eq, not_false_eq_true, and_false, false_and, Bool.false_eq_true, St.ev, zes, zfn]

set_option maxRecDepth 1000000 in
theorem in18n {ro : Ro} {gn : Nat → Nat} {k : Int} : InOK Try.prog 18 [.agg [nilA], i64 k] ro gn (i64 k) (upr ro 4096 (gn 4096 + 1) (.bx [nilA])) (upg gn 4096 (gn 4096 + 1)) := by
  refine in_of (fn := Try.f18) (code := bodyOf Try.f18) Try.func18 rfl (by kernel_rfl) ?_
  intro sl hs
  have s0 : sl 0 = .agg [nilA] := hs 0
  have s1 : sl 1 = i64 k := hs 1
  simp only [Try.f18, bodyOf, Option.getD, go_sem, ↓reduceIte, Nat.reduceEqDiff, reduceCtorEq, Nat.reduceAdd, Nat.reduceMul, Nat.reduceLeDiff, ti2, ti3, ti4, ti31, ti33, s0, s1]
  refine CLL_in rfl _ _ _ in48n ?_
  simp (config := { maxSteps := 10000000 }) (disch := first | omega | assumption) only [go_sem, ↓reduceIte, Nat.reduceEqDiff, reduceCtorEq, Nat.reduceAdd, Nat.reduceMul, Nat.reduceLeDiff, zfu, Int.mul_def, Int.add_def, zfv, cond_false, cond_true, isub, ti2, ti3, ti4, ti31, ti33, s0, s1]
  refine ⟨.inr rfl, ⟨_, rfl, ?_⟩, rfl, rfl⟩
  simp only [↓zcy, ↓zcz, ↓zda, ↓zdb, ↓reduceIte, Nat.reduceEqDiff, and_true, true_and, and_self, ne_eq, not_false_eq_true, eq_self, false_and, and_false, reduceCtorEq, oneOrA]

set_option maxRecDepth 1000000 in
theorem c19n {k : Int} (hk : 0 ≤ k) : CallOK Try.prog 19 [.agg [nilA], i64 k] (i64 k) := by
  refine call_of (fn := Try.f19) (code := bodyOf Try.f19) Try.func19 rfl (by kernel_rfl) rfl ?_
  intro sl hs
  have s0 : sl 0 = .agg [nilA] := hs 0
  have s1 : sl 1 = i64 k := hs 1
  simp only [Try.f19, bodyOf, Option.getD, go_sem, ↓reduceIte, Nat.reduceEqDiff, reduceCtorEq, Nat.reduceAdd, Nat.reduceMul, Nat.reduceLeDiff, ti2, ti3, ti4, ti31, ti33, s0, s1]
  refine CLL_pure _ c49n rfl rfl rfl ?_
  have hge : ¬ (k < 0) := by omega
  simp (config := { maxSteps := 10000000 }) (disch := first | omega | assumption) only [go_sem, ↓reduceIte, Nat.reduceEqDiff, reduceCtorEq, Nat.reduceAdd, Nat.reduceMul, Nat.reduceLeDiff, zfu, Int.mul_def, Int.add_def, zfv, cond_false, cond_true, isub, ti2, ti3, ti4, ti31, ti33, s0, s1, hge]
  simp only [zbj, zbk, retR, resL, outT, zes, zez, oneV, ↓zcy, ↓zcz, ↓reduceIte, Nat.reduceEqDiff, Option.some.injEq, AV.sc.injEq, Value.bool.injEq, Value.int.injEq, outL, outT, zft, zcp, zed, zef, zei, zeh, List.length_cons, List.length_nil, Nat.reduceAdd, Nat.zero_add, Nat.reduceLeDiff, List.drop_zero, List.take_succ_cons, List.take_zero, zfi, zfh, Ro.dl, zdb, zda, zfe, and_self, and_true, true_and, eq_self, List.append_nil, List.nil_append, List.cons_append, ne_eq, not_false_eq_true, and_false, false_and, Bool.false_eq_true, St.ev, zes, zfn]

theorem impE_tupN1 (b : Nat) (gn : Nat → Nat) (v x : Value) : impE b gn (.tup [.agg [.sc v], .sc x]) = ⟨.tup [.agg [.sc v], .sc x], none, [], []⟩ := nr _

set_option maxRecDepth 1000000 in
theorem c4_out {n k : Int} (c15 : CallOK Try.prog 15 [i64 n, i64 k] (.tup [.agg [nilA], i64 2])) (c16 : CallOK Try.prog 16 [i64 n, i64 k] (.tup [.agg [nilA], i64 2])) : CallOK Try.prog 4 [i64 n, i64 k] (bo true) := by
  have e17 : CallOK Try.prog 17 [.agg [nilA], .agg [nilA]] (bo true) := c17g rfl (fun _ _ _ => rfl) (fun _ => rfl) c47n
  have e19 := c19n (k := 1) (by decide)
  have hge : ¬ ((1 : Int) < 0) := by decide
  refine call_of (fn := Try.f4) (code := bodyOf Try.f4) Try.func4 rfl (by kernel_rfl) rfl ?_
  intro sl hs
  have s0 : sl 0 = i64 n := hs 0
  have s1 : sl 1 = i64 k := hs 1
  simp (config := { maxSteps := 10000000 }) (disch := first | omega | assumption) only [Try.f4, bodyOf, Option.getD, go_sem, ↓reduceIte, Nat.reduceEqDiff, reduceCtorEq, Nat.reduceAdd, Nat.reduceMul, Nat.reduceLeDiff, zfu, Int.mul_def, Int.add_def, zfv, cond_false, cond_true, isub, ti2, ti3, ti4, ti33, ti34, s0, s1]
  refine CLL_pure _ c15 rfl rfl rfl ?_
  simp (config := { maxSteps := 10000000 }) (disch := first | omega | assumption) only [go_sem, ↓reduceIte, Nat.reduceEqDiff, reduceCtorEq, Nat.reduceAdd, Nat.reduceMul, Nat.reduceLeDiff, zfu, Int.mul_def, Int.add_def, zfv, cond_false, cond_true, isub, ti2, ti3, ti4, ti33, ti34, s0, s1, impE_tupN1]
  refine CLL_pure _ c16 rfl rfl rfl ?_
  simp (config := { maxSteps := 10000000 }) (disch := first | omega | assumption) only [go_sem, ↓reduceIte, Nat.reduceEqDiff, reduceCtorEq, Nat.reduceAdd, Nat.reduceMul, Nat.reduceLeDiff, zfu, Int.mul_def, Int.add_def, zfv, cond_false, cond_true, isub, ti2, ti3, ti4, ti33, ti34, s0, s1, impE_tupN1]
  refine CLL_pure _ e17 rfl rfl rfl ?_
  simp (config := { maxSteps := 10000000 }) (disch := first | omega | assumption) only [go_sem, ↓reduceIte, Nat.reduceEqDiff, reduceCtorEq, Nat.reduceAdd, Nat.reduceMul, Nat.reduceLeDiff, zfu, Int.mul_def, Int.add_def, zfv, cond_false, cond_true, isub, ti2, ti3, ti4, ti33, ti34, s0, s1]
  refine CLL_in rfl _ _ _ in18n ?_
  simp (config := { maxSteps := 10000000 }) (disch := first | omega | assumption) only [go_sem, ↓reduceIte, Nat.reduceEqDiff, reduceCtorEq, Nat.reduceAdd, Nat.reduceMul, Nat.reduceLeDiff, zfu, Int.mul_def, Int.add_def, zfv, cond_false, cond_true, isub, ti2, ti3, ti4, ti33, ti34, s0, s1]
  refine CLL_pure _ e19 rfl rfl rfl ?_
  simp (config := { maxSteps := 10000000 }) (disch := first | omega | assumption) only [go_sem, ↓reduceIte, Nat.reduceEqDiff, reduceCtorEq, Nat.reduceAdd, Nat.reduceMul, Nat.reduceLeDiff, zfu, Int.mul_def, Int.add_def, zfv, cond_false, cond_true, isub, ti2, ti3, ti4, ti33, ti34, s0, s1, hge]
  refine CLL_pure _ c16 rfl rfl rfl ?_
  simp (config := { maxSteps := 10000000 }) (disch := first | omega | assumption) only [go_sem, ↓reduceIte, Nat.reduceEqDiff, reduceCtorEq, Nat.reduceAdd, Nat.reduceMul, Nat.reduceLeDiff, zfu, Int.mul_def, Int.add_def, zfv, cond_false, cond_true, isub, ti2, ti3, ti4, ti33, ti34, s0, s1, impE_tupN1]
  refine CLL_pure _ e17 rfl rfl rfl ?_
  simp (config := { maxSteps := 10000000 }) (disch := first | omega | assumption) only [go_sem, ↓reduceIte, Nat.reduceEqDiff, reduceCtorEq, Nat.reduceAdd, Nat.reduceMul, Nat.reduceLeDiff, zfu, Int.mul_def, Int.add_def, zfv, cond_false, cond_true, isub, ti2, ti3, ti4, ti33, ti34, s0, s1]
  refine CLL_pure _ e19 rfl rfl rfl ?_
  simp (config := { maxSteps := 10000000 }) (disch := first | omega | assumption) only [go_sem, ↓reduceIte, Nat.reduceEqDiff, reduceCtorEq, Nat.reduceAdd, Nat.reduceMul, Nat.reduceLeDiff, zfu, Int.mul_def, Int.add_def, zfv, cond_false, cond_true, isub, ti2, ti3, ti4, ti33, ti34, s0, s1, hge]
  simp only [zbj, zbk, retR, resL, outT, zes, zez, oneV, ↓zcy, ↓zcz, ↓reduceIte, Nat.reduceEqDiff, Option.some.injEq, AV.sc.injEq, Value.bool.injEq, Value.int.injEq, outL, outT, zft, zcp, zed, zef, zei, zeh, List.length_cons, List.length_nil, Nat.reduceAdd, Nat.zero_add, Nat.reduceLeDiff, List.drop_zero, List.take_succ_cons, List.take_zero, zfi, zfh, Ro.dl, zdb, zda, zfe, and_self, and_true, true_and, eq_self, List.append_nil, List.nil_append, List.cons_append, ne_eq, not_false_eq_true, and_false, false_and, Bool.false_eq_true, St.ev, zes, zfn]

/-- The law's function answers true, if the doubles have a conjugation. -/
theorem c4 (hP : ∀ n k : Int, 1 ≤ n ∧ n ≤ 4 → 0 ≤ k ∧ k ≤ n - 1 → CjP (dS n k) (dTs n k)) (n k : Int) : CallOK Try.prog 4 [i64 n, i64 k] (bo true) := by
  by_cases hn : 1 ≤ n ∧ n ≤ 4
  · by_cases hk : 0 ≤ k ∧ k ≤ n - 1
    · have hnn := mulB (x := n) (y := n) (X := 4) (Y := 4) (by omega) hn.2 (by omega) hn.2
      exact c4_in (by omega) (c15 hn hk (hP n k hn hk)) (c16 hn hk (hP n k hn hk))
    · exact c4_out (c15_no (c10_no2 hn hk)) (c16_no (c11_no2 hn hk))
  · exact c4_out (c15_no (c10_no1 hn)) (c16_no (c11_no1 hn))
end Go.Proofs.Ytifgeenipinnmaa
