/- Texts joined: D13. -/
import Derived.Test.YtgcnmlecihegcaaGreatMh
set_option linter.all false
/- RingOfDouble, told. -/
namespace Go.Proofs.YtgcnmlecihegcaaGreat
open Go.RowKit
theorem dS_row0 {n k : Int} (h1 : 1 ≤ n) {j : Nat} (hj : j < (n * n).toNat) : atI (row (dS n k) 0) j = 1 := by
 have h0 : 0 < (n * n).toNat := by omega
 unfold dS
 rw [row_rws _ h0, atI_rws _ hj]
 have e : dE n k 0 j = 0 := by simp [dE]
 rw [e]; simp [pw]
theorem sm_ones (n : Nat) {f : Nat → Int} (h : ∀ j, j < n → f j = 1) : sm f n = n := by
 induction n with
 | zero => rfl
 | succ n ih => simp only [sm]; rw [ih fun j hj => h j (by omega), h n (by omega)]; omega
theorem dShp {n k : Int} (hn : 1 ≤ n ∧ n ≤ 4) (hk : 0 ≤ k ∧ k ≤ n - 1) : Shp (dS n k) (dTs n k) ∧ whl (dS n k) (dTs n k).length ≠ 0 := by
 have hnn := mulB (x := n) (y := n) (X := 4) (Y := 4) (by omega) hn.2 (by omega) hn.2
 have hn1 : 1 ≤ n * n := Int.mul_le_mul (a := 1) (b := 1) hn.1 hn.1 (by omega) (by omega)
 refine ⟨⟨by rw [dTs_len]; omega, by rw [dTs_len]; unfold maxN; omega, by rw [dTs_len, dS_len], fun i hi => ?_, ?_, ?_⟩, ?_⟩
 · rw [dTs_len] at hi ⊢
   unfold dS; rw [row_rws _ hi, zfe]
 · exact numLL_rws _ _ fun i _ => numL_rws _ _ fun j _ => ⟨pw_nonneg _ _, pw_lt _ _⟩
 · exact numL_rws _ _ fun j _ => ⟨pw_nonneg _ _, pw_lt _ _⟩
 · rw [dTs_len]
   unfold whl
   rw [sm_ones _ fun j hj => by rw [dS_row0 hn.1 hj]; rfl]
   omega
def dC (n k : Int) : Nat → Nat → Nat → Int := nmE (dS n k) (n * n).toNat (cjL (dS n k) (dTs n k))
theorem noRef_tagg (x : AV) (v : Value) (h : noRef x = true) : noRef (.tup [.agg [x], .sc v]) = true := by simp only [noRef, noRefL, h, Bool.and_true]
theorem argsX_d1 {ro : Ro} {s g s2 g2 n1 n2 : Nat} {xss : List (List Int)} {us : List Int} (h1 : ro s g = some (rowLL xss)) (h2 : ro s2 g2 = some (rowL us)) (e1 : n1 = xss.length) (e2 : n2 = us.length) :
   argsX ro [.agg [.ref s g [] 0 n1, .ref s2 g2 [] 0 n2]] = [.agg [immLL xss, immL us]] := by
 subst e1 e2
 have hp : pureL [.agg [.ref s g [] 0 xss.length, .ref s2 g2 [] 0 us.length]] = false := rfl
 unfold argsX
 rw [hp, if_neg Bool.false_ne_true]
 show [AV.agg [ex ro 7 _, ex ro 7 _]] = _
 rw [ex_refLL h1 4, ex_refL h2 5]
theorem noI_agg1 (x : AV) (h : noI x = true) : noI (.agg [x]) = true := by simp only [noI, noIL, h, Bool.and_true]
set_option maxRecDepth 1000000 in
theorem c15 {n k : Int} (hn : 1 ≤ n ∧ n ≤ 4) (hk : 0 ≤ k ∧ k ≤ n - 1) (hP : CjP (dS n k) (dTs n k)) : CallOK Tryz.prog 16 [i64 n, i64 k] (.tup [.agg [cubeA (dC n k) (n * n).toNat], i64 0]) := by
 have c := c45 (isL_imm (dTs n k)) (isLL_imm (dS n k)) (dShp hn hk).1 hP
 rw [dTs_len] at c
 refine call_of (fn := Tryz.f16) (code := bodyOf Tryz.f16) Tryz.func16 rfl (by kernel_rfl) (noRef_tagg _ _ (noRef_cube _ _)) ?_
 intro sl hs
 have s0 : sl 0 = i64 n := hs 0
 have s1 : sl 1 = i64 k := hs 1
 simp (maxSteps := 10000000) (disch := first | omega | assumption) only [Tryz.f16, bodyOf, Option.getD, go_sem, ↓reduceIte, Nat.reduceEqDiff, reduceCtorEq, Nat.reduceAdd, Nat.reduceMul, Nat.reduceLeDiff, zfu, Int.mul_def, Int.add_def, zfv, cond_false, cond_true, isub, ti2, ti25, ti26, ti33, s0, s1, List.map_nil]
 refine CLL_pure _ (c10' hn hk) rfl rfl rfl ?_
 simp (maxSteps := 10000000) (disch := first | omega | assumption) only [go_sem, ↓reduceIte, Nat.reduceEqDiff, reduceCtorEq, Nat.reduceAdd, Nat.reduceMul, Nat.reduceLeDiff, zfu, Int.mul_def, Int.add_def, zfv, cond_false, cond_true, isub, ti2, ti25, ti26, ti33, s0, s1, impE_tupD]
 refine CLL_args _ c (argsX_d1 (by simp only [↓zcy, ↓zcz, ↓zda, ↓zdb, ↓reduceIte, Nat.reduceEqDiff, and_true, true_and, and_self, ne_eq, not_false_eq_true, eq_self, false_and, and_false, reduceCtorEq]) (by simp only [↓zcy, ↓zcz, ↓zda, ↓zdb, ↓reduceIte, Nat.reduceEqDiff, and_true, true_and, and_self, ne_eq, not_false_eq_true, eq_self, false_and, and_false, reduceCtorEq]) rfl rfl) rfl rfl (noI_agg1 _ (noI_cube _ _)) ?_
 simp (maxSteps := 10000000) (disch := first | omega | assumption) only [go_sem, ↓reduceIte, Nat.reduceEqDiff, reduceCtorEq, Nat.reduceAdd, Nat.reduceMul, Nat.reduceLeDiff, zfu, Int.mul_def, Int.add_def, zfv, cond_false, cond_true, isub, ti2, ti25, ti26, ti33, impE_agg1, zfe, List.map_nil]
 simp only [zbj, zbk, retR, resL, outT, zes, zez, oneV, ↓zcy, ↓zcz, ↓reduceIte, Nat.reduceEqDiff, Option.some.injEq, AV.sc.injEq, Value.bool.injEq, Value.int.injEq, outL, outT, zft, zcp, zed, zef, zei, zeh, List.length_cons, List.length_nil, Nat.reduceAdd, Nat.zero_add, Nat.reduceLeDiff, List.drop_zero, List.take_succ_cons, List.take_zero, zfi, zfh, Ro.dl, zdb, zda, zfe, and_self, and_true, true_and, eq_self, List.append_nil, List.nil_append, List.cons_append, ne_eq, not_false_eq_true, and_false, false_and, Bool.false_eq_true, St.ev, zes, zfn, zhk, ti33, dC]
set_option maxRecDepth 1000000 in
theorem c16 {n k : Int} (hn : 1 ≤ n ∧ n ≤ 4) (hk : 0 ≤ k ∧ k ≤ n - 1) (hP : CjP (dS n k) (dTs n k)) : CallOK Tryz.prog 15 [i64 n, i64 k] (.tup [.agg [cubeA (dC n k) (n * n).toNat], i64 0]) := by
 have c := c46 (isL_imm (dTs n k)) (isLL_imm (dS n k)) (dShp hn hk).1 (dShp hn hk).2 hP
 rw [dTs_len] at c
 refine call_of (fn := Tryz.f15) (code := bodyOf Tryz.f15) Tryz.func15 rfl (by kernel_rfl) (noRef_tagg _ _ (noRef_cube _ _)) ?_
 intro sl hs
 have s0 : sl 0 = i64 n := hs 0
 have s1 : sl 1 = i64 k := hs 1
 simp (maxSteps := 10000000) (disch := first | omega | assumption) only [Tryz.f15, bodyOf, Option.getD, go_sem, ↓reduceIte, Nat.reduceEqDiff, reduceCtorEq, Nat.reduceAdd, Nat.reduceMul, Nat.reduceLeDiff, zfu, Int.mul_def, Int.add_def, zfv, cond_false, cond_true, isub, ti2, ti25, ti26, ti33, s0, s1, List.map_nil]
 refine CLL_pure _ (c11' hn hk) rfl rfl rfl ?_
 simp (maxSteps := 10000000) (disch := first | omega | assumption) only [go_sem, ↓reduceIte, Nat.reduceEqDiff, reduceCtorEq, Nat.reduceAdd, Nat.reduceMul, Nat.reduceLeDiff, zfu, Int.mul_def, Int.add_def, zfv, cond_false, cond_true, isub, ti2, ti25, ti26, ti33, s0, s1, impE_tupD]
 refine CLL_args _ c (argsX_d1 (by simp only [↓zcy, ↓zcz, ↓zda, ↓zdb, ↓reduceIte, Nat.reduceEqDiff, and_true, true_and, and_self, ne_eq, not_false_eq_true, eq_self, false_and, and_false, reduceCtorEq]) (by simp only [↓zcy, ↓zcz, ↓zda, ↓zdb, ↓reduceIte, Nat.reduceEqDiff, and_true, true_and, and_self, ne_eq, not_false_eq_true, eq_self, false_and, and_false, reduceCtorEq]) rfl rfl) rfl rfl (noI_agg1 _ (noI_cube _ _)) ?_
 simp (maxSteps := 10000000) (disch := first | omega | assumption) only [go_sem, ↓reduceIte, Nat.reduceEqDiff, reduceCtorEq, Nat.reduceAdd, Nat.reduceMul, Nat.reduceLeDiff, zfu, Int.mul_def, Int.add_def, zfv, cond_false, cond_true, isub, ti2, ti25, ti26, ti33, impE_agg1, zfe, List.map_nil]
 simp only [zbj, zbk, retR, resL, outT, zes, zez, oneV, ↓zcy, ↓zcz, ↓reduceIte, Nat.reduceEqDiff, Option.some.injEq, AV.sc.injEq, Value.bool.injEq, Value.int.injEq, outL, outT, zft, zcp, zed, zef, zei, zeh, List.length_cons, List.length_nil, Nat.reduceAdd, Nat.zero_add, Nat.reduceLeDiff, List.drop_zero, List.take_succ_cons, List.take_zero, zfi, zfh, Ro.dl, zdb, zda, zfe, and_self, and_true, true_and, eq_self, List.append_nil, List.nil_append, List.cons_append, ne_eq, not_false_eq_true, and_false, false_and, Bool.false_eq_true, St.ev, zes, zfn, zhk, ti33, dC]
set_option maxRecDepth 1000000 in
theorem c15_no {n k : Int} (h : CallOK Tryz.prog 13 [i64 n, i64 k] (.tup [.agg [nilA, nilA], i64 2])) : CallOK Tryz.prog 16 [i64 n, i64 k] (.tup [.agg [nilA], i64 2]) := by
 refine call_of (fn := Tryz.f16) (code := bodyOf Tryz.f16) Tryz.func16 rfl (by kernel_rfl) rfl ?_
 intro sl hs
 have s0 : sl 0 = i64 n := hs 0
 have s1 : sl 1 = i64 k := hs 1
 simp (maxSteps := 10000000) (disch := first | omega | assumption) only [Tryz.f16, bodyOf, Option.getD, go_sem, ↓reduceIte, Nat.reduceEqDiff, reduceCtorEq, Nat.reduceAdd, Nat.reduceMul, Nat.reduceLeDiff, zfu, Int.mul_def, Int.add_def, zfv, cond_false, cond_true, isub, ti2, ti25, ti26, ti33, s0, s1, List.map_nil]
 refine CLL_pure _ h rfl rfl rfl ?_
 have h2 : ¬ ((2 : Int) = 0) := by decide
 simp (maxSteps := 10000000) (disch := first | omega | assumption) only [go_sem, ↓reduceIte, Nat.reduceEqDiff, reduceCtorEq, Nat.reduceAdd, Nat.reduceMul, Nat.reduceLeDiff, zfu, Int.mul_def, Int.add_def, zfv, cond_false, cond_true, isub, ti2, ti25, ti26, ti33, s0, s1, impE_tupN, List.map_nil, h2]
 simp only [zbj, zbk, retR, resL, outT, zes, zez, oneV, ↓zcy, ↓zcz, ↓reduceIte, Nat.reduceEqDiff, Option.some.injEq, AV.sc.injEq, Value.bool.injEq, Value.int.injEq, outL, outT, zft, zcp, zed, zef, zei, zeh, List.length_cons, List.length_nil, Nat.reduceAdd, Nat.zero_add, Nat.reduceLeDiff, List.drop_zero, List.take_succ_cons, List.take_zero, zfi, zfh, Ro.dl, zdb, zda, zfe, and_self, and_true, true_and, eq_self, List.append_nil, List.nil_append, List.cons_append, ne_eq, not_false_eq_true, and_false, false_and, Bool.false_eq_true, St.ev, zes, zfn, zhk, ti33]
set_option maxRecDepth 1000000 in
theorem c16_no {n k : Int} (h : CallOK Tryz.prog 12 [i64 n, i64 k] (.tup [.agg [nilA, nilA], i64 2])) : CallOK Tryz.prog 15 [i64 n, i64 k] (.tup [.agg [nilA], i64 2]) := by
 refine call_of (fn := Tryz.f15) (code := bodyOf Tryz.f15) Tryz.func15 rfl (by kernel_rfl) rfl ?_
 intro sl hs
 have s0 : sl 0 = i64 n := hs 0
 have s1 : sl 1 = i64 k := hs 1
 simp (maxSteps := 10000000) (disch := first | omega | assumption) only [Tryz.f15, bodyOf, Option.getD, go_sem, ↓reduceIte, Nat.reduceEqDiff, reduceCtorEq, Nat.reduceAdd, Nat.reduceMul, Nat.reduceLeDiff, zfu, Int.mul_def, Int.add_def, zfv, cond_false, cond_true, isub, ti2, ti25, ti26, ti33, s0, s1, List.map_nil]
 refine CLL_pure _ h rfl rfl rfl ?_
 have h2 : ¬ ((2 : Int) = 0) := by decide
 simp (maxSteps := 10000000) (disch := first | omega | assumption) only [go_sem, ↓reduceIte, Nat.reduceEqDiff, reduceCtorEq, Nat.reduceAdd, Nat.reduceMul, Nat.reduceLeDiff, zfu, Int.mul_def, Int.add_def, zfv, cond_false, cond_true, isub, ti2, ti25, ti26, ti33, s0, s1, impE_tupN, List.map_nil, h2]
 simp only [zbj, zbk, retR, resL, outT, zes, zez, oneV, ↓zcy, ↓zcz, ↓reduceIte, Nat.reduceEqDiff, Option.some.injEq, AV.sc.injEq, Value.bool.injEq, Value.int.injEq, outL, outT, zft, zcp, zed, zef, zei, zeh, List.length_cons, List.length_nil, Nat.reduceAdd, Nat.zero_add, Nat.reduceLeDiff, List.drop_zero, List.take_succ_cons, List.take_zero, zfi, zfh, Ro.dl, zdb, zda, zfe, and_self, and_true, true_and, eq_self, List.append_nil, List.nil_append, List.cons_append, ne_eq, not_false_eq_true, and_false, false_and, Bool.false_eq_true, St.ev, zes, zfn, zhk, ti33]
end Go.Proofs.YtgcnmlecihegcaaGreat
