/- Texts joined: K4 K5 K6 K7. -/
import Derived.Test.YtgcnmlecihegcaaGreatMd
import Derived.Test.YtgcnmlecihegcaaGreatMe
set_option linter.all false
/- The field's small functions. -/
namespace Go.Proofs.YtgcnmlecihegcaaGreat
open Go.RowKit
theorem c77 {a k : Int} (h1 : 0 ≤ a) (h2 : a < 55441) (h5 : 0 ≤ k) (h7 : k < 2^63) : CallOK Tryz.prog 88 [i64 a, i64 k] (i64 (a ^ k.toNat % 55441)) := of_body (f77_run h1 h2 h5 h7)
theorem c74 {a k : Int} (h1 : 0 ≤ a) (h2 : a < 55441) (h5 : 0 ≤ k) (h7 : k < 2^63) : CallOK Tryz.prog 91 [i64 a, i64 k] (i64 (a ^ k.toNat % 55441)) := of_body (f74_run h1 h2 h5 h7)
set_option maxRecDepth 1000000 in
theorem c40 {a b c : Int} : CallOK Tryz.prog 42 [i64 a, i64 b, i64 c] (bo (decide (b ≤ a ∧ a ≤ c))) := by
 refine call_of (fn := Tryz.f42) (code := bodyOf Tryz.f42) Tryz.func42 rfl (by kernel_rfl) rfl ?_
 intro sl hs
 have s0 : sl 0 = i64 a := hs 0
 have s1 : sl 1 = i64 b := hs 1
 have s2 : sl 2 = i64 c := hs 2
 rcases Int.lt_or_le a b with h | h
 · have h' : ¬ (b ≤ a) := by omega
   simp (maxSteps := 10000000) (disch := first | omega | assumption) only [Tryz.f42, bodyOf, Option.getD, go_sem, ↓reduceIte, Nat.reduceEqDiff, reduceCtorEq, Nat.reduceAdd, Nat.reduceMul, Nat.reduceLeDiff, ti2, s0, s1, s2, h, h']
   simp only [zbj, zbk, retR, resL, outT, zes, zez, oneV, ↓zcy, ↓zcz, ↓reduceIte, Nat.reduceEqDiff, Option.some.injEq, AV.sc.injEq, Value.bool.injEq, Value.int.injEq, outL, outT, zft, zcp, zed, zef, zei, zeh, List.length_cons, List.length_nil, Nat.reduceAdd, Nat.zero_add, Nat.reduceLeDiff, List.drop_zero, List.take_succ_cons, List.take_zero, zfi, zfh, Ro.dl, zdb, zda, zfe, and_self, and_true, true_and, eq_self, List.append_nil, List.nil_append, List.cons_append, ne_eq, not_false_eq_true, and_false, false_and, Bool.false_eq_true, St.ev, zes, zfn, zhk]
 · have h' : ¬ (a < b) := by omega
   simp (maxSteps := 10000000) (disch := first | omega | assumption) only [Tryz.f42, bodyOf, Option.getD, go_sem, ↓reduceIte, Nat.reduceEqDiff, reduceCtorEq, Nat.reduceAdd, Nat.reduceMul, Nat.reduceLeDiff, ti2, s0, s1, s2, h, h']
   simp only [zbj, zbk, retR, resL, outT, zes, zez, oneV, ↓zcy, ↓zcz, ↓reduceIte, Nat.reduceEqDiff, Option.some.injEq, AV.sc.injEq, Value.bool.injEq, Value.int.injEq, outL, outT, zft, zcp, zed, zef, zei, zeh, List.length_cons, List.length_nil, Nat.reduceAdd, Nat.zero_add, Nat.reduceLeDiff, List.drop_zero, List.take_succ_cons, List.take_zero, zfi, zfh, Ro.dl, zdb, zda, zfe, and_self, and_true, true_and, eq_self, List.append_nil, List.nil_append, List.cons_append, ne_eq, not_false_eq_true, and_false, false_and, Bool.false_eq_true, St.ev, zes, zfn, zhk, ← decide_not, Int.not_lt]
set_option maxRecDepth 1000000 in
theorem c38 {a b c : Int} : CallOK Tryz.prog 44 [i64 a, i64 b, i64 c] (bo (decide (b ≤ a ∧ a ≤ c))) := by
 refine call_of (fn := Tryz.f44) (code := bodyOf Tryz.f44) Tryz.func44 rfl (by kernel_rfl) rfl ?_
 intro sl hs
 have s0 : sl 0 = i64 a := hs 0
 have s1 : sl 1 = i64 b := hs 1
 have s2 : sl 2 = i64 c := hs 2
 rcases Int.lt_or_le a b with h | h
 · have h' : ¬ (b ≤ a) := by omega
   simp (maxSteps := 10000000) (disch := first | omega | assumption) only [Tryz.f44, bodyOf, Option.getD, go_sem, ↓reduceIte, Nat.reduceEqDiff, reduceCtorEq, Nat.reduceAdd, Nat.reduceMul, Nat.reduceLeDiff, ti2, s0, s1, s2, h, h']
   simp only [zbj, zbk, retR, resL, outT, zes, zez, oneV, ↓zcy, ↓zcz, ↓reduceIte, Nat.reduceEqDiff, Option.some.injEq, AV.sc.injEq, Value.bool.injEq, Value.int.injEq, outL, outT, zft, zcp, zed, zef, zei, zeh, List.length_cons, List.length_nil, Nat.reduceAdd, Nat.zero_add, Nat.reduceLeDiff, List.drop_zero, List.take_succ_cons, List.take_zero, zfi, zfh, Ro.dl, zdb, zda, zfe, and_self, and_true, true_and, eq_self, List.append_nil, List.nil_append, List.cons_append, ne_eq, not_false_eq_true, and_false, false_and, Bool.false_eq_true, St.ev, zes, zfn, zhk]
 · have h' : ¬ (a < b) := by omega
   simp (maxSteps := 10000000) (disch := first | omega | assumption) only [Tryz.f44, bodyOf, Option.getD, go_sem, ↓reduceIte, Nat.reduceEqDiff, reduceCtorEq, Nat.reduceAdd, Nat.reduceMul, Nat.reduceLeDiff, ti2, s0, s1, s2, h, h']
   simp only [zbj, zbk, retR, resL, outT, zes, zez, oneV, ↓zcy, ↓zcz, ↓reduceIte, Nat.reduceEqDiff, Option.some.injEq, AV.sc.injEq, Value.bool.injEq, Value.int.injEq, outL, outT, zft, zcp, zed, zef, zei, zeh, List.length_cons, List.length_nil, Nat.reduceAdd, Nat.zero_add, Nat.reduceLeDiff, List.drop_zero, List.take_succ_cons, List.take_zero, zfi, zfh, Ro.dl, zdb, zda, zfe, and_self, and_true, true_and, eq_self, List.append_nil, List.nil_append, List.cons_append, ne_eq, not_false_eq_true, and_false, false_and, Bool.false_eq_true, St.ev, zes, zfn, zhk, ← decide_not, Int.not_lt]
def pw (a : Int) (k : Int) : Int := a ^ k.toNat % 55441
theorem pw_nonneg (a k : Int) : 0 ≤ pw a k := Int.emod_nonneg _ (by decide)
theorem pw_lt (a k : Int) : pw a k < 55441 := Int.emod_lt_of_pos _ (by decide)
set_option maxRecDepth 1000000 in
theorem c59 {a : Int} (h1 : 0 ≤ a) (h2 : a < 55441) : CallOK Tryz.prog 90 [i64 a] (i64 (pw a 55439)) := by
 refine call_of (fn := Tryz.f90) (code := bodyOf Tryz.f90) Tryz.func90 rfl (by kernel_rfl) rfl ?_
 intro sl hs
 have s0 : sl 0 = i64 a := hs 0
 simp (maxSteps := 10000000) (disch := first | omega | assumption) only [Tryz.f90, bodyOf, Option.getD, go_sem, ↓reduceIte, Nat.reduceEqDiff, reduceCtorEq, Nat.reduceAdd, Nat.reduceMul, Nat.reduceLeDiff, ti2, s0]
 refine CLL_pure _ (c74 h1 h2 (by decide) (by decide)) rfl rfl rfl ?_
 simp (maxSteps := 10000000) (disch := first | omega | assumption) only [go_sem, ↓reduceIte, Nat.reduceEqDiff, reduceCtorEq, Nat.reduceAdd, Nat.reduceMul, Nat.reduceLeDiff, ti2, s0]
 simp only [zbj, zbk, retR, resL, outT, zes, zez, oneV, ↓zcy, ↓zcz, ↓reduceIte, Nat.reduceEqDiff, Option.some.injEq, AV.sc.injEq, Value.bool.injEq, Value.int.injEq, outL, outT, zft, zcp, zed, zef, zei, zeh, List.length_cons, List.length_nil, Nat.reduceAdd, Nat.zero_add, Nat.reduceLeDiff, List.drop_zero, List.take_succ_cons, List.take_zero, zfi, zfh, Ro.dl, zdb, zda, zfe, and_self, and_true, true_and, eq_self, List.append_nil, List.nil_append, List.cons_append, ne_eq, not_false_eq_true, and_false, false_and, Bool.false_eq_true, St.ev, zes, zfn, zhk, pw]
def qt (a b : Int) : Int := a * pw b 55439 % 55441
set_option maxRecDepth 1000000 in
theorem c65 {a b : Int} (h1 : 0 ≤ a) (h2 : a < 55441) (h3 : 0 ≤ b) (h4 : b < 55441) : CallOK Tryz.prog 96 [i64 a, i64 b] (i64 (qt a b)) := by
 refine call_of (fn := Tryz.f96) (code := bodyOf Tryz.f96) Tryz.func96 rfl (by kernel_rfl) rfl ?_
 intro sl hs
 have s0 : sl 0 = i64 a := hs 0
 have s1 : sl 1 = i64 b := hs 1
 simp (maxSteps := 10000000) (disch := first | omega | assumption) only [Tryz.f96, bodyOf, Option.getD, go_sem, ↓reduceIte, Nat.reduceEqDiff, reduceCtorEq, Nat.reduceAdd, Nat.reduceMul, Nat.reduceLeDiff, ti2, s0, s1]
 refine CLL_pure _ (c77 h3 h4 (by decide) (by decide)) rfl rfl rfl ?_
 have hb := bnd h1 h2 (pw_nonneg b 55439) (pw_lt b 55439)
 simp only [pw] at hb
 simp (maxSteps := 10000000) (disch := first | omega | assumption) only [go_sem, ↓reduceIte, Nat.reduceEqDiff, reduceCtorEq, Nat.reduceAdd, Nat.reduceMul, Nat.reduceLeDiff, zfu, Int.mul_def, Int.add_def, zfv, cond_false, cond_true, isub, ti2, s0, s1, Int.tmod_eq_emod_of_nonneg]
 simp only [zbj, zbk, retR, resL, outT, zes, zez, oneV, ↓zcy, ↓zcz, ↓reduceIte, Nat.reduceEqDiff, Option.some.injEq, AV.sc.injEq, Value.bool.injEq, Value.int.injEq, outL, outT, zft, zcp, zed, zef, zei, zeh, List.length_cons, List.length_nil, Nat.reduceAdd, Nat.zero_add, Nat.reduceLeDiff, List.drop_zero, List.take_succ_cons, List.take_zero, zfi, zfh, Ro.dl, zdb, zda, zfe, and_self, and_true, true_and, eq_self, List.append_nil, List.nil_append, List.cons_append, ne_eq, not_false_eq_true, and_false, false_and, Bool.false_eq_true, St.ev, zes, zfn, zhk, qt, pw]
set_option maxRecDepth 1000000 in
theorem c75 {n : Int} (h1 : 1 ≤ n) (h2 : n ≤ 55440) : CallOK Tryz.prog 86 [i64 n] (i64 (pw 38 (55440 / n))) := by
 refine call_of (fn := Tryz.f86) (code := bodyOf Tryz.f86) Tryz.func86 rfl (by kernel_rfl) rfl ?_
 intro sl hs
 have s0 : sl 0 = i64 n := hs 0
 have hd : 0 ≤ 55440 / n := Int.ediv_nonneg (by decide) (by omega)
 have hd2 : 55440 / n ≤ 55440 := Int.ediv_le_self _ (by decide)
 simp (maxSteps := 10000000) (disch := first | omega | assumption) only [Tryz.f86, bodyOf, Option.getD, go_sem, ↓reduceIte, Nat.reduceEqDiff, reduceCtorEq, Nat.reduceAdd, Nat.reduceMul, Nat.reduceLeDiff, zfu, Int.mul_def, Int.add_def, zfv, cond_false, cond_true, isub, ti2, s0, Int.tdiv_eq_ediv_of_nonneg]
 refine CLL_pure _ (c77 (by decide) (by decide) hd (by omega)) rfl rfl rfl ?_
 simp (maxSteps := 10000000) (disch := first | omega | assumption) only [go_sem, ↓reduceIte, Nat.reduceEqDiff, reduceCtorEq, Nat.reduceAdd, Nat.reduceMul, Nat.reduceLeDiff, ti2, s0]
 simp only [zbj, zbk, retR, resL, outT, zes, zez, oneV, ↓zcy, ↓zcz, ↓reduceIte, Nat.reduceEqDiff, Option.some.injEq, AV.sc.injEq, Value.bool.injEq, Value.int.injEq, outL, outT, zft, zcp, zed, zef, zei, zeh, List.length_cons, List.length_nil, Nat.reduceAdd, Nat.zero_add, Nat.reduceLeDiff, List.drop_zero, List.take_succ_cons, List.take_zero, zfi, zfh, Ro.dl, zdb, zda, zfe, and_self, and_true, true_and, eq_self, List.append_nil, List.nil_append, List.cons_append, ne_eq, not_false_eq_true, and_false, false_and, Bool.false_eq_true, St.ev, zes, zfn, zhk, pw]
set_option maxRecDepth 1000000 in
theorem c73 {n : Int} (h1 : 1 ≤ n) (h2 : n ≤ 55440) : CallOK Tryz.prog 89 [i64 n] (i64 (pw 38 (55440 / n))) := by
 refine call_of (fn := Tryz.f89) (code := bodyOf Tryz.f89) Tryz.func89 rfl (by kernel_rfl) rfl ?_
 intro sl hs
 have s0 : sl 0 = i64 n := hs 0
 have hd : 0 ≤ 55440 / n := Int.ediv_nonneg (by decide) (by omega)
 have hd2 : 55440 / n ≤ 55440 := Int.ediv_le_self _ (by decide)
 simp (maxSteps := 10000000) (disch := first | omega | assumption) only [Tryz.f89, bodyOf, Option.getD, go_sem, ↓reduceIte, Nat.reduceEqDiff, reduceCtorEq, Nat.reduceAdd, Nat.reduceMul, Nat.reduceLeDiff, zfu, Int.mul_def, Int.add_def, zfv, cond_false, cond_true, isub, ti2, s0, Int.tdiv_eq_ediv_of_nonneg]
 refine CLLD_pure _ c100 rfl rfl ?_
 simp (maxSteps := 10000000) (disch := first | omega | assumption) only [go_sem, ↓reduceIte, Nat.reduceEqDiff, reduceCtorEq, Nat.reduceAdd, Nat.reduceMul, Nat.reduceLeDiff, zfu, Int.mul_def, Int.add_def, zfv, cond_false, cond_true, isub, ti2, s0, Int.tdiv_eq_ediv_of_nonneg]
 refine CLLD_pure _ (c74 (by decide) (by decide) hd (by omega)) rfl rfl ?_
 simp (maxSteps := 10000000) (disch := first | omega | assumption) only [go_sem, ↓reduceIte, Nat.reduceEqDiff, reduceCtorEq, Nat.reduceAdd, Nat.reduceMul, Nat.reduceLeDiff, zfu, Int.mul_def, Int.add_def, zfv, cond_false, cond_true, isub, ti2, s0]
 refine FIN_of (by kernel_rfl) ?_
 simp (maxSteps := 10000000) (disch := first | omega | assumption) only [go_sem, ↓reduceIte, Nat.reduceEqDiff, reduceCtorEq, Nat.reduceAdd, Nat.reduceMul, Nat.reduceLeDiff, zfu, Int.mul_def, Int.add_def, zfv, cond_false, cond_true, isub, ti2, s0]
 simp only [zbj, zbk, retR, resL, outT, zes, zez, oneV, ↓zcy, ↓zcz, ↓reduceIte, Nat.reduceEqDiff, Option.some.injEq, AV.sc.injEq, Value.bool.injEq, Value.int.injEq, outL, outT, zft, zcp, zed, zef, zei, zeh, List.length_cons, List.length_nil, Nat.reduceAdd, Nat.zero_add, Nat.reduceLeDiff, List.drop_zero, List.take_succ_cons, List.take_zero, zfi, zfh, Ro.dl, zdb, zda, zfe, and_self, and_true, true_and, eq_self, List.append_nil, List.nil_append, List.cons_append, ne_eq, not_false_eq_true, and_false, false_and, Bool.false_eq_true, St.ev, zes, zfn, zhk, pw]
def pwz (a k : Int) : Int := if k < 0 then qt 1 (pw a (-k)) else pw a k
set_option maxRecDepth 1000000 in
theorem c76 {a k : Int} (h1 : 0 ≤ a) (h2 : a < 55441) (h3 : -2^62 ≤ k) (h4 : k < 2^62) : CallOK Tryz.prog 87 [i64 a, i64 k] (i64 (pwz a k)) := by
 refine call_of (fn := Tryz.f87) (code := bodyOf Tryz.f87) Tryz.func87 rfl (by kernel_rfl) rfl ?_
 intro sl hs
 have s0 : sl 0 = i64 a := hs 0
 have s1 : sl 1 = i64 k := hs 1
 simp (maxSteps := 10000000) (disch := first | omega | assumption) only [Tryz.f87, bodyOf, Option.getD, go_sem, ↓reduceIte, Nat.reduceEqDiff, reduceCtorEq, Nat.reduceAdd, Nat.reduceMul, Nat.reduceLeDiff, zfu, Int.mul_def, Int.add_def, zfv, cond_false, cond_true, isub, ti2, s0, s1, Int.zero_sub]
 refine ⟨fun h => ?_, fun h => ?_⟩
 · refine CLL_pure _ (c77 h1 h2 (k := -k) (by omega) (by omega)) rfl rfl rfl ?_
   simp (maxSteps := 10000000) (disch := first | omega | assumption) only [go_sem, ↓reduceIte, Nat.reduceEqDiff, reduceCtorEq, Nat.reduceAdd, Nat.reduceMul, Nat.reduceLeDiff, zfu, Int.mul_def, Int.add_def, zfv, cond_false, cond_true, isub, ti2, s0, s1]
   refine CLL_pure _ (c65 (by decide) (by decide) (pw_nonneg a (-k)) (pw_lt a (-k))) rfl rfl rfl ?_
   simp (maxSteps := 10000000) (disch := first | omega | assumption) only [go_sem, ↓reduceIte, Nat.reduceEqDiff, reduceCtorEq, Nat.reduceAdd, Nat.reduceMul, Nat.reduceLeDiff, zfu, Int.mul_def, Int.add_def, zfv, cond_false, cond_true, isub, ti2, s0, s1]
   simp only [zbj, zbk, retR, resL, outT, zes, zez, oneV, ↓zcy, ↓zcz, ↓reduceIte, Nat.reduceEqDiff, Option.some.injEq, AV.sc.injEq, Value.bool.injEq, Value.int.injEq, outL, outT, zft, zcp, zed, zef, zei, zeh, List.length_cons, List.length_nil, Nat.reduceAdd, Nat.zero_add, Nat.reduceLeDiff, List.drop_zero, List.take_succ_cons, List.take_zero, zfi, zfh, Ro.dl, zdb, zda, zfe, and_self, and_true, true_and, eq_self, List.append_nil, List.nil_append, List.cons_append, ne_eq, not_false_eq_true, and_false, false_and, Bool.false_eq_true, St.ev, zes, zfn, zhk, pwz, if_pos h, and_self, true_and]
   rfl
 · refine CLL_pure _ (c77 h1 h2 (by omega) (by omega)) rfl rfl rfl ?_
   simp (maxSteps := 10000000) (disch := first | omega | assumption) only [go_sem, ↓reduceIte, Nat.reduceEqDiff, reduceCtorEq, Nat.reduceAdd, Nat.reduceMul, Nat.reduceLeDiff, zfu, Int.mul_def, Int.add_def, zfv, cond_false, cond_true, isub, ti2, s0, s1]
   simp only [zbj, zbk, retR, resL, outT, zes, zez, oneV, ↓zcy, ↓zcz, ↓reduceIte, Nat.reduceEqDiff, Option.some.injEq, AV.sc.injEq, Value.bool.injEq, Value.int.injEq, outL, outT, zft, zcp, zed, zef, zei, zeh, List.length_cons, List.length_nil, Nat.reduceAdd, Nat.zero_add, Nat.reduceLeDiff, List.drop_zero, List.take_succ_cons, List.take_zero, zfi, zfh, Ro.dl, zdb, zda, zfe, and_self, and_true, true_and, eq_self, List.append_nil, List.nil_append, List.cons_append, ne_eq, not_false_eq_true, and_false, false_and, Bool.false_eq_true, St.ev, zes, zfn, zhk, pwz, if_neg h, pw]
end Go.Proofs.YtgcnmlecihegcaaGreat
/- The doubles of cyclic groups. -/
namespace Go.Proofs.YtgcnmlecihegcaaGreat
open Go.RowKit
theorem mulB {x y X Y : Int} (h1 : 0 ≤ x) (h2 : x ≤ X) (h3 : 0 ≤ y) (h4 : y ≤ Y) : 0 ≤ x * y ∧ x * y ≤ X * Y :=
 ⟨Int.mul_nonneg h1 h3, Int.mul_le_mul h2 h4 h3 (by omega)⟩
theorem dvB {n x : Int} (h1 : 1 ≤ n) (h2 : n ≤ 4) (h3 : 0 ≤ x) (h4 : x < n * n) : 0 ≤ x / n ∧ x / n ≤ 3 ∧ 0 ≤ x % n ∧ x % n ≤ 3 := by
 have h5 : x / n < n := Int.ediv_lt_of_lt_mul (by omega) h4
 have h6 : 0 ≤ x / n := Int.ediv_nonneg h3 (by omega)
 have h7 := Int.emod_nonneg x (b := n) (by omega)
 have h8 := Int.emod_lt_of_pos x (b := n) (by omega)
 omega
theorem noRefL_map {α : Type} (f : α → AV) (h : ∀ i, noRef (f i) = true) : ∀ l : List α, noRefL (l.map f) = true
 | [] => rfl
 | a :: l => by simp only [List.map_cons, noRefL, h, noRefL_map f h l, Bool.and_self]
theorem noRefL_rws (f : Nat → AV) (n : Nat) (h : ∀ i, noRef (f i) = true) : noRefL (rws f n) = true := noRefL_map f h _
theorem noRef_row (cs : List AV) (h : noRefL cs = true) : noRef (.row cs) = true := by simpa only [noRef] using h
theorem noRef_dbl (f : Nat → Nat → Int) (g : Nat → Int) (m m' : Nat) : noRef (.agg [.row (rws (fun i => .row (rws (fun j => i64 (f i j)) m)) m'), .row (rws (fun i => i64 (g i)) m')]) = true := by
 have h1 : noRefL (rws (fun i => AV.row (rws (fun j => i64 (f i j)) m)) m') = true := noRefL_rws _ _ fun i => noRef_row _ (noRefL_rws _ _ fun j => rfl)
 have h2 : noRefL (rws (fun i => i64 (g i)) m') = true := noRefL_rws _ _ fun i => rfl
 simp only [noRef, noRefL, h1, h2, Bool.and_self]
def dE (n k : Int) (i j : Nat) : Int := n * ((i : Int) / n * ((j : Int) % n) + (j : Int) / n * ((i : Int) % n)) + 2 * k * ((i : Int) / n) * ((j : Int) / n)
def dT (n k : Int) (i : Nat) : Int := n * ((i : Int) / n) * ((i : Int) % n) + k * ((i : Int) / n) * ((i : Int) / n)
def dz (n : Int) : Int := pw 38 (55440 / (n * n))
set_option maxRecDepth 1000000 in
set_option maxHeartbeats 10000000 in
theorem c41 {n k : Int} (h1 : 1 ≤ n) (h2 : n ≤ 4) (h3 : 0 ≤ k) (h4 : k < n) : CallOK Tryz.prog 43 [i64 n, i64 k]
   (.agg [.row (rws (fun i => .row (rws (fun j => i64 (pwz (dz n) (-(dE n k i j)))) (n * n).toNat)) (n * n).toNat), .row (rws (fun i => i64 (pw (dz n) (dT n k i))) (n * n).toNat)]) := by
 refine call_of (fn := Tryz.f43) (code := bodyOf Tryz.f43) Tryz.func43 rfl (by kernel_rfl) (noRef_dbl _ _ _ _) ?_
 intro sl hs
 have s0 : sl 0 = i64 n := hs 0
 have s1 : sl 1 = i64 k := hs 1
 have hnn := mulB (x := n) (y := n) (X := 4) (Y := 4) (by omega) h2 (by omega) h2
 have hn1 : 1 ≤ n * n := Int.mul_le_mul (a := 1) (b := 1) h1 h1 (by omega) (by omega)
 simp (maxSteps := 10000000) (disch := first | omega | assumption) only [Tryz.f43, bodyOf, Option.getD, go_sem, ↓reduceIte, Nat.reduceEqDiff, reduceCtorEq, Nat.reduceAdd, Nat.reduceMul, Nat.reduceLeDiff, zfu, Int.mul_def, Int.add_def, zfv, cond_false, cond_true, isub, ti2, ti22, ti23, ti25, s0, s1]
 refine CLL_pure _ (c75 hn1 (by omega)) rfl rfl rfl ?_
 simp (maxSteps := 10000000) (disch := first | omega | assumption) only [go_sem, ↓reduceIte, Nat.reduceEqDiff, reduceCtorEq, Nat.reduceAdd, Nat.reduceMul, Nat.reduceLeDiff, zfu, Int.mul_def, Int.add_def, zfv, cond_false, cond_true, isub, ti2, ti22, ti23, ti25, s0, s1, List.map_nil]
 have hm : ((n * n).toNat : Int) = n * n := Int.toNat_of_nonneg hnn.1
 refine WK_for (fun i st => st.sl 0 = i64 n ∧ st.sl 1 = i64 k ∧ st.sl 4 = .ptr 4096 1 [] 0 ∧ st.sl 5 = i64 (dz n) ∧ st.sl 6 = .ptr 8272 1 [] 0 ∧ st.sl 21 = i64 (n * n) ∧ st.sl 22 = i64 (i : Int) ∧
   st.ro 4096 1 = some (.bx [nilA, nilA]) ∧ 
   ((i = 0 ∧ st.ro 8272 1 = some (.bx [nilA, nilA])) ∨ (0 < i ∧ st.ro 8272 1 = some (.bx [.ref 57408 (st.gn 57408) [] 0 i, .ref 57680 (st.gn 57680) [] 0 i]) ∧
     st.ro 57408 (st.gn 57408) = some (.row (rws (fun i => .row (rws (fun j => i64 (pwz (dz n) (-(dE n k i j)))) (n * n).toNat)) i)) ∧
     st.ro 57680 (st.gn 57680) = some (.row (rws (fun i => i64 (pw (dz n) (dT n k i))) i))))) (n * n).toNat ?_ ?_ ?_
 · simp only [↓zcy, ↓zcz, ↓zda, ↓zdb, ↓reduceIte, Nat.reduceEqDiff, and_true, true_and, and_self, ne_eq, not_false_eq_true, eq_self, false_and, and_false, reduceCtorEq, s0, s1, dz, pw]
   exact ⟨rfl, .inl trivial⟩
 · rintro i sl ro gn hi ⟨s0, s1, s4, s5, s6, s21, s22, r1, r2⟩
   dsimp only at s0 s1 s4 s5 s6 s21 s22 r1 r2
   have hi' : (i : Int) < n * n := by omega
   have ha := dvB h1 h2 (Int.natCast_nonneg i) hi'
   simp (maxSteps := 10000000) (disch := first | omega | assumption) only [go_sem, ↓reduceIte, Nat.reduceEqDiff, reduceCtorEq, Nat.reduceAdd, Nat.reduceMul, Nat.reduceLeDiff, zfu, Int.mul_def, Int.add_def, zfv, cond_false, cond_true, isub, ti2, ti22, ti23, ti25, s0, s1, s21, s22, hi', Int.tdiv_eq_ediv_of_nonneg, Int.tmod_eq_emod_of_nonneg]
   refine FIN_of (by kernel_rfl) ?_
   simp (maxSteps := 10000000) (disch := first | omega | assumption) only [go_sem, ↓reduceIte, Nat.reduceEqDiff, reduceCtorEq, Nat.reduceAdd, Nat.reduceMul, Nat.reduceLeDiff, zfu, Int.mul_def, Int.add_def, zfv, cond_false, cond_true, isub, ti2, ti22, ti23, ti25, s0, s1, s21, s22]
   refine WK_for (fun j st => st.sl 0 = i64 n ∧ st.sl 1 = i64 k ∧ st.sl 4 = .ptr 4096 1 [] 0 ∧ st.sl 5 = i64 (dz n) ∧ st.sl 6 = .ptr 8272 1 [] 0 ∧ st.sl 8 = i64 ((i : Int) / n) ∧ st.sl 9 = i64 ((i : Int) % n) ∧ st.sl 21 = i64 (n * n) ∧ st.sl 22 = i64 (i : Int) ∧
     st.sl 34 = i64 (n * n) ∧ st.sl 35 = i64 (j : Int) ∧ st.sl 10 = .ref 28672 (st.gn 28672) [] 0 j ∧ st.ro 28672 (st.gn 28672) = some (.row (rws (fun j => i64 (pwz (dz n) (-(dE n k i j)))) j)) ∧
     st.ro 4096 1 = some (.bx [nilA, nilA]) ∧
     ((i = 0 ∧ st.ro 8272 1 = some (.bx [nilA, nilA])) ∨ (0 < i ∧ st.ro 8272 1 = some (.bx [.ref 57408 (st.gn 57408) [] 0 i, .ref 57680 (st.gn 57680) [] 0 i]) ∧
     st.ro 57408 (st.gn 57408) = some (.row (rws (fun i => .row (rws (fun j => i64 (pwz (dz n) (-(dE n k i j)))) (n * n).toNat)) i)) ∧
     st.ro 57680 (st.gn 57680) = some (.row (rws (fun i => i64 (pw (dz n) (dT n k i))) i))))) (n * n).toNat ?_ ?_ ?_
   · simp only [↓zcy, ↓zcz, ↓zda, ↓zdb, ↓reduceIte, Nat.reduceEqDiff, and_true, true_and, and_self, ne_eq, not_false_eq_true, eq_self, false_and, and_false, reduceCtorEq, s0, s1, s4, s5, s6, s21, s22, r1, r2, rws_zero]
     rfl
   · rintro j sl ro gn hj ⟨s0, s1, s4, s5, s6, s8, s9, s21, s22, s34, s35, s10, r0, r1, r2⟩
     dsimp only at s0 s1 s4 s5 s6 s8 s9 s21 s22 s34 s35 s10 r0 r1 r2
     have hj' : (j : Int) < n * n := by omega
     simp (maxSteps := 10000000) (disch := first | omega | assumption) only [go_sem, ↓reduceIte, Nat.reduceEqDiff, reduceCtorEq, Nat.reduceAdd, Nat.reduceMul, Nat.reduceLeDiff, zfu, Int.mul_def, Int.add_def, zfv, cond_false, cond_true, isub, ti2, ti22, ti23, ti25, s0, s1, s34, s35, hj', Int.tdiv_eq_ediv_of_nonneg, Int.tmod_eq_emod_of_nonneg]
     refine FIN_of (by kernel_rfl) ?_
     obtain ⟨a1, a2, a3, a4⟩ := ha
     obtain ⟨b1, b2, b3, b4⟩ := dvB h1 h2 (Int.natCast_nonneg j) hj'
     have hmx : j + 1 ≤ 4294967296 := by omega
     have p1 := mulB a1 a2 b3 b4
     have p2 := mulB b1 b2 a3 a4
     have p3 := mulB (x := n) (X := 4) (y := (i : Int) / n * ((j : Int) % n) + (j : Int) / n * ((i : Int) % n)) (Y := 18) (by omega) h2 (by omega) (by omega)
     have p5 := mulB (x := 2 * k) (X := 6) (by omega) (by omega) a1 a2
     have p6 := mulB p5.1 p5.2 b1 b2
     simp (maxSteps := 10000000) (disch := first | omega | assumption) only [go_sem, ↓reduceIte, Nat.reduceEqDiff, reduceCtorEq, Nat.reduceAdd, Nat.reduceMul, Nat.reduceLeDiff, zfu, Int.mul_def, Int.add_def, zfv, cond_false, cond_true, isub, ti2, ti22, ti23, ti25, s0, s1, s5, s8, s9, s10, s34, s35, Int.zero_sub]
     refine CLL_pure (i64 (pwz (dz n) (-(dE n k i j)))) (c76 (pw_nonneg _ _) (pw_lt _ _) (by omega) (by omega)) rfl rfl rfl ?_
     simp (maxSteps := 10000000) (disch := first | omega | assumption) only [go_sem, ↓reduceIte, Nat.reduceEqDiff, reduceCtorEq, Nat.reduceAdd, Nat.reduceMul, Nat.reduceLeDiff, zfu, Int.mul_def, Int.add_def, zfv, cond_false, cond_true, isub, ti2, ti22, ti23, ti25, s0, s1, s4, s5, s6, s8, s9, s10, s21, s22, s34, s35, r0, r1, hmx]
     exact ⟨i64c (by omega), r2⟩
   · rintro sl ro gn ⟨s0, s1, s4, s5, s6, s8, s9, s21, s22, s34, s35, s10, r0, r1, r2⟩
     dsimp only at s0 s1 s4 s5 s6 s8 s9 s21 s22 s34 s35 s10 r0 r1 r2
     have hj' : ¬ (((n * n).toNat : Int) < n * n) := by omega
     have hmx : i + 1 ≤ 4294967296 := by omega
     obtain ⟨a1, a2, a3, a4⟩ := ha
     have p1 := mulB (x := n) (X := 4) (by omega) h2 a1 a2
     have p2 := mulB p1.1 p1.2 a3 a4
     have p3 := mulB (x := k) (X := 3) h3 (by omega) a1 a2
     have p4 := mulB p3.1 p3.2 a1 a2
     rcases r2 with ⟨hi0, q2⟩ | ⟨hi0, q2, q3, q4⟩
     · simp (maxSteps := 10000000) (disch := first | omega | assumption) only [go_sem, ↓reduceIte, Nat.reduceEqDiff, reduceCtorEq, Nat.reduceAdd, Nat.reduceMul, Nat.reduceLeDiff, zfu, Int.mul_def, Int.add_def, zfv, cond_false, cond_true, isub, ti2, ti22, ti23, ti25, s0, s1, s4, s5, s6, s8, s9, s10, s21, s22, s34, s35, r0, r1, q2, hj']
       refine CLLD_pure (i64 (pw (dz n) (dT n k i))) (c77 (pw_nonneg _ _) (pw_lt _ _) (by omega) (by omega)) rfl rfl ?_
       simp (maxSteps := 10000000) (disch := first | omega | assumption) only [go_sem, ↓reduceIte, Nat.reduceEqDiff, reduceCtorEq, Nat.reduceAdd, Nat.reduceMul, Nat.reduceLeDiff, zfu, Int.mul_def, Int.add_def, zfv, cond_false, cond_true, isub, ti2, ti22, ti23, ti25, s0, s1, s4, s5, s6, s8, s9, s10, s21, s22, s34, s35, r0, r1, q2, pureL, pureA]
       refine FIN_of (by kernel_rfl) ?_
       simp (maxSteps := 10000000) (disch := first | omega | assumption) only [go_sem, ↓reduceIte, Nat.reduceEqDiff, reduceCtorEq, Nat.reduceAdd, Nat.reduceMul, Nat.reduceLeDiff, zfu, Int.mul_def, Int.add_def, zfv, cond_false, cond_true, isub, ti2, ti22, ti23, ti25, s0, s1, s4, s5, s6, s8, s9, s10, s21, s22, s34, s35, r0, r1, q2]
       refine ⟨i64c (by omega), .inr ⟨by omega, ?_⟩⟩
       subst hi0
       exact ⟨rfl, rfl, rfl⟩
     · simp (maxSteps := 10000000) (disch := first | omega | assumption) only [go_sem, ↓reduceIte, Nat.reduceEqDiff, reduceCtorEq, Nat.reduceAdd, Nat.reduceMul, Nat.reduceLeDiff, zfu, Int.mul_def, Int.add_def, zfv, cond_false, cond_true, isub, ti2, ti22, ti23, ti25, s0, s1, s4, s5, s6, s8, s9, s10, s21, s22, s34, s35, r0, r1, q2, q3, q4, hj', hmx]
       refine CLLD_pure (i64 (pw (dz n) (dT n k i))) (c77 (pw_nonneg _ _) (pw_lt _ _) (by omega) (by omega)) rfl rfl ?_
       simp (maxSteps := 10000000) (disch := first | omega | assumption) only [go_sem, ↓reduceIte, Nat.reduceEqDiff, reduceCtorEq, Nat.reduceAdd, Nat.reduceMul, Nat.reduceLeDiff, zfu, Int.mul_def, Int.add_def, zfv, cond_false, cond_true, isub, ti2, ti22, ti23, ti25, s0, s1, s4, s5, s6, s8, s9, s10, s21, s22, s34, s35, r0, r1, q2, q3, q4, pureL, pureA, hmx]
       refine FIN_of (by kernel_rfl) ?_
       simp (maxSteps := 10000000) (disch := first | omega | assumption) only [go_sem, ↓reduceIte, Nat.reduceEqDiff, reduceCtorEq, Nat.reduceAdd, Nat.reduceMul, Nat.reduceLeDiff, zfu, Int.mul_def, Int.add_def, zfv, cond_false, cond_true, isub, ti2, ti22, ti23, ti25, s0, s1, s4, s5, s6, s8, s9, s10, s21, s22, s34, s35, r0, r1, q2, q3, q4]
       exact ⟨i64c (by omega), .inr trivial⟩
 · rintro sl ro gn ⟨s0, s1, s4, s5, s6, s21, s22, r1, r2⟩
   dsimp only at s0 s1 s4 s5 s6 s21 s22 r1 r2
   rcases r2 with ⟨hi0, q2⟩ | ⟨hi0, q2, q3, q4⟩
   · omega
   · have hi' : ¬ (((n * n).toNat : Int) < n * n) := by omega
     simp (maxSteps := 10000000) (disch := first | omega | assumption) only [go_sem, ↓reduceIte, Nat.reduceEqDiff, reduceCtorEq, Nat.reduceAdd, Nat.reduceMul, Nat.reduceLeDiff, zfu, Int.mul_def, Int.add_def, zfv, cond_false, cond_true, isub, ti2, ti22, ti23, ti25, s0, s1, s4, s5, s6, s21, s22, r1, q2, q3, q4, hi']
     simp only [zbj, zbk, retR, resL, outT, zes, zez, oneV, ↓zcy, ↓zcz, ↓reduceIte, Nat.reduceEqDiff, Option.some.injEq, AV.sc.injEq, Value.bool.injEq, Value.int.injEq, outL, outT, zft, zcp, zed, zef, zei, zeh, List.length_cons, List.length_nil, Nat.reduceAdd, Nat.zero_add, Nat.reduceLeDiff, List.drop_zero, List.take_succ_cons, List.take_zero, zfi, zfh, Ro.dl, zdb, zda, zfe, and_self, and_true, true_and, eq_self, List.append_nil, List.nil_append, List.cons_append, ne_eq, not_false_eq_true, and_false, false_and, Bool.false_eq_true, St.ev, zes, zfn, zhk, s4, ti25, q2, q3, q4]
set_option maxRecDepth 1000000 in
set_option maxHeartbeats 10000000 in
theorem c39 {n k : Int} (h1 : 1 ≤ n) (h2 : n ≤ 4) (h3 : 0 ≤ k) (h4 : k < n) : CallOK Tryz.prog 45 [i64 n, i64 k]
   (.agg [.row (rws (fun i => .row (rws (fun j => i64 (pw (pw (dz n) 55439) (dE n k i j))) (n * n).toNat)) (n * n).toNat), .row (rws (fun i => i64 (pw (dz n) (dT n k i))) (n * n).toNat)]) := by
 refine call_of (fn := Tryz.f45) (code := bodyOf Tryz.f45) Tryz.func45 rfl (by kernel_rfl) (noRef_dbl _ _ _ _) ?_
 intro sl hs
 have s0 : sl 0 = i64 n := hs 0
 have s1 : sl 1 = i64 k := hs 1
 have hnn := mulB (x := n) (y := n) (X := 4) (Y := 4) (by omega) h2 (by omega) h2
 have hn1 : 1 ≤ n * n := Int.mul_le_mul (a := 1) (b := 1) h1 h1 (by omega) (by omega)
 simp (maxSteps := 10000000) (disch := first | omega | assumption) only [Tryz.f45, bodyOf, Option.getD, go_sem, ↓reduceIte, Nat.reduceEqDiff, reduceCtorEq, Nat.reduceAdd, Nat.reduceMul, Nat.reduceLeDiff, zfu, Int.mul_def, Int.add_def, zfv, cond_false, cond_true, isub, ti2, ti22, ti23, ti25, s0, s1]
 refine CLL_pure (i64 (dz n)) (c73 hn1 (by omega)) rfl rfl rfl ?_
 simp (maxSteps := 10000000) (disch := first | omega | assumption) only [go_sem, ↓reduceIte, Nat.reduceEqDiff, reduceCtorEq, Nat.reduceAdd, Nat.reduceMul, Nat.reduceLeDiff, zfu, Int.mul_def, Int.add_def, zfv, cond_false, cond_true, isub, ti2, ti22, ti23, ti25, s0, s1, List.map_nil]
 refine CLL_pure (i64 (pw (dz n) 55439)) (c59 (pw_nonneg _ _) (pw_lt _ _)) rfl rfl rfl ?_
 simp (maxSteps := 10000000) (disch := first | omega | assumption) only [go_sem, ↓reduceIte, Nat.reduceEqDiff, reduceCtorEq, Nat.reduceAdd, Nat.reduceMul, Nat.reduceLeDiff, zfu, Int.mul_def, Int.add_def, zfv, cond_false, cond_true, isub, ti2, ti22, ti23, ti25, s0, s1, List.map_nil]
 have hm : ((n * n).toNat : Int) = n * n := Int.toNat_of_nonneg hnn.1
 refine WK_for (fun i st => st.sl 0 = i64 n ∧ st.sl 1 = i64 k ∧ st.sl 4 = .ptr 4096 1 [] 0 ∧ st.sl 5 = i64 (dz n) ∧ st.sl 6 = .ptr 8272 1 [] 0 ∧ st.sl 7 = i64 (pw (dz n) 55439) ∧ st.sl 8 = i64 (i : Int) ∧
   st.ro 4096 1 = some (.bx [nilA, nilA]) ∧ 
   ((i = 0 ∧ st.ro 8272 1 = some (.bx [nilA, nilA])) ∨ (0 < i ∧ st.ro 8272 1 = some (.bx [.ref 57408 (st.gn 57408) [] 0 i, .ref 61696 (st.gn 61696) [] 0 i]) ∧
     st.ro 57408 (st.gn 57408) = some (.row (rws (fun i => .row (rws (fun j => i64 (pw (pw (dz n) 55439) (dE n k i j))) (n * n).toNat)) i)) ∧
     st.ro 61696 (st.gn 61696) = some (.row (rws (fun i => i64 (pw (dz n) (dT n k i))) i))))) (n * n).toNat ?_ ?_ ?_
 · simp only [↓zcy, ↓zcz, ↓zda, ↓zdb, ↓reduceIte, Nat.reduceEqDiff, and_true, true_and, and_self, ne_eq, not_false_eq_true, eq_self, false_and, and_false, reduceCtorEq, s0, s1]
   exact ⟨rfl, .inl trivial⟩
 · rintro i sl ro gn hi ⟨s0, s1, s4, s5, s6, s7, s8, r1, r2⟩
   dsimp only at s0 s1 s4 s5 s6 s7 s8 r1 r2
   have hi' : (i : Int) < n * n := by omega
   have ha := dvB h1 h2 (Int.natCast_nonneg i) hi'
   simp (maxSteps := 10000000) (disch := first | omega | assumption) only [go_sem, ↓reduceIte, Nat.reduceEqDiff, reduceCtorEq, Nat.reduceAdd, Nat.reduceMul, Nat.reduceLeDiff, zfu, Int.mul_def, Int.add_def, zfv, cond_false, cond_true, isub, ti2, ti22, ti23, ti25, s0, s1, s8, hi', Int.tdiv_eq_ediv_of_nonneg, Int.tmod_eq_emod_of_nonneg]
   refine FIN_of (by kernel_rfl) ?_
   simp (maxSteps := 10000000) (disch := first | omega | assumption) only [go_sem, ↓reduceIte, Nat.reduceEqDiff, reduceCtorEq, Nat.reduceAdd, Nat.reduceMul, Nat.reduceLeDiff, zfu, Int.mul_def, Int.add_def, zfv, cond_false, cond_true, isub, ti2, ti22, ti23, ti25, s0, s1, s8]
   refine WK_for (fun j st => st.sl 0 = i64 n ∧ st.sl 1 = i64 k ∧ st.sl 4 = .ptr 4096 1 [] 0 ∧ st.sl 5 = i64 (dz n) ∧ st.sl 6 = .ptr 8272 1 [] 0 ∧ st.sl 7 = i64 (pw (dz n) 55439) ∧ st.sl 8 = i64 (i : Int) ∧ st.sl 10 = i64 ((i : Int) / n) ∧ st.sl 11 = i64 ((i : Int) % n) ∧
     st.sl 12 = i64 (j : Int) ∧ st.sl 9 = .ref 28672 (st.gn 28672) [] 0 j ∧ st.ro 28672 (st.gn 28672) = some (.row (rws (fun j => i64 (pw (pw (dz n) 55439) (dE n k i j))) j)) ∧
     st.ro 4096 1 = some (.bx [nilA, nilA]) ∧
     ((i = 0 ∧ st.ro 8272 1 = some (.bx [nilA, nilA])) ∨ (0 < i ∧ st.ro 8272 1 = some (.bx [.ref 57408 (st.gn 57408) [] 0 i, .ref 61696 (st.gn 61696) [] 0 i]) ∧
     st.ro 57408 (st.gn 57408) = some (.row (rws (fun i => .row (rws (fun j => i64 (pw (pw (dz n) 55439) (dE n k i j))) (n * n).toNat)) i)) ∧
     st.ro 61696 (st.gn 61696) = some (.row (rws (fun i => i64 (pw (dz n) (dT n k i))) i))))) (n * n).toNat ?_ ?_ ?_
   · simp only [↓zcy, ↓zcz, ↓zda, ↓zdb, ↓reduceIte, Nat.reduceEqDiff, and_true, true_and, and_self, ne_eq, not_false_eq_true, eq_self, false_and, and_false, reduceCtorEq, s0, s1, s4, s5, s6, s7, s8, r1, r2, rws_zero]
     rfl
   · rintro j sl ro gn hj ⟨s0, s1, s4, s5, s6, s7, s8, s10, s11, s12, s9, r0, r1, r2⟩
     dsimp only at s0 s1 s4 s5 s6 s7 s8 s10 s11 s12 s9 r0 r1 r2
     have hj' : (j : Int) < n * n := by omega
     simp (maxSteps := 10000000) (disch := first | omega | assumption) only [go_sem, ↓reduceIte, Nat.reduceEqDiff, reduceCtorEq, Nat.reduceAdd, Nat.reduceMul, Nat.reduceLeDiff, zfu, Int.mul_def, Int.add_def, zfv, cond_false, cond_true, isub, ti2, ti22, ti23, ti25, s0, s1, s12, hj', Int.tdiv_eq_ediv_of_nonneg, Int.tmod_eq_emod_of_nonneg]
     refine FIN_of (by kernel_rfl) ?_
     obtain ⟨a1, a2, a3, a4⟩ := ha
     obtain ⟨b1, b2, b3, b4⟩ := dvB h1 h2 (Int.natCast_nonneg j) hj'
     have hmx : j + 1 ≤ 4294967296 := by omega
     have p1 := mulB a1 a2 b3 b4
     have p2 := mulB b1 b2 a3 a4
     have p3 := mulB (x := n) (X := 4) (y := (i : Int) / n * ((j : Int) % n) + (j : Int) / n * ((i : Int) % n)) (Y := 18) (by omega) h2 (by omega) (by omega)
     have p5 := mulB (x := 2 * k) (X := 6) (by omega) (by omega) a1 a2
     have p6 := mulB p5.1 p5.2 b1 b2
     simp (maxSteps := 10000000) (disch := first | omega | assumption) only [go_sem, ↓reduceIte, Nat.reduceEqDiff, reduceCtorEq, Nat.reduceAdd, Nat.reduceMul, Nat.reduceLeDiff, zfu, Int.mul_def, Int.add_def, zfv, cond_false, cond_true, isub, ti2, ti22, ti23, ti25, s0, s1, s5, s7, s9, s10, s11, s12, Int.zero_sub]
     refine CLL_pure (i64 (pw (pw (dz n) 55439) (dE n k i j))) (c74 (pw_nonneg _ _) (pw_lt _ _) (by omega) (by omega)) rfl rfl rfl ?_
     simp (maxSteps := 10000000) (disch := first | omega | assumption) only [go_sem, ↓reduceIte, Nat.reduceEqDiff, reduceCtorEq, Nat.reduceAdd, Nat.reduceMul, Nat.reduceLeDiff, zfu, Int.mul_def, Int.add_def, zfv, cond_false, cond_true, isub, ti2, ti22, ti23, ti25, s0, s1, s4, s5, s6, s7, s8, s9, s10, s11, s12, r0, r1, hmx]
     exact ⟨i64c (by omega), r2⟩
   · rintro sl ro gn ⟨s0, s1, s4, s5, s6, s7, s8, s10, s11, s12, s9, r0, r1, r2⟩
     dsimp only at s0 s1 s4 s5 s6 s7 s8 s10 s11 s12 s9 r0 r1 r2
     have hj' : ¬ (((n * n).toNat : Int) < n * n) := by omega
     have hmx : i + 1 ≤ 4294967296 := by omega
     obtain ⟨a1, a2, a3, a4⟩ := ha
     have p1 := mulB (x := n) (X := 4) (by omega) h2 a1 a2
     have p2 := mulB p1.1 p1.2 a3 a4
     have p3 := mulB (x := k) (X := 3) h3 (by omega) a1 a2
     have p4 := mulB p3.1 p3.2 a1 a2
     rcases r2 with ⟨hi0, q2⟩ | ⟨hi0, q2, q3, q4⟩
     · simp (maxSteps := 10000000) (disch := first | omega | assumption) only [go_sem, ↓reduceIte, Nat.reduceEqDiff, reduceCtorEq, Nat.reduceAdd, Nat.reduceMul, Nat.reduceLeDiff, zfu, Int.mul_def, Int.add_def, zfv, cond_false, cond_true, isub, ti2, ti22, ti23, ti25, s0, s1, s4, s5, s6, s7, s8, s9, s10, s11, s12, r0, r1, q2, hj']
       refine CLLD_pure (i64 (pw (dz n) (dT n k i))) (c74 (pw_nonneg _ _) (pw_lt _ _) (by omega) (by omega)) rfl rfl ?_
       simp (maxSteps := 10000000) (disch := first | omega | assumption) only [go_sem, ↓reduceIte, Nat.reduceEqDiff, reduceCtorEq, Nat.reduceAdd, Nat.reduceMul, Nat.reduceLeDiff, zfu, Int.mul_def, Int.add_def, zfv, cond_false, cond_true, isub, ti2, ti22, ti23, ti25, s0, s1, s4, s5, s6, s7, s8, s9, s10, s11, s12, r0, r1, q2, pureL, pureA]
       refine FIN_of (by kernel_rfl) ?_
       simp (maxSteps := 10000000) (disch := first | omega | assumption) only [go_sem, ↓reduceIte, Nat.reduceEqDiff, reduceCtorEq, Nat.reduceAdd, Nat.reduceMul, Nat.reduceLeDiff, zfu, Int.mul_def, Int.add_def, zfv, cond_false, cond_true, isub, ti2, ti22, ti23, ti25, s0, s1, s4, s5, s6, s7, s8, s9, s10, s11, s12, r0, r1, q2]
       refine ⟨i64c (by omega), .inr ⟨by omega, ?_⟩⟩
       subst hi0
       exact ⟨rfl, rfl, rfl⟩
     · simp (maxSteps := 10000000) (disch := first | omega | assumption) only [go_sem, ↓reduceIte, Nat.reduceEqDiff, reduceCtorEq, Nat.reduceAdd, Nat.reduceMul, Nat.reduceLeDiff, zfu, Int.mul_def, Int.add_def, zfv, cond_false, cond_true, isub, ti2, ti22, ti23, ti25, s0, s1, s4, s5, s6, s7, s8, s9, s10, s11, s12, r0, r1, q2, q3, q4, hj', hmx]
       refine CLLD_pure (i64 (pw (dz n) (dT n k i))) (c74 (pw_nonneg _ _) (pw_lt _ _) (by omega) (by omega)) rfl rfl ?_
       simp (maxSteps := 10000000) (disch := first | omega | assumption) only [go_sem, ↓reduceIte, Nat.reduceEqDiff, reduceCtorEq, Nat.reduceAdd, Nat.reduceMul, Nat.reduceLeDiff, zfu, Int.mul_def, Int.add_def, zfv, cond_false, cond_true, isub, ti2, ti22, ti23, ti25, s0, s1, s4, s5, s6, s7, s8, s9, s10, s11, s12, r0, r1, q2, q3, q4, pureL, pureA, hmx]
       refine FIN_of (by kernel_rfl) ?_
       simp (maxSteps := 10000000) (disch := first | omega | assumption) only [go_sem, ↓reduceIte, Nat.reduceEqDiff, reduceCtorEq, Nat.reduceAdd, Nat.reduceMul, Nat.reduceLeDiff, zfu, Int.mul_def, Int.add_def, zfv, cond_false, cond_true, isub, ti2, ti22, ti23, ti25, s0, s1, s4, s5, s6, s7, s8, s9, s10, s11, s12, r0, r1, q2, q3, q4]
       exact ⟨i64c (by omega), .inr trivial⟩
 · rintro sl ro gn ⟨s0, s1, s4, s5, s6, s7, s8, r1, r2⟩
   dsimp only at s0 s1 s4 s5 s6 s7 s8 r1 r2
   rcases r2 with ⟨hi0, q2⟩ | ⟨hi0, q2, q3, q4⟩
   · omega
   · have hi' : ¬ (((n * n).toNat : Int) < n * n) := by omega
     simp (maxSteps := 10000000) (disch := first | omega | assumption) only [go_sem, ↓reduceIte, Nat.reduceEqDiff, reduceCtorEq, Nat.reduceAdd, Nat.reduceMul, Nat.reduceLeDiff, zfu, Int.mul_def, Int.add_def, zfv, cond_false, cond_true, isub, ti2, ti22, ti23, ti25, s0, s1, s4, s5, s6, s8, r1, q2, q3, q4, hi']
     simp only [zbj, zbk, retR, resL, outT, zes, zez, oneV, ↓zcy, ↓zcz, ↓reduceIte, Nat.reduceEqDiff, Option.some.injEq, AV.sc.injEq, Value.bool.injEq, Value.int.injEq, outL, outT, zft, zcp, zed, zef, zei, zeh, List.length_cons, List.length_nil, Nat.reduceAdd, Nat.zero_add, Nat.reduceLeDiff, List.drop_zero, List.take_succ_cons, List.take_zero, zfi, zfh, Ro.dl, zdb, zda, zfe, and_self, and_true, true_and, eq_self, List.append_nil, List.nil_append, List.cons_append, ne_eq, not_false_eq_true, and_false, false_and, Bool.false_eq_true, St.ev, zes, zfn, zhk, s4, ti25, q2, q3, q4]
end Go.Proofs.YtgcnmlecihegcaaGreat
/- The doubles of cyclic groups, told. -/
namespace Go.Proofs.YtgcnmlecihegcaaGreat
open Go.RowKit
theorem noRef_tup1 (a : AV) (v : Value) (h : noRef a = true) : noRef (.tup [a, .sc v]) = true := by simp only [noRef, noRefL, h, Bool.and_self]
theorem c38t {a b c : Int} (h : b ≤ a ∧ a ≤ c) : CallOK Tryz.prog 44 [i64 a, i64 b, i64 c] (bo true) := by have := c38 (a := a) (b := b) (c := c); rwa [decide_eq_true h] at this
theorem c38f {a b c : Int} (h : ¬ (b ≤ a ∧ a ≤ c)) : CallOK Tryz.prog 44 [i64 a, i64 b, i64 c] (bo false) := by have := c38 (a := a) (b := b) (c := c); rwa [decide_eq_false h] at this
theorem c40t {a b c : Int} (h : b ≤ a ∧ a ≤ c) : CallOK Tryz.prog 42 [i64 a, i64 b, i64 c] (bo true) := by have := c40 (a := a) (b := b) (c := c); rwa [decide_eq_true h] at this
theorem c40f {a b c : Int} (h : ¬ (b ≤ a ∧ a ≤ c)) : CallOK Tryz.prog 42 [i64 a, i64 b, i64 c] (bo false) := by have := c40 (a := a) (b := b) (c := c); rwa [decide_eq_false h] at this
theorem impE_agg2 (b : Nat) (gn : Nat → Nat) (xs ys : List AV) : impE b gn (.agg [.row xs, .row ys]) = ⟨.agg [.ref b (gn b + 1) [] 0 xs.length, .ref (b + 1) (gn (b + 1) + 1) [] 0 ys.length], none, [], [(b, .row xs), (b + 1, .row ys)]⟩ := nr _
theorem c10_no1 {n k : Int} (hn : ¬ (1 ≤ n ∧ n ≤ 4)) : CallOK Tryz.prog 13 [i64 n, i64 k] (.tup [.agg [nilA, nilA], i64 2]) := by
 refine call_of (fn := Tryz.f13) (code := bodyOf Tryz.f13) Tryz.func13 rfl (by kernel_rfl) rfl ?_
 intro sl hs
 have s0 : sl 0 = i64 n := hs 0
 have s1 : sl 1 = i64 k := hs 1
 simp (maxSteps := 10000000) (disch := first | omega | assumption) only [Tryz.f13, bodyOf, Option.getD, go_sem, ↓reduceIte, Nat.reduceEqDiff, reduceCtorEq, Nat.reduceAdd, Nat.reduceMul, Nat.reduceLeDiff, zfu, Int.mul_def, Int.add_def, zfv, cond_false, cond_true, isub, ti2, ti4, ti25, s0, s1, List.map_nil]
 refine CLL_pure (bo false) (c38f hn ) rfl rfl rfl ?_
 simp (maxSteps := 10000000) (disch := first | omega | assumption) only [go_sem, ↓reduceIte, Nat.reduceEqDiff, reduceCtorEq, Nat.reduceAdd, Nat.reduceMul, Nat.reduceLeDiff, zfu, Int.mul_def, Int.add_def, zfv, cond_false, cond_true, isub, ti2, ti4, ti25, s0, s1, List.map_nil]
 simp only [zbj, zbk, retR, resL, outT, zes, zez, oneV, ↓zcy, ↓zcz, ↓reduceIte, Nat.reduceEqDiff, Option.some.injEq, AV.sc.injEq, Value.bool.injEq, Value.int.injEq, outL, outT, zft, zcp, zed, zef, zei, zeh, List.length_cons, List.length_nil, Nat.reduceAdd, Nat.zero_add, Nat.reduceLeDiff, List.drop_zero, List.take_succ_cons, List.take_zero, zfi, zfh, Ro.dl, zdb, zda, zfe, and_self, and_true, true_and, eq_self, List.append_nil, List.nil_append, List.cons_append, ne_eq, not_false_eq_true, and_false, false_and, Bool.false_eq_true, St.ev, zes, zfn, zhk, ti25]
theorem c10_no2 {n k : Int} (hn : 1 ≤ n ∧ n ≤ 4) (hk : ¬ (0 ≤ k ∧ k ≤ n - 1)) : CallOK Tryz.prog 13 [i64 n, i64 k] (.tup [.agg [nilA, nilA], i64 2]) := by
 refine call_of (fn := Tryz.f13) (code := bodyOf Tryz.f13) Tryz.func13 rfl (by kernel_rfl) rfl ?_
 intro sl hs
 have s0 : sl 0 = i64 n := hs 0
 have s1 : sl 1 = i64 k := hs 1
 simp (maxSteps := 10000000) (disch := first | omega | assumption) only [Tryz.f13, bodyOf, Option.getD, go_sem, ↓reduceIte, Nat.reduceEqDiff, reduceCtorEq, Nat.reduceAdd, Nat.reduceMul, Nat.reduceLeDiff, zfu, Int.mul_def, Int.add_def, zfv, cond_false, cond_true, isub, ti2, ti4, ti25, s0, s1, List.map_nil]
 refine CLL_pure (bo true) (c38t hn ) rfl rfl rfl ?_
 simp (maxSteps := 10000000) (disch := first | omega | assumption) only [go_sem, ↓reduceIte, Nat.reduceEqDiff, reduceCtorEq, Nat.reduceAdd, Nat.reduceMul, Nat.reduceLeDiff, zfu, Int.mul_def, Int.add_def, zfv, cond_false, cond_true, isub, ti2, ti4, ti25, s0, s1, List.map_nil]
 refine CLL_pure (bo false) (c38f hk ) rfl rfl rfl ?_
 simp (maxSteps := 10000000) (disch := first | omega | assumption) only [go_sem, ↓reduceIte, Nat.reduceEqDiff, reduceCtorEq, Nat.reduceAdd, Nat.reduceMul, Nat.reduceLeDiff, zfu, Int.mul_def, Int.add_def, zfv, cond_false, cond_true, isub, ti2, ti4, ti25, s0, s1, List.map_nil]
 simp only [zbj, zbk, retR, resL, outT, zes, zez, oneV, ↓zcy, ↓zcz, ↓reduceIte, Nat.reduceEqDiff, Option.some.injEq, AV.sc.injEq, Value.bool.injEq, Value.int.injEq, outL, outT, zft, zcp, zed, zef, zei, zeh, List.length_cons, List.length_nil, Nat.reduceAdd, Nat.zero_add, Nat.reduceLeDiff, List.drop_zero, List.take_succ_cons, List.take_zero, zfi, zfh, Ro.dl, zdb, zda, zfe, and_self, and_true, true_and, eq_self, List.append_nil, List.nil_append, List.cons_append, ne_eq, not_false_eq_true, and_false, false_and, Bool.false_eq_true, St.ev, zes, zfn, zhk, ti25]
set_option maxRecDepth 1000000 in
theorem c10 {n k : Int} (hn : 1 ≤ n ∧ n ≤ 4) (hk : 0 ≤ k ∧ k ≤ n - 1) : CallOK Tryz.prog 13 [i64 n, i64 k]
   (.tup [.agg [.row (rws (fun i => .row (rws (fun j => i64 (pw (pw (dz n) 55439) (dE n k i j))) (n * n).toNat)) (n * n).toNat), .row (rws (fun i => i64 (pw (dz n) (dT n k i))) (n * n).toNat)], i64 0]) := by
 refine call_of (fn := Tryz.f13) (code := bodyOf Tryz.f13) Tryz.func13 rfl (by kernel_rfl) (noRef_tup1 _ _ (noRef_dbl _ _ _ _)) ?_
 intro sl hs
 have s0 : sl 0 = i64 n := hs 0
 have s1 : sl 1 = i64 k := hs 1
 simp (maxSteps := 10000000) (disch := first | omega | assumption) only [Tryz.f13, bodyOf, Option.getD, go_sem, ↓reduceIte, Nat.reduceEqDiff, reduceCtorEq, Nat.reduceAdd, Nat.reduceMul, Nat.reduceLeDiff, zfu, Int.mul_def, Int.add_def, zfv, cond_false, cond_true, isub, ti2, ti4, ti25, s0, s1, List.map_nil]
 refine CLL_pure (bo true) (c38t hn ) rfl rfl rfl ?_
 simp (maxSteps := 10000000) (disch := first | omega | assumption) only [go_sem, ↓reduceIte, Nat.reduceEqDiff, reduceCtorEq, Nat.reduceAdd, Nat.reduceMul, Nat.reduceLeDiff, zfu, Int.mul_def, Int.add_def, zfv, cond_false, cond_true, isub, ti2, ti4, ti25, s0, s1, List.map_nil]
 refine CLL_pure (bo true) (c38t hk ) rfl rfl rfl ?_
 simp (maxSteps := 10000000) (disch := first | omega | assumption) only [go_sem, ↓reduceIte, Nat.reduceEqDiff, reduceCtorEq, Nat.reduceAdd, Nat.reduceMul, Nat.reduceLeDiff, zfu, Int.mul_def, Int.add_def, zfv, cond_false, cond_true, isub, ti2, ti4, ti25, s0, s1, List.map_nil]
 refine CLL_pure _ (c39 hn.1 hn.2 hk.1 (by omega)) rfl rfl rfl ?_
 simp (maxSteps := 10000000) (disch := first | omega | assumption) only [go_sem, ↓reduceIte, Nat.reduceEqDiff, reduceCtorEq, Nat.reduceAdd, Nat.reduceMul, Nat.reduceLeDiff, zfu, Int.mul_def, Int.add_def, zfv, cond_false, cond_true, isub, ti2, ti4, ti25, s0, s1, List.map_nil, impE_agg2]
 simp only [zbj, zbk, retR, resL, outT, zes, zez, oneV, ↓zcy, ↓zcz, ↓reduceIte, Nat.reduceEqDiff, Option.some.injEq, AV.sc.injEq, Value.bool.injEq, Value.int.injEq, outL, outT, zft, zcp, zed, zef, zei, zeh, List.length_cons, List.length_nil, Nat.reduceAdd, Nat.zero_add, Nat.reduceLeDiff, List.drop_zero, List.take_succ_cons, List.take_zero, zfi, zfh, Ro.dl, zdb, zda, zfe, and_self, and_true, true_and, eq_self, List.append_nil, List.nil_append, List.cons_append, ne_eq, not_false_eq_true, and_false, false_and, Bool.false_eq_true, St.ev, zes, zfn, zhk, ti25]
theorem c11_no1 {n k : Int} (hn : ¬ (1 ≤ n ∧ n ≤ 4)) : CallOK Tryz.prog 12 [i64 n, i64 k] (.tup [.agg [nilA, nilA], i64 2]) := by
 refine call_of (fn := Tryz.f12) (code := bodyOf Tryz.f12) Tryz.func12 rfl (by kernel_rfl) rfl ?_
 intro sl hs
 have s0 : sl 0 = i64 n := hs 0
 have s1 : sl 1 = i64 k := hs 1
 simp (maxSteps := 10000000) (disch := first | omega | assumption) only [Tryz.f12, bodyOf, Option.getD, go_sem, ↓reduceIte, Nat.reduceEqDiff, reduceCtorEq, Nat.reduceAdd, Nat.reduceMul, Nat.reduceLeDiff, zfu, Int.mul_def, Int.add_def, zfv, cond_false, cond_true, isub, ti2, ti4, ti25, s0, s1, List.map_nil]
 refine CLL_pure (bo false) (c40f hn ) rfl rfl rfl ?_
 simp (maxSteps := 10000000) (disch := first | omega | assumption) only [go_sem, ↓reduceIte, Nat.reduceEqDiff, reduceCtorEq, Nat.reduceAdd, Nat.reduceMul, Nat.reduceLeDiff, zfu, Int.mul_def, Int.add_def, zfv, cond_false, cond_true, isub, ti2, ti4, ti25, s0, s1, List.map_nil]
 simp only [zbj, zbk, retR, resL, outT, zes, zez, oneV, ↓zcy, ↓zcz, ↓reduceIte, Nat.reduceEqDiff, Option.some.injEq, AV.sc.injEq, Value.bool.injEq, Value.int.injEq, outL, outT, zft, zcp, zed, zef, zei, zeh, List.length_cons, List.length_nil, Nat.reduceAdd, Nat.zero_add, Nat.reduceLeDiff, List.drop_zero, List.take_succ_cons, List.take_zero, zfi, zfh, Ro.dl, zdb, zda, zfe, and_self, and_true, true_and, eq_self, List.append_nil, List.nil_append, List.cons_append, ne_eq, not_false_eq_true, and_false, false_and, Bool.false_eq_true, St.ev, zes, zfn, zhk, ti25]
theorem c11_no2 {n k : Int} (hn : 1 ≤ n ∧ n ≤ 4) (hk : ¬ (0 ≤ k ∧ k ≤ n - 1)) : CallOK Tryz.prog 12 [i64 n, i64 k] (.tup [.agg [nilA, nilA], i64 2]) := by
 refine call_of (fn := Tryz.f12) (code := bodyOf Tryz.f12) Tryz.func12 rfl (by kernel_rfl) rfl ?_
 intro sl hs
 have s0 : sl 0 = i64 n := hs 0
 have s1 : sl 1 = i64 k := hs 1
 simp (maxSteps := 10000000) (disch := first | omega | assumption) only [Tryz.f12, bodyOf, Option.getD, go_sem, ↓reduceIte, Nat.reduceEqDiff, reduceCtorEq, Nat.reduceAdd, Nat.reduceMul, Nat.reduceLeDiff, zfu, Int.mul_def, Int.add_def, zfv, cond_false, cond_true, isub, ti2, ti4, ti25, s0, s1, List.map_nil]
 refine CLL_pure (bo true) (c40t hn ) rfl rfl rfl ?_
 simp (maxSteps := 10000000) (disch := first | omega | assumption) only [go_sem, ↓reduceIte, Nat.reduceEqDiff, reduceCtorEq, Nat.reduceAdd, Nat.reduceMul, Nat.reduceLeDiff, zfu, Int.mul_def, Int.add_def, zfv, cond_false, cond_true, isub, ti2, ti4, ti25, s0, s1, List.map_nil]
 refine CLL_pure (bo false) (c40f hk ) rfl rfl rfl ?_
 simp (maxSteps := 10000000) (disch := first | omega | assumption) only [go_sem, ↓reduceIte, Nat.reduceEqDiff, reduceCtorEq, Nat.reduceAdd, Nat.reduceMul, Nat.reduceLeDiff, zfu, Int.mul_def, Int.add_def, zfv, cond_false, cond_true, isub, ti2, ti4, ti25, s0, s1, List.map_nil]
 simp only [zbj, zbk, retR, resL, outT, zes, zez, oneV, ↓zcy, ↓zcz, ↓reduceIte, Nat.reduceEqDiff, Option.some.injEq, AV.sc.injEq, Value.bool.injEq, Value.int.injEq, outL, outT, zft, zcp, zed, zef, zei, zeh, List.length_cons, List.length_nil, Nat.reduceAdd, Nat.zero_add, Nat.reduceLeDiff, List.drop_zero, List.take_succ_cons, List.take_zero, zfi, zfh, Ro.dl, zdb, zda, zfe, and_self, and_true, true_and, eq_self, List.append_nil, List.nil_append, List.cons_append, ne_eq, not_false_eq_true, and_false, false_and, Bool.false_eq_true, St.ev, zes, zfn, zhk, ti25]
set_option maxRecDepth 1000000 in
theorem c11 {n k : Int} (hn : 1 ≤ n ∧ n ≤ 4) (hk : 0 ≤ k ∧ k ≤ n - 1) : CallOK Tryz.prog 12 [i64 n, i64 k]
   (.tup [.agg [.row (rws (fun i => .row (rws (fun j => i64 (pwz (dz n) (-(dE n k i j)))) (n * n).toNat)) (n * n).toNat), .row (rws (fun i => i64 (pw (dz n) (dT n k i))) (n * n).toNat)], i64 0]) := by
 refine call_of (fn := Tryz.f12) (code := bodyOf Tryz.f12) Tryz.func12 rfl (by kernel_rfl) (noRef_tup1 _ _ (noRef_dbl _ _ _ _)) ?_
 intro sl hs
 have s0 : sl 0 = i64 n := hs 0
 have s1 : sl 1 = i64 k := hs 1
 simp (maxSteps := 10000000) (disch := first | omega | assumption) only [Tryz.f12, bodyOf, Option.getD, go_sem, ↓reduceIte, Nat.reduceEqDiff, reduceCtorEq, Nat.reduceAdd, Nat.reduceMul, Nat.reduceLeDiff, zfu, Int.mul_def, Int.add_def, zfv, cond_false, cond_true, isub, ti2, ti4, ti25, s0, s1, List.map_nil]
 refine CLL_pure (bo true) (c40t hn ) rfl rfl rfl ?_
 simp (maxSteps := 10000000) (disch := first | omega | assumption) only [go_sem, ↓reduceIte, Nat.reduceEqDiff, reduceCtorEq, Nat.reduceAdd, Nat.reduceMul, Nat.reduceLeDiff, zfu, Int.mul_def, Int.add_def, zfv, cond_false, cond_true, isub, ti2, ti4, ti25, s0, s1, List.map_nil]
 refine CLL_pure (bo true) (c40t hk ) rfl rfl rfl ?_
 simp (maxSteps := 10000000) (disch := first | omega | assumption) only [go_sem, ↓reduceIte, Nat.reduceEqDiff, reduceCtorEq, Nat.reduceAdd, Nat.reduceMul, Nat.reduceLeDiff, zfu, Int.mul_def, Int.add_def, zfv, cond_false, cond_true, isub, ti2, ti4, ti25, s0, s1, List.map_nil]
 refine CLL_pure _ (c41 hn.1 hn.2 hk.1 (by omega)) rfl rfl rfl ?_
 simp (maxSteps := 10000000) (disch := first | omega | assumption) only [go_sem, ↓reduceIte, Nat.reduceEqDiff, reduceCtorEq, Nat.reduceAdd, Nat.reduceMul, Nat.reduceLeDiff, zfu, Int.mul_def, Int.add_def, zfv, cond_false, cond_true, isub, ti2, ti4, ti25, s0, s1, List.map_nil, impE_agg2]
 simp only [zbj, zbk, retR, resL, outT, zes, zez, oneV, ↓zcy, ↓zcz, ↓reduceIte, Nat.reduceEqDiff, Option.some.injEq, AV.sc.injEq, Value.bool.injEq, Value.int.injEq, outL, outT, zft, zcp, zed, zef, zei, zeh, List.length_cons, List.length_nil, Nat.reduceAdd, Nat.zero_add, Nat.reduceLeDiff, List.drop_zero, List.take_succ_cons, List.take_zero, zfi, zfh, Ro.dl, zdb, zda, zfe, and_self, and_true, true_and, eq_self, List.append_nil, List.nil_append, List.cons_append, ne_eq, not_false_eq_true, and_false, false_and, Bool.false_eq_true, St.ev, zes, zfn, zhk, ti25]
end Go.Proofs.YtgcnmlecihegcaaGreat
/- FnExactDoubleOfCyclic: the law's run. -/
namespace Go.Proofs.YtgcnmlecihegcaaGreat
open Go.RowKit
theorem ti26 : ti0 47 = ti0 47 := rfl
theorem emod_pow (a : Int) (k : Nat) : (a % 55441) ^ k % 55441 = a ^ k % 55441 := by
 induction k with
 | zero => simp
 | succ k ih => rw [Int.pow_succ, Int.pow_succ, Int.mul_emod, ih, Int.emod_emod_of_dvd _ (by decide : (55441:Int) ∣ 55441), ← Int.mul_emod]
theorem pwz_neg {z e : Int} (he : 0 ≤ e) : pwz z (-e) = pw (pw z 55439) e := by
 unfold pwz
 split
 · rename_i h
   have e1 : - -e = e := by omega
   have e2 : (55439 : Int).toNat = 55439 := rfl
   simp only [qt, pw, e1, e2, Int.one_mul, emod_pow, ← Int.pow_mul, Int.emod_emod_of_dvd _ (by decide : (55441:Int) ∣ 55441)]
   rw [Nat.mul_comm]
 · rename_i h
   have : e = 0 := by omega
   subst this
   simp [pw]
theorem rws_congr {α : Type} {f g : Nat → α} {n : Nat} (h : ∀ i, i < n → f i = g i) : rws f n = rws g n := by
 unfold rws
 exact List.map_congr_left fun i hi => h i (List.mem_range.1 hi)
theorem rws_map {α β : Type} (f : Nat → α) (g : α → β) (n : Nat) : (rws f n).map g = rws (fun i => g (f i)) n := by simp [rws, Function.comp_def]
def dS (n k : Int) : List (List Int) := rws (fun i => rws (fun j => pw (pw (dz n) 55439) (dE n k i j)) (n * n).toNat) (n * n).toNat
def dTs (n k : Int) : List Int := rws (fun i => pw (dz n) (dT n k i)) (n * n).toNat
abbrev rowL (xs : List Int) : AV := .row (xs.map i64)
abbrev rowLL (xss : List (List Int)) : AV := .row (xss.map rowL)
abbrev immL (xs : List Int) : AV := .imm (xs.map i64)
abbrev immLL (xss : List (List Int)) : AV := .imm (xss.map immL)
theorem dE_nonneg {n k : Int} (h1 : 1 ≤ n) (h2 : n ≤ 4) (h3 : 0 ≤ k) {i j : Nat} (hi : i < (n * n).toNat) (hj : j < (n * n).toNat) : 0 ≤ dE n k i j := by
 have hi' : (i : Int) < n * n := by omega
 have hj' : (j : Int) < n * n := by omega
 obtain ⟨a1, a2, a3, a4⟩ := dvB h1 h2 (Int.natCast_nonneg i) hi'
 obtain ⟨b1, b2, b3, b4⟩ := dvB h1 h2 (Int.natCast_nonneg j) hj'
 have p1 := mulB a1 a2 b3 b4
 have p2 := mulB b1 b2 a3 a4
 have p3 := mulB (x := n) (X := 4) (y := (i : Int) / n * ((j : Int) % n) + (j : Int) / n * ((i : Int) % n)) (Y := 18) (by omega) h2 (by omega) (by omega)
 have p5 : 0 ≤ 2 * k * ((i : Int) / n) := Int.mul_nonneg (by omega) a1
 have p6 : 0 ≤ 2 * k * ((i : Int) / n) * ((j : Int) / n) := Int.mul_nonneg p5 b1
 unfold dE; omega
theorem c10' {n k : Int} (hn : 1 ≤ n ∧ n ≤ 4) (hk : 0 ≤ k ∧ k ≤ n - 1) : CallOK Tryz.prog 13 [i64 n, i64 k] (.tup [.agg [rowLL (dS n k), rowL (dTs n k)], i64 0]) := by
 have := c10 hn hk
 simp only [rowLL, rowL, dS, dTs, rws_map]
 exact this
theorem c11' {n k : Int} (hn : 1 ≤ n ∧ n ≤ 4) (hk : 0 ≤ k ∧ k ≤ n - 1) : CallOK Tryz.prog 12 [i64 n, i64 k] (.tup [.agg [rowLL (dS n k), rowL (dTs n k)], i64 0]) := by
 have := c11 hn hk
 simp only [rowLL, rowL, dS, dTs, rws_map]
 rw [rws_congr (g := fun i => AV.row (rws (fun j => i64 (pw (pw (dz n) 55439) (dE n k i j))) (n * n).toNat)) (fun i hi => by
   rw [rws_congr (g := fun j => i64 (pw (pw (dz n) 55439) (dE n k i j))) (fun j hj => by rw [pwz_neg (dE_nonneg hn.1 hn.2 hk.1 hi hj)])])] at this
 exact this
theorem exLL (ro : Ro) (k : Nat) (xss : List (List Int)) : (xss.map rowL).map (ex ro (k + 2)) = xss.map immL := by
 rw [List.map_map]
 refine List.map_congr_left fun xs _ => ?_
 show AV.imm ((xs.map i64).map (ex ro (k + 1))) = _
 rw [ex_map]
theorem ex_refLL {ro : Ro} {s g : Nat} {xss : List (List Int)} (h : ro s g = some (rowLL xss)) (k : Nat) : ex ro (k + 3) (.ref s g [] 0 xss.length) = immLL xss := by
 show (match ro.cells s g [] with | some cs => AV.imm (((cs.drop 0).take xss.length).map (ex ro (k + 2))) | none => .dead) = _
 rw [zef, h]
 simp only [zeh, List.drop_zero]
 rw [List.take_of_length_le (by simp), exLL]
theorem ex_refL {ro : Ro} {s g : Nat} {xs : List Int} (h : ro s g = some (rowL xs)) (k : Nat) : ex ro (k + 2) (.ref s g [] 0 xs.length) = immL xs := by
 show (match ro.cells s g [] with | some cs => AV.imm (((cs.drop 0).take xs.length).map (ex ro (k + 1))) | none => .dead) = _
 rw [zef, h]
 simp only [zeh, List.drop_zero]
 rw [List.take_of_length_le (by simp), ex_map]
theorem argsX_data1 {ro : Ro} {s g s2 g2 n1 n2 : Nat} {xss : List (List Int)} {us : List Int} {v : Value} (h1 : ro s g = some (rowLL xss)) (h2 : ro s2 g2 = some (rowL us)) (e1 : n1 = xss.length) (e2 : n2 = us.length) :
   argsX ro [.agg [.ref s g [] 0 n1, .ref s2 g2 [] 0 n2], .sc v] = [.agg [immLL xss, immL us], .sc v] := by
 subst e1 e2
 have hp : pureL [.agg [.ref s g [] 0 xss.length, .ref s2 g2 [] 0 us.length], .sc v] = false := rfl
 unfold argsX
 rw [hp, if_neg Bool.false_ne_true]
 show [AV.agg [ex ro 7 _, ex ro 7 _], AV.sc v] = _
 rw [ex_refLL h1 4, ex_refL h2 5]
theorem argsX_data2 {ro : Ro} {s g s2 g2 s' g' s2' g2' : Nat} {xss xss' : List (List Int)} {us us' : List Int} (h1 : ro s g = some (rowLL xss)) (h2 : ro s2 g2 = some (rowL us)) (h3 : ro s' g' = some (rowLL xss')) (h4 : ro s2' g2' = some (rowL us')) :
   argsX ro [.agg [.ref s g [] 0 xss.length, .ref s2 g2 [] 0 us.length], .agg [.ref s' g' [] 0 xss'.length, .ref s2' g2' [] 0 us'.length]] = [.agg [immLL xss, immL us], .agg [immLL xss', immL us']] := by
 have hp : pureL [.agg [.ref s g [] 0 xss.length, .ref s2 g2 [] 0 us.length], .agg [.ref s' g' [] 0 xss'.length, .ref s2' g2' [] 0 us'.length]] = false := rfl
 unfold argsX
 rw [hp, if_neg Bool.false_ne_true]
 show [AV.agg [ex ro 7 _, ex ro 7 _], AV.agg [ex ro 7 _, ex ro 7 _]] = _
 rw [ex_refLL h1 4, ex_refL h2 5, ex_refLL h3 4, ex_refL h4 5]
theorem c12t {xss : List (List Int)} {us : List Int} (hx : xss.length ≤ maxN) (hx2 : ∀ j, (xss.getD j []).length ≤ maxN) (hu : us.length ≤ maxN) : CallOK Tryz.prog 39 [.agg [immLL xss, immL us], .agg [immLL xss, immL us]] (bo true) := by
 have := c12 (isLL_imm xss) (isLL_imm xss) (isL_imm us) (isL_imm us) hx hx2 hu
 rwa [decide_eq_true ⟨rfl, rfl⟩] at this
theorem impE_tupD (b : Nat) (gn : Nat → Nat) (xss : List (List Int)) (us : List Int) (v : Value) : impE b gn (.tup [.agg [rowLL xss, rowL us], .sc v]) = ⟨.tup [.agg [.ref b (gn b + 1) [] 0 xss.length, .ref (b + 1) (gn (b + 1) + 1) [] 0 us.length], .sc v], none, [], [(b, rowLL xss), (b + 1, rowL us)]⟩ := by
 show (⟨.tup [.agg [.ref b (gn b + 1) [] 0 (xss.map rowL).length, .ref (b + 1) (gn (b + 1) + 1) [] 0 (us.map i64).length], .sc v], none, [], [(b, rowLL xss), (b + 1, rowL us)]⟩ : Eff) = _
 rw [List.length_map, List.length_map]
theorem impE_tupN (b : Nat) (gn : Nat → Nat) (v w x : Value) : impE b gn (.tup [.agg [.sc v, .sc w], .sc x]) = ⟨.tup [.agg [.sc v, .sc w], .sc x], none, [], []⟩ := nr _
theorem impOK_tupD (xss : List (List Int)) (us : List Int) (v : Value) : impOK (.tup [.agg [rowLL xss, rowL us], .sc v]) = true := rfl
theorem dS_len (n k : Int) : (dS n k).length = (n * n).toNat := zfe _ _
theorem dTs_len (n k : Int) : (dTs n k).length = (n * n).toNat := zfe _ _
theorem sumN_le : ∀ (ns : List Nat) (m : Nat), (∀ j, ns.getD j 0 ≤ m) → sumN ns ≤ ns.length * m
 | [], m, _ => by simp [sumN]
 | n :: ns, m, h => by
   have h0 := h 0
   have := sumN_le ns m fun j => by simpa using h (j + 1)
   simp only [List.getD_cons_zero] at h0
   simp only [sumN, List.length_cons, Nat.succ_mul]
   omega
end Go.Proofs.YtgcnmlecihegcaaGreat
