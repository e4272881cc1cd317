/- Cubes of the program: zeros, their test. -/
import Derived.Test.YtifgeenipinnmaaD7
set_option linter.all false
namespace Go.Proofs.Ytifgeenipinnmaa
open Go.RowKit

theorem impE_agg1 (b : Nat) (gn : Nat → Nat) (xs : List AV) : impE b gn (.agg [.row xs]) = ⟨.agg [.ref b (gn b + 1) [] 0 xs.length], none, [], [(b, .row xs)]⟩ := nr _

set_option maxRecDepth 1000000 in
theorem c103 {n : Nat} (h0 : 0 < n) (hn : n ≤ maxN) : CallOK Try.prog 103 [i64 n] (.agg [cubeA (fun _ _ _ => 0) n]) := by
  refine call_of (fn := Try.f103) (code := bodyOf Try.f103) Try.func103 rfl (by kernel_rfl) (by have := noRef_cube (fun _ _ _ => 0) n; simp only [noRef, noRefL, Bool.and_true] at this ⊢; exact this) ?_
  intro sl hs
  have s0 : sl 0 = i64 n := hs 0
  have hn' : n ≤ 4294967296 := hn
  have c126' := c126 hn hn
  simp only [rowLL, rowL, rws_map] at c126'
  simp only [Try.f103, bodyOf, Option.getD, go_sem, ↓reduceIte, Nat.reduceEqDiff, reduceCtorEq, Nat.reduceAdd, Nat.reduceMul, Nat.reduceLeDiff, ti2, ti3, ti4, ti22, ti23, ti31, ti33, s0, List.map_nil]
  refine WK_for (fun i st => st.sl 0 = i64 n ∧ st.sl 2 = .ptr 4096 1 [] 0 ∧ st.ro 4096 1 = some (.bx [nilA]) ∧ st.sl 3 = .ptr 8208 1 [] 0 ∧ st.sl 5 = i64 n ∧ st.sl 6 = i64 (i : Int) ∧ ((i = 0 ∧ st.ro 8208 1 = some (.bx [nilA])) ∨
    (0 < i ∧ st.ro 8208 1 = some (.bx [.ref 20576 (st.gn 20576) [] 0 i]) ∧ st.ro 20576 (st.gn 20576) = some (.row (rws (fun _ => .row (rws (fun _ => .row (rws (fun _ => i64 0) n)) n)) i))))) n ?_ ?_ ?_
  · simp only [↓zcy, ↓zcz, ↓zda, ↓zdb, ↓reduceIte, Nat.reduceEqDiff, and_true, true_and, and_self, ne_eq, not_false_eq_true, eq_self, false_and, and_false, reduceCtorEq, s0]
    exact ⟨rfl, .inl trivial⟩
  · rintro i sl ro gn hi ⟨s0, s2, r2, s3, s5, s6, r3⟩
    dsimp only at s0 s2 r2 s3 s5 s6 r3
    have hi' : (i : Int) < n := by omega
    have hi2 : i + 1 ≤ 4294967296 := by omega
    rcases r3 with ⟨hi0, q3⟩ | ⟨hi0, q3, q4⟩
    · simp (config := { maxSteps := 10000000 }) (disch := first | omega | assumption) only [go_sem, ↓reduceIte, Nat.reduceEqDiff, reduceCtorEq, Nat.reduceAdd, Nat.reduceMul, Nat.reduceLeDiff, zfu, Int.mul_def, Int.add_def, zfv, cond_false, cond_true, isub, ti2, ti3, ti4, ti22, ti23, ti31, ti33, s0, s2, r2, s3, s5, s6, q3, hi']
      refine CLLD_pure _ c126' rfl rfl ?_
      simp (config := { maxSteps := 10000000 }) (disch := first | omega | assumption) only [go_sem, ↓reduceIte, Nat.reduceEqDiff, reduceCtorEq, Nat.reduceAdd, Nat.reduceMul, Nat.reduceLeDiff, zfu, Int.mul_def, Int.add_def, zfv, cond_false, cond_true, isub, ti2, ti3, ti4, ti22, ti23, ti31, ti33, s0, s2, r2, s3, s5, s6, q3, impE_row, pureL, pureA]
      refine FIN_of (by kernel_rfl) ?_
      simp (config := { maxSteps := 10000000 }) (disch := first | omega | assumption) only [go_sem, ↓reduceIte, Nat.reduceEqDiff, reduceCtorEq, Nat.reduceAdd, Nat.reduceMul, Nat.reduceLeDiff, zfu, Int.mul_def, Int.add_def, zfv, cond_false, cond_true, isub, ti2, ti3, ti4, ti22, ti23, ti31, ti33, s0, s2, r2, s3, s5, s6]
      refine ⟨i64c (by omega), .inr ⟨by omega, ?_⟩⟩
      subst hi0
      exact ⟨rfl, rfl⟩
    · simp (config := { maxSteps := 10000000 }) (disch := first | omega | assumption) only [go_sem, ↓reduceIte, Nat.reduceEqDiff, reduceCtorEq, Nat.reduceAdd, Nat.reduceMul, Nat.reduceLeDiff, zfu, Int.mul_def, Int.add_def, zfv, cond_false, cond_true, isub, ti2, ti3, ti4, ti22, ti23, ti31, ti33, s0, s2, r2, s3, s5, s6, q3, q4, hi']
      refine CLLD_pure _ c126' rfl rfl ?_
      simp (config := { maxSteps := 10000000 }) (disch := first | omega | assumption) only [go_sem, ↓reduceIte, Nat.reduceEqDiff, reduceCtorEq, Nat.reduceAdd, Nat.reduceMul, Nat.reduceLeDiff, zfu, Int.mul_def, Int.add_def, zfv, cond_false, cond_true, isub, ti2, ti3, ti4, ti22, ti23, ti31, ti33, s0, s2, r2, s3, s5, s6, q3, q4, impE_row, pureL, pureA, hi2]
      refine FIN_of (by kernel_rfl) ?_
      simp (config := { maxSteps := 10000000 }) (disch := first | omega | assumption) only [go_sem, ↓reduceIte, Nat.reduceEqDiff, reduceCtorEq, Nat.reduceAdd, Nat.reduceMul, Nat.reduceLeDiff, zfu, Int.mul_def, Int.add_def, zfv, cond_false, cond_true, isub, ti2, ti3, ti4, ti22, ti23, ti31, ti33, s0, s2, r2, s3, s5, s6]
      exact ⟨i64c (by omega), .inr trivial⟩
  · rintro sl ro gn ⟨s0, s2, r2, s3, s5, s6, r3⟩
    dsimp only at s0 s2 r2 s3 s5 s6 r3
    rcases r3 with ⟨hi0, q3⟩ | ⟨hi0, q3, q4⟩
    · omega
    · have hi' : ¬ (n : Int) < n := by omega
      simp (config := { maxSteps := 10000000 }) (disch := first | omega | assumption) only [go_sem, ↓reduceIte, Nat.reduceEqDiff, reduceCtorEq, Nat.reduceAdd, Nat.reduceMul, Nat.reduceLeDiff, zfu, Int.mul_def, Int.add_def, zfv, cond_false, cond_true, isub, ti2, ti3, ti4, ti22, ti23, ti31, ti33, s0, s2, r2, s3, s5, s6, q3, q4, hi']
      simp only [zbj, zbk, retR, resL, outT, zes, zez, oneV, ↓zcy, ↓zcz, ↓reduceIte, Nat.reduceEqDiff, Option.some.injEq, AV.sc.injEq, Value.bool.injEq, Value.int.injEq, outL, outT, zft, zcp, zed, zef, zei, zeh, List.length_cons, List.length_nil, Nat.reduceAdd, Nat.zero_add, Nat.reduceLeDiff, List.drop_zero, List.take_succ_cons, List.take_zero, zfi, zfh, Ro.dl, zdb, zda, zfe, and_self, and_true, true_and, eq_self, List.append_nil, List.nil_append, List.cons_append, ne_eq, not_false_eq_true, and_false, false_and, Bool.false_eq_true, St.ev, zes, zfn, s2, ti33, q3, q4]

set_option maxRecDepth 1000000 in
theorem c149 {x lo hi : Int} : CallOK Try.prog 149 [i64 x, .iptr [i64 lo], .iptr [i64 hi]] (bo (!decide (lo ≤ x ∧ x ≤ hi))) := by
  refine call_of (fn := Try.f149) (code := bodyOf Try.f149) Try.func149 rfl (by kernel_rfl) rfl ?_
  intro sl hs
  have s0 : sl 0 = i64 x := hs 0
  have s1 : sl 1 = .iptr [i64 lo] := hs 1
  have s2 : sl 2 = .iptr [i64 hi] := hs 2
  simp only [Try.f149, bodyOf, Option.getD, go_sem, ↓reduceIte, Nat.reduceEqDiff, reduceCtorEq, Nat.reduceAdd, Nat.reduceMul, Nat.reduceLeDiff, ti2, ti4, s0, s1, s2]
  refine CLL_pure _ c40 rfl rfl rfl ?_
  simp (config := { maxSteps := 10000000 }) (disch := first | omega | assumption) only [go_sem, ↓reduceIte, Nat.reduceEqDiff, reduceCtorEq, Nat.reduceAdd, Nat.reduceMul, Nat.reduceLeDiff, zfu, Int.mul_def, Int.add_def, zfv, cond_false, cond_true, isub, ti2, ti4, s0, s1, s2]
  simp only [zbj, zbk, retR, resL, outT, zes, zez, oneV, ↓zcy, ↓zcz, ↓reduceIte, Nat.reduceEqDiff, Option.some.injEq, AV.sc.injEq, Value.bool.injEq, Value.int.injEq, outL, outT, zft, zcp, zed, zef, zei, zeh, List.length_cons, List.length_nil, Nat.reduceAdd, Nat.zero_add, Nat.reduceLeDiff, List.drop_zero, List.take_succ_cons, List.take_zero, zfi, zfh, Ro.dl, zdb, zda, zfe, and_self, and_true, true_and, eq_self, List.append_nil, List.nil_append, List.cons_append, ne_eq, not_false_eq_true, and_false, false_and, Bool.false_eq_true, St.ev, zes, zfn]

/-- All numbers lie within bounds. -/
def allW (xs : List Int) (lo hi : Int) : Bool := !decide (0 ≤ ixp (fun x => !decide (lo ≤ x ∧ x ≤ hi)) xs 0)
theorem allW_iff {xs : List Int} {lo hi : Int} : allW xs lo hi = true ↔ ∀ k, k < xs.length → lo ≤ atI xs k ∧ atI xs k ≤ hi := by
  unfold allW
  rw [Bool.not_eq_true', decide_eq_false_iff_not, ixp_neg]
  constructor
  · intro h k hk
    by_cases h2 : lo ≤ atI xs k ∧ atI xs k ≤ hi
    · exact h2
    · exact absurd ⟨k, hk, by simp [h2]⟩ h
  · rintro h ⟨k, hk, h2⟩
    simp [h k hk] at h2

set_option maxRecDepth 1000000 in
theorem c129 {a : AV} {xs : List Int} {lo hi : Int} (ha : isL a xs) (hx : xs.length ≤ maxN) : CallOK Try.prog 129 [a, i64 lo, i64 hi] (bo (allW xs lo hi)) := by
  refine call_of (fn := Try.f129) (code := bodyOf Try.f129) Try.func129 rfl (by kernel_rfl) rfl ?_
  intro sl hs
  have s0 : sl 0 = a := hs 0
  have s1 : sl 1 = i64 lo := hs 1
  have s2 : sl 2 = i64 hi := hs 2
  simp only [Try.f129, bodyOf, Option.getD, go_sem, ↓reduceIte, Nat.reduceEqDiff, reduceCtorEq, Nat.reduceAdd, Nat.reduceMul, Nat.reduceLeDiff, ti2, ti4, s0, s1, s2]
  refine CLL_args _ (c95 (g := 149) (caps := [.iptr [i64 lo], .iptr [i64 hi]]) ha hx rfl rfl fun x => c149) ?_ rfl rfl rfl ?_
  · unfold argsX
    rw [if_neg (by simp [pureL, pureA])]
    show [ex _ 8 a, AV.fn 149 [ex _ 7 _, ex _ 7 _]] = _
    rw [isL_ex8 _ ha]
    simp only [ex, zef, ↓zcy, ↓zcz, ↓zda, ↓zdb, ↓reduceIte, Nat.reduceEqDiff, and_true, true_and, and_self, ne_eq, not_false_eq_true, eq_self, false_and, and_false, reduceCtorEq, zei, List.drop_zero, List.map_cons, List.map_nil]
  · simp (config := { maxSteps := 10000000 }) (disch := first | omega | assumption) only [go_sem, ↓reduceIte, Nat.reduceEqDiff, reduceCtorEq, Nat.reduceAdd, Nat.reduceMul, Nat.reduceLeDiff, zfu, Int.mul_def, Int.add_def, zfv, cond_false, cond_true, isub, ti2, ti4, s0, s1, s2]
    simp only [zbj, zbk, retR, resL, outT, zes, zez, oneV, ↓zcy, ↓zcz, ↓reduceIte, Nat.reduceEqDiff, Option.some.injEq, AV.sc.injEq, Value.bool.injEq, Value.int.injEq, outL, outT, zft, zcp, zed, zef, zei, zeh, List.length_cons, List.length_nil, Nat.reduceAdd, Nat.zero_add, Nat.reduceLeDiff, List.drop_zero, List.take_succ_cons, List.take_zero, zfi, zfh, Ro.dl, zdb, zda, zfe, and_self, and_true, true_and, eq_self, List.append_nil, List.nil_append, List.cons_append, ne_eq, not_false_eq_true, and_false, false_and, Bool.false_eq_true, St.ev, zes, zfn, allW]

set_option maxRecDepth 1000000 in
theorem c128 {a : AV} {xs : List Int} {n : Nat} (ha : isL a xs) (hx : xs.length ≤ maxN) : CallOK Try.prog 128 [a, .iptr [i64 n]] (bo (!(decide (xs.length = n) && allW xs 0 1000))) := by
  refine call_of (fn := Try.f128) (code := bodyOf Try.f128) Try.func128 rfl (by kernel_rfl) rfl ?_
  intro sl hs
  have s0 : sl 0 = a := hs 0
  have s1 : sl 1 = .iptr [i64 n] := hs 1
  by_cases h : xs.length = n
  · have h' : (xs.length : Int) = n := by omega
    simp only [Try.f128, bodyOf, Option.getD, go_sem, ↓reduceIte, Nat.reduceEqDiff, reduceCtorEq, Nat.reduceAdd, Nat.reduceMul, Nat.reduceLeDiff, ti2, ti3, ti4, ti23, s0, s1, isL_len ha, eq_true h']
    refine CLL_pure _ (c129 ha hx) (by simp only [pureL, isL_pure ha, pureA, Bool.and_self]) rfl rfl ?_
    simp (config := { maxSteps := 10000000 }) (disch := first | omega | assumption) only [go_sem, ↓reduceIte, Nat.reduceEqDiff, reduceCtorEq, Nat.reduceAdd, Nat.reduceMul, Nat.reduceLeDiff, zfu, Int.mul_def, Int.add_def, zfv, cond_false, cond_true, isub, ti2, ti4, s0, s1]
    simp only [zbj, zbk, retR, resL, outT, zes, zez, oneV, ↓zcy, ↓zcz, ↓reduceIte, Nat.reduceEqDiff, Option.some.injEq, AV.sc.injEq, Value.bool.injEq, Value.int.injEq, outL, outT, zft, zcp, zed, zef, zei, zeh, List.length_cons, List.length_nil, Nat.reduceAdd, Nat.zero_add, Nat.reduceLeDiff, List.drop_zero, List.take_succ_cons, List.take_zero, zfi, zfh, Ro.dl, zdb, zda, zfe, and_self, and_true, true_and, eq_self, List.append_nil, List.nil_append, List.cons_append, ne_eq, not_false_eq_true, and_false, false_and, Bool.false_eq_true, St.ev, zes, zfn, decide_eq_true h, Bool.true_and]
  · have h' : ¬ (xs.length : Int) = n := by omega
    simp only [Try.f128, bodyOf, Option.getD, go_sem, ↓reduceIte, Nat.reduceEqDiff, reduceCtorEq, Nat.reduceAdd, Nat.reduceMul, Nat.reduceLeDiff, ti2, ti3, ti4, ti23, s0, s1, isL_len ha, eq_false h']
    simp only [zbj, zbk, retR, resL, outT, zes, zez, oneV, ↓zcy, ↓zcz, ↓reduceIte, Nat.reduceEqDiff, Option.some.injEq, AV.sc.injEq, Value.bool.injEq, Value.int.injEq, outL, outT, zft, zcp, zed, zef, zei, zeh, List.length_cons, List.length_nil, Nat.reduceAdd, Nat.zero_add, Nat.reduceLeDiff, List.drop_zero, List.take_succ_cons, List.take_zero, zfi, zfh, Ro.dl, zdb, zda, zfe, and_self, and_true, true_and, eq_self, List.append_nil, List.nil_append, List.cons_append, ne_eq, not_false_eq_true, and_false, false_and, Bool.false_eq_true, St.ev, zes, zfn, decide_eq_false h, Bool.false_and, Bool.not_false]

set_option maxRecDepth 1000000 in
theorem c148 {a : AV} {xss : List (List Int)} {g : Nat} {caps : List AV} {p : Nat → Bool} (ha : isLL a xss) (hx : xss.length ≤ maxN) (hi : XX.isIn g = false) (hcp : pureL caps = true) (hc : ∀ k, k < xss.length → CallOK Try.prog g (atA a k :: caps) (bo (p k))) {z : Int} (hz1 : (∀ k, k < xss.length → p k = false) → z = -1) (hz2 : ∀ k, k < xss.length → p k = true → (∀ j, j < k → p j = false) → z = k) :
    CallOK Try.prog 148 [a, .fn g caps] (i64 z) := by
  refine call_of (fn := Try.f148) (code := bodyOf Try.f148) Try.func148 rfl (by kernel_rfl) rfl ?_
  intro sl hs
  have s0 : sl 0 = a := hs 0
  have s1 : sl 1 = .fn g caps := hs 1
  have hx' : xss.length ≤ 4294967296 := hx
  simp only [Try.f148, bodyOf, Option.getD, go_sem, ↓reduceIte, Nat.reduceEqDiff, reduceCtorEq, Nat.reduceAdd, Nat.reduceMul, Nat.reduceLeDiff, ti2, ti3, ti4, ti22, ti23, s0, s1, isLL_len ha]
  refine WK_for (fun k st => st.sl 0 = a ∧ st.sl 1 = .fn g caps ∧ st.sl 7 = i64 (xss.length : Int) ∧ st.sl 8 = i64 (k : Int) ∧ ∀ j, j < k → p j = false) xss.length ?_ ?_ ?_
  · simp only [↓zcy, ↓zcz, ↓zda, ↓zdb, ↓reduceIte, Nat.reduceEqDiff, and_true, true_and, and_self, ne_eq, not_false_eq_true, eq_self, false_and, and_false, reduceCtorEq, s0, s1]
    exact ⟨rfl, fun j hj => absurd hj (Nat.not_lt_zero _)⟩
  · rintro k sl ro gn hk ⟨s0, s1, s7, s8, hp⟩
    dsimp only at s0 s1 s7 s8
    have hk' : (k : Int) < xss.length := by omega
    simp (config := { maxSteps := 10000000 }) (disch := first | omega | assumption) only [go_sem, ↓reduceIte, Nat.reduceEqDiff, reduceCtorEq, Nat.reduceAdd, Nat.reduceMul, Nat.reduceLeDiff, zfu, Int.mul_def, Int.add_def, zfv, cond_false, cond_true, isub, ti2, ti3, ti4, ti22, ti23, s0, s1, s7, s8, isLL_idx ha hk, hk']
    refine CLL_pure _ (hc k hk) (by simp only [List.cons_append, List.nil_append, pureL, isL_pure (isLL_row ha hk), hcp, Bool.and_self]) hi rfl ?_
    cases hpx : p k with
    | true =>
      simp (config := { maxSteps := 10000000 }) (disch := first | omega | assumption) only [go_sem, ↓reduceIte, Nat.reduceEqDiff, reduceCtorEq, Nat.reduceAdd, Nat.reduceMul, Nat.reduceLeDiff, zfu, Int.mul_def, Int.add_def, zfv, cond_false, cond_true, isub, ti2, ti3, ti4, ti23, s0, s1, s7, s8]
      simp only [zbj, zbk, retR, resL, outT, zes, zez, oneV, ↓zcy, ↓zcz, ↓reduceIte, Nat.reduceEqDiff, Option.some.injEq, AV.sc.injEq, Value.bool.injEq, Value.int.injEq, outL, outT, zft, zcp, zed, zef, zei, zeh, List.length_cons, List.length_nil, Nat.reduceAdd, Nat.zero_add, Nat.reduceLeDiff, List.drop_zero, List.take_succ_cons, List.take_zero, zfi, zfh, Ro.dl, zdb, zda, zfe, and_self, and_true, true_and, eq_self, List.append_nil, List.nil_append, List.cons_append, ne_eq, not_false_eq_true, and_false, false_and, Bool.false_eq_true, St.ev, zes, zfn]
      exact (hz2 k hk hpx hp).symm
    | false =>
      simp (config := { maxSteps := 10000000 }) (disch := first | omega | assumption) only [go_sem, ↓reduceIte, Nat.reduceEqDiff, reduceCtorEq, Nat.reduceAdd, Nat.reduceMul, Nat.reduceLeDiff, zfu, Int.mul_def, Int.add_def, zfv, cond_false, cond_true, isub, ti2, ti3, ti4, ti23, s0, s1, s7, s8]
      refine ⟨i64c (by omega), fun j hj => ?_⟩
      rcases Nat.lt_or_ge j k with h | h
      · exact hp j h
      · have : j = k := by omega
        subst this; exact hpx
  · rintro sl ro gn ⟨s0, s1, s7, s8, hp⟩
    dsimp only at s0 s1 s7 s8
    have hk' : ¬ (xss.length : Int) < xss.length := by omega
    simp (config := { maxSteps := 10000000 }) (disch := first | omega | assumption) only [go_sem, ↓reduceIte, Nat.reduceEqDiff, reduceCtorEq, Nat.reduceAdd, Nat.reduceMul, Nat.reduceLeDiff, zfu, Int.mul_def, Int.add_def, zfv, cond_false, cond_true, isub, ti2, ti3, ti4, ti22, ti23, s0, s1, s7, s8, hk']
    simp only [zbj, zbk, retR, resL, outT, zes, zez, oneV, ↓zcy, ↓zcz, ↓reduceIte, Nat.reduceEqDiff, Option.some.injEq, AV.sc.injEq, Value.bool.injEq, Value.int.injEq, outL, outT, zft, zcp, zed, zef, zei, zeh, List.length_cons, List.length_nil, Nat.reduceAdd, Nat.zero_add, Nat.reduceLeDiff, List.drop_zero, List.take_succ_cons, List.take_zero, zfi, zfh, Ro.dl, zdb, zda, zfe, and_self, and_true, true_and, eq_self, List.append_nil, List.nil_append, List.cons_append, ne_eq, not_false_eq_true, and_false, false_and, Bool.false_eq_true, St.ev, zes, zfn]
    exact (hz1 hp).symm

set_option maxRecDepth 1000000 in
theorem c127 {a : AV} {xss : List (List Int)} {g : Nat} {caps : List AV} {p : Nat → Bool} (ha : isLL a xss) (hx : xss.length ≤ maxN) (hi : XX.isIn g = false) (hcp : pureL caps = true) (hc : ∀ k, k < xss.length → CallOK Try.prog g (atA a k :: caps) (bo (p k))) {t : Bool} (ht : t = true ↔ ∃ k, k < xss.length ∧ p k = true) :
    CallOK Try.prog 127 [a, .fn g caps] (bo t) := by
  refine call_of (fn := Try.f127) (code := bodyOf Try.f127) Try.func127 rfl (by kernel_rfl) rfl ?_
  intro sl hs
  have s0 : sl 0 = a := hs 0
  have s1 : sl 1 = .fn g caps := hs 1
  simp only [Try.f127, bodyOf, Option.getD, go_sem, ↓reduceIte, Nat.reduceEqDiff, reduceCtorEq, Nat.reduceAdd, Nat.reduceMul, Nat.reduceLeDiff, ti2, ti3, ti4, ti23, s0, s1]
  by_cases h : ∃ k, k < xss.length ∧ p k = true
  · have : ∃ m : Nat, m < xss.length ∧ p m = true ∧ ∀ j, j < m → p j = false := by
      obtain ⟨m, h1, h2⟩ := h
      induction m using Nat.strongRecOn with
      | ind m ih =>
        by_cases h3 : ∃ j, j < m ∧ p j = true
        · obtain ⟨j, h4, h5⟩ := h3; exact ih j h4 (by omega) h5
        · refine ⟨m, h1, h2, fun j hj => ?_⟩
          cases he : p j with
          | false => rfl
          | true => exact absurd ⟨j, hj, he⟩ h3
    obtain ⟨m, h1, h2, h3⟩ := this
    have ht' : t = true := ht.2 h
    refine CLL_pure _ (c148 (z := (m : Int)) ha hx hi hcp hc (fun h4 => by rw [h4 m h1] at h2; cases h2) (fun k hk hpk hj => ?_)) (by simp only [pureL, isLL_pure ha, pureA, hcp, Bool.and_self]) rfl rfl ?_
    · rcases Nat.lt_trichotomy m k with h4 | h4 | h4
      · rw [hj m h4] at h2; cases h2
      · rw [h4]
      · rw [h3 k h4] at hpk; cases hpk
    · have hge : ¬ ((m : Int) < 0) := by omega
      simp (config := { maxSteps := 10000000 }) (disch := first | omega | assumption) only [go_sem, ↓reduceIte, Nat.reduceEqDiff, reduceCtorEq, Nat.reduceAdd, Nat.reduceMul, Nat.reduceLeDiff, zfu, Int.mul_def, Int.add_def, zfv, cond_false, cond_true, isub, ti3, ti4, s0, s1, hge]
      simp only [zbj, zbk, retR, resL, outT, zes, zez, oneV, ↓zcy, ↓zcz, ↓reduceIte, Nat.reduceEqDiff, Option.some.injEq, AV.sc.injEq, Value.bool.injEq, Value.int.injEq, outL, outT, zft, zcp, zed, zef, zei, zeh, List.length_cons, List.length_nil, Nat.reduceAdd, Nat.zero_add, Nat.reduceLeDiff, List.drop_zero, List.take_succ_cons, List.take_zero, zfi, zfh, Ro.dl, zdb, zda, zfe, and_self, and_true, true_and, eq_self, List.append_nil, List.nil_append, List.cons_append, ne_eq, not_false_eq_true, and_false, false_and, Bool.false_eq_true, St.ev, zes, zfn, ht']
  · have ht' : t = false := by
      cases h2 : t with
      | false => rfl
      | true => exact absurd (ht.1 h2) h
    refine CLL_pure _ (c148 (z := -1) ha hx hi hcp hc (fun _ => rfl) (fun k hk hpk hj => absurd ⟨k, hk, hpk⟩ h)) (by simp only [pureL, isLL_pure ha, pureA, hcp, Bool.and_self]) rfl rfl ?_
    have hlt : (-1 : Int) < 0 := by decide
    simp (config := { maxSteps := 10000000 }) (disch := first | omega | assumption) only [go_sem, ↓reduceIte, Nat.reduceEqDiff, reduceCtorEq, Nat.reduceAdd, Nat.reduceMul, Nat.reduceLeDiff, zfu, Int.mul_def, Int.add_def, zfv, cond_false, cond_true, isub, ti3, ti4, s0, s1, hlt]
    simp only [zbj, zbk, retR, resL, outT, zes, zez, oneV, ↓zcy, ↓zcz, ↓reduceIte, Nat.reduceEqDiff, Option.some.injEq, AV.sc.injEq, Value.bool.injEq, Value.int.injEq, outL, outT, zft, zcp, zed, zef, zei, zeh, List.length_cons, List.length_nil, Nat.reduceAdd, Nat.zero_add, Nat.reduceLeDiff, List.drop_zero, List.take_succ_cons, List.take_zero, zfi, zfh, Ro.dl, zdb, zda, zfe, and_self, and_true, true_and, eq_self, List.append_nil, List.nil_append, List.cons_append, ne_eq, not_false_eq_true, and_false, false_and, Bool.false_eq_true, St.ev, zes, zfn, ht']

/-- A cube as a value. -/
abbrev immC (F : Nat → Nat → Nat → Int) (n : Nat) : AV := .imm (rws (fun i => .imm (rws (fun j => .imm (rws (fun k => i64 (F i j k)) n)) n)) n)
def plane (F : Nat → Nat → Nat → Int) (n i : Nat) : List (List Int) := rws (fun j => rws (fun k => F i j k) n) n
theorem isLL_plane (F : Nat → Nat → Nat → Int) (n i : Nat) : isLL (.imm (rws (fun j => .imm (rws (fun k => i64 (F i j k)) n)) n)) (plane F n i) := by
  have : (AV.imm (rws (fun j => .imm (rws (fun k => i64 (F i j k)) n)) n)) = immLL (plane F n i) := by simp only [immLL, immL, plane, rws_map]
  rw [this]; exact isLL_imm _
theorem kIdx_immrws {ro : Ro} {f : Nat → AV} {n k : Nat} (hk : k < n) {a1 : Nat} {a2 : Bool} {a3 : List Value} {e : Nat} {a5 : List (Nat × Nat)} {a6 : Option IntKind} {a7 a8 : Bool} : kIdx (some ⟨a1, a2, a3, some e, a5, a6, a7, a8⟩) ro (.imm (rws f n)) (i64 (k : Int)) = some ⟨.iptr [f k], none, [], []⟩ := by
  simp [kIdx, rws_get f n k hk]
theorem kLen_immrws {ro : Ro} {f : Nat → AV} {n : Nat} {a1 : Nat} {a2 : Bool} {a3 : List Value} {e : Nat} {a5 : List (Nat × Nat)} {a6 : Option IntKind} {a7 a8 : Bool} : kLen1 (some ⟨a1, a2, a3, some e, a5, a6, a7, a8⟩) ro (.imm (rws f n)) = some ⟨i64 n, none, [], []⟩ := by
  simp [kLen1, zfe]
def cubeOk (F : Nat → Nat → Nat → Int) (n : Nat) : Prop := ∀ i, i < n → ∀ j, j < n → ∀ k, k < n → 0 ≤ F i j k ∧ F i j k ≤ 1000

set_option maxRecDepth 1000000 in
theorem c105 {F : Nat → Nat → Nat → Int} {n : Nat} (h0 : 0 < n) (hn : n ≤ maxN) {t : Bool} (ht : t = true ↔ (cubeOk F n ∧ n ≤ 16)) : CallOK Try.prog 105 [.agg [immC F n]] (bo t) := by
  refine call_of (fn := Try.f105) (code := bodyOf Try.f105) Try.func105 rfl (by kernel_rfl) rfl ?_
  intro sl hs
  have s0 : sl 0 = .agg [immC F n] := hs 0
  have hn' : n ≤ 4294967296 := hn
  simp only [Try.f105, bodyOf, Option.getD, go_sem, ↓reduceIte, Nat.reduceEqDiff, reduceCtorEq, Nat.reduceAdd, Nat.reduceMul, Nat.reduceLeDiff, ti2, ti3, ti4, ti22, ti23, ti31, ti33, s0, kLen_immrws, List.map_nil]
  refine WK_for (fun i st => st.sl 1 = .ptr 4096 1 [] 0 ∧ st.ro 4096 1 = some (.bx [immC F n]) ∧ st.sl 3 = .ptr 8240 1 [] 0 ∧ st.ro 8240 1 = some (.bx [i64 n]) ∧ st.sl 10 = immC F n ∧ st.sl 11 = i64 n ∧ st.sl 12 = i64 (i : Int) ∧ ∀ j, j < i → ∀ y, y < n → ∀ k, k < n → 0 ≤ F j y k ∧ F j y k ≤ 1000) n ?_ ?_ ?_
  · simp only [↓zcy, ↓zcz, ↓zda, ↓zdb, ↓reduceIte, Nat.reduceEqDiff, and_true, true_and, and_self, ne_eq, not_false_eq_true, eq_self, false_and, and_false, reduceCtorEq]
    exact ⟨rfl, fun j hj => absurd hj (Nat.not_lt_zero _)⟩
  · rintro i sl ro gn hi ⟨s1, r1, s3, r3, s10, s11, s12, hp⟩
    dsimp only at s1 r1 s3 r3 s10 s11 s12
    have hi' : (i : Int) < n := by omega
    have hpl := isLL_plane F n i
    have hpn : (plane F n i).length = n := zfe _ _
    simp (config := { maxSteps := 10000000 }) (disch := first | omega | assumption) only [go_sem, ↓reduceIte, Nat.reduceEqDiff, reduceCtorEq, Nat.reduceAdd, Nat.reduceMul, Nat.reduceLeDiff, zfu, Int.mul_def, Int.add_def, zfv, cond_false, cond_true, isub, ti2, ti3, ti4, ti22, ti23, ti31, ti33, s1, r1, s3, r3, s10, s11, s12, hi', kIdx_immrws hi, kLen_immrws]
    have hax : argsX ro [.imm (rws (fun j => .imm (rws (fun k => i64 (F i j k)) n)) n), .fn 128 [.ptr 8240 1 [] 0]] = [.imm (rws (fun j => .imm (rws (fun k => i64 (F i j k)) n)) n), .fn 128 [.iptr [i64 n]]] := by
      unfold argsX
      rw [if_neg (by simp [pureL, pureA])]
      have e1 : (AV.imm (rws (fun j => .imm (rws (fun k => i64 (F i j k)) n)) n)) = immLL (plane F n i) := by simp only [immLL, immL, plane, rws_map]
      rw [e1]
      show [ex _ 8 _, AV.fn 128 [ex _ 7 _]] = _
      rw [ex_immLL 5]
      simp only [ex, zef, r3, zei, List.drop_zero, List.map_cons, List.map_nil]
    have hrow : ∀ y, y < n → row (plane F n i) y = rws (fun k => F i y k) n := fun y hy => row_rws _ hy
    by_cases hb : ∃ y, y < n ∧ ∃ k, k < n ∧ ¬ (0 ≤ F i y k ∧ F i y k ≤ 1000)
    · refine CLL_args _ (c127 (t := true) (p := fun y => !(decide ((row (plane F n i) y).length = n) && allW (row (plane F n i) y) 0 1000)) hpl (by omega) rfl rfl (fun y hy => c128 (isLL_row hpl hy) (by rw [hrow y (by omega), zfe]; exact hn)) ?_) hax rfl rfl rfl ?_
      · refine ⟨fun _ => ?_, fun _ => rfl⟩
        obtain ⟨y, hy, k, hk, hbad⟩ := hb
        refine ⟨y, by omega, ?_⟩
        rw [hrow y hy, zfe]
        cases hw : allW (rws (fun k => F i y k) n) 0 1000 with
        | false => simp
        | true =>
          have := allW_iff.1 hw k (by rw [zfe]; exact hk)
          rw [atI_rws _ hk] at this
          exact absurd this hbad
      · simp (config := { maxSteps := 10000000 }) (disch := first | omega | assumption) only [go_sem, ↓reduceIte, Nat.reduceEqDiff, reduceCtorEq, Nat.reduceAdd, Nat.reduceMul, Nat.reduceLeDiff, zfu, Int.mul_def, Int.add_def, zfv, cond_false, cond_true, isub, ti2, ti3, ti4, ti22, ti23, ti31, ti33, s1, r1, s3, r3, s10, s11, s12]
        simp only [zbj, zbk, retR, resL, outT, zes, zez, oneV, ↓zcy, ↓zcz, ↓reduceIte, Nat.reduceEqDiff, Option.some.injEq, AV.sc.injEq, Value.bool.injEq, Value.int.injEq, outL, outT, zft, zcp, zed, zef, zei, zeh, List.length_cons, List.length_nil, Nat.reduceAdd, Nat.zero_add, Nat.reduceLeDiff, List.drop_zero, List.take_succ_cons, List.take_zero, zfi, zfh, Ro.dl, zdb, zda, zfe, and_self, and_true, true_and, eq_self, List.append_nil, List.nil_append, List.cons_append, ne_eq, not_false_eq_true, and_false, false_and, Bool.false_eq_true, St.ev, zes, zfn]
        cases t with
        | false => rfl
        | true =>
          obtain ⟨y, hy, k, hk, hbad⟩ := hb
          exact absurd ((ht.1 rfl).1 i hi y hy k hk) hbad
    · have hg : ∀ y, y < n → ∀ k, k < n → 0 ≤ F i y k ∧ F i y k ≤ 1000 := by
        intro y hy k hk
        by_cases h : 0 ≤ F i y k ∧ F i y k ≤ 1000
        · exact h
        · exact absurd ⟨y, hy, k, hk, h⟩ hb
      refine CLL_args _ (c127 (t := false) (p := fun y => !(decide ((row (plane F n i) y).length = n) && allW (row (plane F n i) y) 0 1000)) hpl (by omega) rfl rfl (fun y hy => c128 (isLL_row hpl hy) (by rw [hrow y (by omega), zfe]; exact hn)) ?_) hax rfl rfl rfl ?_
      · refine ⟨fun h => (by cases h), ?_⟩
        rintro ⟨y, hy, h⟩
        rw [hpn] at hy
        rw [hrow y hy, zfe] at h
        have : allW (rws (fun k => F i y k) n) 0 1000 = true := allW_iff.2 fun k hk => by
          rw [zfe] at hk
          rw [atI_rws _ hk]; exact hg y hy k hk
        simp [this] at h
      · simp (config := { maxSteps := 10000000 }) (disch := first | omega | assumption) only [go_sem, ↓reduceIte, Nat.reduceEqDiff, reduceCtorEq, Nat.reduceAdd, Nat.reduceMul, Nat.reduceLeDiff, zfu, Int.mul_def, Int.add_def, zfv, cond_false, cond_true, isub, ti2, ti3, ti4, ti22, ti23, ti31, ti33, s1, r1, s3, r3, s10, s11, s12]
        refine ⟨i64c (by omega), fun j hj => ?_⟩
        rcases Nat.lt_or_ge j i with h | h
        · exact hp j h
        · have : j = i := by omega
          subst this; exact hg
  · rintro sl ro gn ⟨s1, r1, s3, r3, s10, s11, s12, hp⟩
    dsimp only at s1 r1 s3 r3 s10 s11 s12
    have hi' : ¬ (n : Int) < n := by omega
    have hge : ¬ ((n : Int) < 1) := by omega
    by_cases hm : n ≤ 16
    · have hm' : ¬ ((16 : Int) < n) := by omega
      simp (config := { maxSteps := 10000000 }) (disch := first | omega | assumption) only [go_sem, ↓reduceIte, Nat.reduceEqDiff, reduceCtorEq, Nat.reduceAdd, Nat.reduceMul, Nat.reduceLeDiff, zfu, Int.mul_def, Int.add_def, zfv, cond_false, cond_true, isub, ti2, ti3, ti4, ti22, ti23, ti31, ti33, s1, r1, s3, r3, s10, s11, s12, hi', hge, hm']
      simp only [zbj, zbk, retR, resL, outT, zes, zez, oneV, ↓zcy, ↓zcz, ↓reduceIte, Nat.reduceEqDiff, Option.some.injEq, AV.sc.injEq, Value.bool.injEq, Value.int.injEq, outL, outT, zft, zcp, zed, zef, zei, zeh, List.length_cons, List.length_nil, Nat.reduceAdd, Nat.zero_add, Nat.reduceLeDiff, List.drop_zero, List.take_succ_cons, List.take_zero, zfi, zfh, Ro.dl, zdb, zda, zfe, and_self, and_true, true_and, eq_self, List.append_nil, List.nil_append, List.cons_append, ne_eq, not_false_eq_true, and_false, false_and, Bool.false_eq_true, St.ev, zes, zfn]
      exact (ht.2 ⟨hp, hm⟩).symm
    · have hm' : ((16 : Int) < n) := by omega
      simp (config := { maxSteps := 10000000 }) (disch := first | omega | assumption) only [go_sem, ↓reduceIte, Nat.reduceEqDiff, reduceCtorEq, Nat.reduceAdd, Nat.reduceMul, Nat.reduceLeDiff, zfu, Int.mul_def, Int.add_def, zfv, cond_false, cond_true, isub, ti2, ti3, ti4, ti22, ti23, ti31, ti33, s1, r1, s3, r3, s10, s11, s12, hi', hge, hm']
      simp only [zbj, zbk, retR, resL, outT, zes, zez, oneV, ↓zcy, ↓zcz, ↓reduceIte, Nat.reduceEqDiff, Option.some.injEq, AV.sc.injEq, Value.bool.injEq, Value.int.injEq, outL, outT, zft, zcp, zed, zef, zei, zeh, List.length_cons, List.length_nil, Nat.reduceAdd, Nat.zero_add, Nat.reduceLeDiff, List.drop_zero, List.take_succ_cons, List.take_zero, zfi, zfh, Ro.dl, zdb, zda, zfe, and_self, and_true, true_and, eq_self, List.append_nil, List.nil_append, List.cons_append, ne_eq, not_false_eq_true, and_false, false_and, Bool.false_eq_true, St.ev, zes, zfn]
      cases t with
      | false => rfl
      | true => exact absurd (ht.1 rfl).2 hm
end Go.Proofs.Ytifgeenipinnmaa
