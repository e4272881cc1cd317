/- Places by a test; inverses; cubes of zeros. -/
import Derived.Test.YtifgeenipinnmaaD3
set_option linter.all false
namespace Go.Proofs.Ytifgeenipinnmaa
open Go.RowKit
theorem ti31 : ti0 31 = some ⟨1, false, [Value.slice none 0 0], some 22, [], none, false, false⟩ := by kernel_rfl
theorem ti33 : ti0 33 = some ⟨1, true, [Value.slice none 0 0], none, [(0, 31)], none, false, false⟩ := by kernel_rfl
theorem ti77 : ti0 77 = some ⟨1, false, [Value.slice none 0 0], some 3, [], none, false, false⟩ := by kernel_rfl

/-- The first place at which a test holds, or -1. -/
def ixp (p : Int → Bool) : List Int → Nat → Int
  | [], _ => -1
  | x :: xs, k => if p x then k else ixp p xs (k + 1)
theorem ixp_some {p : Int → Bool} : ∀ {xs : List Int} {k : Nat} (b : Nat), k < xs.length → p (atI xs k) = true → (∀ j, j < k → p (atI xs j) = false) → ixp p xs b = (b + k : Nat)
  | x :: xs, 0, b, _, h, _ => by simp [atI] at h; simp [ixp, h]
  | x :: xs, k + 1, b, hk, h, hn => by
    have h0 : p x = false := by simpa [atI] using hn 0 (by omega)
    have := ixp_some (xs := xs) (k := k) (b + 1) (by simpa using hk) (by simpa [atI] using h) (fun j hj => by simpa [atI] using hn (j + 1) (by omega))
    simp only [ixp, h0, Bool.false_eq_true, if_false, this]; omega
  | [], _, _, hk, _, _ => by simp at hk
theorem ixp_none {p : Int → Bool} : ∀ {xs : List Int} (b : Nat), (∀ j, j < xs.length → p (atI xs j) = false) → ixp p xs b = -1
  | [], _, _ => rfl
  | x :: xs, b, hn => by
    have h0 : p x = false := by simpa [atI] using hn 0 (by simp)
    simp only [ixp, h0, Bool.false_eq_true, if_false]
    exact ixp_none (b + 1) fun j hj => by simpa [atI] using hn (j + 1) (by simpa using hj)

set_option maxRecDepth 1000000 in
theorem c93 {a : AV} {xs : List Int} {g : Nat} {caps : List AV} {p : Int → Bool} (ha : isL a xs) (hx : xs.length ≤ maxN) (hi : XX.isIn g = false) (hcp : pureL caps = true) (hc : ∀ x, CallOK Try.prog g (i64 x :: caps) (bo (p x))) : CallOK Try.prog 93 [a, .fn g caps] (i64 (ixp p xs 0)) := by
  refine call_of (fn := Try.f93) (code := bodyOf Try.f93) Try.func93 rfl (by kernel_rfl) rfl ?_
  intro sl hs
  have s0 : sl 0 = a := hs 0
  have s1 : sl 1 = .fn g caps := hs 1
  have hx' : xs.length ≤ 4294967296 := hx
  simp only [Try.f93, bodyOf, Option.getD, go_sem, ↓reduceIte, Nat.reduceEqDiff, reduceCtorEq, Nat.reduceAdd, Nat.reduceMul, Nat.reduceLeDiff, ti2, ti3, ti4, ti23, s0, s1, isL_len ha]
  refine WK_for (fun k st => st.sl 0 = a ∧ st.sl 1 = .fn g caps ∧ st.sl 7 = i64 (xs.length : Int) ∧ st.sl 8 = i64 (k : Int) ∧ ∀ j, j < k → p (atI xs j) = false) xs.length ?_ ?_ ?_
  · simp only [↓zcy, ↓zcz, ↓zda, ↓zdb, ↓reduceIte, Nat.reduceEqDiff, and_true, true_and, and_self, ne_eq, not_false_eq_true, eq_self, false_and, and_false, reduceCtorEq, s0, s1]
    exact ⟨rfl, fun j hj => absurd hj (Nat.not_lt_zero _)⟩
  · rintro k sl ro gn hk ⟨s0, s1, s7, s8, hp⟩
    dsimp only at s0 s1 s7 s8
    have hk' : (k : Int) < xs.length := by omega
    simp (config := { maxSteps := 10000000 }) (disch := first | omega | assumption) only [go_sem, ↓reduceIte, Nat.reduceEqDiff, reduceCtorEq, Nat.reduceAdd, Nat.reduceMul, Nat.reduceLeDiff, zfu, Int.mul_def, Int.add_def, zfv, cond_false, cond_true, isub, ti2, ti3, ti4, ti23, s0, s1, s7, s8, isL_idx ha hk, hk']
    refine CLL_pure _ (hc (atI xs k)) (by simp only [pureL, pureA, hcp, Bool.and_self]) hi rfl ?_
    cases hpx : p (atI xs k) with
    | true =>
      simp (config := { maxSteps := 10000000 }) (disch := first | omega | assumption) only [go_sem, ↓reduceIte, Nat.reduceEqDiff, reduceCtorEq, Nat.reduceAdd, Nat.reduceMul, Nat.reduceLeDiff, zfu, Int.mul_def, Int.add_def, zfv, cond_false, cond_true, isub, ti2, ti3, ti4, ti23, s0, s1, s7, s8]
      simp only [zbj, zbk, retR, resL, outT, zes, zez, oneV, ↓zcy, ↓zcz, ↓reduceIte, Nat.reduceEqDiff, Option.some.injEq, AV.sc.injEq, Value.bool.injEq, Value.int.injEq, outL, outT, zft, zcp, zed, zef, zei, zeh, List.length_cons, List.length_nil, Nat.reduceAdd, Nat.zero_add, Nat.reduceLeDiff, List.drop_zero, List.take_succ_cons, List.take_zero, zfi, zfh, Ro.dl, zdb, zda, zfe, and_self, and_true, true_and, eq_self, List.append_nil, List.nil_append, List.cons_append, ne_eq, not_false_eq_true, and_false, false_and, Bool.false_eq_true, St.ev, zes, zfn]
      have := ixp_some 0 hk hpx hp
      rw [this]; omega
    | false =>
      simp (config := { maxSteps := 10000000 }) (disch := first | omega | assumption) only [go_sem, ↓reduceIte, Nat.reduceEqDiff, reduceCtorEq, Nat.reduceAdd, Nat.reduceMul, Nat.reduceLeDiff, zfu, Int.mul_def, Int.add_def, zfv, cond_false, cond_true, isub, ti2, ti3, ti4, ti23, s0, s1, s7, s8]
      refine ⟨i64c (by omega), fun j hj => ?_⟩
      rcases Nat.lt_or_ge j k with h | h
      · exact hp j h
      · have : j = k := by omega
        subst this; exact hpx
  · rintro sl ro gn ⟨s0, s1, s7, s8, hp⟩
    dsimp only at s0 s1 s7 s8
    have hk' : ¬ (xs.length : Int) < xs.length := by omega
    simp (config := { maxSteps := 10000000 }) (disch := first | omega | assumption) only [go_sem, ↓reduceIte, Nat.reduceEqDiff, reduceCtorEq, Nat.reduceAdd, Nat.reduceMul, Nat.reduceLeDiff, zfu, Int.mul_def, Int.add_def, zfv, cond_false, cond_true, isub, ti2, ti3, ti4, ti23, s0, s1, s7, s8, hk']
    simp only [zbj, zbk, retR, resL, outT, zes, zez, oneV, ↓zcy, ↓zcz, ↓reduceIte, Nat.reduceEqDiff, Option.some.injEq, AV.sc.injEq, Value.bool.injEq, Value.int.injEq, outL, outT, zft, zcp, zed, zef, zei, zeh, List.length_cons, List.length_nil, Nat.reduceAdd, Nat.zero_add, Nat.reduceLeDiff, List.drop_zero, List.take_succ_cons, List.take_zero, zfi, zfh, Ro.dl, zdb, zda, zfe, and_self, and_true, true_and, eq_self, List.append_nil, List.nil_append, List.cons_append, ne_eq, not_false_eq_true, and_false, false_and, Bool.false_eq_true, St.ev, zes, zfn]
    rw [ixp_none 0 hp]

set_option maxRecDepth 1000000 in
theorem c95 {a : AV} {xs : List Int} {g : Nat} {caps : List AV} {p : Int → Bool} (ha : isL a xs) (hx : xs.length ≤ maxN) (hi : XX.isIn g = false) (hcp : pureL caps = true) (hc : ∀ x, CallOK Try.prog g (i64 x :: caps) (bo (p x))) : CallOK Try.prog 95 [a, .fn g caps] (bo (decide (0 ≤ ixp p xs 0))) := by
  refine call_of (fn := Try.f95) (code := bodyOf Try.f95) Try.func95 rfl (by kernel_rfl) rfl ?_
  intro sl hs
  have s0 : sl 0 = a := hs 0
  have s1 : sl 1 = .fn g caps := hs 1
  simp only [Try.f95, bodyOf, Option.getD, go_sem, ↓reduceIte, Nat.reduceEqDiff, reduceCtorEq, Nat.reduceAdd, Nat.reduceMul, Nat.reduceLeDiff, ti2, ti3, ti4, ti23, s0, s1]
  refine CLL_pure _ (c93 ha hx hi hcp hc) (by simp only [pureL, isL_pure ha, pureA, hcp, Bool.and_self]) rfl rfl ?_
  simp (config := { maxSteps := 10000000 }) (disch := first | omega | assumption) only [go_sem, ↓reduceIte, Nat.reduceEqDiff, reduceCtorEq, Nat.reduceAdd, Nat.reduceMul, Nat.reduceLeDiff, zfu, Int.mul_def, Int.add_def, zfv, cond_false, cond_true, isub, ti3, ti4, s0, s1]
  simp only [zbj, zbk, retR, resL, outT, zes, zez, oneV, ↓zcy, ↓zcz, ↓reduceIte, Nat.reduceEqDiff, Option.some.injEq, AV.sc.injEq, Value.bool.injEq, Value.int.injEq, outL, outT, zft, zcp, zed, zef, zei, zeh, List.length_cons, List.length_nil, Nat.reduceAdd, Nat.zero_add, Nat.reduceLeDiff, List.drop_zero, List.take_succ_cons, List.take_zero, zfi, zfh, Ro.dl, zdb, zda, zfe, and_self, and_true, true_and, eq_self, List.append_nil, List.nil_append, List.cons_append, ne_eq, not_false_eq_true, and_false, false_and, Bool.false_eq_true, St.ev, zes, zfn, ← decide_not, Int.not_lt]

set_option maxRecDepth 1000000 in
theorem c94 (x : Int) : CallOK Try.prog 94 [i64 x] (bo (decide (x ≠ 0))) := by
  refine call_of (fn := Try.f94) (code := bodyOf Try.f94) Try.func94 rfl (by kernel_rfl) rfl ?_
  intro sl hs
  have s0 : sl 0 = i64 x := hs 0
  simp only [Try.f94, bodyOf, Option.getD, go_sem, ↓reduceIte, Nat.reduceEqDiff, reduceCtorEq, Nat.reduceAdd, Nat.reduceMul, Nat.reduceLeDiff, ti2, ti4, s0]
  simp only [zbj, zbk, retR, resL, outT, zes, zez, oneV, ↓zcy, ↓zcz, ↓reduceIte, Nat.reduceEqDiff, Option.some.injEq, AV.sc.injEq, Value.bool.injEq, Value.int.injEq, outL, outT, zft, zcp, zed, zef, zei, zeh, List.length_cons, List.length_nil, Nat.reduceAdd, Nat.zero_add, Nat.reduceLeDiff, List.drop_zero, List.take_succ_cons, List.take_zero, zfi, zfh, Ro.dl, zdb, zda, zfe, and_self, and_true, true_and, eq_self, List.append_nil, List.nil_append, List.cons_append, ne_eq, not_false_eq_true, and_false, false_and, Bool.false_eq_true, St.ev, zes, zfn, ← decide_not]

set_option maxRecDepth 1000000 in
theorem c96 (x : Int) : CallOK Try.prog 96 [i64 x] (bo (decide (x ≠ 0))) := by
  refine call_of (fn := Try.f96) (code := bodyOf Try.f96) Try.func96 rfl (by kernel_rfl) rfl ?_
  intro sl hs
  have s0 : sl 0 = i64 x := hs 0
  simp only [Try.f96, bodyOf, Option.getD, go_sem, ↓reduceIte, Nat.reduceEqDiff, reduceCtorEq, Nat.reduceAdd, Nat.reduceMul, Nat.reduceLeDiff, ti2, ti4, s0]
  simp only [zbj, zbk, retR, resL, outT, zes, zez, oneV, ↓zcy, ↓zcz, ↓reduceIte, Nat.reduceEqDiff, Option.some.injEq, AV.sc.injEq, Value.bool.injEq, Value.int.injEq, outL, outT, zft, zcp, zed, zef, zei, zeh, List.length_cons, List.length_nil, Nat.reduceAdd, Nat.zero_add, Nat.reduceLeDiff, List.drop_zero, List.take_succ_cons, List.take_zero, zfi, zfh, Ro.dl, zdb, zda, zfe, and_self, and_true, true_and, eq_self, List.append_nil, List.nil_append, List.cons_append, ne_eq, not_false_eq_true, and_false, false_and, Bool.false_eq_true, St.ev, zes, zfn, ← decide_not]

set_option maxRecDepth 1000000 in
theorem c122 {a : AV} {xs : List Int} {n : Int} (ha : isL a xs) (hx : xs.length ≤ maxN) : CallOK Try.prog 122 [a, i64 n] (i64 (ix xs n 0)) := by
  refine call_of (fn := Try.f122) (code := bodyOf Try.f122) Try.func122 rfl (by kernel_rfl) rfl ?_
  intro sl hs
  have s0 : sl 0 = a := hs 0
  have s1 : sl 1 = i64 n := hs 1
  have hx' : xs.length ≤ 4294967296 := hx
  simp only [Try.f122, bodyOf, Option.getD, go_sem, ↓reduceIte, Nat.reduceEqDiff, reduceCtorEq, Nat.reduceAdd, Nat.reduceMul, Nat.reduceLeDiff, ti2, ti3, ti4, ti77, s0, s1, isL_len ha]
  refine WK_for (fun k st => st.sl 0 = a ∧ st.sl 1 = i64 n ∧ st.sl 7 = i64 (xs.length : Int) ∧ st.sl 8 = i64 (k : Int) ∧ ∀ j, j < k → atI xs j ≠ n) xs.length ?_ ?_ ?_
  · simp only [↓zcy, ↓zcz, ↓zda, ↓zdb, ↓reduceIte, Nat.reduceEqDiff, and_true, true_and, and_self, ne_eq, not_false_eq_true, eq_self, false_and, and_false, reduceCtorEq, s0, s1]
    exact ⟨rfl, fun j hj => absurd hj (Nat.not_lt_zero _)⟩
  · rintro k sl ro gn hk ⟨s0, s1, s7, s8, hp⟩
    dsimp only at s0 s1 s7 s8
    have hk' : (k : Int) < xs.length := by omega
    simp (config := { maxSteps := 10000000 }) (disch := first | omega | assumption) only [go_sem, ↓reduceIte, Nat.reduceEqDiff, reduceCtorEq, Nat.reduceAdd, Nat.reduceMul, Nat.reduceLeDiff, zfu, Int.mul_def, Int.add_def, zfv, cond_false, cond_true, isub, ti2, ti3, ti4, ti77, s0, s1, s7, s8, isL_idx ha hk, hk']
    refine ⟨fun he => ?_, fun hne => ⟨i64c (by omega), fun j hj => ?_⟩⟩
    · simp only [zbj, zbk, retR, resL, outT, zes, zez, oneV, ↓zcy, ↓zcz, ↓reduceIte, Nat.reduceEqDiff, Option.some.injEq, AV.sc.injEq, Value.bool.injEq, Value.int.injEq, outL, outT, zft, zcp, zed, zef, zei, zeh, List.length_cons, List.length_nil, Nat.reduceAdd, Nat.zero_add, Nat.reduceLeDiff, List.drop_zero, List.take_succ_cons, List.take_zero, zfi, zfh, Ro.dl, zdb, zda, zfe, and_self, and_true, true_and, eq_self, List.append_nil, List.nil_append, List.cons_append, ne_eq, not_false_eq_true, and_false, false_and, Bool.false_eq_true, St.ev, zes, zfn]
      have := ix_some 0 hk he.symm hp
      rw [this]; omega
    · rcases Nat.lt_or_ge j k with h | h
      · exact hp j h
      · have : j = k := by omega
        subst this; exact fun e => hne e.symm
  · rintro sl ro gn ⟨s0, s1, s7, s8, hp⟩
    dsimp only at s0 s1 s7 s8
    have hk' : ¬ (xs.length : Int) < xs.length := by omega
    simp (config := { maxSteps := 10000000 }) (disch := first | omega | assumption) only [go_sem, ↓reduceIte, Nat.reduceEqDiff, reduceCtorEq, Nat.reduceAdd, Nat.reduceMul, Nat.reduceLeDiff, zfu, Int.mul_def, Int.add_def, zfv, cond_false, cond_true, isub, ti2, ti3, ti4, ti77, s0, s1, s7, s8, hk']
    simp only [zbj, zbk, retR, resL, outT, zes, zez, oneV, ↓zcy, ↓zcz, ↓reduceIte, Nat.reduceEqDiff, Option.some.injEq, AV.sc.injEq, Value.bool.injEq, Value.int.injEq, outL, outT, zft, zcp, zed, zef, zei, zeh, List.length_cons, List.length_nil, Nat.reduceAdd, Nat.zero_add, Nat.reduceLeDiff, List.drop_zero, List.take_succ_cons, List.take_zero, zfi, zfh, Ro.dl, zdb, zda, zfe, and_self, and_true, true_and, eq_self, List.append_nil, List.nil_append, List.cons_append, ne_eq, not_false_eq_true, and_false, false_and, Bool.false_eq_true, St.ev, zes, zfn]
    rw [ix_none 0 hp]

set_option maxRecDepth 1000000 in
theorem c97 {a : AV} {xs : List Int} {n : Int} (ha : isL a xs) (hx : xs.length ≤ maxN) : CallOK Try.prog 97 [a, i64 n] (bo (decide (0 ≤ ix xs n 0))) := by
  refine call_of (fn := Try.f97) (code := bodyOf Try.f97) Try.func97 rfl (by kernel_rfl) rfl ?_
  intro sl hs
  have s0 : sl 0 = a := hs 0
  have s1 : sl 1 = i64 n := hs 1
  simp only [Try.f97, bodyOf, Option.getD, go_sem, ↓reduceIte, Nat.reduceEqDiff, reduceCtorEq, Nat.reduceAdd, Nat.reduceMul, Nat.reduceLeDiff, ti2, ti3, ti4, ti77, s0, s1]
  refine CLL_pure _ (c122 ha hx) (by simp only [pureL, isL_pure ha, pureA, Bool.and_self]) rfl rfl ?_
  simp (config := { maxSteps := 10000000 }) (disch := first | omega | assumption) only [go_sem, ↓reduceIte, Nat.reduceEqDiff, reduceCtorEq, Nat.reduceAdd, Nat.reduceMul, Nat.reduceLeDiff, zfu, Int.mul_def, Int.add_def, zfv, cond_false, cond_true, isub, ti3, ti4, s0, s1]
  simp only [zbj, zbk, retR, resL, outT, zes, zez, oneV, ↓zcy, ↓zcz, ↓reduceIte, Nat.reduceEqDiff, Option.some.injEq, AV.sc.injEq, Value.bool.injEq, Value.int.injEq, outL, outT, zft, zcp, zed, zef, zei, zeh, List.length_cons, List.length_nil, Nat.reduceAdd, Nat.zero_add, Nat.reduceLeDiff, List.drop_zero, List.take_succ_cons, List.take_zero, zfi, zfh, Ro.dl, zdb, zda, zfe, and_self, and_true, true_and, eq_self, List.append_nil, List.nil_append, List.cons_append, ne_eq, not_false_eq_true, and_false, false_and, Bool.false_eq_true, St.ev, zes, zfn, ← decide_not, Int.not_lt]

set_option maxRecDepth 1000000 in
theorem c104 {a : AV} {xs : List Int} (ha : isL a xs) (hx : xs.length ≤ maxN) (nx : numL xs) : CallOK Try.prog 104 [a] (rowL (rws (fun i => qt 1 (atI xs i)) xs.length)) := by
  have e0 : rowL (rws (fun i => qt 1 (atI xs i)) xs.length) = .row (rws (fun i => i64 (qt 1 (atI xs i))) xs.length) := by simp only [rowL, rws_map]
  refine call_of (fn := Try.f104) (code := bodyOf Try.f104) Try.func104 rfl (by kernel_rfl) (noRef_rowL _) ?_
  rw [e0]
  intro sl hs
  have s0 : sl 0 = a := hs 0
  have hx' : xs.length ≤ 4294967296 := hx
  simp only [Try.f104, bodyOf, Option.getD, go_sem, ↓reduceIte, Nat.reduceEqDiff, reduceCtorEq, Nat.reduceAdd, Nat.reduceMul, Nat.reduceLeDiff, ti2, ti3, ti4, ti23, s0, isL_len ha]
  refine WK_for (fun k st => st.sl 7 = a ∧ st.sl 8 = i64 (xs.length : Int) ∧ st.sl 9 = i64 (k : Int) ∧ st.sl 3 = .ref 8192 (st.gn 8192) [] 0 k ∧ st.ro 8192 (st.gn 8192) = some (.row (rws (fun i => i64 (qt 1 (atI xs i))) k))) xs.length ?_ ?_ ?_
  · simp only [↓zcy, ↓zcz, ↓zda, ↓zdb, ↓reduceIte, Nat.reduceEqDiff, and_true, true_and, and_self, ne_eq, not_false_eq_true, eq_self, false_and, and_false, reduceCtorEq, s0, rws_zero]
    rfl
  · rintro k sl ro gn hk ⟨s7, s8, s9, s3, r3⟩
    dsimp only at s7 s8 s9 s3 r3
    have hk' : (k : Int) < xs.length := by omega
    have hk2 : k + 1 ≤ 4294967296 := by omega
    simp (config := { maxSteps := 10000000 }) (disch := first | omega | assumption) only [go_sem, ↓reduceIte, Nat.reduceEqDiff, reduceCtorEq, Nat.reduceAdd, Nat.reduceMul, Nat.reduceLeDiff, zfu, Int.mul_def, Int.add_def, zfv, cond_false, cond_true, isub, ti2, ti3, ti4, ti23, s7, s8, s9, s3, r3, isL_idx ha hk, hk']
    refine CLL_pure _ (c65 (by decide) (by decide) (nx k).1 (nx k).2) rfl rfl rfl ?_
    simp (config := { maxSteps := 10000000 }) (disch := first | omega | assumption) only [go_sem, ↓reduceIte, Nat.reduceEqDiff, reduceCtorEq, Nat.reduceAdd, Nat.reduceMul, Nat.reduceLeDiff, zfu, Int.mul_def, Int.add_def, zfv, cond_false, cond_true, isub, ti2, ti3, ti4, ti23, s7, s8, s9, s3, r3, hk2]
    exact i64c (by omega)
  · rintro sl ro gn ⟨s7, s8, s9, s3, r3⟩
    dsimp only at s7 s8 s9 s3 r3
    have hk' : ¬ (xs.length : Int) < xs.length := by omega
    simp (config := { maxSteps := 10000000 }) (disch := first | omega | assumption) only [go_sem, ↓reduceIte, Nat.reduceEqDiff, reduceCtorEq, Nat.reduceAdd, Nat.reduceMul, Nat.reduceLeDiff, zfu, Int.mul_def, Int.add_def, zfv, cond_false, cond_true, isub, ti2, ti3, ti4, ti23, s7, s8, s9, s3, r3, hk']
    simp only [zbj, zbk, retR, resL, outT, zes, zez, oneV, ↓zcy, ↓zcz, ↓reduceIte, Nat.reduceEqDiff, Option.some.injEq, AV.sc.injEq, Value.bool.injEq, Value.int.injEq, outL, outT, zft, zcp, zed, zef, zei, zeh, List.length_cons, List.length_nil, Nat.reduceAdd, Nat.zero_add, Nat.reduceLeDiff, List.drop_zero, List.take_succ_cons, List.take_zero, zfi, zfh, Ro.dl, zdb, zda, zfe, and_self, and_true, true_and, eq_self, List.append_nil, List.nil_append, List.cons_append, ne_eq, not_false_eq_true, and_false, false_and, Bool.false_eq_true, St.ev, zes, zfn, r3]
end Go.Proofs.Ytifgeenipinnmaa
