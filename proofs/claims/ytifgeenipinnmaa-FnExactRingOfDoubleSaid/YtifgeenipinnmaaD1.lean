/- Lists of numbers: sums, places. -/
import Derived.Test.YtifgeenipinnmaaK7
set_option linter.all false
namespace Go.Proofs.Ytifgeenipinnmaa
open Go.RowKit

/-- A number of the field. -/
def num (x : Int) : Prop := 0 ≤ x ∧ x < 55441
def numL (xs : List Int) : Prop := ∀ j, num (atI xs j)
def row (S : List (List Int)) (i : Nat) : List Int := S.getD i []
def numLL (S : List (List Int)) : Prop := ∀ i, numL (row S i)
def sm (f : Nat → Int) : Nat → Int
  | 0 => 0
  | n + 1 => sm f n + f n
theorem num_mod (x : Int) : num (x % 55441) := ⟨Int.emod_nonneg _ (by decide), Int.emod_lt_of_pos _ (by decide)⟩
theorem num_mul {a b : Int} (ha : num a) (hb : num b) : 0 ≤ a * b ∧ a * b ≤ 55440 * 55440 := bnd ha.1 ha.2 hb.1 hb.2
theorem sm_bnd {f : Nat → Int} {B : Int} (h : ∀ j, 0 ≤ f j ∧ f j ≤ B) : ∀ n : Nat, 0 ≤ sm f n ∧ sm f n ≤ n * B
  | 0 => by simp [sm]
  | n + 1 => by
    have ih := sm_bnd h n
    have h1 := h n
    simp only [sm, Int.natCast_add, Int.natCast_one, Int.add_mul, Int.one_mul]
    omega
theorem sm_mod (f : Nat → Int) : ∀ n : Nat, sm (fun j => f j % 55441) n % 55441 = sm f n % 55441
  | 0 => rfl
  | n + 1 => by
    simp only [sm]
    rw [Int.add_emod, sm_mod f n, Int.emod_emod_of_dvd _ (by decide : (55441:Int) ∣ 55441), ← Int.add_emod]
theorem sm_congr {f g : Nat → Int} : ∀ {n : Nat}, (∀ j, j < n → f j = g j) → sm f n = sm g n
  | 0, _ => rfl
  | n + 1, h => by simp only [sm]; rw [sm_congr fun j hj => h j (by omega), h n (by omega)]

theorem isLL_idx0 {a : AV} {xss : List (List Int)} (h : isLL a xss) (hk : 0 < xss.length) {ro : Ro} {a1 : Nat} {a2 : Bool} {a3 : List Value} {e : Nat} {a5 : List (Nat × Nat)} {a6 : Option IntKind} {a7 a8 : Bool} : kIdx (some ⟨a1, a2, a3, some e, a5, a6, a7, a8⟩) ro a (.sc (.int .i64 0)) = some ⟨.iptr [atA a 0], none, [], []⟩ := isLL_idx h hk
theorem isL_idx0 {a : AV} {xs : List Int} (h : isL a xs) (hk : 0 < xs.length) {ro : Ro} {a1 : Nat} {a2 : Bool} {a3 : List Value} {e : Nat} {a5 : List (Nat × Nat)} {a6 : Option IntKind} {a7 a8 : Bool} : kIdx (some ⟨a1, a2, a3, some e, a5, a6, a7, a8⟩) ro a (.sc (.int .i64 0)) = some ⟨.iptr [i64 (atI xs 0)], none, [], []⟩ := isL_idx h hk

/-- The first place of a number, or -1. -/
def ix : List Int → Int → Nat → Int
  | [], _, _ => -1
  | x :: xs, n, k => if x = n then k else ix xs n (k + 1)
theorem ix_some : ∀ {xs : List Int} {n : Int} {k : Nat} (b : Nat), k < xs.length → atI xs k = n → (∀ j, j < k → atI xs j ≠ n) → ix xs n b = (b + k : Nat)
  | x :: xs, n, 0, b, _, h, _ => by simp [atI] at h; simp [ix, h]
  | x :: xs, n, k + 1, b, hk, h, hn => by
    have h0 : x ≠ n := by simpa [atI] using hn 0 (by omega)
    have := ix_some (xs := xs) (n := n) (k := k) (b + 1) (by simpa using hk) (by simpa [atI] using h) (fun j hj => by simpa [atI] using hn (j + 1) (by omega))
    simp only [ix, if_neg h0, this]; omega
  | [], _, _, _, hk, _, _ => by simp at hk
theorem ix_none : ∀ {xs : List Int} {n : Int} (b : Nat), (∀ j, j < xs.length → atI xs j ≠ n) → ix xs n b = -1
  | [], _, _, _ => rfl
  | x :: xs, n, b, hn => by
    have h0 : x ≠ n := by simpa [atI] using hn 0 (by simp)
    simp only [ix, if_neg h0]
    exact ix_none (b + 1) fun j hj => by simpa [atI] using hn (j + 1) (by simpa using hj)

set_option maxRecDepth 1000000 in
theorem c87 {a : AV} {xs : List Int} {n : Int} (ha : isL a xs) (hx : xs.length ≤ maxN) : CallOK Try.prog 87 [a, i64 n] (i64 (ix xs n 0)) := by
  refine call_of (fn := Try.f87) (code := bodyOf Try.f87) Try.func87 rfl (by kernel_rfl) rfl ?_
  intro sl hs
  have s0 : sl 0 = a := hs 0
  have s1 : sl 1 = i64 n := hs 1
  have hx' : xs.length ≤ 4294967296 := hx
  simp only [Try.f87, bodyOf, Option.getD, go_sem, ↓reduceIte, Nat.reduceEqDiff, reduceCtorEq, Nat.reduceAdd, Nat.reduceMul, Nat.reduceLeDiff, ti2, ti3, ti4, ti23, s0, s1]
  refine WK_for (fun k st => st.sl 0 = a ∧ st.sl 1 = i64 n ∧ st.sl 5 = i64 (k : Int) ∧ ∀ j, j < k → atI xs j ≠ n) xs.length ?_ ?_ ?_
  · simp only [↓zcy, ↓zcz, ↓zda, ↓zdb, ↓reduceIte, Nat.reduceEqDiff, and_true, true_and, and_self, ne_eq, not_false_eq_true, eq_self, false_and, and_false, reduceCtorEq, s0, s1]
    exact ⟨rfl, fun j hj => absurd hj (Nat.not_lt_zero _)⟩
  · rintro k sl ro gn hk ⟨s0, s1, s5, hp⟩
    dsimp only at s0 s1 s5
    have hk' : (k : Int) < xs.length := by omega
    simp (config := { maxSteps := 10000000 }) (disch := first | omega | assumption) only [go_sem, ↓reduceIte, Nat.reduceEqDiff, reduceCtorEq, Nat.reduceAdd, Nat.reduceMul, Nat.reduceLeDiff, zfu, Int.mul_def, Int.add_def, zfv, cond_false, cond_true, isub, ti2, ti3, ti4, ti23, s0, s1, s5, isL_len ha, isL_idx ha hk, hk']
    refine ⟨fun he => ?_, fun hne => ⟨i64c (by omega), fun j hj => ?_⟩⟩
    · simp only [zbj, zbk, retR, resL, outT, zes, zez, oneV, ↓zcy, ↓zcz, ↓reduceIte, Nat.reduceEqDiff, Option.some.injEq, AV.sc.injEq, Value.bool.injEq, Value.int.injEq, outL, outT, zft, zcp, zed, zef, zei, zeh, List.length_cons, List.length_nil, Nat.reduceAdd, Nat.zero_add, Nat.reduceLeDiff, List.drop_zero, List.take_succ_cons, List.take_zero, zfi, zfh, Ro.dl, zdb, zda, zfe, and_self, and_true, true_and, eq_self, List.append_nil, List.nil_append, List.cons_append, ne_eq, not_false_eq_true, and_false, false_and, Bool.false_eq_true, St.ev, zes, zfn]
      have := ix_some 0 hk he hp
      rw [this]; omega
    · rcases Nat.lt_or_ge j k with h | h
      · exact hp j h
      · have : j = k := by omega
        subst this; exact hne
  · rintro sl ro gn ⟨s0, s1, s5, hp⟩
    dsimp only at s0 s1 s5
    have hk' : ¬ (xs.length : Int) < xs.length := by omega
    simp (config := { maxSteps := 10000000 }) (disch := first | omega | assumption) only [go_sem, ↓reduceIte, Nat.reduceEqDiff, reduceCtorEq, Nat.reduceAdd, Nat.reduceMul, Nat.reduceLeDiff, zfu, Int.mul_def, Int.add_def, zfv, cond_false, cond_true, isub, ti2, ti3, ti4, ti23, s0, s1, s5, isL_len ha, hk']
    simp only [zbj, zbk, retR, resL, outT, zes, zez, oneV, ↓zcy, ↓zcz, ↓reduceIte, Nat.reduceEqDiff, Option.some.injEq, AV.sc.injEq, Value.bool.injEq, Value.int.injEq, outL, outT, zft, zcp, zed, zef, zei, zeh, List.length_cons, List.length_nil, Nat.reduceAdd, Nat.zero_add, Nat.reduceLeDiff, List.drop_zero, List.take_succ_cons, List.take_zero, zfi, zfh, Ro.dl, zdb, zda, zfe, and_self, and_true, true_and, eq_self, List.append_nil, List.nil_append, List.cons_append, ne_eq, not_false_eq_true, and_false, false_and, Bool.false_eq_true, St.ev, zes, zfn]
    rw [ix_none 0 hp]

set_option maxRecDepth 1000000 in
theorem c88 {a : AV} {xs : List Int} {n : Int} (ha : isL a xs) (hx : xs.length ≤ maxN) : CallOK Try.prog 88 [a, i64 n] (bo (decide (0 ≤ ix xs n 0))) := by
  refine call_of (fn := Try.f88) (code := bodyOf Try.f88) Try.func88 rfl (by kernel_rfl) rfl ?_
  intro sl hs
  have s0 : sl 0 = a := hs 0
  have s1 : sl 1 = i64 n := hs 1
  simp only [Try.f88, bodyOf, Option.getD, go_sem, ↓reduceIte, Nat.reduceEqDiff, reduceCtorEq, Nat.reduceAdd, Nat.reduceMul, Nat.reduceLeDiff, ti2, ti3, ti4, ti23, s0, s1]
  refine CLL_pure _ (c87 ha hx) (by simp only [pureL, isL_pure ha, pureA, Bool.and_self]) rfl rfl ?_
  simp (config := { maxSteps := 10000000 }) (disch := first | omega | assumption) only [go_sem, ↓reduceIte, Nat.reduceEqDiff, reduceCtorEq, Nat.reduceAdd, Nat.reduceMul, Nat.reduceLeDiff, zfu, Int.mul_def, Int.add_def, zfv, cond_false, cond_true, isub, ti2, ti4, s0, s1]
  simp only [zbj, zbk, retR, resL, outT, zes, zez, oneV, ↓zcy, ↓zcz, ↓reduceIte, Nat.reduceEqDiff, Option.some.injEq, AV.sc.injEq, Value.bool.injEq, Value.int.injEq, outL, outT, zft, zcp, zed, zef, zei, zeh, List.length_cons, List.length_nil, Nat.reduceAdd, Nat.zero_add, Nat.reduceLeDiff, List.drop_zero, List.take_succ_cons, List.take_zero, zfi, zfh, Ro.dl, zdb, zda, zfe, and_self, and_true, true_and, eq_self, List.append_nil, List.nil_append, List.cons_append, ne_eq, not_false_eq_true, and_false, false_and, Bool.false_eq_true, St.ev, zes, zfn, ← decide_not, Int.not_lt]

set_option maxRecDepth 1000000 in
theorem c102 {a b : AV} {xs ys : List Int} (ha : isL a xs) (hb : isL b ys) (hx : xs.length ≤ maxN) (hl : xs.length ≤ ys.length) (nx : numL xs) (ny : numL ys) : CallOK Try.prog 102 [a, b] (i64 (sm (fun j => atI xs j * atI ys j) xs.length % 55441)) := by
  refine call_of (fn := Try.f102) (code := bodyOf Try.f102) Try.func102 rfl (by kernel_rfl) rfl ?_
  intro sl hs
  have s0 : sl 0 = a := hs 0
  have s1 : sl 1 = b := hs 1
  have hx' : xs.length ≤ 4294967296 := hx
  simp only [Try.f102, bodyOf, Option.getD, go_sem, ↓reduceIte, Nat.reduceEqDiff, reduceCtorEq, Nat.reduceAdd, Nat.reduceMul, Nat.reduceLeDiff, ti2, ti3, ti4, ti23, s0, s1]
  refine WK_for (fun k st => st.sl 0 = a ∧ st.sl 1 = b ∧ st.sl 6 = i64 (k : Int) ∧ st.sl 5 = i64 (sm (fun j => atI xs j * atI ys j) k % 55441)) xs.length ?_ ?_ ?_
  · simp only [↓zcy, ↓zcz, ↓zda, ↓zdb, ↓reduceIte, Nat.reduceEqDiff, and_true, true_and, and_self, ne_eq, not_false_eq_true, eq_self, false_and, and_false, reduceCtorEq, s0, s1]
    exact ⟨rfl, rfl⟩
  · rintro k sl ro gn hk ⟨s0, s1, s6, s5⟩
    dsimp only at s0 s1 s6 s5
    have hk' : (k : Int) < xs.length := by omega
    have hb1 := num_mul (nx k) (ny k)
    have hb2 := num_mod (sm (fun j => atI xs j * atI ys j) k)
    unfold num at hb2
    simp (config := { maxSteps := 10000000 }) (disch := first | omega | assumption) only [go_sem, ↓reduceIte, Nat.reduceEqDiff, reduceCtorEq, Nat.reduceAdd, Nat.reduceMul, Nat.reduceLeDiff, zfu, Int.mul_def, Int.add_def, zfv, cond_false, cond_true, isub, ti2, ti3, ti4, ti23, s0, s1, s5, s6, isL_len ha, isL_idx ha hk, isL_idx hb (Nat.lt_of_lt_of_le hk hl), isL_sites ha, isL_sites hb, hk', Int.tmod_eq_emod_of_nonneg]
    refine FIN_of (by kernel_rfl) ?_
    simp (config := { maxSteps := 10000000 }) (disch := first | omega | assumption) only [go_sem, ↓reduceIte, Nat.reduceEqDiff, reduceCtorEq, Nat.reduceAdd, Nat.reduceMul, Nat.reduceLeDiff, zfu, Int.mul_def, Int.add_def, zfv, cond_false, cond_true, isub, ti2, ti3, ti4, ti23, s0, s1, s5, s6]
    exact ⟨i64c (by omega), i64c (by simp only [sm, Int.emod_add_emod])⟩
  · rintro sl ro gn ⟨s0, s1, s6, s5⟩
    dsimp only at s0 s1 s6 s5
    have hk' : ¬ (xs.length : Int) < xs.length := by omega
    simp (config := { maxSteps := 10000000 }) (disch := first | omega | assumption) only [go_sem, ↓reduceIte, Nat.reduceEqDiff, reduceCtorEq, Nat.reduceAdd, Nat.reduceMul, Nat.reduceLeDiff, zfu, Int.mul_def, Int.add_def, zfv, cond_false, cond_true, isub, ti2, ti3, ti4, ti23, s0, s1, s5, s6, isL_len ha, hk']
    simp only [zbj, zbk, retR, resL, outT, zes, zez, oneV, ↓zcy, ↓zcz, ↓reduceIte, Nat.reduceEqDiff, Option.some.injEq, AV.sc.injEq, Value.bool.injEq, Value.int.injEq, outL, outT, zft, zcp, zed, zef, zei, zeh, List.length_cons, List.length_nil, Nat.reduceAdd, Nat.zero_add, Nat.reduceLeDiff, List.drop_zero, List.take_succ_cons, List.take_zero, zfi, zfh, Ro.dl, zdb, zda, zfe, and_self, and_true, true_and, eq_self, List.append_nil, List.nil_append, List.cons_append, ne_eq, not_false_eq_true, and_false, false_and, Bool.false_eq_true, St.ev, zes, zfn]

set_option maxRecDepth 1000000 in
theorem c119 {a b : AV} {xs ys : List Int} (ha : isL a xs) (hb : isL b ys) (hx : xs.length ≤ maxN) (hl : xs.length ≤ ys.length) (nx : numL xs) (ny : numL ys) : CallOK Try.prog 119 [a, b] (i64 (sm (fun j => atI xs j * atI ys j) xs.length % 55441)) := by
  refine call_of (fn := Try.f119) (code := bodyOf Try.f119) Try.func119 rfl (by kernel_rfl) rfl ?_
  intro sl hs
  have s0 : sl 0 = a := hs 0
  have s1 : sl 1 = b := hs 1
  have hx' : xs.length ≤ 4294967296 := hx
  simp only [Try.f119, bodyOf, Option.getD, go_sem, ↓reduceIte, Nat.reduceEqDiff, reduceCtorEq, Nat.reduceAdd, Nat.reduceMul, Nat.reduceLeDiff, ti2, ti3, ti4, ti23, s0, s1, isL_len ha]
  refine WK_for (fun k st => st.sl 0 = a ∧ st.sl 1 = b ∧ st.sl 8 = i64 (xs.length : Int) ∧ st.sl 9 = i64 (k : Int) ∧ st.sl 5 = i64 (sm (fun j => atI xs j * atI ys j % 55441) k)) xs.length ?_ ?_ ?_
  · simp only [↓zcy, ↓zcz, ↓zda, ↓zdb, ↓reduceIte, Nat.reduceEqDiff, and_true, true_and, and_self, ne_eq, not_false_eq_true, eq_self, false_and, and_false, reduceCtorEq, s0, s1]
    exact ⟨rfl, rfl⟩
  · rintro k sl ro gn hk ⟨s0, s1, s8, s9, s5⟩
    dsimp only at s0 s1 s8 s9 s5
    have hk' : (k : Int) < xs.length := by omega
    have hb1 := num_mul (nx k) (ny k)
    have hb2 := sm_bnd (f := fun j => atI xs j * atI ys j % 55441) (B := 55440) (fun j => by have := num_mod (atI xs j * atI ys j); unfold num at this; omega) k
    have hb3 := num_mod (atI xs k * atI ys k)
    unfold num at hb3
    simp (config := { maxSteps := 10000000 }) (disch := first | omega | assumption) only [go_sem, ↓reduceIte, Nat.reduceEqDiff, reduceCtorEq, Nat.reduceAdd, Nat.reduceMul, Nat.reduceLeDiff, zfu, Int.mul_def, Int.add_def, zfv, cond_false, cond_true, isub, ti2, ti3, ti4, ti23, s0, s1, s5, s8, s9, isL_idx ha hk, isL_idx hb (Nat.lt_of_lt_of_le hk hl), isL_sites ha, isL_sites hb, hk', Int.tmod_eq_emod_of_nonneg]
    refine FIN_of (by kernel_rfl) ?_
    simp (config := { maxSteps := 10000000 }) (disch := first | omega | assumption) only [go_sem, ↓reduceIte, Nat.reduceEqDiff, reduceCtorEq, Nat.reduceAdd, Nat.reduceMul, Nat.reduceLeDiff, zfu, Int.mul_def, Int.add_def, zfv, cond_false, cond_true, isub, ti2, ti3, ti4, ti23, s0, s1, s5, s8, s9]
    exact ⟨i64c (by omega), i64c rfl⟩
  · rintro sl ro gn ⟨s0, s1, s8, s9, s5⟩
    dsimp only at s0 s1 s8 s9 s5
    have hk' : ¬ (xs.length : Int) < xs.length := by omega
    have hb2 := sm_bnd (f := fun j => atI xs j * atI ys j % 55441) (B := 55440) (fun j => by have := num_mod (atI xs j * atI ys j); unfold num at this; omega) xs.length
    simp (config := { maxSteps := 10000000 }) (disch := first | omega | assumption) only [go_sem, ↓reduceIte, Nat.reduceEqDiff, reduceCtorEq, Nat.reduceAdd, Nat.reduceMul, Nat.reduceLeDiff, zfu, Int.mul_def, Int.add_def, zfv, cond_false, cond_true, isub, ti2, ti3, ti4, ti23, s0, s1, s5, s8, s9, hk', Int.tmod_eq_emod_of_nonneg]
    simp only [zbj, zbk, retR, resL, outT, zes, zez, oneV, ↓zcy, ↓zcz, ↓reduceIte, Nat.reduceEqDiff, Option.some.injEq, AV.sc.injEq, Value.bool.injEq, Value.int.injEq, outL, outT, zft, zcp, zed, zef, zei, zeh, List.length_cons, List.length_nil, Nat.reduceAdd, Nat.zero_add, Nat.reduceLeDiff, List.drop_zero, List.take_succ_cons, List.take_zero, zfi, zfh, Ro.dl, zdb, zda, zfe, and_self, and_true, true_and, eq_self, List.append_nil, List.nil_append, List.cons_append, ne_eq, not_false_eq_true, and_false, false_and, Bool.false_eq_true, St.ev, zes, zfn, sm_mod]
end Go.Proofs.Ytifgeenipinnmaa
