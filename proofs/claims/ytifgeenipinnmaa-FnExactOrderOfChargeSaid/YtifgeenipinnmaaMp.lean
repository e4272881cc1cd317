/- Texts joined: H4 H5 H6. -/
import Derived.Test.YtifgeenipinnmaaMo
set_option linter.all false
/- Orders of charges: both. -/
namespace Go.Proofs.Ytifgeenipinnmaa
open Go.RowKit
set_option maxRecDepth 1000000

/-- The only place of a unit vector, or -1. -/
def alV (xs : List Int) : Int := if sm (atI xs) xs.length = 1 then ix xs 1 0 else -1
theorem c69 {a : AV} {xs : List Int} (ha : isL a xs) (hx : xs.length ≤ 16) (hb : ∀ j, 0 ≤ atI xs j ∧ atI xs j ≤ 1000) : CallOK Try.prog 69 [a] (i64 (alV xs)) := by
  refine call_of (fn := Try.f69) (code := bodyOf Try.f69) Try.func69 rfl (by kernel_rfl) (rfl) ?_
  intro sl hs
  have s0 : sl 0 = a := hs 0
  dsimp only [Try.f69, bodyOf, Option.getD]
  simp (config := { maxSteps := 10000000 }) (disch := first | assumption | omega) only [go_sem, ↓reduceIte, Nat.reduceEqDiff, reduceCtorEq, Nat.reduceAdd, Nat.reduceMul, Nat.reduceLeDiff, zfu, Int.mul_def, Int.add_def, zfv, cond_false, cond_true, isub, Int.reduceToNat, s0]
  refine WK_for (fun k st => st.sl 0 = a ∧ st.sl 3 = i64 (sm (atI xs) k) ∧ st.sl 4 = i64 (k : Int)) xs.length ?_ ?_ ?_
  · simp only [↓zcy, ↓zcz, ↓zda, ↓zdb, ↓reduceIte, Nat.reduceEqDiff, and_true, true_and, and_self, ne_eq, not_false_eq_true, eq_self, false_and, and_false, reduceCtorEq, rws_zero, s0]
    exact ⟨rfl, rfl⟩
  · rintro k sl ro gn hk ⟨s0, s3, s4⟩
    dsimp only at s0 s3 s4
    have hk' : (k : Int) < (xs.length : Nat) := by omega
    have b1 := sm_bnd hb k
    have b2 := hb k
    simp (config := { maxSteps := 10000000 }) (disch := first | assumption | omega) only [go_sem, ↓reduceIte, Nat.reduceEqDiff, reduceCtorEq, Nat.reduceAdd, Nat.reduceMul, Nat.reduceLeDiff, zfu, Int.mul_def, Int.add_def, zfv, cond_false, cond_true, isub, Int.reduceToNat, s0, s3, s4, hk', hk]
    exact ⟨i64c rfl, i64c (by omega)⟩
  · rintro sl ro gn ⟨s0, s3, s4⟩
    dsimp only at s0 s3 s4
    have hk' : ¬ ((xs.length : Nat) : Int) < (xs.length : Nat) := by omega
    by_cases h : sm (atI xs) xs.length = 1
    · have h' := eq_true h
      simp (config := { maxSteps := 10000000 }) (disch := first | assumption | omega) only [go_sem, ↓reduceIte, Nat.reduceEqDiff, reduceCtorEq, Nat.reduceAdd, Nat.reduceMul, Nat.reduceLeDiff, zfu, Int.mul_def, Int.add_def, zfv, cond_false, cond_true, isub, Int.reduceToNat, s0, s3, s4, hk', h']
      refine CLL_pure _ (c87 ha (Nat.le_trans hx (by decide))) (by simp (disch := assumption) only [pureL, pureA, isL_pure, isLL_pure, isLLL_pure, pureL_map, Bool.and_self, Bool.and_true]) rfl rfl ?_
      simp (config := { maxSteps := 10000000 }) (disch := first | assumption | omega) only [go_sem, ↓reduceIte, Nat.reduceEqDiff, reduceCtorEq, Nat.reduceAdd, Nat.reduceMul, Nat.reduceLeDiff, zfu, Int.mul_def, Int.add_def, zfv, cond_false, cond_true, isub, Int.reduceToNat, s0, s3, s4, hk']
      simp only [zbj, zbk, retR, resL, outT, zes, zez, oneV, ↓zcy, ↓zcz, ↓reduceIte, Nat.reduceEqDiff, Option.some.injEq, AV.sc.injEq, Value.bool.injEq, Value.int.injEq, outL, outT, zft, zcp, zed, zef, zei, zeh, List.length_cons, List.length_nil, Nat.reduceAdd, Nat.zero_add, Nat.reduceLeDiff, List.drop_zero, List.take_succ_cons, List.take_zero, zfi, zfh, Ro.dl, zdb, zda, zfe, and_self, and_true, true_and, eq_self, List.append_nil, List.nil_append, List.cons_append, ne_eq, not_false_eq_true, and_false, false_and, Bool.false_eq_true, St.ev, zes, zfn, zhk, List.length_map]
      unfold alV; rw [if_pos h]
    · skip
      simp (config := { maxSteps := 10000000 }) (disch := first | assumption | omega) only [go_sem, ↓reduceIte, Nat.reduceEqDiff, reduceCtorEq, Nat.reduceAdd, Nat.reduceMul, Nat.reduceLeDiff, zfu, Int.mul_def, Int.add_def, zfv, cond_false, cond_true, isub, Int.reduceToNat, s0, s3, s4, hk', h]
      simp only [zbj, zbk, retR, resL, outT, zes, zez, oneV, ↓zcy, ↓zcz, ↓reduceIte, Nat.reduceEqDiff, Option.some.injEq, AV.sc.injEq, Value.bool.injEq, Value.int.injEq, outL, outT, zft, zcp, zed, zef, zei, zeh, List.length_cons, List.length_nil, Nat.reduceAdd, Nat.zero_add, Nat.reduceLeDiff, List.drop_zero, List.take_succ_cons, List.take_zero, zfi, zfh, Ro.dl, zdb, zda, zfe, and_self, and_true, true_and, eq_self, List.append_nil, List.nil_append, List.cons_append, ne_eq, not_false_eq_true, and_false, false_and, Bool.false_eq_true, St.ev, zes, zfn, zhk, List.length_map]
      unfold alV; rw [if_neg h]
theorem sm_rws (f : Nat → Int) (n : Nat) : sm (atI (rws f n)) n = sm f n := sm_congr fun k hk => atI_rws f hk
theorem alV_uni {f : Nat → Int} {n m : Nat} (h : uniR f n m) : alV (rws f n) = m := by
  unfold alV
  rw [zfe, sm_rws, uni_sum h, if_pos rfl]
  have := ix_some (xs := rws f n) (n := 1) (k := m) 0 (by rw [zfe]; exact h.1) (by rw [atI_rws _ h.1]; exact h.2.1) (fun j hj => by
    rw [atI_rws _ (by have := h.1; omega), h.2.2 j (by have := h.1; omega) (by omega)]; decide)
  rw [this]; simp
theorem alV_zero {f : Nat → Int} {n : Nat} (h0 : ∀ k, k < n → 0 ≤ f k) (h : alV (rws f n) = 0) : uniR f n 0 := by
  unfold alV at h
  rw [zfe, sm_rws] at h
  split at h
  · rename_i h1
    obtain ⟨m, hm⟩ := uni_of_sum h0 h1
    have := alV_uni hm
    unfold alV at this
    rw [zfe, sm_rws, if_pos h1] at this
    have : m = 0 := by omega
    subst this; exact hm
  · omega
theorem exq_cub {k n i j : Nat} {ro : Ro} {s g : Nat} {F : Nat → Nat → Nat → Int} (h : ro s g = some (cubeA F n)) (hi : i < n) (hj : j < n) (hk : 2 ≤ k) : exq k ro (.ref s g [i, j] 0 n) (immL (rws (F i j) n)) := by
  refine ⟨fun q hq => ?_, fun hp => by simp [pureA] at hp⟩
  obtain ⟨p, rfl⟩ : ∃ p, q = p + 2 := ⟨q - 2, by omega⟩
  simp only [ex, cells_two, h, in2_rws hi hj, List.drop_zero, zff]
  rw [immL, rws_map, rws_map]

section
variable {a b : AV} {S : List (List Int)} {T : List Int}
theorem Dat.rowB (D : Dat S T) {i j : Nat} (hi : i < T.length) (hj : j < T.length) : ∀ k, 0 ≤ atI (rws (nmC S T i j) T.length) k ∧ atI (rws (nmC S T i j) T.length) k ≤ 1000 := by
  intro k
  rcases Nat.lt_or_ge k T.length with hk | hk
  · rw [atI_rws _ hk]; exact D.nm_bnd hi hj hk
  · rw [atI_out (by rw [zfe]; exact hk)]; decide
theorem c36n {i : Int} (hi1 : -2^63 ≤ i) (hi2 : i < 2^63) (ha : isLL a S) (hb : isL b T) (hS : S.length ≤ maxN) (hT : T.length ≤ maxN) (hR : ∀ i, i < S.length → (row S i).length ≤ maxN) (h : ¬ chg S T i = 0) : CallOK Try.prog 36 [.agg [a, b], i64 i] (.tup [i64 0, i64 (chg S T i)]) := by
  have c57' := c57 hi1 hi2 ha hb hS hT hR
  refine call_of (fn := Try.f36) (code := bodyOf Try.f36) Try.func36 rfl (by kernel_rfl) (rfl) ?_
  intro sl hs
  have s0 : sl 0 = .agg [a, b] := hs 0
  have s1 : sl 1 = i64 i := hs 1
  dsimp only [Try.f36, bodyOf, Option.getD]
  simp (config := { maxSteps := 10000000 }) (disch := first | assumption | omega) only [go_sem, ↓reduceIte, Nat.reduceEqDiff, reduceCtorEq, Nat.reduceAdd, Nat.reduceMul, Nat.reduceLeDiff, zfu, Int.mul_def, Int.add_def, zfv, cond_false, cond_true, isub, Int.reduceToNat, s0, s1]
  refine CLL_pure _ c57' (by simp (disch := assumption) only [pureL, pureA, isL_pure, isLL_pure, isLLL_pure, pureL_map, Bool.and_self, Bool.and_true]) rfl rfl ?_
  simp (config := { maxSteps := 10000000 }) (disch := first | assumption | omega) only [go_sem, ↓reduceIte, Nat.reduceEqDiff, reduceCtorEq, Nat.reduceAdd, Nat.reduceMul, Nat.reduceLeDiff, zfu, Int.mul_def, Int.add_def, zfv, cond_false, cond_true, isub, Int.reduceToNat, s0, s1, h]
  simp only [zbj, zbk, retR, resL, outT, zes, zez, oneV, ↓zcy, ↓zcz, ↓reduceIte, Nat.reduceEqDiff, Option.some.injEq, AV.sc.injEq, Value.bool.injEq, Value.int.injEq, outL, outT, zft, zcp, zed, zef, zei, zeh, List.length_cons, List.length_nil, Nat.reduceAdd, Nat.zero_add, Nat.reduceLeDiff, List.drop_zero, List.take_succ_cons, List.take_zero, zfi, zfh, Ro.dl, zdb, zda, zfe, and_self, and_true, true_and, eq_self, List.append_nil, List.nil_append, List.cons_append, ne_eq, not_false_eq_true, and_false, false_and, Bool.false_eq_true, St.ev, zes, zfn, zhk, List.length_map]
theorem c36d {i : Nat} {v : Int} (ha : isLL a S) (hb : isL b T) (hS : S.length ≤ maxN) (hT : T.length ≤ maxN) (hR : ∀ i, i < S.length → (row S i).length ≤ maxN) (h : DataP S T) (hi : i < T.length)
    (hv : (¬ Inv S T i ∧ v = 0) ∨ (Inv S T i ∧ ∃ m : Nat, m < T.length ∧ orb S T i m = 0 ∧ (∀ k, k < m → orb S T i k ≠ 0) ∧ v = m + 1)) : CallOK Try.prog 36 [.agg [a, b], i64 i] (.tup [i64 v, i64 0]) := by
  have hT' : T.length ≤ 4294967296 := hT
  have D := h.dat
  have h16 := D.m16
  have c57' := c57 (i := (i : Int)) (by omega) (by omega) ha hb hS hT hR
  rw [chg0 h ⟨by omega, by omega⟩] at c57'
  obtain ⟨sA1, sA2, sA3⟩ := D.sgA hi
  have hcl := cjL_len S T
  have c69' := c69 (isL_imm (rws (nmC S T i (sg S T i)) T.length)) (by rw [zfe]; exact h16) (D.rowB hi sA2)
  refine call_of (fn := Try.f36) (code := bodyOf Try.f36) Try.func36 rfl (by kernel_rfl) (rfl) ?_
  intro sl hs
  have s0 : sl 0 = .agg [a, b] := hs 0
  have s1 : sl 1 = i64 i := hs 1
  dsimp only [Try.f36, bodyOf, Option.getD]
  simp (config := { maxSteps := 10000000 }) (disch := first | assumption | omega) only [go_sem, ↓reduceIte, Nat.reduceEqDiff, reduceCtorEq, Nat.reduceAdd, Nat.reduceMul, Nat.reduceLeDiff, zfu, Int.mul_def, Int.add_def, zfv, cond_false, cond_true, isub, Int.reduceToNat, s0, s1]
  refine CLL_pure _ c57' (by simp (disch := assumption) only [pureL, pureA, isL_pure, isLL_pure, isLLL_pure, pureL_map, Bool.and_self, Bool.and_true]) rfl rfl ?_
  simp (config := { maxSteps := 10000000 }) (disch := first | assumption | omega) only [go_sem, ↓reduceIte, Nat.reduceEqDiff, reduceCtorEq, Nat.reduceAdd, Nat.reduceMul, Nat.reduceLeDiff, zfu, Int.mul_def, Int.add_def, zfv, cond_false, cond_true, isub, Int.reduceToNat, s0, s1]
  refine CLL_pure _ (c45 hb ha D.shp D.cj) (by simp (disch := assumption) only [pureL, pureA, isL_pure, isLL_pure, isLLL_pure, pureL_map, Bool.and_self, Bool.and_true]) rfl rfl ?_
  simp (config := { maxSteps := 10000000 }) (disch := first | assumption | omega) only [go_sem, ↓reduceIte, Nat.reduceEqDiff, reduceCtorEq, Nat.reduceAdd, Nat.reduceMul, Nat.reduceLeDiff, zfu, Int.mul_def, Int.add_def, zfv, cond_false, cond_true, isub, Int.reduceToNat, s0, s1]
  refine CLLD_pure _ (c58 (r := rowL (cjL S T)) hb ha D.shp (noRef_rowL _) (fun _ => rfl) (fun h => absurd D.cj h)) (by simp (disch := assumption) only [pureL, pureA, isL_pure, isLL_pure, isLLL_pure, pureL_map, Bool.and_self, Bool.and_true]) rfl ?_
  simp (config := { maxSteps := 10000000 }) (disch := first | assumption | omega) only [go_sem, ↓reduceIte, Nat.reduceEqDiff, reduceCtorEq, Nat.reduceAdd, Nat.reduceMul, Nat.reduceLeDiff, zfu, Int.mul_def, Int.add_def, zfv, cond_false, cond_true, isub, Int.reduceToNat, s0, s1, sA3]
  refine CLLD_q _ c69' (.cons (exq_cub (F := nmC S T) (by simp only [↓zcy, ↓zcz, ↓zda, ↓zdb, ↓reduceIte, Nat.reduceEqDiff, and_true, true_and, and_self, ne_eq, not_false_eq_true, eq_self, false_and, and_false, reduceCtorEq]; rfl) hi sA2 (by decide)) .nil) rfl rfl ?_
  rcases hv with ⟨hI, rfl⟩ | ⟨hI, m, hm, hm0, hmk, rfl⟩
  · have hne : ¬ alV (rws (nmC S T i (sg S T i)) T.length) = 0 := fun e => hI (alV_zero (fun k hk => (D.nm_bnd hi sA2 hk).1) e)
    simp (config := { maxSteps := 10000000 }) (disch := first | assumption | omega) only [go_sem, ↓reduceIte, Nat.reduceEqDiff, reduceCtorEq, Nat.reduceAdd, Nat.reduceMul, Nat.reduceLeDiff, zfu, Int.mul_def, Int.add_def, zfv, cond_false, cond_true, isub, Int.reduceToNat, s0, s1, hne, hi, sA2]
    refine FIN_of (by kernel_rfl) ?_
    simp (config := { maxSteps := 10000000 }) (disch := first | assumption | omega) only [go_sem, ↓reduceIte, Nat.reduceEqDiff, reduceCtorEq, Nat.reduceAdd, Nat.reduceMul, Nat.reduceLeDiff, zfu, Int.mul_def, Int.add_def, zfv, cond_false, cond_true, isub, Int.reduceToNat, s0, s1]
    simp only [zbj, zbk, retR, resL, outT, zes, zez, oneV, ↓zcy, ↓zcz, ↓reduceIte, Nat.reduceEqDiff, Option.some.injEq, AV.sc.injEq, Value.bool.injEq, Value.int.injEq, outL, outT, zft, zcp, zed, zef, zei, zeh, List.length_cons, List.length_nil, Nat.reduceAdd, Nat.zero_add, Nat.reduceLeDiff, List.drop_zero, List.take_succ_cons, List.take_zero, zfi, zfh, Ro.dl, zdb, zda, zfe, and_self, and_true, true_and, eq_self, List.append_nil, List.nil_append, List.cons_append, ne_eq, not_false_eq_true, and_false, false_and, Bool.false_eq_true, St.ev, zes, zfn, zhk, List.length_map]
  · rw [alV_uni hI]
    simp (config := { maxSteps := 10000000 }) (disch := first | assumption | omega) only [go_sem, ↓reduceIte, Nat.reduceEqDiff, reduceCtorEq, Nat.reduceAdd, Nat.reduceMul, Nat.reduceLeDiff, zfu, Int.mul_def, Int.add_def, zfv, cond_false, cond_true, isub, Int.reduceToNat, s0, s1, hi, sA2]
    refine FIN_of (by kernel_rfl) ?_
    simp (config := { maxSteps := 10000000 }) (disch := first | assumption | omega) only [go_sem, ↓reduceIte, Nat.reduceEqDiff, reduceCtorEq, Nat.reduceAdd, Nat.reduceMul, Nat.reduceLeDiff, zfu, Int.mul_def, Int.add_def, zfv, cond_false, cond_true, isub, Int.reduceToNat, s0, s1]
    refine WK_for (fun k st => st.sl 1 = i64 i ∧ st.sl 7 = .ref 20496 1 [] 0 T.length ∧ st.ro 20496 1 = some (cubeA (nmC S T) T.length) ∧ st.sl 8 = i64 ((k : Int) + 1) ∧ st.sl 9 = i64 (orb S T i k)) m ?_ ?_ ?_
    · simp only [↓zcy, ↓zcz, ↓zda, ↓zdb, ↓reduceIte, Nat.reduceEqDiff, and_true, true_and, and_self, ne_eq, not_false_eq_true, eq_self, false_and, and_false, reduceCtorEq, rws_zero, s0, s1]
      exact ⟨rfl, rfl, rfl⟩
    · rintro k sl ro gn hk ⟨s1, s7, r20496, s8, s9⟩
      dsimp only at s1 s7 r20496 s8 s9
      have hk' : (k : Int) < (m : Nat) := by omega
      have ho := D.orb_lt hi hI k
      have hk0 := hmk k hk
      have c69'' := c69 (isL_imm (rws (nmC S T (orb S T i k) i) T.length)) (by rw [zfe]; exact h16) (D.rowB ho hi)
      rw [alV_uni (D.mv_uni hi hI ho)] at c69''
      have e1 : mv S T i (orb S T i k) = orb S T i (k + 1) := rfl
      rw [e1] at c69''
      simp (config := { maxSteps := 10000000 }) (disch := first | assumption | omega) only [go_sem, ↓reduceIte, Nat.reduceEqDiff, reduceCtorEq, Nat.reduceAdd, Nat.reduceMul, Nat.reduceLeDiff, zfu, Int.mul_def, Int.add_def, zfv, cond_false, cond_true, isub, Int.reduceToNat, s1, s7, r20496, s8, s9, hk', hk]
      refine CLL_q _ c69'' (.cons (exq_cub (F := nmC S T) r20496 ho hi (by decide)) .nil) rfl rfl rfl ?_
      simp (config := { maxSteps := 10000000 }) (disch := first | assumption | omega) only [go_sem, ↓reduceIte, Nat.reduceEqDiff, reduceCtorEq, Nat.reduceAdd, Nat.reduceMul, Nat.reduceLeDiff, zfu, Int.mul_def, Int.add_def, zfv, cond_false, cond_true, isub, Int.reduceToNat, s1, s7, r20496, s8, s9, hk', hk]
      exact i64c (by omega)
    · rintro sl ro gn ⟨s1, s7, r20496, s8, s9⟩
      dsimp only at s1 s7 r20496 s8 s9
      have hk' : ¬ ((m : Nat) : Int) < (m : Nat) := by omega
      simp (config := { maxSteps := 10000000 }) (disch := first | assumption | omega) only [go_sem, ↓reduceIte, Nat.reduceEqDiff, reduceCtorEq, Nat.reduceAdd, Nat.reduceMul, Nat.reduceLeDiff, zfu, Int.mul_def, Int.add_def, zfv, cond_false, cond_true, isub, Int.reduceToNat, s1, s7, r20496, s8, s9, hk', hm0]
      simp only [zbj, zbk, retR, resL, outT, zes, zez, oneV, ↓zcy, ↓zcz, ↓reduceIte, Nat.reduceEqDiff, Option.some.injEq, AV.sc.injEq, Value.bool.injEq, Value.int.injEq, outL, outT, zft, zcp, zed, zef, zei, zeh, List.length_cons, List.length_nil, Nat.reduceAdd, Nat.zero_add, Nat.reduceLeDiff, List.drop_zero, List.take_succ_cons, List.take_zero, zfi, zfh, Ro.dl, zdb, zda, zfe, and_self, and_true, true_and, eq_self, List.append_nil, List.nil_append, List.cons_append, ne_eq, not_false_eq_true, and_false, false_and, Bool.false_eq_true, St.ev, zes, zfn, zhk, List.length_map]

theorem c70n {i : Int} (ha : isLL a S) (hb : isL b T) (hS : S.length ≤ maxN) (hT : T.length ≤ maxN) (hR : ∀ i, i < S.length → (row S i).length ≤ maxN) (h : ¬ chg S T i = 0) : CallOK Try.prog 70 [.agg [a, b], i64 i] (.tup [bo false, i64 (chg S T i)]) := by
  have c1 := c63 (i := i) ha hb hS
  refine call_of (fn := Try.f70) (code := bodyOf Try.f70) Try.func70 rfl (by kernel_rfl) (rfl) ?_
  intro sl hs
  have s0 : sl 0 = .agg [a, b] := hs 0
  have s1 : sl 1 = i64 i := hs 1
  by_cases hd : DataP S T
  · by_cases hi : 0 ≤ i ∧ i ≤ (T.length : Int) - 1
    · exact absurd (chg0 hd hi) h
    · rw [hd.dat.shp.lS, decide_eq_false hi] at c1
      rw [chg2 hd hi]
      dsimp only [Try.f70, bodyOf, Option.getD]
      simp (config := { maxSteps := 10000000 }) (disch := first | assumption | omega) only [go_sem, ↓reduceIte, Nat.reduceEqDiff, reduceCtorEq, Nat.reduceAdd, Nat.reduceMul, Nat.reduceLeDiff, zfu, Int.mul_def, Int.add_def, zfv, cond_false, cond_true, isub, Int.reduceToNat, s0, s1]
      refine CLL_pure _ (c62t ha hb hS hT hR hd) (by simp (disch := assumption) only [pureL, pureA, isL_pure, isLL_pure, isLLL_pure, pureL_map, Bool.and_self, Bool.and_true]) rfl rfl ?_
      simp (config := { maxSteps := 10000000 }) (disch := first | assumption | omega) only [go_sem, ↓reduceIte, Nat.reduceEqDiff, reduceCtorEq, Nat.reduceAdd, Nat.reduceMul, Nat.reduceLeDiff, zfu, Int.mul_def, Int.add_def, zfv, cond_false, cond_true, isub, Int.reduceToNat, s0, s1]
      refine CLL_pure _ c1 (by simp (disch := assumption) only [pureL, pureA, isL_pure, isLL_pure, isLLL_pure, pureL_map, Bool.and_self, Bool.and_true]) rfl rfl ?_
      simp (config := { maxSteps := 10000000 }) (disch := first | assumption | omega) only [go_sem, ↓reduceIte, Nat.reduceEqDiff, reduceCtorEq, Nat.reduceAdd, Nat.reduceMul, Nat.reduceLeDiff, zfu, Int.mul_def, Int.add_def, zfv, cond_false, cond_true, isub, Int.reduceToNat, s0, s1]
      simp only [zbj, zbk, retR, resL, outT, zes, zez, oneV, ↓zcy, ↓zcz, ↓reduceIte, Nat.reduceEqDiff, Option.some.injEq, AV.sc.injEq, Value.bool.injEq, Value.int.injEq, outL, outT, zft, zcp, zed, zef, zei, zeh, List.length_cons, List.length_nil, Nat.reduceAdd, Nat.zero_add, Nat.reduceLeDiff, List.drop_zero, List.take_succ_cons, List.take_zero, zfi, zfh, Ro.dl, zdb, zda, zfe, and_self, and_true, true_and, eq_self, List.append_nil, List.nil_append, List.cons_append, ne_eq, not_false_eq_true, and_false, false_and, Bool.false_eq_true, St.ev, zes, zfn, zhk, List.length_map]
  · rw [chg1 hd]
    dsimp only [Try.f70, bodyOf, Option.getD]
    simp (config := { maxSteps := 10000000 }) (disch := first | assumption | omega) only [go_sem, ↓reduceIte, Nat.reduceEqDiff, reduceCtorEq, Nat.reduceAdd, Nat.reduceMul, Nat.reduceLeDiff, zfu, Int.mul_def, Int.add_def, zfv, cond_false, cond_true, isub, Int.reduceToNat, s0, s1]
    refine CLL_pure _ (c62f ha hb hS hT hR hd) (by simp (disch := assumption) only [pureL, pureA, isL_pure, isLL_pure, isLLL_pure, pureL_map, Bool.and_self, Bool.and_true]) rfl rfl ?_
    simp (config := { maxSteps := 10000000 }) (disch := first | assumption | omega) only [go_sem, ↓reduceIte, Nat.reduceEqDiff, reduceCtorEq, Nat.reduceAdd, Nat.reduceMul, Nat.reduceLeDiff, zfu, Int.mul_def, Int.add_def, zfv, cond_false, cond_true, isub, Int.reduceToNat, s0, s1]
    simp only [zbj, zbk, retR, resL, outT, zes, zez, oneV, ↓zcy, ↓zcz, ↓reduceIte, Nat.reduceEqDiff, Option.some.injEq, AV.sc.injEq, Value.bool.injEq, Value.int.injEq, outL, outT, zft, zcp, zed, zef, zei, zeh, List.length_cons, List.length_nil, Nat.reduceAdd, Nat.zero_add, Nat.reduceLeDiff, List.drop_zero, List.take_succ_cons, List.take_zero, zfi, zfh, Ro.dl, zdb, zda, zfe, and_self, and_true, true_and, eq_self, List.append_nil, List.nil_append, List.cons_append, ne_eq, not_false_eq_true, and_false, false_and, Bool.false_eq_true, St.ev, zes, zfn, zhk, List.length_map]
theorem c70d {i : Nat} {t : Bool} (ha : isLL a S) (hb : isL b T) (hS : S.length ≤ maxN) (hT : T.length ≤ maxN) (hR : ∀ i, i < S.length → (row S i).length ≤ maxN) (h : DataP S T) (hi : i < T.length) (ht : t = true ↔ Inv S T i) : CallOK Try.prog 70 [.agg [a, b], i64 i] (.tup [bo t, i64 0]) := by
  have hT' : T.length ≤ 4294967296 := hT
  have D := h.dat
  have h16 := D.m16
  have c1 := c63 (i := (i : Int)) ha hb hS
  rw [D.shp.lS, decide_eq_true ⟨by omega, by omega⟩] at c1
  obtain ⟨sA1, sA2, sA3⟩ := D.sgA hi
  have hcl := cjL_len S T
  have h0 := isLL_row ha (k := 0) (by have := D.shp.lS; omega)
  have hS0 : 0 < S.length := by have := D.shp.lS; omega
  have hl0 : (row S 0).length = T.length := D.shp.lR 0 D.shp.pos
  refine call_of (fn := Try.f70) (code := bodyOf Try.f70) Try.func70 rfl (by kernel_rfl) (rfl) ?_
  intro sl hs
  have s0 : sl 0 = .agg [a, b] := hs 0
  have s1 : sl 1 = i64 i := hs 1
  dsimp only [Try.f70, bodyOf, Option.getD]
  simp (config := { maxSteps := 10000000 }) (disch := first | assumption | omega) only [go_sem, ↓reduceIte, Nat.reduceEqDiff, reduceCtorEq, Nat.reduceAdd, Nat.reduceMul, Nat.reduceLeDiff, zfu, Int.mul_def, Int.add_def, zfv, cond_false, cond_true, isub, Int.reduceToNat, s0, s1]
  refine CLL_pure _ (c62t ha hb hS hT hR h) (by simp (disch := assumption) only [pureL, pureA, isL_pure, isLL_pure, isLLL_pure, pureL_map, Bool.and_self, Bool.and_true]) rfl rfl ?_
  simp (config := { maxSteps := 10000000 }) (disch := first | assumption | omega) only [go_sem, ↓reduceIte, Nat.reduceEqDiff, reduceCtorEq, Nat.reduceAdd, Nat.reduceMul, Nat.reduceLeDiff, zfu, Int.mul_def, Int.add_def, zfv, cond_false, cond_true, isub, Int.reduceToNat, s0, s1]
  refine CLL_pure _ c1 (by simp (disch := assumption) only [pureL, pureA, isL_pure, isLL_pure, isLLL_pure, pureL_map, Bool.and_self, Bool.and_true]) rfl rfl ?_
  simp (config := { maxSteps := 10000000 }) (disch := first | assumption | omega) only [go_sem, ↓reduceIte, Nat.reduceEqDiff, reduceCtorEq, Nat.reduceAdd, Nat.reduceMul, Nat.reduceLeDiff, zfu, Int.mul_def, Int.add_def, zfv, cond_false, cond_true, isub, Int.reduceToNat, s0, s1]
  refine CLLD_pure _ (c46 hb ha D.shp D.whl D.cj) (by simp (disch := assumption) only [pureL, pureA, isL_pure, isLL_pure, isLLL_pure, pureL_map, Bool.and_self, Bool.and_true]) rfl ?_
  simp (config := { maxSteps := 10000000 }) (disch := first | assumption | omega) only [go_sem, ↓reduceIte, Nat.reduceEqDiff, reduceCtorEq, Nat.reduceAdd, Nat.reduceMul, Nat.reduceLeDiff, zfu, Int.mul_def, Int.add_def, zfv, cond_false, cond_true, isub, Int.reduceToNat, s0, s1]
  refine CLLD_pure _ (c64d ha hb D) (by simp (disch := assumption) only [pureL, pureA, isL_pure, isLL_pure, isLLL_pure, pureL_map, Bool.and_self, Bool.and_true]) rfl ?_
  simp (config := { maxSteps := 10000000 }) (disch := first | assumption | omega) only [go_sem, ↓reduceIte, Nat.reduceEqDiff, reduceCtorEq, Nat.reduceAdd, Nat.reduceMul, Nat.reduceLeDiff, zfu, Int.mul_def, Int.add_def, zfv, cond_false, cond_true, isub, Int.reduceToNat, s0, s1, sA3, hi, sA2]
  refine FIN_of (by kernel_rfl) ?_
  simp (config := { maxSteps := 10000000 }) (disch := first | assumption | omega) only [go_sem, ↓reduceIte, Nat.reduceEqDiff, reduceCtorEq, Nat.reduceAdd, Nat.reduceMul, Nat.reduceLeDiff, zfu, Int.mul_def, Int.add_def, zfv, cond_false, cond_true, isub, Int.reduceToNat, s0, s1]
  refine WK_for (fun k st => st.sl 1 = i64 i ∧ st.sl 2 = .ptr 4096 1 [] 0 ∧ st.ro 4096 1 = some (.bx [a, b]) ∧ st.sl 6 = i64 (sm (nmC S T i (sg S T i)) k) ∧ st.sl 28 = .ref 28688 1 [i, sg S T i] 0 T.length ∧ st.ro 28688 1 = some (cubeA (nmC S T) T.length) ∧ st.sl 29 = i64 (T.length : Int) ∧ st.sl 30 = i64 (k : Int)) T.length ?_ ?_ ?_
  · simp only [↓zcy, ↓zcz, ↓zda, ↓zdb, ↓reduceIte, Nat.reduceEqDiff, and_true, true_and, and_self, ne_eq, not_false_eq_true, eq_self, false_and, and_false, reduceCtorEq, rws_zero, s0, s1]
    exact ⟨rfl, rfl, rfl⟩
  · rintro k sl ro gn hk ⟨s1, s2, r4096, s6, s28, r28688, s29, s30⟩
    dsimp only at s1 s2 r4096 s6 s28 r28688 s29 s30
    have hk' : (k : Int) < (T.length : Nat) := by omega
    have b1 := D.nm_bnd hi sA2 hk
    have b2 : 0 ≤ sm (nmC S T i (sg S T i)) k ∧ sm (nmC S T i (sg S T i)) k ≤ 16000 := by
      have h1 := sm_nn (f := nmC S T i (sg S T i)) (n := k) fun x hx => (D.nm_bnd hi sA2 (by omega)).1
      have h2 := sm_bnd (f := fun x => atI (rws (nmC S T i (sg S T i)) T.length) x) (B := 1000) (D.rowB hi sA2) k
      have e : sm (fun x => atI (rws (nmC S T i (sg S T i)) T.length) x) k = sm (nmC S T i (sg S T i)) k := sm_congr fun x hx => atI_rws _ (by omega)
      rw [e] at h2
      omega
    simp (config := { maxSteps := 10000000 }) (disch := first | assumption | omega) only [go_sem, ↓reduceIte, Nat.reduceEqDiff, reduceCtorEq, Nat.reduceAdd, Nat.reduceMul, Nat.reduceLeDiff, zfu, Int.mul_def, Int.add_def, zfv, cond_false, cond_true, isub, Int.reduceToNat, s1, s2, r4096, s6, s28, r28688, s29, s30, hk', hk, hi, sA2]
    exact ⟨i64c rfl, i64c (by omega)⟩
  · rintro sl ro gn ⟨s1, s2, r4096, s6, s28, r28688, s29, s30⟩
    dsimp only at s1 s2 r4096 s6 s28 r28688 s29 s30
    have hk' : ¬ ((T.length : Nat) : Int) < (T.length : Nat) := by omega
    have b1 := num_mul (D.shp.nS 0 i) (D.shp.nS 0 i)
    by_cases hI : Inv S T i
    · have e1 := (D.inv_iff hi).1 hI
      have e2 : atI (row S 0) i * atI (row S 0) i % 55441 = 1 := D.inv_dim hi hI
      have e3 := ht.2 hI
      subst e3
      simp (config := { maxSteps := 10000000 }) (disch := first | assumption | omega) only [go_sem, ↓reduceIte, Nat.reduceEqDiff, reduceCtorEq, Nat.reduceAdd, Nat.reduceMul, Nat.reduceLeDiff, zfu, Int.mul_def, Int.add_def, zfv, cond_false, cond_true, isub, Int.reduceToNat, s1, s2, r4096, s6, s28, r28688, s29, s30, hk', e1, e2, Int.tmod_eq_emod_of_nonneg]
      refine FIN_of (by kernel_rfl) ?_
      simp (config := { maxSteps := 10000000 }) (disch := first | assumption | omega) only [go_sem, ↓reduceIte, Nat.reduceEqDiff, reduceCtorEq, Nat.reduceAdd, Nat.reduceMul, Nat.reduceLeDiff, zfu, Int.mul_def, Int.add_def, zfv, cond_false, cond_true, isub, Int.reduceToNat, s1, s2, r4096, s6, s28, r28688, s29, s30, hk']
      simp only [zbj, zbk, retR, resL, outT, zes, zez, oneV, ↓zcy, ↓zcz, ↓reduceIte, Nat.reduceEqDiff, Option.some.injEq, AV.sc.injEq, Value.bool.injEq, Value.int.injEq, outL, outT, zft, zcp, zed, zef, zei, zeh, List.length_cons, List.length_nil, Nat.reduceAdd, Nat.zero_add, Nat.reduceLeDiff, List.drop_zero, List.take_succ_cons, List.take_zero, zfi, zfh, Ro.dl, zdb, zda, zfe, and_self, and_true, true_and, eq_self, List.append_nil, List.nil_append, List.cons_append, ne_eq, not_false_eq_true, and_false, false_and, Bool.false_eq_true, St.ev, zes, zfn, zhk, List.length_map]
    · have e1 : ¬ sm (nmC S T i (sg S T i)) T.length = 1 := fun e => hI ((D.inv_iff hi).2 e)
      have e3 : t = false := by cases t; rfl; exact absurd (ht.1 rfl) hI
      subst e3
      by_cases e2 : atI (row S 0) i * atI (row S 0) i % 55441 = 1
      · skip
        simp (config := { maxSteps := 10000000 }) (disch := first | assumption | omega) only [go_sem, ↓reduceIte, Nat.reduceEqDiff, reduceCtorEq, Nat.reduceAdd, Nat.reduceMul, Nat.reduceLeDiff, zfu, Int.mul_def, Int.add_def, zfv, cond_false, cond_true, isub, Int.reduceToNat, s1, s2, r4096, s6, s28, r28688, s29, s30, hk', e1, e2, Int.tmod_eq_emod_of_nonneg]
        refine FIN_of (by kernel_rfl) ?_
        simp (config := { maxSteps := 10000000 }) (disch := first | assumption | omega) only [go_sem, ↓reduceIte, Nat.reduceEqDiff, reduceCtorEq, Nat.reduceAdd, Nat.reduceMul, Nat.reduceLeDiff, zfu, Int.mul_def, Int.add_def, zfv, cond_false, cond_true, isub, Int.reduceToNat, s1, s2, r4096, s6, s28, r28688, s29, s30, hk']
        simp only [zbj, zbk, retR, resL, outT, zes, zez, oneV, ↓zcy, ↓zcz, ↓reduceIte, Nat.reduceEqDiff, Option.some.injEq, AV.sc.injEq, Value.bool.injEq, Value.int.injEq, outL, outT, zft, zcp, zed, zef, zei, zeh, List.length_cons, List.length_nil, Nat.reduceAdd, Nat.zero_add, Nat.reduceLeDiff, List.drop_zero, List.take_succ_cons, List.take_zero, zfi, zfh, Ro.dl, zdb, zda, zfe, and_self, and_true, true_and, eq_self, List.append_nil, List.nil_append, List.cons_append, ne_eq, not_false_eq_true, and_false, false_and, Bool.false_eq_true, St.ev, zes, zfn, zhk, List.length_map]
      · skip
        simp (config := { maxSteps := 10000000 }) (disch := first | assumption | omega) only [go_sem, ↓reduceIte, Nat.reduceEqDiff, reduceCtorEq, Nat.reduceAdd, Nat.reduceMul, Nat.reduceLeDiff, zfu, Int.mul_def, Int.add_def, zfv, cond_false, cond_true, isub, Int.reduceToNat, s1, s2, r4096, s6, s28, r28688, s29, s30, hk', e2, Int.tmod_eq_emod_of_nonneg]
        refine FIN_of (by kernel_rfl) ?_
        simp (config := { maxSteps := 10000000 }) (disch := first | assumption | omega) only [go_sem, ↓reduceIte, Nat.reduceEqDiff, reduceCtorEq, Nat.reduceAdd, Nat.reduceMul, Nat.reduceLeDiff, zfu, Int.mul_def, Int.add_def, zfv, cond_false, cond_true, isub, Int.reduceToNat, s1, s2, r4096, s6, s28, r28688, s29, s30, hk']
        simp only [zbj, zbk, retR, resL, outT, zes, zez, oneV, ↓zcy, ↓zcz, ↓reduceIte, Nat.reduceEqDiff, Option.some.injEq, AV.sc.injEq, Value.bool.injEq, Value.int.injEq, outL, outT, zft, zcp, zed, zef, zei, zeh, List.length_cons, List.length_nil, Nat.reduceAdd, Nat.zero_add, Nat.reduceLeDiff, List.drop_zero, List.take_succ_cons, List.take_zero, zfi, zfh, Ro.dl, zdb, zda, zfe, and_self, and_true, true_and, eq_self, List.append_nil, List.nil_append, List.cons_append, ne_eq, not_false_eq_true, and_false, false_and, Bool.false_eq_true, St.ev, zes, zfn, zhk, List.length_map]
end

/-! ### Vectors of the program's rings -/
def unE (i k : Nat) : Int := if k = i then 1 else 0
theorem c71 {a : AV} {X : List (List (List Int))} {i : Nat} (ha : isLLL a X) (hX : X.length ≤ maxN) (hi : i < X.length) : CallOK Try.prog 71 [.agg [a], i64 i] (rowL (rws (unE i) X.length)) := by
  have hX' : X.length ≤ 4294967296 := hX
  have hm' : (X.length : Int) ≤ ((4294967296 : Nat) : Int) := by omega
  have e0 : rowL (rws (unE i) X.length) = .row (rws (fun k => i64 (unE i k)) X.length) := by simp only [rowL, rws_map]
  have e1 : (rws (fun _ => i64 0) X.length).set i (i64 1) = rws (fun k => i64 (unE i k)) X.length := by
    rw [rws_set]
    refine rws_congr fun k hk => ?_
    unfold unE
    split <;> rfl
  rw [e0]
  refine call_of (fn := Try.f71) (code := bodyOf Try.f71) Try.func71 rfl (by kernel_rfl) (e0 ▸ noRef_rowL _) ?_
  intro sl hs
  have s0 : sl 0 = .agg [a] := hs 0
  have s1 : sl 1 = i64 i := hs 1
  dsimp only [Try.f71, bodyOf, Option.getD]
  simp (config := { maxSteps := 10000000 }) (disch := first | assumption | omega) only [go_sem, ↓reduceIte, Nat.reduceEqDiff, reduceCtorEq, Nat.reduceAdd, Nat.reduceMul, Nat.reduceLeDiff, zfu, Int.mul_def, Int.add_def, zfv, cond_false, cond_true, isub, Int.reduceToNat, s0, s1, kMake, Int.natCast_nonneg, Int.le_refl, hm', List.getD_cons_zero, rep_rws, hi, e1]
  simp only [zbj, zbk, retR, resL, outT, zes, zez, oneV, ↓zcy, ↓zcz, ↓reduceIte, Nat.reduceEqDiff, Option.some.injEq, AV.sc.injEq, Value.bool.injEq, Value.int.injEq, outL, outT, zft, zcp, zed, zef, zei, zeh, List.length_cons, List.length_nil, Nat.reduceAdd, Nat.zero_add, Nat.reduceLeDiff, List.drop_zero, List.take_succ_cons, List.take_zero, zfi, zfh, Ro.dl, zdb, zda, zfe, and_self, and_true, true_and, eq_self, List.append_nil, List.nil_append, List.cons_append, ne_eq, not_false_eq_true, and_false, false_and, Bool.false_eq_true, St.ev, zes, zfn, zhk, List.length_map]
end Go.Proofs.Ytifgeenipinnmaa

/- Products of unit vectors; orders of charges by the program; the law of OrderOfCharge answers true. -/
namespace Go.Proofs.Ytifgeenipinnmaa
open Go.RowKit
set_option maxRecDepth 1000000

theorem un_at {p k n : Nat} (hk : k < n) : atI (rws (unE p) n) k = if k = p then 1 else 0 := by rw [atI_rws _ hk]; rfl
theorem c72 {a x y : AV} {X : List (List (List Int))} {p q : Nat} (ha : isLLL a X) (hc : CubeP X) (hx : isL x (rws (unE p) X.length)) (hy : isL y (rws (unE q) X.length)) (hp : p < X.length) (hq : q < X.length) : CallOK Try.prog 72 [.agg [a], x, y] (rowL (rws (at3 X p q) X.length)) := by
  have hc0 := hc
  obtain ⟨h1, h2, h3⟩ := hc
  have hX' : X.length ≤ 4294967296 := by omega
  have hm' : (X.length : Int) ≤ ((4294967296 : Nat) : Int) := by omega
  have lx : (rws (unE p) X.length).length = X.length := zfe _ _
  have ly : (rws (unE q) X.length).length = X.length := zfe _ _
  have hA := isLLL_mat ha hp
  have hA1 := (h3 p hp).1
  have hA2 := isLL_row hA (k := q) (by omega)
  have hA3 := ((h3 p hp).2 q hq).1
  have e0 : rowL (rws (at3 X p q) X.length) = .row (rws (fun k => i64 (at3 X p q k)) X.length) := by simp only [rowL, rws_map]
  rw [e0]
  refine call_of (fn := Try.f72) (code := bodyOf Try.f72) Try.func72 rfl (by kernel_rfl) (e0 ▸ noRef_rowL _) ?_
  intro sl hs
  have s0 : sl 0 = .agg [a] := hs 0
  have s1 : sl 1 = x := hs 1
  have s2 : sl 2 = y := hs 2
  dsimp only [Try.f72, bodyOf, Option.getD]
  simp (config := { maxSteps := 10000000 }) (disch := first | assumption | omega) only [go_sem, ↓reduceIte, Nat.reduceEqDiff, reduceCtorEq, Nat.reduceAdd, Nat.reduceMul, Nat.reduceLeDiff, zfu, Int.mul_def, Int.add_def, zfv, cond_false, cond_true, isub, Int.reduceToNat, s0, s1, s2, kMake, Int.natCast_nonneg, Int.le_refl, hm', List.getD_cons_zero, rep_rws]
  refine WK_for (fun i st => st.sl 2 = y ∧ st.sl 3 = .ptr 4096 1 [] 0 ∧ st.ro 4096 1 = some (.bx [a]) ∧ st.sl 7 = .ref 8240 1 [] 0 X.length ∧ st.ro 8240 1 = some (.row (rws (fun k => i64 (if p < i then at3 X p q k else 0)) X.length)) ∧ st.sl 18 = x ∧ st.sl 19 = i64 (X.length : Int) ∧ st.sl 20 = i64 (i : Int)) X.length ?_ ?_ ?_
  · simp only [↓zcy, ↓zcz, ↓zda, ↓zdb, ↓reduceIte, Nat.reduceEqDiff, and_true, true_and, and_self, ne_eq, not_false_eq_true, eq_self, false_and, and_false, reduceCtorEq, rws_zero, s0, s1, s2]
    exact ⟨congrArg some (congrArg AV.row (rws_congr fun k hk => by rw [if_neg (by omega)])), rfl⟩
  · rintro i sl ro gn hi ⟨s2, s3, r4096, s7, r8240, s18, s19, s20⟩
    dsimp only at s2 s3 r4096 s7 r8240 s18 s19 s20
    have hi' : (i : Int) < (X.length : Nat) := by omega
    have ex := un_at (p := p) hi
    by_cases hip : i = p
    · rw [if_pos hip] at ex
      simp (config := { maxSteps := 10000000 }) (disch := first | assumption | omega) only [go_sem, ↓reduceIte, Nat.reduceEqDiff, reduceCtorEq, Nat.reduceAdd, Nat.reduceMul, Nat.reduceLeDiff, zfu, Int.mul_def, Int.add_def, zfv, cond_false, cond_true, isub, Int.reduceToNat, s2, s3, r4096, s7, r8240, s18, s19, s20, hi', hi, ex]
      refine WK_for (fun j st => st.sl 2 = y ∧ st.sl 3 = .ptr 4096 1 [] 0 ∧ st.ro 4096 1 = some (.bx [a]) ∧ st.sl 7 = .ref 8240 1 [] 0 X.length ∧ st.ro 8240 1 = some (.row (rws (fun k => i64 (if q < j then at3 X p q k else 0)) X.length)) ∧ st.sl 8 = i64 (i : Int) ∧ st.sl 9 = i64 1 ∧ st.sl 18 = x ∧ st.sl 19 = i64 (X.length : Int) ∧ st.sl 20 = i64 (i : Int) ∧ st.sl 25 = y ∧ st.sl 26 = i64 (X.length : Int) ∧ st.sl 27 = i64 (j : Int)) X.length ?_ ?_ ?_
      · simp only [↓zcy, ↓zcz, ↓zda, ↓zdb, ↓reduceIte, Nat.reduceEqDiff, and_true, true_and, and_self, ne_eq, not_false_eq_true, eq_self, false_and, and_false, reduceCtorEq, rws_zero, s2, s3, r4096, s7, r8240, s18, s19, s20, hi', hi]
        refine ⟨congrArg some (congrArg AV.row (rws_congr fun k hk => by rw [if_neg (by omega), if_neg (by omega)])), ?_⟩
        all_goals (repeat' first | rfl | exact i64c rfl | exact i64c (by omega) | exact trivial | apply And.intro)
      · rintro j sl ro gn hj ⟨s2, s3, r4096, s7, r8240, s8, s9, s18, s19, s20, s25, s26, s27⟩
        dsimp only at s2 s3 r4096 s7 r8240 s8 s9 s18 s19 s20 s25 s26 s27
        have hj' : (j : Int) < (X.length : Nat) := by omega
        have ey := un_at (p := q) hj
        by_cases hjq : j = q
        · rw [if_pos hjq] at ey
          subst hip hjq
          simp (config := { maxSteps := 10000000 }) (disch := first | assumption | omega) only [go_sem, ↓reduceIte, Nat.reduceEqDiff, reduceCtorEq, Nat.reduceAdd, Nat.reduceMul, Nat.reduceLeDiff, zfu, Int.mul_def, Int.add_def, zfv, cond_false, cond_true, isub, Int.reduceToNat, s2, s3, r4096, s7, r8240, s8, s9, s18, s19, s20, s25, s26, s27, hj', hj, ey]
          refine WK_for (fun k st => st.sl 2 = y ∧ st.sl 3 = .ptr 4096 1 [] 0 ∧ st.ro 4096 1 = some (.bx [a]) ∧ st.sl 7 = .ref 8240 1 [] 0 X.length ∧ st.ro 8240 1 = some (.row (rws (fun z => i64 (if z < k then at3 X i j z else 0)) X.length)) ∧ st.sl 8 = i64 (i : Int) ∧ st.sl 9 = i64 1 ∧ st.sl 11 = i64 1 ∧ st.sl 18 = x ∧ st.sl 19 = i64 (X.length : Int) ∧ st.sl 20 = i64 (i : Int) ∧ st.sl 25 = y ∧ st.sl 26 = i64 (X.length : Int) ∧ st.sl 27 = i64 (j : Int) ∧ st.sl 43 = atA (atA a i) j ∧ st.sl 44 = i64 (X.length : Int) ∧ st.sl 45 = i64 (k : Int)) X.length ?_ ?_ ?_
          · simp only [↓zcy, ↓zcz, ↓zda, ↓zdb, ↓reduceIte, Nat.reduceEqDiff, and_true, true_and, and_self, ne_eq, not_false_eq_true, eq_self, false_and, and_false, reduceCtorEq, rws_zero, s2, s3, r4096, s7, r8240, s8, s9, s18, s19, s20, s25, s26, s27, hj', hj]
            refine ⟨congrArg some (congrArg AV.row (rws_congr fun k hk => by rw [if_neg (by omega), if_neg (by omega)])), ?_⟩
            all_goals (repeat' first | rfl | exact i64c rfl | exact i64c (by omega) | exact trivial | apply And.intro)
          · rintro k sl ro gn hk ⟨s2, s3, r4096, s7, r8240, s8, s9, s11, s18, s19, s20, s25, s26, s27, s43, s44, s45⟩
            dsimp only at s2 s3 r4096 s7 r8240 s8 s9 s11 s18 s19 s20 s25 s26 s27 s43 s44 s45
            have hk' : (k : Int) < (X.length : Nat) := by omega
            have b1 : 0 ≤ atI (row (mat X i) j) k ∧ atI (row (mat X i) j) k ≤ 1000 := at3_bnd hc0 i j k
            have e1 : ∀ v, (rws (fun z => i64 (if z < k then at3 X i j z else 0)) X.length).set k (i64 (0 + v)) = rws (fun z => if z = k then i64 (0 + v) else i64 (if z < k then at3 X i j z else 0)) X.length := fun v => rws_set _ _ _ _
            have b2 : ¬ k < k := by omega
            simp (config := { maxSteps := 10000000 }) (disch := first | assumption | omega) only [go_sem, ↓reduceIte, Nat.reduceEqDiff, reduceCtorEq, Nat.reduceAdd, Nat.reduceMul, Nat.reduceLeDiff, zfu, Int.mul_def, Int.add_def, zfv, cond_false, cond_true, isub, Int.reduceToNat, s2, s3, r4096, s7, r8240, s8, s9, s11, s18, s19, s20, s25, s26, s27, s43, s44, s45, hk', hk, b2, Int.one_mul]
            refine ⟨congrArg (fun x => some (AV.row x)) ?_, i64c (by omega)⟩
            rw [rws_set]
            refine rws_congr fun z hz => ?_
            by_cases hzk : z = k
            · subst hzk; rw [if_pos rfl, if_pos (by omega)]; exact i64c (by show _ = atI (row (mat X i) j) z; omega)
            · rw [if_neg hzk]
              have e : (z < k) ↔ (z < k + 1) := by omega
              simp only [e]
          · rintro sl ro gn ⟨s2, s3, r4096, s7, r8240, s8, s9, s11, s18, s19, s20, s25, s26, s27, s43, s44, s45⟩
            dsimp only at s2 s3 r4096 s7 r8240 s8 s9 s11 s18 s19 s20 s25 s26 s27 s43 s44 s45
            have hk' : ¬ ((X.length : Nat) : Int) < (X.length : Nat) := by omega
            simp (config := { maxSteps := 10000000 }) (disch := first | assumption | omega) only [go_sem, ↓reduceIte, Nat.reduceEqDiff, reduceCtorEq, Nat.reduceAdd, Nat.reduceMul, Nat.reduceLeDiff, zfu, Int.mul_def, Int.add_def, zfv, cond_false, cond_true, isub, Int.reduceToNat, s2, s3, r4096, s7, r8240, s8, s9, s11, s18, s19, s20, s25, s26, s27, s43, s44, s45, hk']
            refine ⟨congrArg (fun x => some (AV.row x)) (rws_congr fun z hz => ?_), i64c (by omega)⟩
            first | rfl | rw [if_pos hz, if_pos (by omega)] | rw [if_pos (by omega)]
        · rw [if_neg hjq] at ey
          have e : (q < j) ↔ (q < j + 1) := by omega
          simp (config := { maxSteps := 10000000 }) (disch := first | assumption | omega) only [go_sem, ↓reduceIte, Nat.reduceEqDiff, reduceCtorEq, Nat.reduceAdd, Nat.reduceMul, Nat.reduceLeDiff, zfu, Int.mul_def, Int.add_def, zfv, cond_false, cond_true, isub, Int.reduceToNat, s2, s3, r4096, s7, r8240, s8, s9, s18, s19, s20, s25, s26, s27, hj', hj, ey]
          first | exact i64c (by omega) | exact ⟨by simp only [e], i64c (by omega)⟩
      · rintro sl ro gn ⟨s2, s3, r4096, s7, r8240, s8, s9, s18, s19, s20, s25, s26, s27⟩
        dsimp only at s2 s3 r4096 s7 r8240 s8 s9 s18 s19 s20 s25 s26 s27
        have hj' : ¬ ((X.length : Nat) : Int) < (X.length : Nat) := by omega
        simp (config := { maxSteps := 10000000 }) (disch := first | assumption | omega) only [go_sem, ↓reduceIte, Nat.reduceEqDiff, reduceCtorEq, Nat.reduceAdd, Nat.reduceMul, Nat.reduceLeDiff, zfu, Int.mul_def, Int.add_def, zfv, cond_false, cond_true, isub, Int.reduceToNat, s2, s3, r4096, s7, r8240, s8, s9, s18, s19, s20, s25, s26, s27, hj']
        first | exact i64c (by omega) | (refine ⟨congrArg (fun x => some (AV.row x)) (rws_congr fun z hz => ?_), i64c (by omega)⟩; first | rfl | rw [if_pos hq, if_pos (by omega)] | rw [if_pos (by omega)])
    · rw [if_neg hip] at ex
      have e : (p < i) ↔ (p < i + 1) := by omega
      simp (config := { maxSteps := 10000000 }) (disch := first | assumption | omega) only [go_sem, ↓reduceIte, Nat.reduceEqDiff, reduceCtorEq, Nat.reduceAdd, Nat.reduceMul, Nat.reduceLeDiff, zfu, Int.mul_def, Int.add_def, zfv, cond_false, cond_true, isub, Int.reduceToNat, s2, s3, r4096, s7, r8240, s18, s19, s20, hi', hi, ex]
      refine WK_for (fun j st => st.sl 2 = y ∧ st.sl 3 = .ptr 4096 1 [] 0 ∧ st.ro 4096 1 = some (.bx [a]) ∧ st.sl 7 = .ref 8240 1 [] 0 X.length ∧ st.ro 8240 1 = some (.row (rws (fun k => i64 (if p < i + 1 then at3 X p q k else 0)) X.length)) ∧ st.sl 8 = i64 (i : Int) ∧ st.sl 9 = i64 0 ∧ st.sl 18 = x ∧ st.sl 19 = i64 (X.length : Int) ∧ st.sl 20 = i64 (i : Int) ∧ st.sl 25 = y ∧ st.sl 26 = i64 (X.length : Int) ∧ st.sl 27 = i64 (j : Int)) X.length ?_ ?_ ?_
      · simp only [↓zcy, ↓zcz, ↓zda, ↓zdb, ↓reduceIte, Nat.reduceEqDiff, and_true, true_and, and_self, ne_eq, not_false_eq_true, eq_self, false_and, and_false, reduceCtorEq, rws_zero, s2, s3, r4096, s7, r8240, s18, s19, s20, hi', hi]
        refine ⟨by simp only [e], ?_⟩
        all_goals (repeat' first | rfl | exact i64c rfl | exact i64c (by omega) | exact trivial | apply And.intro)
      · rintro j sl ro gn hj ⟨s2, s3, r4096, s7, r8240, s8, s9, s18, s19, s20, s25, s26, s27⟩
        dsimp only at s2 s3 r4096 s7 r8240 s8 s9 s18 s19 s20 s25 s26 s27
        have hj' : (j : Int) < (X.length : Nat) := by omega
        have b1 : 0 ≤ atI (rws (unE q) X.length) j ∧ atI (rws (unE q) X.length) j ≤ 1 := by rw [un_at hj]; split <;> decide
        simp (config := { maxSteps := 10000000 }) (disch := first | assumption | omega) only [go_sem, ↓reduceIte, Nat.reduceEqDiff, reduceCtorEq, Nat.reduceAdd, Nat.reduceMul, Nat.reduceLeDiff, zfu, Int.mul_def, Int.add_def, zfv, cond_false, cond_true, isub, Int.reduceToNat, s2, s3, r4096, s7, r8240, s8, s9, s18, s19, s20, s25, s26, s27, hj', hj, Int.zero_mul]
        exact i64c (by omega)
      · rintro sl ro gn ⟨s2, s3, r4096, s7, r8240, s8, s9, s18, s19, s20, s25, s26, s27⟩
        dsimp only at s2 s3 r4096 s7 r8240 s8 s9 s18 s19 s20 s25 s26 s27
        have hj' : ¬ ((X.length : Nat) : Int) < (X.length : Nat) := by omega
        simp (config := { maxSteps := 10000000 }) (disch := first | assumption | omega) only [go_sem, ↓reduceIte, Nat.reduceEqDiff, reduceCtorEq, Nat.reduceAdd, Nat.reduceMul, Nat.reduceLeDiff, zfu, Int.mul_def, Int.add_def, zfv, cond_false, cond_true, isub, Int.reduceToNat, s2, s3, r4096, s7, r8240, s8, s9, s18, s19, s20, s25, s26, s27, hj']
        exact i64c (by omega)
  · rintro sl ro gn ⟨s2, s3, r4096, s7, r8240, s18, s19, s20⟩
    dsimp only at s2 s3 r4096 s7 r8240 s18 s19 s20
    have hi' : ¬ ((X.length : Nat) : Int) < (X.length : Nat) := by omega
    have e1 : (fun k => i64 (if p < X.length then at3 X p q k else 0)) = fun k => i64 (at3 X p q k) := by funext k; rw [if_pos hp]
    rw [e1] at r8240
    simp (config := { maxSteps := 10000000 }) (disch := first | assumption | omega) only [go_sem, ↓reduceIte, Nat.reduceEqDiff, reduceCtorEq, Nat.reduceAdd, Nat.reduceMul, Nat.reduceLeDiff, zfu, Int.mul_def, Int.add_def, zfv, cond_false, cond_true, isub, Int.reduceToNat, s2, s3, r4096, s7, r8240, s18, s19, s20, hi']
    simp only [zbj, zbk, retR, resL, outT, zes, zez, oneV, ↓zcy, ↓zcz, ↓reduceIte, Nat.reduceEqDiff, Option.some.injEq, AV.sc.injEq, Value.bool.injEq, Value.int.injEq, outL, outT, zft, zcp, zed, zef, zei, zeh, List.length_cons, List.length_nil, Nat.reduceAdd, Nat.zero_add, Nat.reduceLeDiff, List.drop_zero, List.take_succ_cons, List.take_zero, zfi, zfh, Ro.dl, zdb, zda, zfe, and_self, and_true, true_and, eq_self, List.append_nil, List.nil_append, List.cons_append, ne_eq, not_false_eq_true, and_false, false_and, Bool.false_eq_true, St.ev, zes, zfn, zhk, List.length_map, r8240]
end Go.Proofs.Ytifgeenipinnmaa

/- Orders of charges by the program; the law of OrderOfCharge answers true. -/
namespace Go.Proofs.Ytifgeenipinnmaa
open Go.RowKit
set_option maxRecDepth 1000000

section
variable {a b : AV} {S : List (List Int)} {T : List Int}
theorem nrL_cube (F : Nat → Nat → Nat → Int) (n : Nat) : noRefL (rws (fun i => .row (rws (fun j => .row (rws (fun k => i64 (F i j k)) n)) n)) n) = true := noRefL_rws _ _ fun _ => noRef_row _ (noRefL_rws _ _ fun _ => noRef_row _ (noRefL_rws _ _ fun _ => rfl))
attribute [go_sem] kIdx_ref0 nrL_cube
theorem impE_tupB (b : Nat) (gn : Nat → Nat) (v x : Value) : impE b gn (.tup [.sc v, .sc x]) = ⟨.tup [.sc v, .sc x], none, [], []⟩ := nr _
theorem c37n {i : Int} (ha : isLL a S) (hb : isL b T) (hS : S.length ≤ maxN) (hT : T.length ≤ maxN) (hR : ∀ i, i < S.length → (row S i).length ≤ maxN) (h : ¬ chg S T i = 0) : CallOK Try.prog 37 [.agg [a, b], i64 i] (.tup [i64 0, i64 (chg S T i)]) := by
  refine call_of (fn := Try.f37) (code := bodyOf Try.f37) Try.func37 rfl (by kernel_rfl) (rfl) ?_
  intro sl hs
  have s0 : sl 0 = .agg [a, b] := hs 0
  have s1 : sl 1 = i64 i := hs 1
  dsimp only [Try.f37, bodyOf, Option.getD]
  simp (config := { maxSteps := 10000000 }) (disch := first | assumption | omega) only [go_sem, ↓reduceIte, Nat.reduceEqDiff, reduceCtorEq, Nat.reduceAdd, Nat.reduceMul, Nat.reduceLeDiff, zfu, Int.mul_def, Int.add_def, zfv, cond_false, cond_true, isub, Int.reduceToNat, s0, s1]
  refine CLL_pure _ (c70n ha hb hS hT hR h) (by simp (disch := assumption) only [pureL, pureA, isL_pure, isLL_pure, isLLL_pure, pureL_map, Bool.and_self, Bool.and_true]) rfl rfl ?_
  simp (config := { maxSteps := 10000000 }) (disch := first | assumption | omega) only [go_sem, ↓reduceIte, Nat.reduceEqDiff, reduceCtorEq, Nat.reduceAdd, Nat.reduceMul, Nat.reduceLeDiff, zfu, Int.mul_def, Int.add_def, zfv, cond_false, cond_true, isub, Int.reduceToNat, s0, s1, h, impE_tupB]
  simp only [zbj, zbk, retR, resL, outT, zes, zez, oneV, ↓zcy, ↓zcz, ↓reduceIte, Nat.reduceEqDiff, Option.some.injEq, AV.sc.injEq, Value.bool.injEq, Value.int.injEq, outL, outT, zft, zcp, zed, zef, zei, zeh, List.length_cons, List.length_nil, Nat.reduceAdd, Nat.zero_add, Nat.reduceLeDiff, List.drop_zero, List.take_succ_cons, List.take_zero, zfi, zfh, Ro.dl, zdb, zda, zfe, and_self, and_true, true_and, eq_self, List.append_nil, List.nil_append, List.cons_append, ne_eq, not_false_eq_true, and_false, false_and, Bool.false_eq_true, St.ev, zes, zfn, zhk, List.length_map]
theorem cubeP_of (D : Dat S T) : CubeP (cubeL (nmC S T) T.length) := D.ring.1
theorem un_row {i m n : Nat} {f : Nat → Int} (h : uniR f n m) : rws f n = rws (unE m) n := rws_congr fun k hk => by
  unfold unE
  split
  · rename_i e; subst e; exact h.2.1
  · rename_i e; exact h.2.2 k hk e
theorem c37d {i : Nat} {v : Int} (ha : isLL a S) (hb : isL b T) (hS : S.length ≤ maxN) (hT : T.length ≤ maxN) (hR : ∀ i, i < S.length → (row S i).length ≤ maxN) (h : DataP S T) (hi : i < T.length)
    (hv : (¬ Inv S T i ∧ v = 0) ∨ (Inv S T i ∧ ∃ m : Nat, m < T.length ∧ orb S T i m = 0 ∧ (∀ k, k < m → orb S T i k ≠ 0) ∧ v = m + 1)) : CallOK Try.prog 37 [.agg [a, b], i64 i] (.tup [i64 v, i64 0]) := by
  have hT' : T.length ≤ 4294967296 := hT
  have D := h.dat
  have h16 := D.m16
  have hpos := D.shp.pos
  have cl : (cubeL (nmC S T) T.length).length = T.length := zfe _ _
  refine call_of (fn := Try.f37) (code := bodyOf Try.f37) Try.func37 rfl (by kernel_rfl) (rfl) ?_
  intro sl hs
  have s0 : sl 0 = .agg [a, b] := hs 0
  have s1 : sl 1 = i64 i := hs 1
  rcases hv with ⟨hI, rfl⟩ | ⟨hI, m, hm, hm0, hmk, rfl⟩
  · skip
    dsimp only [Try.f37, bodyOf, Option.getD]
    simp (config := { maxSteps := 10000000 }) (disch := first | assumption | omega) only [go_sem, ↓reduceIte, Nat.reduceEqDiff, reduceCtorEq, Nat.reduceAdd, Nat.reduceMul, Nat.reduceLeDiff, zfu, Int.mul_def, Int.add_def, zfv, cond_false, cond_true, isub, Int.reduceToNat, s0, s1]
    refine CLL_pure _ (c70d (t := false) ha hb hS hT hR h hi (by simp [hI])) (by simp (disch := assumption) only [pureL, pureA, isL_pure, isLL_pure, isLLL_pure, pureL_map, Bool.and_self, Bool.and_true]) rfl rfl ?_
    simp (config := { maxSteps := 10000000 }) (disch := first | assumption | omega) only [go_sem, ↓reduceIte, Nat.reduceEqDiff, reduceCtorEq, Nat.reduceAdd, Nat.reduceMul, Nat.reduceLeDiff, zfu, Int.mul_def, Int.add_def, zfv, cond_false, cond_true, isub, Int.reduceToNat, s0, s1, impE_tupB]
    simp only [zbj, zbk, retR, resL, outT, zes, zez, oneV, ↓zcy, ↓zcz, ↓reduceIte, Nat.reduceEqDiff, Option.some.injEq, AV.sc.injEq, Value.bool.injEq, Value.int.injEq, outL, outT, zft, zcp, zed, zef, zei, zeh, List.length_cons, List.length_nil, Nat.reduceAdd, Nat.zero_add, Nat.reduceLeDiff, List.drop_zero, List.take_succ_cons, List.take_zero, zfi, zfh, Ro.dl, zdb, zda, zfe, and_self, and_true, true_and, eq_self, List.append_nil, List.nil_append, List.cons_append, ne_eq, not_false_eq_true, and_false, false_and, Bool.false_eq_true, St.ev, zes, zfn, zhk, List.length_map]
  · have hcI : isLLL (immC (nmC S T) T.length) (cubeL (nmC S T) T.length) := isLLL_immC _ _
    have c71' := c71 hcI (by omega) (i := i) (by omega)
    rw [cl] at c71'
    have c72' : ∀ k, CallOK Try.prog 72 [.agg [immC (nmC S T) T.length], immL (rws (unE (orb S T i k)) T.length), immL (rws (unE i) T.length)] (rowL (rws (unE (orb S T i (k + 1))) T.length)) := by
      intro k
      have ho := D.orb_lt hi hI k
      have := c72 (p := orb S T i k) (q := i) hcI (cubeP_of D) (x := immL (rws (unE (orb S T i k)) T.length)) (y := immL (rws (unE i) T.length)) (by rw [cl]; exact isL_imm _) (by rw [cl]; exact isL_imm _) (by omega) (by omega)
      rw [cl] at this
      have e : rws (at3 (cubeL (nmC S T) T.length) (orb S T i k) i) T.length = rws (unE (orb S T i (k + 1))) T.length := by
        have e1 : rws (at3 (cubeL (nmC S T) T.length) (orb S T i k) i) T.length = rws (nmC S T (orb S T i k) i) T.length := rws_congr fun z hz => at3_cube ho hi hz
        rw [e1]
        exact un_row (i := i) (D.mv_uni hi hI ho)
      rwa [e] at this
    have hun : ∀ q : Nat, atI (rws (unE q) T.length) 0 = if 0 = q then 1 else 0 := fun q => un_at hpos
    dsimp only [Try.f37, bodyOf, Option.getD]
    simp (config := { maxSteps := 10000000 }) (disch := first | assumption | omega) only [go_sem, ↓reduceIte, Nat.reduceEqDiff, reduceCtorEq, Nat.reduceAdd, Nat.reduceMul, Nat.reduceLeDiff, zfu, Int.mul_def, Int.add_def, zfv, cond_false, cond_true, isub, Int.reduceToNat, s0, s1]
    refine CLL_pure _ (c70d (t := true) ha hb hS hT hR h hi (by simp [hI])) (by simp (disch := assumption) only [pureL, pureA, isL_pure, isLL_pure, isLLL_pure, pureL_map, Bool.and_self, Bool.and_true]) rfl rfl ?_
    simp (config := { maxSteps := 10000000 }) (disch := first | assumption | omega) only [go_sem, ↓reduceIte, Nat.reduceEqDiff, reduceCtorEq, Nat.reduceAdd, Nat.reduceMul, Nat.reduceLeDiff, zfu, Int.mul_def, Int.add_def, zfv, cond_false, cond_true, isub, Int.reduceToNat, s0, s1, impE_tupB]
    refine CLL_pure _ (c46 hb ha D.shp D.whl D.cj) (by simp (disch := assumption) only [pureL, pureA, isL_pure, isLL_pure, isLLL_pure, pureL_map, Bool.and_self, Bool.and_true]) rfl rfl ?_
    simp (config := { maxSteps := 10000000 }) (disch := first | assumption | omega) only [go_sem, ↓reduceIte, Nat.reduceEqDiff, reduceCtorEq, Nat.reduceAdd, Nat.reduceMul, Nat.reduceLeDiff, zfu, Int.mul_def, Int.add_def, zfv, cond_false, cond_true, isub, Int.reduceToNat, s0, s1]
    refine CLL_q _ c71' (.cons (exq_agg (.cons (exq_cube (F := nmC S T) (by simp only [↓zcy, ↓zcz, ↓zda, ↓zdb, ↓reduceIte, Nat.reduceEqDiff, and_true, true_and, and_self, ne_eq, not_false_eq_true, eq_self, false_and, and_false, reduceCtorEq]; rfl) (by decide)) .nil)) (.cons (exq_sc _ _ _ (by decide)) .nil)) rfl rfl (noI_rowL _) ?_
    simp (config := { maxSteps := 10000000 }) (disch := first | assumption | omega) only [go_sem, ↓reduceIte, Nat.reduceEqDiff, reduceCtorEq, Nat.reduceAdd, Nat.reduceMul, Nat.reduceLeDiff, zfu, Int.mul_def, Int.add_def, zfv, cond_false, cond_true, isub, Int.reduceToNat, s0, s1]
    refine WK_for (fun k st => st.sl 1 = i64 i ∧ st.sl 8 = .ptr 20512 1 [] 0 ∧ st.ro 20512 1 = some (.bx [.ref 20496 1 [] 0 T.length]) ∧ st.ro 20496 1 = some (cubeA (nmC S T) T.length) ∧ st.sl 9 = i64 ((k : Int) + 1) ∧ ((k = 0 ∧ st.sl 10 = .ref 28704 1 [] 0 T.length ∧ st.ro 28704 1 = some (rowL (rws (unE (orb S T i 0)) T.length))) ∨ (0 < k ∧ st.sl 10 = .ref 36944 (st.gn 36944) [] 0 T.length ∧ st.ro 36944 (st.gn 36944) = some (rowL (rws (unE (orb S T i k)) T.length))))) m ?_ ?_ ?_
    · simp only [↓zcy, ↓zcz, ↓zda, ↓zdb, ↓reduceIte, Nat.reduceEqDiff, and_true, true_and, and_self, ne_eq, not_false_eq_true, eq_self, false_and, and_false, reduceCtorEq, rws_zero, s0, s1]
      exact ⟨rfl, rfl, .inl rfl⟩
    · rintro k sl ro gn hk ⟨s1, s8, r20512, r20496, s9, q⟩
      dsimp only at s1 s8 r20512 r20496 s9
      have hk' : (k : Int) < (m : Nat) := by omega
      dsimp only at q
      have hk0 := hmk k hk
      rcases q with ⟨rfl, s10, r10⟩ | ⟨hk1, s10, r10⟩
      · have hu := hun (orb S T i 0)
        have hln := zfe (unE (orb S T i 0)) T.length
        rw [if_neg (fun e => hk0 e.symm)] at hu
        simp (config := { maxSteps := 10000000 }) (disch := first | assumption | omega) only [go_sem, ↓reduceIte, Nat.reduceEqDiff, reduceCtorEq, Nat.reduceAdd, Nat.reduceMul, Nat.reduceLeDiff, zfu, Int.mul_def, Int.add_def, zfv, cond_false, cond_true, isub, Int.reduceToNat, s1, s8, r20512, r20496, s9, hk', hk, s10, r10, hu]
        refine CLLD_q _ c71' (.cons (exq_agg (.cons (exq_cube (F := nmC S T) r20496 (by decide)) .nil)) (.cons (exq_sc _ _ _ (by decide)) .nil)) rfl (noI_rowL _) ?_
        simp (config := { maxSteps := 10000000 }) (disch := first | assumption | omega) only [go_sem, ↓reduceIte, Nat.reduceEqDiff, reduceCtorEq, Nat.reduceAdd, Nat.reduceMul, Nat.reduceLeDiff, zfu, Int.mul_def, Int.add_def, zfv, cond_false, cond_true, isub, Int.reduceToNat, s1, s8, r20512, r20496, s9, hk', hk, s10, r10]
        refine CLLD_q _ (c72' 0) (.cons (exq_agg (.cons (exq_cube (F := nmC S T) (by simp only [↓zcy, ↓zcz, ↓zda, ↓zdb, ↓reduceIte, Nat.reduceEqDiff, and_true, true_and, and_self, ne_eq, not_false_eq_true, eq_self, false_and, and_false, reduceCtorEq]; exact r20496) (by decide)) .nil)) (.cons (exq_refL (by simp only [↓zcy, ↓zcz, ↓zda, ↓zdb, ↓reduceIte, Nat.reduceEqDiff, and_true, true_and, and_self, ne_eq, not_false_eq_true, eq_self, false_and, and_false, reduceCtorEq]; exact r10) (zfe _ _).symm (by decide)) (.cons (exq_refL (by simp only [↓zcy, ↓zcz, ↓zda, ↓zdb, ↓reduceIte, Nat.reduceEqDiff, and_true, true_and, and_self, ne_eq, not_false_eq_true, eq_self, false_and, and_false, reduceCtorEq]) (zfe _ _).symm (by decide)) .nil))) rfl (noI_rowL _) ?_
        simp (config := { maxSteps := 10000000 }) (disch := first | assumption | omega) only [go_sem, ↓reduceIte, Nat.reduceEqDiff, reduceCtorEq, Nat.reduceAdd, Nat.reduceMul, Nat.reduceLeDiff, zfu, Int.mul_def, Int.add_def, zfv, cond_false, cond_true, isub, Int.reduceToNat, s1, s8, r20512, r20496, s9, hk', hk, s10, r10]
        refine FIN_of (by kernel_rfl) ?_
        simp (config := { maxSteps := 10000000 }) (disch := first | assumption | omega) only [go_sem, ↓reduceIte, Nat.reduceEqDiff, reduceCtorEq, Nat.reduceAdd, Nat.reduceMul, Nat.reduceLeDiff, zfu, Int.mul_def, Int.add_def, zfv, cond_false, cond_true, isub, Int.reduceToNat, s1, s8, r20512, r20496, s9, hk', hk]
        exact ⟨i64c (by omega), .inr trivial⟩
      · have hu := hun (orb S T i k)
        have hln := zfe (unE (orb S T i k)) T.length
        rw [if_neg (fun e => hk0 e.symm)] at hu
        simp (config := { maxSteps := 10000000 }) (disch := first | assumption | omega) only [go_sem, ↓reduceIte, Nat.reduceEqDiff, reduceCtorEq, Nat.reduceAdd, Nat.reduceMul, Nat.reduceLeDiff, zfu, Int.mul_def, Int.add_def, zfv, cond_false, cond_true, isub, Int.reduceToNat, s1, s8, r20512, r20496, s9, hk', hk, s10, r10, hu]
        refine CLLD_q _ c71' (.cons (exq_agg (.cons (exq_cube (F := nmC S T) r20496 (by decide)) .nil)) (.cons (exq_sc _ _ _ (by decide)) .nil)) rfl (noI_rowL _) ?_
        simp (config := { maxSteps := 10000000 }) (disch := first | assumption | omega) only [go_sem, ↓reduceIte, Nat.reduceEqDiff, reduceCtorEq, Nat.reduceAdd, Nat.reduceMul, Nat.reduceLeDiff, zfu, Int.mul_def, Int.add_def, zfv, cond_false, cond_true, isub, Int.reduceToNat, s1, s8, r20512, r20496, s9, hk', hk, s10, r10]
        refine CLLD_q _ (c72' k) (.cons (exq_agg (.cons (exq_cube (F := nmC S T) (by simp only [↓zcy, ↓zcz, ↓zda, ↓zdb, ↓reduceIte, Nat.reduceEqDiff, and_true, true_and, and_self, ne_eq, not_false_eq_true, eq_self, false_and, and_false, reduceCtorEq]; exact r20496) (by decide)) .nil)) (.cons (exq_refL (by simp only [↓zcy, ↓zcz, ↓zda, ↓zdb, ↓reduceIte, Nat.reduceEqDiff, and_true, true_and, and_self, ne_eq, not_false_eq_true, eq_self, false_and, and_false, reduceCtorEq]; exact r10) (zfe _ _).symm (by decide)) (.cons (exq_refL (by simp only [↓zcy, ↓zcz, ↓zda, ↓zdb, ↓reduceIte, Nat.reduceEqDiff, and_true, true_and, and_self, ne_eq, not_false_eq_true, eq_self, false_and, and_false, reduceCtorEq]) (zfe _ _).symm (by decide)) .nil))) rfl (noI_rowL _) ?_
        simp (config := { maxSteps := 10000000 }) (disch := first | assumption | omega) only [go_sem, ↓reduceIte, Nat.reduceEqDiff, reduceCtorEq, Nat.reduceAdd, Nat.reduceMul, Nat.reduceLeDiff, zfu, Int.mul_def, Int.add_def, zfv, cond_false, cond_true, isub, Int.reduceToNat, s1, s8, r20512, r20496, s9, hk', hk, s10, r10]
        refine FIN_of (by kernel_rfl) ?_
        simp (config := { maxSteps := 10000000 }) (disch := first | assumption | omega) only [go_sem, ↓reduceIte, Nat.reduceEqDiff, reduceCtorEq, Nat.reduceAdd, Nat.reduceMul, Nat.reduceLeDiff, zfu, Int.mul_def, Int.add_def, zfv, cond_false, cond_true, isub, Int.reduceToNat, s1, s8, r20512, r20496, s9, hk', hk]
        exact ⟨i64c (by omega), .inr trivial⟩
    · rintro sl ro gn ⟨s1, s8, r20512, r20496, s9, q⟩
      dsimp only at s1 s8 r20512 r20496 s9
      have hk' : ¬ ((m : Nat) : Int) < (m : Nat) := by omega
      dsimp only at q
      have hu := hun (orb S T i m)
      have hln := zfe (unE (orb S T i m)) T.length
      rw [if_pos hm0.symm] at hu
      rcases q with ⟨rfl, s10, r10⟩ | ⟨hk1, s10, r10⟩
      · skip
        simp (config := { maxSteps := 10000000 }) (disch := first | assumption | omega) only [go_sem, ↓reduceIte, Nat.reduceEqDiff, reduceCtorEq, Nat.reduceAdd, Nat.reduceMul, Nat.reduceLeDiff, zfu, Int.mul_def, Int.add_def, zfv, cond_false, cond_true, isub, Int.reduceToNat, s1, s8, r20512, r20496, s9, hk', s10, r10, hu]
        simp only [zbj, zbk, retR, resL, outT, zes, zez, oneV, ↓zcy, ↓zcz, ↓reduceIte, Nat.reduceEqDiff, Option.some.injEq, AV.sc.injEq, Value.bool.injEq, Value.int.injEq, outL, outT, zft, zcp, zed, zef, zei, zeh, List.length_cons, List.length_nil, Nat.reduceAdd, Nat.zero_add, Nat.reduceLeDiff, List.drop_zero, List.take_succ_cons, List.take_zero, zfi, zfh, Ro.dl, zdb, zda, zfe, and_self, and_true, true_and, eq_self, List.append_nil, List.nil_append, List.cons_append, ne_eq, not_false_eq_true, and_false, false_and, Bool.false_eq_true, St.ev, zes, zfn, zhk, List.length_map]
      · skip
        simp (config := { maxSteps := 10000000 }) (disch := first | assumption | omega) only [go_sem, ↓reduceIte, Nat.reduceEqDiff, reduceCtorEq, Nat.reduceAdd, Nat.reduceMul, Nat.reduceLeDiff, zfu, Int.mul_def, Int.add_def, zfv, cond_false, cond_true, isub, Int.reduceToNat, s1, s8, r20512, r20496, s9, hk', s10, r10, hu]
        simp only [zbj, zbk, retR, resL, outT, zes, zez, oneV, ↓zcy, ↓zcz, ↓reduceIte, Nat.reduceEqDiff, Option.some.injEq, AV.sc.injEq, Value.bool.injEq, Value.int.injEq, outL, outT, zft, zcp, zed, zef, zei, zeh, List.length_cons, List.length_nil, Nat.reduceAdd, Nat.zero_add, Nat.reduceLeDiff, List.drop_zero, List.take_succ_cons, List.take_zero, zfi, zfh, Ro.dl, zdb, zda, zfe, and_self, and_true, true_and, eq_self, List.append_nil, List.nil_append, List.cons_append, ne_eq, not_false_eq_true, and_false, false_and, Bool.false_eq_true, St.ev, zes, zfn, zhk, List.length_map]
end
theorem oc_both {S : List (List Int)} {T : List Int} {i : Int} (hi1 : -2^63 ≤ i) (hi2 : i < 2^63) (hS : S.length ≤ maxN) (hT : T.length ≤ maxN) (hR : ∀ i, i < S.length → (row S i).length ≤ maxN) :
    ∃ v z, CallOK Try.prog 36 [.agg [immLL S, immL T], i64 i] (.tup [i64 v, i64 z]) ∧ CallOK Try.prog 37 [.agg [immLL S, immL T], i64 i] (.tup [i64 v, i64 z]) := by
  by_cases h : chg S T i = 0
  · have hd : DataP S T := Classical.byContradiction fun hn => by rw [chg1 hn] at h; omega
    have hij : 0 ≤ i ∧ i ≤ (T.length : Int) - 1 := Classical.byContradiction fun hn => by rw [chg2 hd hn] at h; omega
    obtain ⟨i, rfl⟩ := Int.eq_ofNat_of_zero_le hij.1
    have hi : i < T.length := by omega
    have hv : ∃ v, (¬ Inv S T i ∧ v = 0) ∨ (Inv S T i ∧ ∃ m : Nat, m < T.length ∧ orb S T i m = 0 ∧ (∀ k, k < m → orb S T i k ≠ 0) ∧ v = (m : Int) + 1) := by
      by_cases hI : Inv S T i
      · obtain ⟨m, h1, h2, h3⟩ := hd.dat.orb_ret hi hI
        exact ⟨(m : Int) + 1, .inr ⟨hI, m, h1, h2, h3, rfl⟩⟩
      · exact ⟨0, .inl ⟨hI, rfl⟩⟩
    obtain ⟨v, hv⟩ := hv
    exact ⟨v, 0, c36d (isLL_imm S) (isL_imm T) hS hT hR hd hi hv, c37d (isLL_imm S) (isL_imm T) hS hT hR hd hi hv⟩
  · exact ⟨_, _, c36n hi1 hi2 (isLL_imm S) (isL_imm T) hS hT hR h, c37n (isLL_imm S) (isL_imm T) hS hT hR h⟩
theorem c9 {a b : AV} {S : List (List Int)} {T : List Int} {i : Int} (ha : isLLw a S) (hb : isLw b T) (l1 : S.length < 2^63) (l2 : ∀ i, (row S i).length < 2^63) (l3 : T.length < 2^63) (hi1 : -2^63 ≤ i) (hi2 : i < 2^63) : CallOK Try.prog 9 [.agg [a, b], i64 i] (bo true) := by
  have cZ := c25 (left := 1048576) ha hb l1 (fun i _ => l2 i) l3 (by decide) (by decide)
  refine call_of (fn := Try.f9) (code := bodyOf Try.f9) Try.func9 rfl (by kernel_rfl) (rfl) ?_
  intro sl hs
  have s0 : sl 0 = .agg [a, b] := hs 0
  have s1 : sl 1 = i64 i := hs 1
  by_cases hz : szD S T 1048576 < 0
  · skip
    dsimp only [Try.f9, bodyOf, Option.getD]
    simp (config := { maxSteps := 10000000 }) (disch := first | assumption | omega) only [go_sem, ↓reduceIte, Nat.reduceEqDiff, reduceCtorEq, Nat.reduceAdd, Nat.reduceMul, Nat.reduceLeDiff, zfu, Int.mul_def, Int.add_def, zfv, cond_false, cond_true, isub, Int.reduceToNat, s0, s1]
    refine CLL_pure _ cZ (by simp (disch := assumption) only [pureL, pureA, isLw_pure, isLLw_pure, pureL_map, Bool.and_self, Bool.and_true]) rfl rfl ?_
    simp (config := { maxSteps := 10000000 }) (disch := first | assumption | omega) only [go_sem, ↓reduceIte, Nat.reduceEqDiff, reduceCtorEq, Nat.reduceAdd, Nat.reduceMul, Nat.reduceLeDiff, zfu, Int.mul_def, Int.add_def, zfv, cond_false, cond_true, isub, Int.reduceToNat, s0, s1, hz]
    simp only [zbj, zbk, retR, resL, outT, zes, zez, oneV, ↓zcy, ↓zcz, ↓reduceIte, Nat.reduceEqDiff, Option.some.injEq, AV.sc.injEq, Value.bool.injEq, Value.int.injEq, outL, outT, zft, zcp, zed, zef, zei, zeh, List.length_cons, List.length_nil, Nat.reduceAdd, Nat.zero_add, Nat.reduceLeDiff, List.drop_zero, List.take_succ_cons, List.take_zero, zfi, zfh, Ro.dl, zdb, zda, zfe, and_self, and_true, true_and, eq_self, List.append_nil, List.nil_append, List.cons_append, ne_eq, not_false_eq_true, and_false, false_and, Bool.false_eq_true, St.ev, zes, zfn, zhk, List.length_map]
  · obtain ⟨z1, z2, z3⟩ := szD_ok hz
    have hS := maxN_of z1
    have hT := maxN_of z2
    have hR : ∀ i, i < S.length → (row S i).length ≤ maxN := fun i hi => maxN_of (z3 i hi)
    obtain ⟨v, z, h36, h37⟩ := oc_both (i := i) hi1 hi2 hS hT hR
    have cT := c27 ha hb hS hT hR
    have cE := c12 (isLL_imm S) (isLL_imm S) (isL_imm T) (isL_imm T) hS (row_max hR) hT
    rw [decide_eq_true ⟨rfl, rfl⟩] at cE
    dsimp only [Try.f9, bodyOf, Option.getD]
    simp (config := { maxSteps := 10000000 }) (disch := first | assumption | omega) only [go_sem, ↓reduceIte, Nat.reduceEqDiff, reduceCtorEq, Nat.reduceAdd, Nat.reduceMul, Nat.reduceLeDiff, zfu, Int.mul_def, Int.add_def, zfv, cond_false, cond_true, isub, Int.reduceToNat, s0, s1]
    refine CLL_pure _ cZ (by simp (disch := assumption) only [pureL, pureA, isLw_pure, isLLw_pure, pureL_map, Bool.and_self, Bool.and_true]) rfl rfl ?_
    simp (config := { maxSteps := 10000000 }) (disch := first | assumption | omega) only [go_sem, ↓reduceIte, Nat.reduceEqDiff, reduceCtorEq, Nat.reduceAdd, Nat.reduceMul, Nat.reduceLeDiff, zfu, Int.mul_def, Int.add_def, zfv, cond_false, cond_true, isub, Int.reduceToNat, s0, s1, hz]
    refine CLL_pure _ cT (by simp (disch := assumption) only [pureL, pureA, isLw_pure, isLLw_pure, pureL_map, Bool.and_self, Bool.and_true]) rfl rfl ?_
    simp (config := { maxSteps := 10000000 }) (disch := first | assumption | omega) only [go_sem, ↓reduceIte, Nat.reduceEqDiff, reduceCtorEq, Nat.reduceAdd, Nat.reduceMul, Nat.reduceLeDiff, zfu, Int.mul_def, Int.add_def, zfv, cond_false, cond_true, isub, Int.reduceToNat, s0, s1]
    refine CLL_q _ h36 (by repeat' first | exact exqL.nil | refine exqL.cons ?_ ?_ | exact exq_sc _ _ _ (by decide) | exact exq_L (by first | assumption | exact isL_imm _) (by decide) | exact exq_LL (by assumption) (by decide) | exact exq_LLL (by assumption) (by decide) | exact exq_refL (by first | assumption | (simp only [↓zcy, ↓zcz, ↓zda, ↓zdb, ↓reduceIte, Nat.reduceEqDiff, and_true, true_and, and_self, ne_eq, not_false_eq_true, eq_self, false_and, and_false, reduceCtorEq]; done) | (simp only [↓zcy, ↓zcz, ↓zda, ↓zdb, ↓reduceIte, Nat.reduceEqDiff, and_true, true_and, and_self, ne_eq, not_false_eq_true, eq_self, false_and, and_false, reduceCtorEq]; first | rfl | assumption)) (by first | rfl | (simp only [zfe, List.length_map, tms_len]; done)) (by decide) | exact exq_refLL (by first | assumption | (simp only [↓zcy, ↓zcz, ↓zda, ↓zdb, ↓reduceIte, Nat.reduceEqDiff, and_true, true_and, and_self, ne_eq, not_false_eq_true, eq_self, false_and, and_false, reduceCtorEq]; done) | (simp only [↓zcy, ↓zcz, ↓zda, ↓zdb, ↓reduceIte, Nat.reduceEqDiff, and_true, true_and, and_self, ne_eq, not_false_eq_true, eq_self, false_and, and_false, reduceCtorEq]; first | rfl | assumption)) (by first | rfl | (simp only [zfe, List.length_map, tms_len]; done)) (by decide) | exact exq_cube (by first | assumption | (simp only [↓zcy, ↓zcz, ↓zda, ↓zdb, ↓reduceIte, Nat.reduceEqDiff, and_true, true_and, and_self, ne_eq, not_false_eq_true, eq_self, false_and, and_false, reduceCtorEq]; done) | (simp only [↓zcy, ↓zcz, ↓zda, ↓zdb, ↓reduceIte, Nat.reduceEqDiff, and_true, true_and, and_self, ne_eq, not_false_eq_true, eq_self, false_and, and_false, reduceCtorEq]; first | rfl | assumption)) (by decide) | exact exq_mat (by first | assumption | (simp only [↓zcy, ↓zcz, ↓zda, ↓zdb, ↓reduceIte, Nat.reduceEqDiff, and_true, true_and, and_self, ne_eq, not_false_eq_true, eq_self, false_and, and_false, reduceCtorEq]; done) | (simp only [↓zcy, ↓zcz, ↓zda, ↓zdb, ↓reduceIte, Nat.reduceEqDiff, and_true, true_and, and_self, ne_eq, not_false_eq_true, eq_self, false_and, and_false, reduceCtorEq]; first | rfl | assumption)) (by decide) | refine exq_agg ?_) rfl rfl rfl ?_
    simp (config := { maxSteps := 10000000 }) (disch := first | assumption | omega) only [go_sem, ↓reduceIte, Nat.reduceEqDiff, reduceCtorEq, Nat.reduceAdd, Nat.reduceMul, Nat.reduceLeDiff, zfu, Int.mul_def, Int.add_def, zfv, cond_false, cond_true, isub, Int.reduceToNat, s0, s1]
    refine CLL_pure _ cT (by simp (disch := assumption) only [pureL, pureA, isLw_pure, isLLw_pure, pureL_map, Bool.and_self, Bool.and_true]) rfl rfl ?_
    simp (config := { maxSteps := 10000000 }) (disch := first | assumption | omega) only [go_sem, ↓reduceIte, Nat.reduceEqDiff, reduceCtorEq, Nat.reduceAdd, Nat.reduceMul, Nat.reduceLeDiff, zfu, Int.mul_def, Int.add_def, zfv, cond_false, cond_true, isub, Int.reduceToNat, s0, s1]
    refine CLL_q _ h37 (by repeat' first | exact exqL.nil | refine exqL.cons ?_ ?_ | exact exq_sc _ _ _ (by decide) | exact exq_L (by first | assumption | exact isL_imm _) (by decide) | exact exq_LL (by assumption) (by decide) | exact exq_LLL (by assumption) (by decide) | exact exq_refL (by first | assumption | (simp only [↓zcy, ↓zcz, ↓zda, ↓zdb, ↓reduceIte, Nat.reduceEqDiff, and_true, true_and, and_self, ne_eq, not_false_eq_true, eq_self, false_and, and_false, reduceCtorEq]; done) | (simp only [↓zcy, ↓zcz, ↓zda, ↓zdb, ↓reduceIte, Nat.reduceEqDiff, and_true, true_and, and_self, ne_eq, not_false_eq_true, eq_self, false_and, and_false, reduceCtorEq]; first | rfl | assumption)) (by first | rfl | (simp only [zfe, List.length_map, tms_len]; done)) (by decide) | exact exq_refLL (by first | assumption | (simp only [↓zcy, ↓zcz, ↓zda, ↓zdb, ↓reduceIte, Nat.reduceEqDiff, and_true, true_and, and_self, ne_eq, not_false_eq_true, eq_self, false_and, and_false, reduceCtorEq]; done) | (simp only [↓zcy, ↓zcz, ↓zda, ↓zdb, ↓reduceIte, Nat.reduceEqDiff, and_true, true_and, and_self, ne_eq, not_false_eq_true, eq_self, false_and, and_false, reduceCtorEq]; first | rfl | assumption)) (by first | rfl | (simp only [zfe, List.length_map, tms_len]; done)) (by decide) | exact exq_cube (by first | assumption | (simp only [↓zcy, ↓zcz, ↓zda, ↓zdb, ↓reduceIte, Nat.reduceEqDiff, and_true, true_and, and_self, ne_eq, not_false_eq_true, eq_self, false_and, and_false, reduceCtorEq]; done) | (simp only [↓zcy, ↓zcz, ↓zda, ↓zdb, ↓reduceIte, Nat.reduceEqDiff, and_true, true_and, and_self, ne_eq, not_false_eq_true, eq_self, false_and, and_false, reduceCtorEq]; first | rfl | assumption)) (by decide) | exact exq_mat (by first | assumption | (simp only [↓zcy, ↓zcz, ↓zda, ↓zdb, ↓reduceIte, Nat.reduceEqDiff, and_true, true_and, and_self, ne_eq, not_false_eq_true, eq_self, false_and, and_false, reduceCtorEq]; done) | (simp only [↓zcy, ↓zcz, ↓zda, ↓zdb, ↓reduceIte, Nat.reduceEqDiff, and_true, true_and, and_self, ne_eq, not_false_eq_true, eq_self, false_and, and_false, reduceCtorEq]; first | rfl | assumption)) (by decide) | refine exq_agg ?_) rfl rfl rfl ?_
    simp (config := { maxSteps := 10000000 }) (disch := first | assumption | omega) only [go_sem, ↓reduceIte, Nat.reduceEqDiff, reduceCtorEq, Nat.reduceAdd, Nat.reduceMul, Nat.reduceLeDiff, zfu, Int.mul_def, Int.add_def, zfv, cond_false, cond_true, isub, Int.reduceToNat, s0, s1]
    refine CLLD_pure _ cT (by simp (disch := assumption) only [pureL, pureA, isLw_pure, isLLw_pure, pureL_map, Bool.and_self, Bool.and_true]) rfl ?_
    simp (config := { maxSteps := 10000000 }) (disch := first | assumption | omega) only [go_sem, ↓reduceIte, Nat.reduceEqDiff, reduceCtorEq, Nat.reduceAdd, Nat.reduceMul, Nat.reduceLeDiff, zfu, Int.mul_def, Int.add_def, zfv, cond_false, cond_true, isub, Int.reduceToNat, s0, s1]
    refine CLLD_q _ cE (by repeat' first | exact exqL.nil | refine exqL.cons ?_ ?_ | exact exq_sc _ _ _ (by decide) | exact exq_L (by first | assumption | exact isL_imm _) (by decide) | exact exq_LL (by assumption) (by decide) | exact exq_LLL (by assumption) (by decide) | exact exq_refL (by first | assumption | (simp only [↓zcy, ↓zcz, ↓zda, ↓zdb, ↓reduceIte, Nat.reduceEqDiff, and_true, true_and, and_self, ne_eq, not_false_eq_true, eq_self, false_and, and_false, reduceCtorEq]; done) | (simp only [↓zcy, ↓zcz, ↓zda, ↓zdb, ↓reduceIte, Nat.reduceEqDiff, and_true, true_and, and_self, ne_eq, not_false_eq_true, eq_self, false_and, and_false, reduceCtorEq]; first | rfl | assumption)) (by first | rfl | (simp only [zfe, List.length_map, tms_len]; done)) (by decide) | exact exq_refLL (by first | assumption | (simp only [↓zcy, ↓zcz, ↓zda, ↓zdb, ↓reduceIte, Nat.reduceEqDiff, and_true, true_and, and_self, ne_eq, not_false_eq_true, eq_self, false_and, and_false, reduceCtorEq]; done) | (simp only [↓zcy, ↓zcz, ↓zda, ↓zdb, ↓reduceIte, Nat.reduceEqDiff, and_true, true_and, and_self, ne_eq, not_false_eq_true, eq_self, false_and, and_false, reduceCtorEq]; first | rfl | assumption)) (by first | rfl | (simp only [zfe, List.length_map, tms_len]; done)) (by decide) | exact exq_cube (by first | assumption | (simp only [↓zcy, ↓zcz, ↓zda, ↓zdb, ↓reduceIte, Nat.reduceEqDiff, and_true, true_and, and_self, ne_eq, not_false_eq_true, eq_self, false_and, and_false, reduceCtorEq]; done) | (simp only [↓zcy, ↓zcz, ↓zda, ↓zdb, ↓reduceIte, Nat.reduceEqDiff, and_true, true_and, and_self, ne_eq, not_false_eq_true, eq_self, false_and, and_false, reduceCtorEq]; first | rfl | assumption)) (by decide) | exact exq_mat (by first | assumption | (simp only [↓zcy, ↓zcz, ↓zda, ↓zdb, ↓reduceIte, Nat.reduceEqDiff, and_true, true_and, and_self, ne_eq, not_false_eq_true, eq_self, false_and, and_false, reduceCtorEq]; done) | (simp only [↓zcy, ↓zcz, ↓zda, ↓zdb, ↓reduceIte, Nat.reduceEqDiff, and_true, true_and, and_self, ne_eq, not_false_eq_true, eq_self, false_and, and_false, reduceCtorEq]; first | rfl | assumption)) (by decide) | refine exq_agg ?_) rfl rfl ?_
    simp (config := { maxSteps := 10000000 }) (disch := first | assumption | omega) only [go_sem, ↓reduceIte, Nat.reduceEqDiff, reduceCtorEq, Nat.reduceAdd, Nat.reduceMul, Nat.reduceLeDiff, zfu, Int.mul_def, Int.add_def, zfv, cond_false, cond_true, isub, Int.reduceToNat, s0, s1]
    refine FIN_of (by kernel_rfl) ?_
    simp (config := { maxSteps := 10000000 }) (disch := first | assumption | omega) only [go_sem, ↓reduceIte, Nat.reduceEqDiff, reduceCtorEq, Nat.reduceAdd, Nat.reduceMul, Nat.reduceLeDiff, zfu, Int.mul_def, Int.add_def, zfv, cond_false, cond_true, isub, Int.reduceToNat, s0, s1]
    simp only [zbj, zbk, retR, resL, outT, zes, zez, oneV, ↓zcy, ↓zcz, ↓reduceIte, Nat.reduceEqDiff, Option.some.injEq, AV.sc.injEq, Value.bool.injEq, Value.int.injEq, outL, outT, zft, zcp, zed, zef, zei, zeh, List.length_cons, List.length_nil, Nat.reduceAdd, Nat.zero_add, Nat.reduceLeDiff, List.drop_zero, List.take_succ_cons, List.take_zero, zfi, zfh, Ro.dl, zdb, zda, zfe, and_self, and_true, true_and, eq_self, List.append_nil, List.nil_append, List.cons_append, ne_eq, not_false_eq_true, and_false, false_and, Bool.false_eq_true, St.ev, zes, zfn, zhk, List.length_map]
end Go.Proofs.Ytifgeenipinnmaa
