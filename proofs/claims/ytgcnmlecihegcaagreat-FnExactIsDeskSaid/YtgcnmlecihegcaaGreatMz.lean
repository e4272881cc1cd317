/- Texts joined: Y5 Y6 Y7. -/
import Derived.Test.YtgcnmlecihegcaaGreatMj
import Derived.Test.YtgcnmlecihegcaaGreatMm
import Derived.Test.YtgcnmlecihegcaaGreatMy
set_option linter.all false
/- The reference's groups and metrics. -/
namespace Go.Proofs.YtgcnmlecihegcaaGreat
open Go.RowKit
set_option maxRecDepth 1000000

/-- What is left of an element after k orders, from the last one on. -/
def qa (O : List Int) (x : Int) (k : Nat) : Int := (adT x 0 (upto (ordF O) k)).2.2.1
def dg (O : List Int) (x : Int) (j : Nat) : Int := qa O x (O.length - 1 - j) % atI O j
def nd (O : List Int) (x : Int) (j : Nat) : Int := (atI O j - dg O x j) % atI O j
def elF (O : List Int) (D : Nat → Int) : Nat → Int
  | 0 => 0
  | i + 1 => elF O D i * atI O i + D i
section
variable {O : List Int}
theorem qa_succ (h : ∀ i, i < O.length → 2 ≤ atI O i ∧ atI O i ≤ 16) (x : Int) {k : Nat} (hk : k < O.length) : qa O x (k + 1) = qa O x k / atI O (O.length - 1 - k) := by
  unfold qa
  rw [upto_succ, adT_snoc]
  simp only [adR]
  rw [(ordF_at h hk).2]
theorem qa_rng {x : Int} (hx : 0 ≤ x ∧ x < 4294967296) (k : Nat) : 0 ≤ qa O x k ∧ qa O x k < 4294967296 := by
  have := adT_ok hx (y := 0) (by decide) _ (upto (ordF O) k) rfl
  exact ⟨this.2.2.2.1, this.2.2.2.2.1⟩
theorem dg_rng (h : ∀ i, i < O.length → 2 ≤ atI O i ∧ atI O i ≤ 16) (x : Int) {j : Nat} (hj : j < O.length) : 0 ≤ dg O x j ∧ dg O x j < atI O j := by
  have := h j hj
  exact ⟨Int.emod_nonneg _ (by omega), Int.emod_lt_of_pos _ (by omega)⟩
theorem nd_rng (h : ∀ i, i < O.length → 2 ≤ atI O i ∧ atI O i ≤ 16) (x : Int) {j : Nat} (hj : j < O.length) : 0 ≤ nd O x j ∧ nd O x j < atI O j := by
  have := h j hj
  exact ⟨Int.emod_nonneg _ (by omega), Int.emod_lt_of_pos _ (by omega)⟩
theorem el_ng (h : ∀ i, i < O.length → 2 ≤ atI O i ∧ atI O i ≤ 16) (x : Int) : ∀ {i : Nat}, i ≤ O.length → elF O (nd O x) i = ngB ((rvO O).drop (O.length - i)) (qa O x (O.length - i))
  | 0, _ => by
    rw [List.drop_of_length_le (by simp [rvO, upto_length])]; rfl
  | i + 1, hi => by
    have ih := el_ng h x (i := i) (by omega)
    have e : O.length - (i + 1) + 1 = O.length - i := by omega
    have e2 : O.length - 1 - (O.length - (i + 1)) = i := by omega
    have e3 : O.length - 1 - i = O.length - (i + 1) := by omega
    have ho := (ordF_at h (k := O.length - (i + 1)) (by omega)).2
    have hq := qa_succ h x (k := O.length - (i + 1)) (by omega)
    rw [e2] at ho hq
    rw [e] at hq
    unfold rvO at ih ⊢
    rw [← List.map_drop, upto_drop _ _ _ (by omega), List.map_cons, e]
    rw [← List.map_drop] at ih
    simp only [elF, ngB]
    rw [ih, ho, ← hq]
    simp only [nd, dg, e3]
    rw [Int.mul_comm, Int.add_comm]
theorem el_all (hO : GrpP O) (x : Int) : elF O (nd O x) O.length = ngO O x := by
  have := el_ng hO.rg x (i := O.length) (Nat.le_refl _)
  rw [Nat.sub_self, List.drop_zero] at this
  rw [this]
  rfl
theorem pow4 {i : Nat} (h : i ≤ 4) : (16 : Int) ^ i ≤ 65536 := by
  have : i = 0 ∨ i = 1 ∨ i = 2 ∨ i = 3 ∨ i = 4 := by omega
  rcases this with e | e | e | e | e <;> rw [e] <;> decide
theorem pfx_bd : ∀ {i : Nat}, (∀ j, j < i → 2 ≤ atI O j ∧ atI O j ≤ 16) → 1 ≤ pfx O i ∧ pfx O i ≤ 16 ^ i
  | 0, _ => by simp [pfx]
  | i + 1, h => by
    obtain ⟨h1, h2⟩ := pfx_bd (i := i) fun j hj => h j (by omega)
    have h3 := h i (by omega)
    have h4 : 1 * 1 ≤ pfx O i * atI O i := Int.mul_le_mul h1 (by omega) (by omega) (by omega)
    have h5 : pfx O i * atI O i ≤ 16 ^ i * 16 := Int.mul_le_mul h2 h3.2 (by omega) (by omega)
    have e : (16 : Int) ^ (i + 1) = 16 ^ i * 16 := Int.pow_succ _ _
    simp only [pfx]; omega
theorem el_rng {D : Nat → Int} (h : ∀ i, i < O.length → 2 ≤ atI O i ∧ atI O i ≤ 16) (hD : ∀ j, j < O.length → 0 ≤ D j ∧ D j < atI O j) : ∀ {i : Nat}, i ≤ O.length → 0 ≤ elF O D i ∧ elF O D i < pfx O i
  | 0, _ => by simp [elF, pfx]
  | i + 1, hi => by
    obtain ⟨h1, h2⟩ := el_rng h hD (i := i) (by omega)
    have h3 := h i (by omega)
    have h4 := hD i (by omega)
    have h5 : 0 ≤ elF O D i * atI O i := Int.mul_nonneg h1 (by omega)
    have h6 : elF O D i * atI O i ≤ (pfx O i - 1) * atI O i := Int.mul_le_mul_of_nonneg_right (by omega) (by omega)
    have h7 : (pfx O i - 1) * atI O i = pfx O i * atI O i - atI O i := by rw [Int.sub_mul, Int.one_mul]
    simp only [elF, pfx]; omega

/-! ### Sums -/
theorem cAddL (hO : GrpP O) {x y : Int} (hx : 0 ≤ x ∧ x < 4294967296) (hy : 0 ≤ y ∧ y < 4294967296) : CallOK Tryz.prog 112 [immL O, i64 x, i64 y] (i64 (adO O x y)) := by
  have ho := isL_imm O
  have hl1 := hO.l1
  have hl4 := hO.l4
  rw [← adT_sum]
  refine call_of (fn := Tryz.f112) (code := bodyOf Tryz.f112) Tryz.func112 rfl (by kernel_rfl) (rfl) ?_
  intro sl hs
  have s0 : sl 0 = immL O := hs 0
  have s1 : sl 1 = i64 x := hs 1
  have s2 : sl 2 = i64 y := hs 2
  dsimp only [Tryz.f112, bodyOf, Option.getD]
  simp (config := { maxSteps := 10000000 }) (disch := first | assumption | omega) only [go_sem, ↓reduceIte, Nat.reduceEqDiff, reduceCtorEq, Nat.reduceAdd, Nat.reduceMul, Nat.reduceLeDiff, zfu, Int.mul_def, Int.add_def, zfv, cond_false, cond_true, isub, Int.reduceToNat, s0, s1, s2]
  refine WK_for (fun k st => st.sl 0 = immL O ∧ st.sl 1 = i64 (adT x y (upto (ordF O) k)).2.2.1 ∧ st.sl 2 = i64 (adT x y (upto (ordF O) k)).2.2.2 ∧ st.sl 7 = i64 (adT x y (upto (ordF O) k)).1 ∧ st.sl 8 = i64 (adT x y (upto (ordF O) k)).2.1 ∧ st.sl 9 = i64 ((O.length : Int) - 1 - (k : Int))) O.length ?_ ?_ ?_
  · simp only [↓zcy, ↓zcz, ↓zda, ↓zdb, ↓reduceIte, Nat.reduceEqDiff, and_true, true_and, and_self, ne_eq, not_false_eq_true, eq_self, false_and, and_false, reduceCtorEq, rws_zero, s0, s1, s2]
    refine ⟨rfl, rfl, rfl, rfl, i64c (by omega)⟩
  · rintro k sl ro gn hk ⟨s0, s1, s2, s7, s8, s9⟩
    dsimp only at s0 s1 s2 s7 s8 s9
    have hk' : (k : Int) < (O.length : Nat) := by omega
    have hidx : ((O.length : Int) - 1 - (k : Int)) = ((O.length - 1 - k : Nat) : Int) := by omega
    have hge : (0 : Int) ≤ ((O.length - 1 - k : Nat) : Int) := by omega
    have hkk : O.length - 1 - k < O.length := by omega
    have hok := adT_ok hx hy _ (upto (ordF O) k) rfl
    rw [upto_length] at hok
    have h16 := pow4 (i := k) (by omega)
    have hst : adT x y (upto (ordF O) (k + 1)) = adR (adT x y (upto (ordF O) k)) (ordF O k) := by rw [upto_succ, adT_snoc]
    rw [hst]
    simp only [adR, (ordF_at hO.rg hk).2]
    obtain ⟨m1, m2⟩ := hO.rg _ hkk
    generalize adT x y (upto (ordF O) k) = t at s1 s2 s7 s8 hok ⊢
    generalize hm : atI O (O.length - 1 - k) = m at m1 m2 ⊢
    obtain ⟨s, p, u, v⟩ := t
    dsimp only at s1 s2 s7 s8 hok ⊢
    obtain ⟨q1, q2, q3, q4, q5, q6, q7⟩ := hok
    have hmz : ¬ m = 0 := by omega
    have eu : u.tmod m = u % m := Int.tmod_eq_emod_of_nonneg q4
    have ev : v.tmod m = v % m := Int.tmod_eq_emod_of_nonneg q6
    have du : u.tdiv m = u / m := Int.tdiv_eq_ediv_of_nonneg q4
    have dv : v.tdiv m = v / m := Int.tdiv_eq_ediv_of_nonneg q6
    have c1 : 0 ≤ u % m := Int.emod_nonneg _ (by omega)
    have c2 : u % m < m := Int.emod_lt_of_pos _ (by omega)
    have c3 : 0 ≤ v % m := Int.emod_nonneg _ (by omega)
    have c4 : v % m < m := Int.emod_lt_of_pos _ (by omega)
    have ed : (u % m + v % m).tmod m = (u % m + v % m) % m := Int.tmod_eq_emod_of_nonneg (by omega)
    have c5 : 0 ≤ (u % m + v % m) % m := Int.emod_nonneg _ (by omega)
    have c6 : (u % m + v % m) % m < m := Int.emod_lt_of_pos _ (by omega)
    have c7 : 0 ≤ (u % m + v % m) % m * p := Int.mul_nonneg c5 (by omega)
    have c8 : (u % m + v % m) % m * p ≤ 16 * 65536 := Int.mul_le_mul (by omega) (by omega) (by omega) (by omega)
    have c9 : 0 ≤ p * m := Int.mul_nonneg (by omega) (by omega)
    have c10 : p * m ≤ 65536 * 16 := Int.mul_le_mul (by omega) m2 (by omega) (by omega)
    have c11 : 0 ≤ u / m := Int.ediv_nonneg q4 (by omega)
    have c12 : u / m ≤ u := Int.ediv_le_self _ q4
    have c13 : 0 ≤ v / m := Int.ediv_nonneg q6 (by omega)
    have c14 : v / m ≤ v := Int.ediv_le_self _ q6
    simp (config := { maxSteps := 10000000 }) (disch := first | assumption | omega) only [go_sem, ↓reduceIte, Nat.reduceEqDiff, reduceCtorEq, Nat.reduceAdd, Nat.reduceMul, Nat.reduceLeDiff, zfu, Int.mul_def, Int.add_def, zfv, cond_false, cond_true, isub, Int.reduceToNat, s0, s1, s2, s7, s8, s9, hk', hk, hidx, hge, hm, eu, ev, ed, du, dv]
    refine FIN_of (by kernel_rfl) ?_
    simp (config := { maxSteps := 10000000 }) (disch := first | assumption | omega) only [go_sem, ↓reduceIte, Nat.reduceEqDiff, reduceCtorEq, Nat.reduceAdd, Nat.reduceMul, Nat.reduceLeDiff, zfu, Int.mul_def, Int.add_def, zfv, cond_false, cond_true, isub, Int.reduceToNat, s0, s1, s2, s7, s8, s9, hk', hk, hidx, hge, hm, eu, ev, ed, du, dv]
    exact i64c (by omega)
  · rintro sl ro gn ⟨s0, s1, s2, s7, s8, s9⟩
    dsimp only at s0 s1 s2 s7 s8 s9
    have hk' : ¬ ((O.length : Nat) : Int) < (O.length : Nat) := by omega
    have hlt : ¬ (0 : Int) ≤ (O.length : Int) - 1 - (O.length : Int) := by omega
    simp (config := { maxSteps := 10000000 }) (disch := first | assumption | omega) only [go_sem, ↓reduceIte, Nat.reduceEqDiff, reduceCtorEq, Nat.reduceAdd, Nat.reduceMul, Nat.reduceLeDiff, zfu, Int.mul_def, Int.add_def, zfv, cond_false, cond_true, isub, Int.reduceToNat, s0, s1, s2, s7, s8, s9, hk', eq_false hlt]
    simp only [zbj, zbk, retR, resL, outT, zes, zez, oneV, ↓zcy, ↓zcz, ↓reduceIte, Nat.reduceEqDiff, Option.some.injEq, AV.sc.injEq, Value.bool.injEq, Value.int.injEq, outL, outT, zft, zcp, zed, zef, zei, zeh, List.length_cons, List.length_nil, Nat.reduceAdd, Nat.zero_add, Nat.reduceLeDiff, List.drop_zero, List.take_succ_cons, List.take_zero, zfi, zfh, Ro.dl, zdb, zda, zfe, and_self, and_true, true_and, eq_self, List.append_nil, List.nil_append, List.cons_append, ne_eq, not_false_eq_true, and_false, false_and, Bool.false_eq_true, St.ev, zes, zfn, zhk, List.length_map]
theorem cAdd10 (hO : GrpP O) {x y : Int} (hx : 0 ≤ x ∧ x < 4294967296) (hy : 0 ≤ y ∧ y < 4294967296) : CallOK Tryz.prog 69 [immL O, i64 x, i64 y] (i64 (adO O x y)) := by
  refine call_of (fn := Tryz.f69) (code := bodyOf Tryz.f69) Tryz.func69 rfl (by kernel_rfl) (rfl) ?_
  intro sl hs
  have s0 : sl 0 = immL O := hs 0
  have s1 : sl 1 = i64 x := hs 1
  have s2 : sl 2 = i64 y := hs 2
  dsimp only [Tryz.f69, bodyOf, Option.getD]
  simp (config := { maxSteps := 10000000 }) (disch := first | assumption | omega) only [go_sem, ↓reduceIte, Nat.reduceEqDiff, reduceCtorEq, Nat.reduceAdd, Nat.reduceMul, Nat.reduceLeDiff, zfu, Int.mul_def, Int.add_def, zfv, cond_false, cond_true, isub, Int.reduceToNat, s0, s1, s2]
  refine CLL_pure _ (cAddL hO hx hy) (by simp (disch := assumption) only [pureL, pureA, isL_pure, isLL_pure, isLLL_pure, pureL_map, Bool.and_self, Bool.and_true]) rfl rfl ?_
  simp (config := { maxSteps := 10000000 }) (disch := first | assumption | omega) only [go_sem, ↓reduceIte, Nat.reduceEqDiff, reduceCtorEq, Nat.reduceAdd, Nat.reduceMul, Nat.reduceLeDiff, zfu, Int.mul_def, Int.add_def, zfv, cond_false, cond_true, isub, Int.reduceToNat, s0, s1, s2]
  simp only [zbj, zbk, retR, resL, outT, zes, zez, oneV, ↓zcy, ↓zcz, ↓reduceIte, Nat.reduceEqDiff, Option.some.injEq, AV.sc.injEq, Value.bool.injEq, Value.int.injEq, outL, outT, zft, zcp, zed, zef, zei, zeh, List.length_cons, List.length_nil, Nat.reduceAdd, Nat.zero_add, Nat.reduceLeDiff, List.drop_zero, List.take_succ_cons, List.take_zero, zfi, zfh, Ro.dl, zdb, zda, zfe, and_self, and_true, true_and, eq_self, List.append_nil, List.nil_append, List.cons_append, ne_eq, not_false_eq_true, and_false, false_and, Bool.false_eq_true, St.ev, zes, zfn, zhk, List.length_map]
theorem cGrp (hl : O.length ≤ 4) (h : ∀ i, i < O.length → 2 ≤ atI O i ∧ atI O i ≤ 16) : CallOK Tryz.prog 109 [immL O] (i64 (pfx O O.length)) := by
  have ho := isL_imm O
  refine call_of (fn := Tryz.f109) (code := bodyOf Tryz.f109) Tryz.func109 rfl (by kernel_rfl) (rfl) ?_
  intro sl hs
  have s0 : sl 0 = immL O := hs 0
  dsimp only [Tryz.f109, bodyOf, Option.getD]
  simp (config := { maxSteps := 10000000 }) (disch := first | assumption | omega) only [go_sem, ↓reduceIte, Nat.reduceEqDiff, reduceCtorEq, Nat.reduceAdd, Nat.reduceMul, Nat.reduceLeDiff, zfu, Int.mul_def, Int.add_def, zfv, cond_false, cond_true, isub, Int.reduceToNat, s0]
  refine WK_for (fun i st => st.sl 0 = immL O ∧ st.sl 3 = i64 (pfx O i) ∧ st.sl 4 = i64 (i : Int)) O.length ?_ ?_ ?_
  · simp only [↓zcy, ↓zcz, ↓zda, ↓zdb, ↓reduceIte, Nat.reduceEqDiff, and_true, true_and, and_self, ne_eq, not_false_eq_true, eq_self, false_and, and_false, reduceCtorEq, rws_zero, s0]
    (repeat' first | rfl | exact i64c rfl | exact i64c (by omega) | exact trivial | apply And.intro)
  · rintro i sl ro gn hi ⟨s0, s3, s4⟩
    dsimp only at s0 s3 s4
    have hi' : (i : Int) < (O.length : Nat) := by omega
    obtain ⟨p1, p2⟩ := pfx_bd (O := O) (i := i) fun j hj => h j (by omega)
    have p3 := pow4 (i := i) (by omega)
    obtain ⟨m1, m2⟩ := h i hi
    have c9 : 0 ≤ pfx O i * atI O i := Int.mul_nonneg (by omega) (by omega)
    have c10 : pfx O i * atI O i ≤ 65536 * 16 := Int.mul_le_mul (by omega) m2 (by omega) (by omega)
    simp (config := { maxSteps := 10000000 }) (disch := first | assumption | omega) only [go_sem, ↓reduceIte, Nat.reduceEqDiff, reduceCtorEq, Nat.reduceAdd, Nat.reduceMul, Nat.reduceLeDiff, zfu, Int.mul_def, Int.add_def, zfv, cond_false, cond_true, isub, Int.reduceToNat, s0, s3, s4, hi', hi]
    exact ⟨rfl, i64c (by omega)⟩
  · rintro sl ro gn ⟨s0, s3, s4⟩
    dsimp only at s0 s3 s4
    have hi' : ¬ ((O.length : Nat) : Int) < (O.length : Nat) := by omega
    simp (config := { maxSteps := 10000000 }) (disch := first | assumption | omega) only [go_sem, ↓reduceIte, Nat.reduceEqDiff, reduceCtorEq, Nat.reduceAdd, Nat.reduceMul, Nat.reduceLeDiff, zfu, Int.mul_def, Int.add_def, zfv, cond_false, cond_true, isub, Int.reduceToNat, s0, s3, s4, hi']
    simp only [zbj, zbk, retR, resL, outT, zes, zez, oneV, ↓zcy, ↓zcz, ↓reduceIte, Nat.reduceEqDiff, Option.some.injEq, AV.sc.injEq, Value.bool.injEq, Value.int.injEq, outL, outT, zft, zcp, zed, zef, zei, zeh, List.length_cons, List.length_nil, Nat.reduceAdd, Nat.zero_add, Nat.reduceLeDiff, List.drop_zero, List.take_succ_cons, List.take_zero, zfi, zfh, Ro.dl, zdb, zda, zfe, and_self, and_true, true_and, eq_self, List.append_nil, List.nil_append, List.cons_append, ne_eq, not_false_eq_true, and_false, false_and, Bool.false_eq_true, St.ev, zes, zfn, zhk, List.length_map]
theorem cSize10 (hO : GrpP O) : CallOK Tryz.prog 66 [immL O] (i64 (pfx O O.length)) := by
  refine call_of (fn := Tryz.f66) (code := bodyOf Tryz.f66) Tryz.func66 rfl (by kernel_rfl) (rfl) ?_
  intro sl hs
  have s0 : sl 0 = immL O := hs 0
  dsimp only [Tryz.f66, bodyOf, Option.getD]
  simp (config := { maxSteps := 10000000 }) (disch := first | assumption | omega) only [go_sem, ↓reduceIte, Nat.reduceEqDiff, reduceCtorEq, Nat.reduceAdd, Nat.reduceMul, Nat.reduceLeDiff, zfu, Int.mul_def, Int.add_def, zfv, cond_false, cond_true, isub, Int.reduceToNat, s0]
  refine CLL_pure _ (cGrp hO.l4 hO.rg) (by simp (disch := assumption) only [pureL, pureA, isL_pure, isLL_pure, isLLL_pure, pureL_map, Bool.and_self, Bool.and_true]) rfl rfl ?_
  simp (config := { maxSteps := 10000000 }) (disch := first | assumption | omega) only [go_sem, ↓reduceIte, Nat.reduceEqDiff, reduceCtorEq, Nat.reduceAdd, Nat.reduceMul, Nat.reduceLeDiff, zfu, Int.mul_def, Int.add_def, zfv, cond_false, cond_true, isub, Int.reduceToNat, s0]
  simp only [zbj, zbk, retR, resL, outT, zes, zez, oneV, ↓zcy, ↓zcz, ↓reduceIte, Nat.reduceEqDiff, Option.some.injEq, AV.sc.injEq, Value.bool.injEq, Value.int.injEq, outL, outT, zft, zcp, zed, zef, zei, zeh, List.length_cons, List.length_nil, Nat.reduceAdd, Nat.zero_add, Nat.reduceLeDiff, List.drop_zero, List.take_succ_cons, List.take_zero, zfi, zfh, Ro.dl, zdb, zda, zfe, and_self, and_true, true_and, eq_self, List.append_nil, List.nil_append, List.cons_append, ne_eq, not_false_eq_true, and_false, false_and, Bool.false_eq_true, St.ev, zes, zfn, zhk, List.length_map]
theorem cOrders (hx : O.length ≤ maxN) {t : Bool} (ht : t = true ↔ GrpP O) : CallOK Tryz.prog 108 [immL O, i64 16] (bo t) := by
  have ho := isL_imm O
  have hx' : O.length ≤ 4294967296 := hx
  refine call_of (fn := Tryz.f108) (code := bodyOf Tryz.f108) Tryz.func108 rfl (by kernel_rfl) (rfl) ?_
  intro sl hs
  have s0 : sl 0 = immL O := hs 0
  have s1 : sl 1 = i64 16 := hs 1
  by_cases h1 : (O.length : Int) < 1
  · have hf := bool_f ht fun h => by have := h.l1; omega
    subst hf
    dsimp only [Tryz.f108, bodyOf, Option.getD]
    simp (config := { maxSteps := 10000000 }) (disch := first | assumption | omega) only [go_sem, ↓reduceIte, Nat.reduceEqDiff, reduceCtorEq, Nat.reduceAdd, Nat.reduceMul, Nat.reduceLeDiff, zfu, Int.mul_def, Int.add_def, zfv, cond_false, cond_true, isub, Int.reduceToNat, s0, s1, eq_true h1]
    simp only [zbj, zbk, retR, resL, outT, zes, zez, oneV, ↓zcy, ↓zcz, ↓reduceIte, Nat.reduceEqDiff, Option.some.injEq, AV.sc.injEq, Value.bool.injEq, Value.int.injEq, outL, outT, zft, zcp, zed, zef, zei, zeh, List.length_cons, List.length_nil, Nat.reduceAdd, Nat.zero_add, Nat.reduceLeDiff, List.drop_zero, List.take_succ_cons, List.take_zero, zfi, zfh, Ro.dl, zdb, zda, zfe, and_self, and_true, true_and, eq_self, List.append_nil, List.nil_append, List.cons_append, ne_eq, not_false_eq_true, and_false, false_and, Bool.false_eq_true, St.ev, zes, zfn, zhk, List.length_map]
  · by_cases h4 : (4 : Int) < O.length
    · have hf := bool_f ht fun h => by have := h.l4; omega
      subst hf
      dsimp only [Tryz.f108, bodyOf, Option.getD]
      simp (config := { maxSteps := 10000000 }) (disch := first | assumption | omega) only [go_sem, ↓reduceIte, Nat.reduceEqDiff, reduceCtorEq, Nat.reduceAdd, Nat.reduceMul, Nat.reduceLeDiff, zfu, Int.mul_def, Int.add_def, zfv, cond_false, cond_true, isub, Int.reduceToNat, s0, s1, eq_false h1, eq_true h4]
      simp only [zbj, zbk, retR, resL, outT, zes, zez, oneV, ↓zcy, ↓zcz, ↓reduceIte, Nat.reduceEqDiff, Option.some.injEq, AV.sc.injEq, Value.bool.injEq, Value.int.injEq, outL, outT, zft, zcp, zed, zef, zei, zeh, List.length_cons, List.length_nil, Nat.reduceAdd, Nat.zero_add, Nat.reduceLeDiff, List.drop_zero, List.take_succ_cons, List.take_zero, zfi, zfh, Ro.dl, zdb, zda, zfe, and_self, and_true, true_and, eq_self, List.append_nil, List.nil_append, List.cons_append, ne_eq, not_false_eq_true, and_false, false_and, Bool.false_eq_true, St.ev, zes, zfn, zhk, List.length_map]
    · skip
      dsimp only [Tryz.f108, bodyOf, Option.getD]
      simp (config := { maxSteps := 10000000 }) (disch := first | assumption | omega) only [go_sem, ↓reduceIte, Nat.reduceEqDiff, reduceCtorEq, Nat.reduceAdd, Nat.reduceMul, Nat.reduceLeDiff, zfu, Int.mul_def, Int.add_def, zfv, cond_false, cond_true, isub, Int.reduceToNat, s0, s1, eq_false h1, eq_false h4]
      refine WK_for (fun i st => st.sl 0 = immL O ∧ st.sl 1 = i64 16 ∧ st.sl 5 = i64 (pfx O i) ∧ st.sl 6 = i64 (i : Int) ∧ (∀ j, j < i → 2 ≤ atI O j ∧ atI O j ≤ 16)) O.length ?_ ?_ ?_
      · simp only [↓zcy, ↓zcz, ↓zda, ↓zdb, ↓reduceIte, Nat.reduceEqDiff, and_true, true_and, and_self, ne_eq, not_false_eq_true, eq_self, false_and, and_false, reduceCtorEq, rws_zero, s0, s1]
        exact ⟨rfl, rfl, fun j hj => absurd hj (Nat.not_lt_zero _)⟩
      · rintro i sl ro gn hi ⟨s0, s1, s5, s6, q⟩
        dsimp only at s0 s1 s5 s6
        have hi' : (i : Int) < (O.length : Nat) := by omega
        obtain ⟨p1, p2⟩ := pfx_bd q
        have p3 := pow4 (i := i) (by omega)
        by_cases hm : 2 ≤ atI O i ∧ atI O i ≤ 16
        · have c9 : 0 ≤ pfx O i * atI O i := Int.mul_nonneg (by omega) (by omega)
          have c10 : pfx O i * atI O i ≤ 65536 * 16 := Int.mul_le_mul (by omega) hm.2 (by omega) (by omega)
          simp (config := { maxSteps := 10000000 }) (disch := first | assumption | omega) only [go_sem, ↓reduceIte, Nat.reduceEqDiff, reduceCtorEq, Nat.reduceAdd, Nat.reduceMul, Nat.reduceLeDiff, zfu, Int.mul_def, Int.add_def, zfv, cond_false, cond_true, isub, Int.reduceToNat, s0, s1, s5, s6, hi', hi]
          refine CLL_pure _ (c38t hm) (by simp (disch := assumption) only [pureL, pureA, isL_pure, isLL_pure, isLLL_pure, pureL_map, Bool.and_self, Bool.and_true]) rfl rfl ?_
          simp (config := { maxSteps := 10000000 }) (disch := first | assumption | omega) only [go_sem, ↓reduceIte, Nat.reduceEqDiff, reduceCtorEq, Nat.reduceAdd, Nat.reduceMul, Nat.reduceLeDiff, zfu, Int.mul_def, Int.add_def, zfv, cond_false, cond_true, isub, Int.reduceToNat, s0, s1, s5, s6, hi', hi]
          refine ⟨rfl, i64c (by omega), fun j hj => ?_⟩
          by_cases e : j = i
          · subst e; exact hm
          · exact q j (by omega)
        · have hf := bool_f ht fun h => hm (h.rg i hi)
          subst hf
          simp (config := { maxSteps := 10000000 }) (disch := first | assumption | omega) only [go_sem, ↓reduceIte, Nat.reduceEqDiff, reduceCtorEq, Nat.reduceAdd, Nat.reduceMul, Nat.reduceLeDiff, zfu, Int.mul_def, Int.add_def, zfv, cond_false, cond_true, isub, Int.reduceToNat, s0, s1, s5, s6, hi', hi]
          refine CLL_pure _ (c38f hm) (by simp (disch := assumption) only [pureL, pureA, isL_pure, isLL_pure, isLLL_pure, pureL_map, Bool.and_self, Bool.and_true]) rfl rfl ?_
          simp (config := { maxSteps := 10000000 }) (disch := first | assumption | omega) only [go_sem, ↓reduceIte, Nat.reduceEqDiff, reduceCtorEq, Nat.reduceAdd, Nat.reduceMul, Nat.reduceLeDiff, zfu, Int.mul_def, Int.add_def, zfv, cond_false, cond_true, isub, Int.reduceToNat, s0, s1, s5, s6, hi', hi]
          simp only [zbj, zbk, retR, resL, outT, zes, zez, oneV, ↓zcy, ↓zcz, ↓reduceIte, Nat.reduceEqDiff, Option.some.injEq, AV.sc.injEq, Value.bool.injEq, Value.int.injEq, outL, outT, zft, zcp, zed, zef, zei, zeh, List.length_cons, List.length_nil, Nat.reduceAdd, Nat.zero_add, Nat.reduceLeDiff, List.drop_zero, List.take_succ_cons, List.take_zero, zfi, zfh, Ro.dl, zdb, zda, zfe, and_self, and_true, true_and, eq_self, List.append_nil, List.nil_append, List.cons_append, ne_eq, not_false_eq_true, and_false, false_and, Bool.false_eq_true, St.ev, zes, zfn, zhk, List.length_map]
      · rintro sl ro gn ⟨s0, s1, s5, s6, q⟩
        dsimp only at s0 s1 s5 s6
        have hi' : ¬ ((O.length : Nat) : Int) < (O.length : Nat) := by omega
        by_cases hs : pfx O O.length ≤ 16
        · have hf : t = true := ht.2 ⟨by omega, by omega, q, hs⟩
          subst hf
          simp (config := { maxSteps := 10000000 }) (disch := first | assumption | omega) only [go_sem, ↓reduceIte, Nat.reduceEqDiff, reduceCtorEq, Nat.reduceAdd, Nat.reduceMul, Nat.reduceLeDiff, zfu, Int.mul_def, Int.add_def, zfv, cond_false, cond_true, isub, Int.reduceToNat, s0, s1, s5, s6, hi', eq_true hs]
          simp only [zbj, zbk, retR, resL, outT, zes, zez, oneV, ↓zcy, ↓zcz, ↓reduceIte, Nat.reduceEqDiff, Option.some.injEq, AV.sc.injEq, Value.bool.injEq, Value.int.injEq, outL, outT, zft, zcp, zed, zef, zei, zeh, List.length_cons, List.length_nil, Nat.reduceAdd, Nat.zero_add, Nat.reduceLeDiff, List.drop_zero, List.take_succ_cons, List.take_zero, zfi, zfh, Ro.dl, zdb, zda, zfe, and_self, and_true, true_and, eq_self, List.append_nil, List.nil_append, List.cons_append, ne_eq, not_false_eq_true, and_false, false_and, Bool.false_eq_true, St.ev, zes, zfn, zhk, List.length_map]
        · have hf := bool_f ht fun h => hs h.sz
          subst hf
          simp (config := { maxSteps := 10000000 }) (disch := first | assumption | omega) only [go_sem, ↓reduceIte, Nat.reduceEqDiff, reduceCtorEq, Nat.reduceAdd, Nat.reduceMul, Nat.reduceLeDiff, zfu, Int.mul_def, Int.add_def, zfv, cond_false, cond_true, isub, Int.reduceToNat, s0, s1, s5, s6, hi', eq_false hs]
          simp only [zbj, zbk, retR, resL, outT, zes, zez, oneV, ↓zcy, ↓zcz, ↓reduceIte, Nat.reduceEqDiff, Option.some.injEq, AV.sc.injEq, Value.bool.injEq, Value.int.injEq, outL, outT, zft, zcp, zed, zef, zei, zeh, List.length_cons, List.length_nil, Nat.reduceAdd, Nat.zero_add, Nat.reduceLeDiff, List.drop_zero, List.take_succ_cons, List.take_zero, zfi, zfh, Ro.dl, zdb, zda, zfe, and_self, and_true, true_and, eq_self, List.append_nil, List.nil_append, List.cons_append, ne_eq, not_false_eq_true, and_false, false_and, Bool.false_eq_true, St.ev, zes, zfn, zhk, List.length_map]
theorem cOrd10 (hx : O.length ≤ maxN) {t : Bool} (ht : t = true ↔ GrpP O) : CallOK Tryz.prog 64 [immL O] (bo t) := by
  refine call_of (fn := Tryz.f64) (code := bodyOf Tryz.f64) Tryz.func64 rfl (by kernel_rfl) (rfl) ?_
  intro sl hs
  have s0 : sl 0 = immL O := hs 0
  dsimp only [Tryz.f64, bodyOf, Option.getD]
  simp (config := { maxSteps := 10000000 }) (disch := first | assumption | omega) only [go_sem, ↓reduceIte, Nat.reduceEqDiff, reduceCtorEq, Nat.reduceAdd, Nat.reduceMul, Nat.reduceLeDiff, zfu, Int.mul_def, Int.add_def, zfv, cond_false, cond_true, isub, Int.reduceToNat, s0]
  refine CLL_pure _ (cOrders hx ht) (by simp (disch := assumption) only [pureL, pureA, isL_pure, isLL_pure, isLLL_pure, pureL_map, Bool.and_self, Bool.and_true]) rfl rfl ?_
  simp (config := { maxSteps := 10000000 }) (disch := first | assumption | omega) only [go_sem, ↓reduceIte, Nat.reduceEqDiff, reduceCtorEq, Nat.reduceAdd, Nat.reduceMul, Nat.reduceLeDiff, zfu, Int.mul_def, Int.add_def, zfv, cond_false, cond_true, isub, Int.reduceToNat, s0]
  simp only [zbj, zbk, retR, resL, outT, zes, zez, oneV, ↓zcy, ↓zcz, ↓reduceIte, Nat.reduceEqDiff, Option.some.injEq, AV.sc.injEq, Value.bool.injEq, Value.int.injEq, outL, outT, zft, zcp, zed, zef, zei, zeh, List.length_cons, List.length_nil, Nat.reduceAdd, Nat.zero_add, Nat.reduceLeDiff, List.drop_zero, List.take_succ_cons, List.take_zero, zfi, zfh, Ro.dl, zdb, zda, zfe, and_self, and_true, true_and, eq_self, List.append_nil, List.nil_append, List.cons_append, ne_eq, not_false_eq_true, and_false, false_and, Bool.false_eq_true, St.ev, zes, zfn, zhk, List.length_map]
theorem cDivisor {n : Int} : CallOK Tryz.prog 65 [i64 n] (bo (decide (1 ≤ n ∧ 55440 % n = 0))) := by
  refine call_of (fn := Tryz.f65) (code := bodyOf Tryz.f65) Tryz.func65 rfl (by kernel_rfl) (rfl) ?_
  intro sl hs
  have s0 : sl 0 = i64 n := hs 0
  by_cases h1 : 1 ≤ n
  · have h0 : ¬ n = 0 := by omega
    have e : (55440 : Int).tmod n = 55440 % n := Int.tmod_eq_emod_of_nonneg (by decide)
    dsimp only [Tryz.f65, bodyOf, Option.getD]
    simp (config := { maxSteps := 10000000 }) (disch := first | assumption | omega) only [go_sem, ↓reduceIte, Nat.reduceEqDiff, reduceCtorEq, Nat.reduceAdd, Nat.reduceMul, Nat.reduceLeDiff, zfu, Int.mul_def, Int.add_def, zfv, cond_false, cond_true, isub, Int.reduceToNat, s0, eq_true h1, e]
    simp only [zbj, zbk, retR, resL, outT, zes, zez, oneV, ↓zcy, ↓zcz, ↓reduceIte, Nat.reduceEqDiff, Option.some.injEq, AV.sc.injEq, Value.bool.injEq, Value.int.injEq, outL, outT, zft, zcp, zed, zef, zei, zeh, List.length_cons, List.length_nil, Nat.reduceAdd, Nat.zero_add, Nat.reduceLeDiff, List.drop_zero, List.take_succ_cons, List.take_zero, zfi, zfh, Ro.dl, zdb, zda, zfe, and_self, and_true, true_and, eq_self, List.append_nil, List.nil_append, List.cons_append, ne_eq, not_false_eq_true, and_false, false_and, Bool.false_eq_true, St.ev, zes, zfn, zhk, List.length_map]
  · skip
    dsimp only [Tryz.f65, bodyOf, Option.getD]
    simp (config := { maxSteps := 10000000 }) (disch := first | assumption | omega) only [go_sem, ↓reduceIte, Nat.reduceEqDiff, reduceCtorEq, Nat.reduceAdd, Nat.reduceMul, Nat.reduceLeDiff, zfu, Int.mul_def, Int.add_def, zfv, cond_false, cond_true, isub, Int.reduceToNat, s0, eq_false h1]
    simp only [zbj, zbk, retR, resL, outT, zes, zez, oneV, ↓zcy, ↓zcz, ↓reduceIte, Nat.reduceEqDiff, Option.some.injEq, AV.sc.injEq, Value.bool.injEq, Value.int.injEq, outL, outT, zft, zcp, zed, zef, zei, zeh, List.length_cons, List.length_nil, Nat.reduceAdd, Nat.zero_add, Nat.reduceLeDiff, List.drop_zero, List.take_succ_cons, List.take_zero, zfi, zfh, Ro.dl, zdb, zda, zfe, and_self, and_true, true_and, eq_self, List.append_nil, List.nil_append, List.cons_append, ne_eq, not_false_eq_true, and_false, false_and, Bool.false_eq_true, St.ev, zes, zfn, zhk, List.length_map]

/-! ### Negatives -/
theorem cDigits (hO : GrpP O) {x : Int} (hx : 0 ≤ x ∧ x < 4294967296) : CallOK Tryz.prog 110 [immL O, i64 x] (.row (rws (fun j => i64 (dg O x j)) O.length)) := by
  have ho := isL_imm O
  have hl1 := hO.l1
  have hl4 := hO.l4
  have hm' : (O.length : Int) ≤ ((4294967296 : Nat) : Int) := by omega
  have e0 : AV.row (rws (fun j => i64 (dg O x j)) O.length) = .row (rws (fun j => i64 (if O.length ≤ j + O.length then dg O x j else 0)) O.length) := congrArg AV.row (rws_congr fun j hj => by rw [if_pos (by omega)])
  rw [e0]
  refine call_of (fn := Tryz.f110) (code := bodyOf Tryz.f110) Tryz.func110 rfl (by kernel_rfl) (noRef_row _ (noRefL_rws _ _ fun _ => rfl)) ?_
  intro sl hs
  have s0 : sl 0 = immL O := hs 0
  have s1 : sl 1 = i64 x := hs 1
  dsimp only [Tryz.f110, bodyOf, Option.getD]
  simp (config := { maxSteps := 10000000 }) (disch := first | assumption | omega) only [go_sem, ↓reduceIte, Nat.reduceEqDiff, reduceCtorEq, Nat.reduceAdd, Nat.reduceMul, Nat.reduceLeDiff, zfu, Int.mul_def, Int.add_def, zfv, cond_false, cond_true, isub, Int.reduceToNat, s0, s1, kMake, Int.natCast_nonneg, Int.le_refl, hm', List.getD_cons_zero, rep_rws]
  refine WK_for (fun k st => st.sl 0 = immL O ∧ st.sl 1 = i64 (qa O x k) ∧ st.sl 5 = .ref 8224 1 [] 0 O.length ∧ st.ro 8224 1 = some (.row (rws (fun j => i64 (if O.length ≤ j + k then dg O x j else 0)) O.length)) ∧ st.sl 6 = i64 ((O.length : Int) - 1 - (k : Int))) O.length ?_ ?_ ?_
  · simp only [↓zcy, ↓zcz, ↓zda, ↓zdb, ↓reduceIte, Nat.reduceEqDiff, and_true, true_and, and_self, ne_eq, not_false_eq_true, eq_self, false_and, and_false, reduceCtorEq, rws_zero, s0, s1]
    exact ⟨rfl, congrArg some (congrArg AV.row (rws_congr fun j hj => by rw [if_neg (by omega)])), i64c (by omega)⟩
  · rintro k sl ro gn hk ⟨s0, s1, s5, r8224, s6⟩
    dsimp only at s0 s1 s5 r8224 s6
    have hk' : (k : Int) < (O.length : Nat) := by omega
    have hidx : ((O.length : Int) - 1 - (k : Int)) = ((O.length - 1 - k : Nat) : Int) := by omega
    have hge : (0 : Int) ≤ ((O.length - 1 - k : Nat) : Int) := by omega
    have hkk : O.length - 1 - k < O.length := by omega
    obtain ⟨q1, q2⟩ := qa_rng (O := O) hx k
    obtain ⟨q3, q4⟩ := qa_rng (O := O) hx (k + 1)
    obtain ⟨m1, m2⟩ := hO.rg _ hkk
    have hqs := qa_succ hO.rg x hk
    have hdg : dg O x (O.length - 1 - k) = qa O x k % atI O (O.length - 1 - k) := by
      unfold dg
      rw [show O.length - 1 - (O.length - 1 - k) = k by omega]
    have hmz : ¬ atI O (O.length - 1 - k) = 0 := by omega
    have eu : (qa O x k).tmod (atI O (O.length - 1 - k)) = dg O x (O.length - 1 - k) := by rw [hdg]; exact Int.tmod_eq_emod_of_nonneg q1
    have du : (qa O x k).tdiv (atI O (O.length - 1 - k)) = qa O x (k + 1) := by rw [hqs]; exact Int.tdiv_eq_ediv_of_nonneg q1
    simp (config := { maxSteps := 10000000 }) (disch := first | assumption | omega) only [go_sem, ↓reduceIte, Nat.reduceEqDiff, reduceCtorEq, Nat.reduceAdd, Nat.reduceMul, Nat.reduceLeDiff, zfu, Int.mul_def, Int.add_def, zfv, cond_false, cond_true, isub, Int.reduceToNat, s0, s1, s5, r8224, s6, hk', hk, hidx, hge, eu, du]
    refine ⟨congrArg (fun z => some (AV.row z)) ?_, i64c (by omega)⟩
    rw [rws_set]
    refine rws_congr fun j hj => ?_
    by_cases e : j = O.length - 1 - k
    · rw [if_pos e, if_pos (by omega), e]
    · rw [if_neg e]
      have e2 : (O.length ≤ j + k) ↔ (O.length ≤ j + (k + 1)) := by omega
      simp only [e2]
  · rintro sl ro gn ⟨s0, s1, s5, r8224, s6⟩
    dsimp only at s0 s1 s5 r8224 s6
    have hk' : ¬ ((O.length : Nat) : Int) < (O.length : Nat) := by omega
    have hlt : ¬ (0 : Int) ≤ (O.length : Int) - 1 - (O.length : Int) := by omega
    simp (config := { maxSteps := 10000000 }) (disch := first | assumption | omega) only [go_sem, ↓reduceIte, Nat.reduceEqDiff, reduceCtorEq, Nat.reduceAdd, Nat.reduceMul, Nat.reduceLeDiff, zfu, Int.mul_def, Int.add_def, zfv, cond_false, cond_true, isub, Int.reduceToNat, s0, s1, s5, r8224, s6, hk', eq_false hlt]
    simp only [zbj, zbk, retR, resL, outT, zes, zez, oneV, ↓zcy, ↓zcz, ↓reduceIte, Nat.reduceEqDiff, Option.some.injEq, AV.sc.injEq, Value.bool.injEq, Value.int.injEq, outL, outT, zft, zcp, zed, zef, zei, zeh, List.length_cons, List.length_nil, Nat.reduceAdd, Nat.zero_add, Nat.reduceLeDiff, List.drop_zero, List.take_succ_cons, List.take_zero, zfi, zfh, Ro.dl, zdb, zda, zfe, and_self, and_true, true_and, eq_self, List.append_nil, List.nil_append, List.cons_append, ne_eq, not_false_eq_true, and_false, false_and, Bool.false_eq_true, St.ev, zes, zfn, zhk, List.length_map, r8224]
    exact e0.symm
theorem cElem (hO : GrpP O) {D : List Int} (hD : ∀ j, j < O.length → 0 ≤ atI D j ∧ atI D j < atI O j) (hl : D.length = O.length) : CallOK Tryz.prog 111 [immL O, immL D] (i64 (elF O (atI D) O.length)) := by
  have ho := isL_imm O
  have hd := isL_imm D
  have hl4 := hO.l4
  refine call_of (fn := Tryz.f111) (code := bodyOf Tryz.f111) Tryz.func111 rfl (by kernel_rfl) (rfl) ?_
  intro sl hs
  have s0 : sl 0 = immL O := hs 0
  have s1 : sl 1 = immL D := hs 1
  dsimp only [Tryz.f111, bodyOf, Option.getD]
  simp (config := { maxSteps := 10000000 }) (disch := first | assumption | omega) only [go_sem, ↓reduceIte, Nat.reduceEqDiff, reduceCtorEq, Nat.reduceAdd, Nat.reduceMul, Nat.reduceLeDiff, zfu, Int.mul_def, Int.add_def, zfv, cond_false, cond_true, isub, Int.reduceToNat, s0, s1]
  refine WK_for (fun i st => st.sl 0 = immL O ∧ st.sl 1 = immL D ∧ st.sl 5 = i64 (elF O (atI D) i) ∧ st.sl 6 = i64 (i : Int)) O.length ?_ ?_ ?_
  · simp only [↓zcy, ↓zcz, ↓zda, ↓zdb, ↓reduceIte, Nat.reduceEqDiff, and_true, true_and, and_self, ne_eq, not_false_eq_true, eq_self, false_and, and_false, reduceCtorEq, rws_zero, s0, s1]
    (repeat' first | rfl | exact i64c rfl | exact i64c (by omega) | exact trivial | apply And.intro)
  · rintro i sl ro gn hi ⟨s0, s1, s5, s6⟩
    dsimp only at s0 s1 s5 s6
    have hi' : (i : Int) < (O.length : Nat) := by omega
    have hiD : i < D.length := by omega
    obtain ⟨p1, p2⟩ := pfx_bd (O := O) (i := i) fun j hj => hO.rg j (by omega)
    have p3 := pow4 (i := i) (by omega)
    obtain ⟨e1, e2⟩ := el_rng hO.rg hD (i := i) (by omega)
    obtain ⟨m1, m2⟩ := hO.rg i hi
    obtain ⟨d1, d2⟩ := hD i hi
    have c9 : 0 ≤ elF O (atI D) i * atI O i := Int.mul_nonneg (by omega) (by omega)
    have c10 : elF O (atI D) i * atI O i ≤ 65536 * 16 := Int.mul_le_mul (by omega) m2 (by omega) (by omega)
    simp (config := { maxSteps := 10000000 }) (disch := first | assumption | omega) only [go_sem, ↓reduceIte, Nat.reduceEqDiff, reduceCtorEq, Nat.reduceAdd, Nat.reduceMul, Nat.reduceLeDiff, zfu, Int.mul_def, Int.add_def, zfv, cond_false, cond_true, isub, Int.reduceToNat, s0, s1, s5, s6, hi', hi]
    refine FIN_of (by kernel_rfl) ?_
    simp (config := { maxSteps := 10000000 }) (disch := first | assumption | omega) only [go_sem, ↓reduceIte, Nat.reduceEqDiff, reduceCtorEq, Nat.reduceAdd, Nat.reduceMul, Nat.reduceLeDiff, zfu, Int.mul_def, Int.add_def, zfv, cond_false, cond_true, isub, Int.reduceToNat, s0, s1, s5, s6, hi', hi]
    exact ⟨rfl, i64c (by omega)⟩
  · rintro sl ro gn ⟨s0, s1, s5, s6⟩
    dsimp only at s0 s1 s5 s6
    have hi' : ¬ ((O.length : Nat) : Int) < (O.length : Nat) := by omega
    simp (config := { maxSteps := 10000000 }) (disch := first | assumption | omega) only [go_sem, ↓reduceIte, Nat.reduceEqDiff, reduceCtorEq, Nat.reduceAdd, Nat.reduceMul, Nat.reduceLeDiff, zfu, Int.mul_def, Int.add_def, zfv, cond_false, cond_true, isub, Int.reduceToNat, s0, s1, s5, s6, hi']
    simp only [zbj, zbk, retR, resL, outT, zes, zez, oneV, ↓zcy, ↓zcz, ↓reduceIte, Nat.reduceEqDiff, Option.some.injEq, AV.sc.injEq, Value.bool.injEq, Value.int.injEq, outL, outT, zft, zcp, zed, zef, zei, zeh, List.length_cons, List.length_nil, Nat.reduceAdd, Nat.zero_add, Nat.reduceLeDiff, List.drop_zero, List.take_succ_cons, List.take_zero, zfi, zfh, Ro.dl, zdb, zda, zfe, and_self, and_true, true_and, eq_self, List.append_nil, List.nil_append, List.cons_append, ne_eq, not_false_eq_true, and_false, false_and, Bool.false_eq_true, St.ev, zes, zfn, zhk, List.length_map]
theorem cNegL (hO : GrpP O) {x : Nat} (hx : x < 4294967296) : CallOK Tryz.prog 67 [immL O, i64 (x : Int)] (i64 (ngN O x : Int)) := by
  have ho := isL_imm O
  have hl4 := hO.l4
  have hE := cElem hO (D := rws (fun j => nd O x j) O.length) (fun j hj => by rw [atI_rws _ hj]; exact nd_rng hO.rg x hj) (zfe _ _)
  have e1 : elF O (atI (rws (fun j => nd O x j) O.length)) O.length = (ngN O x : Int) := by
    rw [← (hO.ngN x).1, ← el_all hO x]
    have : ∀ i, i ≤ O.length → elF O (atI (rws (fun j => nd O x j) O.length)) i = elF O (nd O x) i := by
      intro i
      induction i with
      | zero => intro _; rfl
      | succ i ih => intro hi; simp only [elF]; rw [ih (by omega), atI_rws _ (by omega)]
    exact this _ (Nat.le_refl _)
  rw [e1] at hE
  refine call_of (fn := Tryz.f67) (code := bodyOf Tryz.f67) Tryz.func67 rfl (by kernel_rfl) (rfl) ?_
  intro sl hs
  have s0 : sl 0 = immL O := hs 0
  have s1 : sl 1 = i64 (x : Int) := hs 1
  dsimp only [Tryz.f67, bodyOf, Option.getD]
  simp (config := { maxSteps := 10000000 }) (disch := first | assumption | omega) only [go_sem, ↓reduceIte, Nat.reduceEqDiff, reduceCtorEq, Nat.reduceAdd, Nat.reduceMul, Nat.reduceLeDiff, zfu, Int.mul_def, Int.add_def, zfv, cond_false, cond_true, isub, Int.reduceToNat, s0, s1]
  refine CLL_pure _ (cDigits hO (x := x) (by omega)) (by simp (disch := assumption) only [pureL, pureA, isL_pure, isLL_pure, isLLL_pure, pureL_map, Bool.and_self, Bool.and_true]) rfl rfl ?_
  simp (config := { maxSteps := 10000000 }) (disch := first | assumption | omega) only [go_sem, ↓reduceIte, Nat.reduceEqDiff, reduceCtorEq, Nat.reduceAdd, Nat.reduceMul, Nat.reduceLeDiff, zfu, Int.mul_def, Int.add_def, zfv, cond_false, cond_true, isub, Int.reduceToNat, s0, s1]
  refine WK_for (fun i st => st.sl 0 = immL O ∧ st.sl 5 = .ref 8224 1 [] 0 O.length ∧ st.ro 8224 1 = some (.row (rws (fun j => i64 (if j < i then nd O x j else dg O x j)) O.length)) ∧ st.sl 6 = i64 (i : Int)) O.length ?_ ?_ ?_
  · simp only [↓zcy, ↓zcz, ↓zda, ↓zdb, ↓reduceIte, Nat.reduceEqDiff, and_true, true_and, and_self, ne_eq, not_false_eq_true, eq_self, false_and, and_false, reduceCtorEq, rws_zero, s0, s1]
    exact ⟨congrArg some (congrArg AV.row (rws_congr fun j hj => by rw [if_neg (by omega)])), rfl⟩
  · rintro i sl ro gn hi ⟨s0, s5, r8224, s6⟩
    dsimp only at s0 s5 r8224 s6
    have hi' : (i : Int) < (O.length : Nat) := by omega
    obtain ⟨m1, m2⟩ := hO.rg i hi
    obtain ⟨d1, d2⟩ := dg_rng hO.rg x hi
    have hmz : ¬ atI O i = 0 := by omega
    have eu : (atI O i - dg O x i).tmod (atI O i) = nd O x i := Int.tmod_eq_emod_of_nonneg (by omega)
    have hii : ¬ i < i := by omega
    simp (config := { maxSteps := 10000000 }) (disch := first | assumption | omega) only [go_sem, ↓reduceIte, Nat.reduceEqDiff, reduceCtorEq, Nat.reduceAdd, Nat.reduceMul, Nat.reduceLeDiff, zfu, Int.mul_def, Int.add_def, zfv, cond_false, cond_true, isub, Int.reduceToNat, s0, s5, r8224, s6, hi', hi, eq_false hii, eu]
    refine FIN_of (by kernel_rfl) ?_
    simp (config := { maxSteps := 10000000 }) (disch := first | assumption | omega) only [go_sem, ↓reduceIte, Nat.reduceEqDiff, reduceCtorEq, Nat.reduceAdd, Nat.reduceMul, Nat.reduceLeDiff, zfu, Int.mul_def, Int.add_def, zfv, cond_false, cond_true, isub, Int.reduceToNat, s0, s5, r8224, s6, hi', hi, eq_false hii, eu]
    refine ⟨congrArg (fun z => some (AV.row z)) ?_, i64c (by omega)⟩
    rw [rws_set]
    refine rws_congr fun j hj => ?_
    by_cases e : j = i
    · rw [if_pos e, if_pos (by omega), e]
    · rw [if_neg e]
      have e2 : (j < i) ↔ (j < i + 1) := by omega
      simp only [e2]
  · rintro sl ro gn ⟨s0, s5, r8224, s6⟩
    dsimp only at s0 s5 r8224 s6
    have hi' : ¬ ((O.length : Nat) : Int) < (O.length : Nat) := by omega
    have e2 : (AV.row (rws (fun j => i64 (if j < O.length then nd O x j else dg O x j)) O.length)) = rowL (rws (fun j => nd O x j) O.length) := by
      simp only [rowL, rws_map]
      exact congrArg AV.row (rws_congr fun j hj => by rw [if_pos hj])
    rw [e2] at r8224
    simp (config := { maxSteps := 10000000 }) (disch := first | assumption | omega) only [go_sem, ↓reduceIte, Nat.reduceEqDiff, reduceCtorEq, Nat.reduceAdd, Nat.reduceMul, Nat.reduceLeDiff, zfu, Int.mul_def, Int.add_def, zfv, cond_false, cond_true, isub, Int.reduceToNat, s0, s5, r8224, s6, hi']
    refine CLL_q _ hE (.cons (exq_L ho (by decide)) (.cons (exq_refL r8224 (zfe _ _).symm (by decide)) .nil)) rfl rfl rfl ?_
    simp (config := { maxSteps := 10000000 }) (disch := first | assumption | omega) only [go_sem, ↓reduceIte, Nat.reduceEqDiff, reduceCtorEq, Nat.reduceAdd, Nat.reduceMul, Nat.reduceLeDiff, zfu, Int.mul_def, Int.add_def, zfv, cond_false, cond_true, isub, Int.reduceToNat, s0, s5, r8224, s6, hi']
    simp only [zbj, zbk, retR, resL, outT, zes, zez, oneV, ↓zcy, ↓zcz, ↓reduceIte, Nat.reduceEqDiff, Option.some.injEq, AV.sc.injEq, Value.bool.injEq, Value.int.injEq, outL, outT, zft, zcp, zed, zef, zei, zeh, List.length_cons, List.length_nil, Nat.reduceAdd, Nat.zero_add, Nat.reduceLeDiff, List.drop_zero, List.take_succ_cons, List.take_zero, zfi, zfh, Ro.dl, zdb, zda, zfe, and_self, and_true, true_and, eq_self, List.append_nil, List.nil_append, List.cons_append, ne_eq, not_false_eq_true, and_false, false_and, Bool.false_eq_true, St.ev, zes, zfn, zhk, List.length_map]
end

section
variable {O V : List Int} {M : Int}
theorem cPairL (h : MetB O M V) {x y : Nat} (hx : x < V.length) (hy : y < V.length) : CallOK Tryz.prog 68 [mt O M V, i64 (x : Int), i64 (y : Int)] (i64 (prM O M V x y)) := by
  have hn := h.n
  have hs := h.g.sz
  obtain ⟨a1, a2⟩ := h.g.adN x y
  have hv := isL_imm V
  have hvo := isL_imm O
  have had : adN O x y < V.length := by omega
  have v1 := h.v _ had
  have v2 := h.v _ hx
  have v3 := h.v _ hy
  obtain ⟨m1, m2⟩ := h.m
  obtain ⟨e1, e2, e3⟩ := tmod_rest (n := atI V (adN O x y) - atI V x - atI V y) (M := M) (by omega)
  have hM0 : ¬ M = 0 := by omega
  refine call_of (fn := Tryz.f68) (code := bodyOf Tryz.f68) Tryz.func68 rfl (by kernel_rfl) (rfl) ?_
  intro sl hs
  have s0 : sl 0 = mt O M V := hs 0
  have s1 : sl 1 = i64 (x : Int) := hs 1
  have s2 : sl 2 = i64 (y : Int) := hs 2
  dsimp only [Tryz.f68, bodyOf, Option.getD]
  simp (config := { maxSteps := 10000000 }) (disch := first | assumption | omega) only [go_sem, ↓reduceIte, Nat.reduceEqDiff, reduceCtorEq, Nat.reduceAdd, Nat.reduceMul, Nat.reduceLeDiff, zfu, Int.mul_def, Int.add_def, zfv, cond_false, cond_true, isub, Int.reduceToNat, s0, s1, s2]
  refine CLLD_pure _ (cAdd10 h.g (x := x) (y := y) (by omega) (by omega)) (by simp (disch := assumption) only [pureL, pureA, isL_pure, isLL_pure, isLLL_pure, pureL_map, Bool.and_self, Bool.and_true]) rfl ?_
  simp (config := { maxSteps := 10000000 }) (disch := first | assumption | omega) only [go_sem, ↓reduceIte, Nat.reduceEqDiff, reduceCtorEq, Nat.reduceAdd, Nat.reduceMul, Nat.reduceLeDiff, zfu, Int.mul_def, Int.add_def, zfv, cond_false, cond_true, isub, Int.reduceToNat, s0, s1, s2, a1]
  refine FIN_of (by kernel_rfl) ?_
  simp (config := { maxSteps := 10000000 }) (disch := first | assumption | omega) only [go_sem, ↓reduceIte, Nat.reduceEqDiff, reduceCtorEq, Nat.reduceAdd, Nat.reduceMul, Nat.reduceLeDiff, zfu, Int.mul_def, Int.add_def, zfv, cond_false, cond_true, isub, Int.reduceToNat, s0, s1, s2, e1]
  refine FIN_of (by kernel_rfl) ?_
  simp (config := { maxSteps := 10000000 }) (disch := first | assumption | omega) only [go_sem, ↓reduceIte, Nat.reduceEqDiff, reduceCtorEq, Nat.reduceAdd, Nat.reduceMul, Nat.reduceLeDiff, zfu, Int.mul_def, Int.add_def, zfv, cond_false, cond_true, isub, Int.reduceToNat, s0, s1, s2, e1]
  simp only [zbj, zbk, retR, resL, outT, zes, zez, oneV, ↓zcy, ↓zcz, ↓reduceIte, Nat.reduceEqDiff, Option.some.injEq, AV.sc.injEq, Value.bool.injEq, Value.int.injEq, outL, outT, zft, zcp, zed, zef, zei, zeh, List.length_cons, List.length_nil, Nat.reduceAdd, Nat.zero_add, Nat.reduceLeDiff, List.drop_zero, List.take_succ_cons, List.take_zero, zfi, zfh, Ro.dl, zdb, zda, zfe, and_self, and_true, true_and, eq_self, List.append_nil, List.nil_append, List.cons_append, ne_eq, not_false_eq_true, and_false, false_and, Bool.false_eq_true, St.ev, zes, zfn, zhk, List.length_map]
  rfl
theorem bil_iff {a b c : Int} (hM : 1 ≤ M) (hc : 0 ≤ c ∧ c < M) : (a + b - c) % M = 0 ↔ c = (a + b) % M := by
  constructor
  · intro h
    have h1 : (a + b - c) = M * ((a + b - c) / M) := by have := Int.emod_add_mul_ediv (a + b - c) M; omega
    have h2 : a + b = c + M * ((a + b - c) / M) := by omega
    rw [h2, Int.add_mul_emod_self_left, Int.emod_eq_of_lt hc.1 hc.2]
  · intro h
    have h1 := Int.emod_add_mul_ediv (a + b) M
    have h2 : a + b - c = M * ((a + b) / M) := by omega
    rw [h2, Int.mul_emod_right]
end
end Go.Proofs.YtgcnmlecihegcaaGreat

/- Which metrics the reference takes. -/
namespace Go.Proofs.YtgcnmlecihegcaaGreat
open Go.RowKit
set_option maxRecDepth 1000000

section
variable {O V : List Int} {M : Int}
theorem cL10Is (hx : O.length ≤ maxN) (hv2 : V.length ≤ maxN) (hM64 : -2^63 ≤ M ∧ M < 2^63) {t : Bool} (ht : t = true ↔ MetP O M V) : CallOK Tryz.prog 30 [mt O M V] (bo t) := by
  have ho := isL_imm O
  have hv := isL_imm V
  have hv3 : V.length ≤ 4294967296 := hv2
  refine call_of (fn := Tryz.f30) (code := bodyOf Tryz.f30) Tryz.func30 rfl (by kernel_rfl) (rfl) ?_
  intro sl hs
  have s0 : sl 0 = mt O M V := hs 0
  by_cases hg : GrpP O
  · have cG := cOrd10 (t := true) hx (by simp [hg])
    have cS := cSize10 hg
    by_cases hm : 1 ≤ M ∧ 55440 % M = 0
    · have cO := cDivisor (n := M)
      rw [decide_eq_true hm] at cO
      have hM2 := div_le hm.1 hm.2
      by_cases hn : (V.length : Int) = pfx O O.length
      · rw [← hn] at cS
        have hpos : 0 < V.length := by have := pfx_pos hg.rg (Nat.le_refl O.length); omega
        have hs16 := hg.sz
        have hV16 : V.length ≤ 16 := by omega
        by_cases hz : atI V 0 = 0
        · skip
          dsimp only [Tryz.f30, bodyOf, Option.getD]
          simp (config := { maxSteps := 10000000 }) (disch := first | assumption | omega) only [go_sem, ↓reduceIte, Nat.reduceEqDiff, reduceCtorEq, Nat.reduceAdd, Nat.reduceMul, Nat.reduceLeDiff, zfu, Int.mul_def, Int.add_def, zfv, cond_false, cond_true, isub, Int.reduceToNat, s0]
          refine CLLD_pure _ cG (by simp (disch := assumption) only [pureL, pureA, isL_pure, isLL_pure, isLLL_pure, pureL_map, Bool.and_self, Bool.and_true]) rfl ?_
          simp (config := { maxSteps := 10000000 }) (disch := first | assumption | omega) only [go_sem, ↓reduceIte, Nat.reduceEqDiff, reduceCtorEq, Nat.reduceAdd, Nat.reduceMul, Nat.reduceLeDiff, zfu, Int.mul_def, Int.add_def, zfv, cond_false, cond_true, isub, Int.reduceToNat, s0]
          refine CLLD_pure _ cO (by simp (disch := assumption) only [pureL, pureA, isL_pure, isLL_pure, isLLL_pure, pureL_map, Bool.and_self, Bool.and_true]) rfl ?_
          simp (config := { maxSteps := 10000000 }) (disch := first | assumption | omega) only [go_sem, ↓reduceIte, Nat.reduceEqDiff, reduceCtorEq, Nat.reduceAdd, Nat.reduceMul, Nat.reduceLeDiff, zfu, Int.mul_def, Int.add_def, zfv, cond_false, cond_true, isub, Int.reduceToNat, s0]
          refine CLLD_pure _ cS (by simp (disch := assumption) only [pureL, pureA, isL_pure, isLL_pure, isLLL_pure, pureL_map, Bool.and_self, Bool.and_true]) rfl ?_
          simp (config := { maxSteps := 10000000 }) (disch := first | assumption | omega) only [go_sem, ↓reduceIte, Nat.reduceEqDiff, reduceCtorEq, Nat.reduceAdd, Nat.reduceMul, Nat.reduceLeDiff, zfu, Int.mul_def, Int.add_def, zfv, cond_false, cond_true, isub, Int.reduceToNat, s0, isL_idx0, eq_true hz]
          refine FIN_of (by kernel_rfl) ?_
          simp (config := { maxSteps := 10000000 }) (disch := first | assumption | omega) only [go_sem, ↓reduceIte, Nat.reduceEqDiff, reduceCtorEq, Nat.reduceAdd, Nat.reduceMul, Nat.reduceLeDiff, zfu, Int.mul_def, Int.add_def, zfv, cond_false, cond_true, isub, Int.reduceToNat, s0]
          refine CLL_pure _ cS (by simp (disch := assumption) only [pureL, pureA, isL_pure, isLL_pure, isLLL_pure, pureL_map, Bool.and_self, Bool.and_true]) rfl rfl ?_
          simp (config := { maxSteps := 10000000 }) (disch := first | assumption | omega) only [go_sem, ↓reduceIte, Nat.reduceEqDiff, reduceCtorEq, Nat.reduceAdd, Nat.reduceMul, Nat.reduceLeDiff, zfu, Int.mul_def, Int.add_def, zfv, cond_false, cond_true, isub, Int.reduceToNat, s0]
          refine WK_for (fun i st => st.sl 1 = .ptr 4096 1 [] 0 ∧ st.ro 4096 1 = some (.bx [immL O, i64 M, immL V]) ∧ st.sl 3 = i64 (V.length : Int) ∧ st.sl 4 = i64 (i : Int) ∧ (∀ k, k < i → 0 ≤ atI V k ∧ atI V k ≤ M - 1)) V.length ?_ ?_ ?_
          · simp only [↓zcy, ↓zcz, ↓zda, ↓zdb, ↓reduceIte, Nat.reduceEqDiff, and_true, true_and, and_self, ne_eq, not_false_eq_true, eq_self, false_and, and_false, reduceCtorEq, rws_zero, s0]
            exact ⟨rfl, fun x hx => absurd hx (Nat.not_lt_zero _)⟩
          · rintro i sl ro gn hi ⟨s1, r4096, s3, s4, q⟩
            dsimp only at s1 r4096 s3 s4
            have hi' : (i : Int) < (V.length : Nat) := by omega
            by_cases hk : 0 ≤ atI V i ∧ atI V i ≤ M - 1
            · skip
              simp (config := { maxSteps := 10000000 }) (disch := first | assumption | omega) only [go_sem, ↓reduceIte, Nat.reduceEqDiff, reduceCtorEq, Nat.reduceAdd, Nat.reduceMul, Nat.reduceLeDiff, zfu, Int.mul_def, Int.add_def, zfv, cond_false, cond_true, isub, Int.reduceToNat, s1, r4096, s3, s4, hi', hi]
              refine CLLD_pure _ (c38t hk) (by simp (disch := assumption) only [pureL, pureA, isL_pure, isLL_pure, isLLL_pure, pureL_map, Bool.and_self, Bool.and_true]) rfl ?_
              simp (config := { maxSteps := 10000000 }) (disch := first | assumption | omega) only [go_sem, ↓reduceIte, Nat.reduceEqDiff, reduceCtorEq, Nat.reduceAdd, Nat.reduceMul, Nat.reduceLeDiff, zfu, Int.mul_def, Int.add_def, zfv, cond_false, cond_true, isub, Int.reduceToNat, s1, r4096, s3, s4, hi', hi]
              refine FIN_of (by kernel_rfl) ?_
              simp (config := { maxSteps := 10000000 }) (disch := first | assumption | omega) only [go_sem, ↓reduceIte, Nat.reduceEqDiff, reduceCtorEq, Nat.reduceAdd, Nat.reduceMul, Nat.reduceLeDiff, zfu, Int.mul_def, Int.add_def, zfv, cond_false, cond_true, isub, Int.reduceToNat, s1, r4096, s3, s4, hi', hi]
              refine ⟨i64c (by omega), fun j hj => ?_⟩
              by_cases e : j = i
              · subst e; exact hk
              · exact q j (by omega)
            · have hf := bool_f ht fun h => hk (h.1.v i hi)
              subst hf
              simp (config := { maxSteps := 10000000 }) (disch := first | assumption | omega) only [go_sem, ↓reduceIte, Nat.reduceEqDiff, reduceCtorEq, Nat.reduceAdd, Nat.reduceMul, Nat.reduceLeDiff, zfu, Int.mul_def, Int.add_def, zfv, cond_false, cond_true, isub, Int.reduceToNat, s1, r4096, s3, s4, hi', hi]
              refine CLLD_pure _ (c38f hk) (by simp (disch := assumption) only [pureL, pureA, isL_pure, isLL_pure, isLLL_pure, pureL_map, Bool.and_self, Bool.and_true]) rfl ?_
              simp (config := { maxSteps := 10000000 }) (disch := first | assumption | omega) only [go_sem, ↓reduceIte, Nat.reduceEqDiff, reduceCtorEq, Nat.reduceAdd, Nat.reduceMul, Nat.reduceLeDiff, zfu, Int.mul_def, Int.add_def, zfv, cond_false, cond_true, isub, Int.reduceToNat, s1, r4096, s3, s4, hi', hi]
              refine FIN_of (by kernel_rfl) ?_
              simp (config := { maxSteps := 10000000 }) (disch := first | assumption | omega) only [go_sem, ↓reduceIte, Nat.reduceEqDiff, reduceCtorEq, Nat.reduceAdd, Nat.reduceMul, Nat.reduceLeDiff, zfu, Int.mul_def, Int.add_def, zfv, cond_false, cond_true, isub, Int.reduceToNat, s1, r4096, s3, s4, hi', hi]
              simp only [zbj, zbk, retR, resL, outT, zes, zez, oneV, ↓zcy, ↓zcz, ↓reduceIte, Nat.reduceEqDiff, Option.some.injEq, AV.sc.injEq, Value.bool.injEq, Value.int.injEq, outL, outT, zft, zcp, zed, zef, zei, zeh, List.length_cons, List.length_nil, Nat.reduceAdd, Nat.zero_add, Nat.reduceLeDiff, List.drop_zero, List.take_succ_cons, List.take_zero, zfi, zfh, Ro.dl, zdb, zda, zfe, and_self, and_true, true_and, eq_self, List.append_nil, List.nil_append, List.cons_append, ne_eq, not_false_eq_true, and_false, false_and, Bool.false_eq_true, St.ev, zes, zfn, zhk, List.length_map]
          · rintro sl ro gn ⟨s1, r4096, s3, s4, q⟩
            dsimp only at s1 r4096 s3 s4
            have hi' : ¬ ((V.length : Nat) : Int) < (V.length : Nat) := by omega
            have hb : MetB O M V := ⟨hg, ⟨hm.1, hM2⟩, hn, q⟩
            have ht2 : t = true ↔ BilP O M V := ht.trans ⟨fun h => h.2.2.2, fun h => ⟨hb, hm.2, hz, h⟩⟩
            clear q
            simp (config := { maxSteps := 10000000 }) (disch := first | assumption | omega) only [go_sem, ↓reduceIte, Nat.reduceEqDiff, reduceCtorEq, Nat.reduceAdd, Nat.reduceMul, Nat.reduceLeDiff, zfu, Int.mul_def, Int.add_def, zfv, cond_false, cond_true, isub, Int.reduceToNat, s1, r4096, s3, s4, hi']
            refine WK_for (fun i st => st.sl 1 = .ptr 4096 1 [] 0 ∧ st.ro 4096 1 = some (.bx [immL O, i64 M, immL V]) ∧ st.sl 3 = i64 (V.length : Int) ∧ st.sl 5 = i64 (i : Int) ∧ (∀ x, x < i → atI V (ngN O x) = atI V x)) V.length ?_ ?_ ?_
            · simp only [↓zcy, ↓zcz, ↓zda, ↓zdb, ↓reduceIte, Nat.reduceEqDiff, and_true, true_and, and_self, ne_eq, not_false_eq_true, eq_self, false_and, and_false, reduceCtorEq, rws_zero, s1, r4096, s3, s4, hi']
              exact ⟨rfl, fun x hx => absurd hx (Nat.not_lt_zero _)⟩
            · rintro i sl ro gn hi ⟨s1, r4096, s3, s5, q⟩
              dsimp only at s1 r4096 s3 s5
              have hi' : (i : Int) < (V.length : Nat) := by omega
              obtain ⟨n1, n2⟩ := hg.ngN i
              have hng : ngN O i < V.length := by omega
              simp (config := { maxSteps := 10000000 }) (disch := first | assumption | omega) only [go_sem, ↓reduceIte, Nat.reduceEqDiff, reduceCtorEq, Nat.reduceAdd, Nat.reduceMul, Nat.reduceLeDiff, zfu, Int.mul_def, Int.add_def, zfv, cond_false, cond_true, isub, Int.reduceToNat, s1, r4096, s3, s5, hi', hi]
              refine CLLD_pure _ (cNegL hg (x := i) (by omega)) (by simp (disch := assumption) only [pureL, pureA, isL_pure, isLL_pure, isLLL_pure, pureL_map, Bool.and_self, Bool.and_true]) rfl ?_
              simp (config := { maxSteps := 10000000 }) (disch := first | assumption | omega) only [go_sem, ↓reduceIte, Nat.reduceEqDiff, reduceCtorEq, Nat.reduceAdd, Nat.reduceMul, Nat.reduceLeDiff, zfu, Int.mul_def, Int.add_def, zfv, cond_false, cond_true, isub, Int.reduceToNat, s1, r4096, s3, s5, hi', hi]
              refine FIN_of (by kernel_rfl) ?_
              simp (config := { maxSteps := 10000000 }) (disch := first | assumption | omega) only [go_sem, ↓reduceIte, Nat.reduceEqDiff, reduceCtorEq, Nat.reduceAdd, Nat.reduceMul, Nat.reduceLeDiff, zfu, Int.mul_def, Int.add_def, zfv, cond_false, cond_true, isub, Int.reduceToNat, s1, r4096, s3, s5, hi', hi]
              refine ⟨fun h1 => ?_, fun h1 => ?_⟩
              · refine ⟨i64c (by omega), fun x hx => ?_⟩
                by_cases e : x = i
                · subst e; exact h1.symm
                · exact q x (by omega)
              · have hf := bool_f ht2 fun h => h1 (h i hi).1.symm
                subst hf
                simp only [zbj, zbk, retR, resL, outT, zes, zez, oneV, ↓zcy, ↓zcz, ↓reduceIte, Nat.reduceEqDiff, Option.some.injEq, AV.sc.injEq, Value.bool.injEq, Value.int.injEq, outL, outT, zft, zcp, zed, zef, zei, zeh, List.length_cons, List.length_nil, Nat.reduceAdd, Nat.zero_add, Nat.reduceLeDiff, List.drop_zero, List.take_succ_cons, List.take_zero, zfi, zfh, Ro.dl, zdb, zda, zfe, and_self, and_true, true_and, eq_self, List.append_nil, List.nil_append, List.cons_append, ne_eq, not_false_eq_true, and_false, false_and, Bool.false_eq_true, St.ev, zes, zfn, zhk, List.length_map]
            · rintro sl ro gn ⟨s1, r4096, s3, s5, q⟩
              dsimp only at s1 r4096 s3 s5
              have hi' : ¬ ((V.length : Nat) : Int) < (V.length : Nat) := by omega
              simp (config := { maxSteps := 10000000 }) (disch := first | assumption | omega) only [go_sem, ↓reduceIte, Nat.reduceEqDiff, reduceCtorEq, Nat.reduceAdd, Nat.reduceMul, Nat.reduceLeDiff, zfu, Int.mul_def, Int.add_def, zfv, cond_false, cond_true, isub, Int.reduceToNat, s1, r4096, s3, s5, hi']
              refine WK_for (fun i st => st.sl 1 = .ptr 4096 1 [] 0 ∧ st.ro 4096 1 = some (.bx [immL O, i64 M, immL V]) ∧ st.sl 3 = i64 (V.length : Int) ∧ st.sl 6 = i64 (i : Int) ∧ (∀ x, x < i → ∀ y, y < V.length → ∀ z, z < V.length → prM O M V (adN O x y) z = (prM O M V x z + prM O M V y z) % M)) V.length ?_ ?_ ?_
              · simp only [↓zcy, ↓zcz, ↓zda, ↓zdb, ↓reduceIte, Nat.reduceEqDiff, and_true, true_and, and_self, ne_eq, not_false_eq_true, eq_self, false_and, and_false, reduceCtorEq, rws_zero, s1, r4096, s3, s5, hi']
                exact ⟨rfl, fun x hx => absurd hx (Nat.not_lt_zero _)⟩
              · rintro i sl ro gn hi ⟨s1, r4096, s3, s6, q1⟩
                dsimp only at s1 r4096 s3 s6
                have hi' : (i : Int) < (V.length : Nat) := by omega
                simp (config := { maxSteps := 10000000 }) (disch := first | assumption | omega) only [go_sem, ↓reduceIte, Nat.reduceEqDiff, reduceCtorEq, Nat.reduceAdd, Nat.reduceMul, Nat.reduceLeDiff, zfu, Int.mul_def, Int.add_def, zfv, cond_false, cond_true, isub, Int.reduceToNat, s1, r4096, s3, s6, hi', hi]
                refine WK_for (fun j st => st.sl 1 = .ptr 4096 1 [] 0 ∧ st.ro 4096 1 = some (.bx [immL O, i64 M, immL V]) ∧ st.sl 3 = i64 (V.length : Int) ∧ st.sl 6 = i64 (i : Int) ∧ st.sl 7 = i64 (j : Int) ∧ (∀ y, y < j → ∀ z, z < V.length → prM O M V (adN O i y) z = (prM O M V i z + prM O M V y z) % M)) V.length ?_ ?_ ?_
                · simp only [↓zcy, ↓zcz, ↓zda, ↓zdb, ↓reduceIte, Nat.reduceEqDiff, and_true, true_and, and_self, ne_eq, not_false_eq_true, eq_self, false_and, and_false, reduceCtorEq, rws_zero, s1, r4096, s3, s6, hi', hi]
                  exact ⟨rfl, fun x hx => absurd hx (Nat.not_lt_zero _)⟩
                · rintro j sl ro gn hj ⟨s1, r4096, s3, s6, s7, q2⟩
                  dsimp only at s1 r4096 s3 s6 s7
                  have hj' : (j : Int) < (V.length : Nat) := by omega
                  obtain ⟨a1, a2⟩ := hg.adN i j
                  have had : adN O i j < V.length := by omega
                  simp (config := { maxSteps := 10000000 }) (disch := first | assumption | omega) only [go_sem, ↓reduceIte, Nat.reduceEqDiff, reduceCtorEq, Nat.reduceAdd, Nat.reduceMul, Nat.reduceLeDiff, zfu, Int.mul_def, Int.add_def, zfv, cond_false, cond_true, isub, Int.reduceToNat, s1, r4096, s3, s6, s7, hj', hj]
                  refine WK_for (fun k st => st.sl 1 = .ptr 4096 1 [] 0 ∧ st.ro 4096 1 = some (.bx [immL O, i64 M, immL V]) ∧ st.sl 3 = i64 (V.length : Int) ∧ st.sl 6 = i64 (i : Int) ∧ st.sl 7 = i64 (j : Int) ∧ st.sl 8 = i64 (k : Int) ∧ (∀ z, z < k → prM O M V (adN O i j) z = (prM O M V i z + prM O M V j z) % M)) V.length ?_ ?_ ?_
                  · simp only [↓zcy, ↓zcz, ↓zda, ↓zdb, ↓reduceIte, Nat.reduceEqDiff, and_true, true_and, and_self, ne_eq, not_false_eq_true, eq_self, false_and, and_false, reduceCtorEq, rws_zero, s1, r4096, s3, s6, s7, hj', hj]
                    exact ⟨rfl, fun x hx => absurd hx (Nat.not_lt_zero _)⟩
                  · rintro k sl ro gn hk ⟨s1, r4096, s3, s6, s7, s8, q3⟩
                    dsimp only at s1 r4096 s3 s6 s7 s8
                    have hk' : (k : Int) < (V.length : Nat) := by omega
                    obtain ⟨p1, p2⟩ := prM_rng (O := O) (V := V) hb.m i k
                    obtain ⟨p3, p4⟩ := prM_rng (O := O) (V := V) hb.m j k
                    obtain ⟨p5, p6⟩ := prM_rng (O := O) (V := V) hb.m (adN O i j) k
                    have hM0 : ¬ M = 0 := by omega
                    have hbi := bil_iff (a := prM O M V i k) (b := prM O M V j k) (M := M) (by omega) ⟨p5, p6⟩
                    by_cases hq : prM O M V (adN O i j) k = (prM O M V i k + prM O M V j k) % M
                    · have e0 : (prM O M V i k + prM O M V j k - prM O M V (adN O i j) k).tmod M = 0 := Int.tmod_eq_zero_of_dvd (Int.dvd_of_emod_eq_zero (hbi.2 hq))
                      simp (config := { maxSteps := 10000000 }) (disch := first | assumption | omega) only [go_sem, ↓reduceIte, Nat.reduceEqDiff, reduceCtorEq, Nat.reduceAdd, Nat.reduceMul, Nat.reduceLeDiff, zfu, Int.mul_def, Int.add_def, zfv, cond_false, cond_true, isub, Int.reduceToNat, s1, r4096, s3, s6, s7, s8, hk', hk]
                      refine CLLD_pure _ (cPairL hb hi hk) (by simp (disch := assumption) only [pureL, pureA, isL_pure, isLL_pure, isLLL_pure, pureL_map, Bool.and_self, Bool.and_true]) rfl ?_
                      simp (config := { maxSteps := 10000000 }) (disch := first | assumption | omega) only [go_sem, ↓reduceIte, Nat.reduceEqDiff, reduceCtorEq, Nat.reduceAdd, Nat.reduceMul, Nat.reduceLeDiff, zfu, Int.mul_def, Int.add_def, zfv, cond_false, cond_true, isub, Int.reduceToNat, s1, r4096, s3, s6, s7, s8, hk', hk]
                      refine CLLD_pure _ (cPairL hb hj hk) (by simp (disch := assumption) only [pureL, pureA, isL_pure, isLL_pure, isLLL_pure, pureL_map, Bool.and_self, Bool.and_true]) rfl ?_
                      simp (config := { maxSteps := 10000000 }) (disch := first | assumption | omega) only [go_sem, ↓reduceIte, Nat.reduceEqDiff, reduceCtorEq, Nat.reduceAdd, Nat.reduceMul, Nat.reduceLeDiff, zfu, Int.mul_def, Int.add_def, zfv, cond_false, cond_true, isub, Int.reduceToNat, s1, r4096, s3, s6, s7, s8, hk', hk]
                      refine CLLD_pure _ (cAdd10 hg (x := i) (y := j) (by omega) (by omega)) (by simp (disch := assumption) only [pureL, pureA, isL_pure, isLL_pure, isLLL_pure, pureL_map, Bool.and_self, Bool.and_true]) rfl ?_
                      simp (config := { maxSteps := 10000000 }) (disch := first | assumption | omega) only [go_sem, ↓reduceIte, Nat.reduceEqDiff, reduceCtorEq, Nat.reduceAdd, Nat.reduceMul, Nat.reduceLeDiff, zfu, Int.mul_def, Int.add_def, zfv, cond_false, cond_true, isub, Int.reduceToNat, s1, r4096, s3, s6, s7, s8, hk', hk, a1]
                      refine CLLD_pure _ (cPairL hb had hk) (by simp (disch := assumption) only [pureL, pureA, isL_pure, isLL_pure, isLLL_pure, pureL_map, Bool.and_self, Bool.and_true]) rfl ?_
                      simp (config := { maxSteps := 10000000 }) (disch := first | assumption | omega) only [go_sem, ↓reduceIte, Nat.reduceEqDiff, reduceCtorEq, Nat.reduceAdd, Nat.reduceMul, Nat.reduceLeDiff, zfu, Int.mul_def, Int.add_def, zfv, cond_false, cond_true, isub, Int.reduceToNat, s1, r4096, s3, s6, s7, s8, hk', hk, e0]
                      refine FIN_of (by kernel_rfl) ?_
                      simp (config := { maxSteps := 10000000 }) (disch := first | assumption | omega) only [go_sem, ↓reduceIte, Nat.reduceEqDiff, reduceCtorEq, Nat.reduceAdd, Nat.reduceMul, Nat.reduceLeDiff, zfu, Int.mul_def, Int.add_def, zfv, cond_false, cond_true, isub, Int.reduceToNat, s1, r4096, s3, s6, s7, s8, hk', hk]
                      refine ⟨i64c (by omega), fun z hz => ?_⟩
                      by_cases e : z = k
                      · subst e; exact hq
                      · exact q3 z (by omega)
                    · have e0 : ¬ (prM O M V i k + prM O M V j k - prM O M V (adN O i j) k).tmod M = 0 := fun h => hq (hbi.1 (Int.emod_eq_zero_of_dvd (Int.dvd_of_tmod_eq_zero h)))
                      have hf := bool_f ht2 fun h => hq ((h i hi).2 j hj k hk)
                      subst hf
                      simp (config := { maxSteps := 10000000 }) (disch := first | assumption | omega) only [go_sem, ↓reduceIte, Nat.reduceEqDiff, reduceCtorEq, Nat.reduceAdd, Nat.reduceMul, Nat.reduceLeDiff, zfu, Int.mul_def, Int.add_def, zfv, cond_false, cond_true, isub, Int.reduceToNat, s1, r4096, s3, s6, s7, s8, hk', hk]
                      refine CLLD_pure _ (cPairL hb hi hk) (by simp (disch := assumption) only [pureL, pureA, isL_pure, isLL_pure, isLLL_pure, pureL_map, Bool.and_self, Bool.and_true]) rfl ?_
                      simp (config := { maxSteps := 10000000 }) (disch := first | assumption | omega) only [go_sem, ↓reduceIte, Nat.reduceEqDiff, reduceCtorEq, Nat.reduceAdd, Nat.reduceMul, Nat.reduceLeDiff, zfu, Int.mul_def, Int.add_def, zfv, cond_false, cond_true, isub, Int.reduceToNat, s1, r4096, s3, s6, s7, s8, hk', hk]
                      refine CLLD_pure _ (cPairL hb hj hk) (by simp (disch := assumption) only [pureL, pureA, isL_pure, isLL_pure, isLLL_pure, pureL_map, Bool.and_self, Bool.and_true]) rfl ?_
                      simp (config := { maxSteps := 10000000 }) (disch := first | assumption | omega) only [go_sem, ↓reduceIte, Nat.reduceEqDiff, reduceCtorEq, Nat.reduceAdd, Nat.reduceMul, Nat.reduceLeDiff, zfu, Int.mul_def, Int.add_def, zfv, cond_false, cond_true, isub, Int.reduceToNat, s1, r4096, s3, s6, s7, s8, hk', hk]
                      refine CLLD_pure _ (cAdd10 hg (x := i) (y := j) (by omega) (by omega)) (by simp (disch := assumption) only [pureL, pureA, isL_pure, isLL_pure, isLLL_pure, pureL_map, Bool.and_self, Bool.and_true]) rfl ?_
                      simp (config := { maxSteps := 10000000 }) (disch := first | assumption | omega) only [go_sem, ↓reduceIte, Nat.reduceEqDiff, reduceCtorEq, Nat.reduceAdd, Nat.reduceMul, Nat.reduceLeDiff, zfu, Int.mul_def, Int.add_def, zfv, cond_false, cond_true, isub, Int.reduceToNat, s1, r4096, s3, s6, s7, s8, hk', hk, a1]
                      refine CLLD_pure _ (cPairL hb had hk) (by simp (disch := assumption) only [pureL, pureA, isL_pure, isLL_pure, isLLL_pure, pureL_map, Bool.and_self, Bool.and_true]) rfl ?_
                      simp (config := { maxSteps := 10000000 }) (disch := first | assumption | omega) only [go_sem, ↓reduceIte, Nat.reduceEqDiff, reduceCtorEq, Nat.reduceAdd, Nat.reduceMul, Nat.reduceLeDiff, zfu, Int.mul_def, Int.add_def, zfv, cond_false, cond_true, isub, Int.reduceToNat, s1, r4096, s3, s6, s7, s8, hk', hk, eq_false e0]
                      refine FIN_of (by kernel_rfl) ?_
                      simp (config := { maxSteps := 10000000 }) (disch := first | assumption | omega) only [go_sem, ↓reduceIte, Nat.reduceEqDiff, reduceCtorEq, Nat.reduceAdd, Nat.reduceMul, Nat.reduceLeDiff, zfu, Int.mul_def, Int.add_def, zfv, cond_false, cond_true, isub, Int.reduceToNat, s1, r4096, s3, s6, s7, s8, hk', hk]
                      simp only [zbj, zbk, retR, resL, outT, zes, zez, oneV, ↓zcy, ↓zcz, ↓reduceIte, Nat.reduceEqDiff, Option.some.injEq, AV.sc.injEq, Value.bool.injEq, Value.int.injEq, outL, outT, zft, zcp, zed, zef, zei, zeh, List.length_cons, List.length_nil, Nat.reduceAdd, Nat.zero_add, Nat.reduceLeDiff, List.drop_zero, List.take_succ_cons, List.take_zero, zfi, zfh, Ro.dl, zdb, zda, zfe, and_self, and_true, true_and, eq_self, List.append_nil, List.nil_append, List.cons_append, ne_eq, not_false_eq_true, and_false, false_and, Bool.false_eq_true, St.ev, zes, zfn, zhk, List.length_map]
                  · rintro sl ro gn ⟨s1, r4096, s3, s6, s7, s8, q3⟩
                    dsimp only at s1 r4096 s3 s6 s7 s8
                    have hk' : ¬ ((V.length : Nat) : Int) < (V.length : Nat) := by omega
                    simp (config := { maxSteps := 10000000 }) (disch := first | assumption | omega) only [go_sem, ↓reduceIte, Nat.reduceEqDiff, reduceCtorEq, Nat.reduceAdd, Nat.reduceMul, Nat.reduceLeDiff, zfu, Int.mul_def, Int.add_def, zfv, cond_false, cond_true, isub, Int.reduceToNat, s1, r4096, s3, s6, s7, s8, hk']
                    refine ⟨i64c (by omega), fun y hy => ?_⟩
                    by_cases e : y = j
                    · subst e; exact q3
                    · exact q2 y (by omega)
                · rintro sl ro gn ⟨s1, r4096, s3, s6, s7, q2⟩
                  dsimp only at s1 r4096 s3 s6 s7
                  have hj' : ¬ ((V.length : Nat) : Int) < (V.length : Nat) := by omega
                  simp (config := { maxSteps := 10000000 }) (disch := first | assumption | omega) only [go_sem, ↓reduceIte, Nat.reduceEqDiff, reduceCtorEq, Nat.reduceAdd, Nat.reduceMul, Nat.reduceLeDiff, zfu, Int.mul_def, Int.add_def, zfv, cond_false, cond_true, isub, Int.reduceToNat, s1, r4096, s3, s6, s7, hj']
                  refine ⟨i64c (by omega), fun x hx => ?_⟩
                  by_cases e : x = i
                  · subst e; exact q2
                  · exact q1 x (by omega)
              · rintro sl ro gn ⟨s1, r4096, s3, s6, q1⟩
                dsimp only at s1 r4096 s3 s6
                have hi' : ¬ ((V.length : Nat) : Int) < (V.length : Nat) := by omega
                have hf : t = true := ht2.2 fun x hx => ⟨q x hx, q1 x hx⟩
                subst hf
                simp (config := { maxSteps := 10000000 }) (disch := first | assumption | omega) only [go_sem, ↓reduceIte, Nat.reduceEqDiff, reduceCtorEq, Nat.reduceAdd, Nat.reduceMul, Nat.reduceLeDiff, zfu, Int.mul_def, Int.add_def, zfv, cond_false, cond_true, isub, Int.reduceToNat, s1, r4096, s3, s6, hi']
                simp only [zbj, zbk, retR, resL, outT, zes, zez, oneV, ↓zcy, ↓zcz, ↓reduceIte, Nat.reduceEqDiff, Option.some.injEq, AV.sc.injEq, Value.bool.injEq, Value.int.injEq, outL, outT, zft, zcp, zed, zef, zei, zeh, List.length_cons, List.length_nil, Nat.reduceAdd, Nat.zero_add, Nat.reduceLeDiff, List.drop_zero, List.take_succ_cons, List.take_zero, zfi, zfh, Ro.dl, zdb, zda, zfe, and_self, and_true, true_and, eq_self, List.append_nil, List.nil_append, List.cons_append, ne_eq, not_false_eq_true, and_false, false_and, Bool.false_eq_true, St.ev, zes, zfn, zhk, List.length_map]
        · have hf := bool_f ht fun h => hz h.2.2.1
          subst hf
          dsimp only [Tryz.f30, bodyOf, Option.getD]
          simp (config := { maxSteps := 10000000 }) (disch := first | assumption | omega) only [go_sem, ↓reduceIte, Nat.reduceEqDiff, reduceCtorEq, Nat.reduceAdd, Nat.reduceMul, Nat.reduceLeDiff, zfu, Int.mul_def, Int.add_def, zfv, cond_false, cond_true, isub, Int.reduceToNat, s0]
          refine CLLD_pure _ cG (by simp (disch := assumption) only [pureL, pureA, isL_pure, isLL_pure, isLLL_pure, pureL_map, Bool.and_self, Bool.and_true]) rfl ?_
          simp (config := { maxSteps := 10000000 }) (disch := first | assumption | omega) only [go_sem, ↓reduceIte, Nat.reduceEqDiff, reduceCtorEq, Nat.reduceAdd, Nat.reduceMul, Nat.reduceLeDiff, zfu, Int.mul_def, Int.add_def, zfv, cond_false, cond_true, isub, Int.reduceToNat, s0]
          refine CLLD_pure _ cO (by simp (disch := assumption) only [pureL, pureA, isL_pure, isLL_pure, isLLL_pure, pureL_map, Bool.and_self, Bool.and_true]) rfl ?_
          simp (config := { maxSteps := 10000000 }) (disch := first | assumption | omega) only [go_sem, ↓reduceIte, Nat.reduceEqDiff, reduceCtorEq, Nat.reduceAdd, Nat.reduceMul, Nat.reduceLeDiff, zfu, Int.mul_def, Int.add_def, zfv, cond_false, cond_true, isub, Int.reduceToNat, s0]
          refine CLLD_pure _ cS (by simp (disch := assumption) only [pureL, pureA, isL_pure, isLL_pure, isLLL_pure, pureL_map, Bool.and_self, Bool.and_true]) rfl ?_
          simp (config := { maxSteps := 10000000 }) (disch := first | assumption | omega) only [go_sem, ↓reduceIte, Nat.reduceEqDiff, reduceCtorEq, Nat.reduceAdd, Nat.reduceMul, Nat.reduceLeDiff, zfu, Int.mul_def, Int.add_def, zfv, cond_false, cond_true, isub, Int.reduceToNat, s0, isL_idx0, eq_false hz]
          refine FIN_of (by kernel_rfl) ?_
          simp (config := { maxSteps := 10000000 }) (disch := first | assumption | omega) only [go_sem, ↓reduceIte, Nat.reduceEqDiff, reduceCtorEq, Nat.reduceAdd, Nat.reduceMul, Nat.reduceLeDiff, zfu, Int.mul_def, Int.add_def, zfv, cond_false, cond_true, isub, Int.reduceToNat, s0]
          simp only [zbj, zbk, retR, resL, outT, zes, zez, oneV, ↓zcy, ↓zcz, ↓reduceIte, Nat.reduceEqDiff, Option.some.injEq, AV.sc.injEq, Value.bool.injEq, Value.int.injEq, outL, outT, zft, zcp, zed, zef, zei, zeh, List.length_cons, List.length_nil, Nat.reduceAdd, Nat.zero_add, Nat.reduceLeDiff, List.drop_zero, List.take_succ_cons, List.take_zero, zfi, zfh, Ro.dl, zdb, zda, zfe, and_self, and_true, true_and, eq_self, List.append_nil, List.nil_append, List.cons_append, ne_eq, not_false_eq_true, and_false, false_and, Bool.false_eq_true, St.ev, zes, zfn, zhk, List.length_map]
      · have hf := bool_f ht fun h => hn h.1.n
        subst hf
        dsimp only [Tryz.f30, bodyOf, Option.getD]
        simp (config := { maxSteps := 10000000 }) (disch := first | assumption | omega) only [go_sem, ↓reduceIte, Nat.reduceEqDiff, reduceCtorEq, Nat.reduceAdd, Nat.reduceMul, Nat.reduceLeDiff, zfu, Int.mul_def, Int.add_def, zfv, cond_false, cond_true, isub, Int.reduceToNat, s0]
        refine CLLD_pure _ cG (by simp (disch := assumption) only [pureL, pureA, isL_pure, isLL_pure, isLLL_pure, pureL_map, Bool.and_self, Bool.and_true]) rfl ?_
        simp (config := { maxSteps := 10000000 }) (disch := first | assumption | omega) only [go_sem, ↓reduceIte, Nat.reduceEqDiff, reduceCtorEq, Nat.reduceAdd, Nat.reduceMul, Nat.reduceLeDiff, zfu, Int.mul_def, Int.add_def, zfv, cond_false, cond_true, isub, Int.reduceToNat, s0]
        refine CLLD_pure _ cO (by simp (disch := assumption) only [pureL, pureA, isL_pure, isLL_pure, isLLL_pure, pureL_map, Bool.and_self, Bool.and_true]) rfl ?_
        simp (config := { maxSteps := 10000000 }) (disch := first | assumption | omega) only [go_sem, ↓reduceIte, Nat.reduceEqDiff, reduceCtorEq, Nat.reduceAdd, Nat.reduceMul, Nat.reduceLeDiff, zfu, Int.mul_def, Int.add_def, zfv, cond_false, cond_true, isub, Int.reduceToNat, s0]
        refine CLLD_pure _ cS (by simp (disch := assumption) only [pureL, pureA, isL_pure, isLL_pure, isLLL_pure, pureL_map, Bool.and_self, Bool.and_true]) rfl ?_
        simp (config := { maxSteps := 10000000 }) (disch := first | assumption | omega) only [go_sem, ↓reduceIte, Nat.reduceEqDiff, reduceCtorEq, Nat.reduceAdd, Nat.reduceMul, Nat.reduceLeDiff, zfu, Int.mul_def, Int.add_def, zfv, cond_false, cond_true, isub, Int.reduceToNat, s0, eq_false hn]
        refine FIN_of (by kernel_rfl) ?_
        simp (config := { maxSteps := 10000000 }) (disch := first | assumption | omega) only [go_sem, ↓reduceIte, Nat.reduceEqDiff, reduceCtorEq, Nat.reduceAdd, Nat.reduceMul, Nat.reduceLeDiff, zfu, Int.mul_def, Int.add_def, zfv, cond_false, cond_true, isub, Int.reduceToNat, s0]
        simp only [zbj, zbk, retR, resL, outT, zes, zez, oneV, ↓zcy, ↓zcz, ↓reduceIte, Nat.reduceEqDiff, Option.some.injEq, AV.sc.injEq, Value.bool.injEq, Value.int.injEq, outL, outT, zft, zcp, zed, zef, zei, zeh, List.length_cons, List.length_nil, Nat.reduceAdd, Nat.zero_add, Nat.reduceLeDiff, List.drop_zero, List.take_succ_cons, List.take_zero, zfi, zfh, Ro.dl, zdb, zda, zfe, and_self, and_true, true_and, eq_self, List.append_nil, List.nil_append, List.cons_append, ne_eq, not_false_eq_true, and_false, false_and, Bool.false_eq_true, St.ev, zes, zfn, zhk, List.length_map]
    · have cO := cDivisor (n := M)
      rw [decide_eq_false hm] at cO
      have hf := bool_f ht fun h => hm ⟨h.1.m.1, h.2.1⟩
      subst hf
      dsimp only [Tryz.f30, bodyOf, Option.getD]
      simp (config := { maxSteps := 10000000 }) (disch := first | assumption | omega) only [go_sem, ↓reduceIte, Nat.reduceEqDiff, reduceCtorEq, Nat.reduceAdd, Nat.reduceMul, Nat.reduceLeDiff, zfu, Int.mul_def, Int.add_def, zfv, cond_false, cond_true, isub, Int.reduceToNat, s0]
      refine CLLD_pure _ cG (by simp (disch := assumption) only [pureL, pureA, isL_pure, isLL_pure, isLLL_pure, pureL_map, Bool.and_self, Bool.and_true]) rfl ?_
      simp (config := { maxSteps := 10000000 }) (disch := first | assumption | omega) only [go_sem, ↓reduceIte, Nat.reduceEqDiff, reduceCtorEq, Nat.reduceAdd, Nat.reduceMul, Nat.reduceLeDiff, zfu, Int.mul_def, Int.add_def, zfv, cond_false, cond_true, isub, Int.reduceToNat, s0]
      refine CLLD_pure _ cO (by simp (disch := assumption) only [pureL, pureA, isL_pure, isLL_pure, isLLL_pure, pureL_map, Bool.and_self, Bool.and_true]) rfl ?_
      simp (config := { maxSteps := 10000000 }) (disch := first | assumption | omega) only [go_sem, ↓reduceIte, Nat.reduceEqDiff, reduceCtorEq, Nat.reduceAdd, Nat.reduceMul, Nat.reduceLeDiff, zfu, Int.mul_def, Int.add_def, zfv, cond_false, cond_true, isub, Int.reduceToNat, s0]
      refine FIN_of (by kernel_rfl) ?_
      simp (config := { maxSteps := 10000000 }) (disch := first | assumption | omega) only [go_sem, ↓reduceIte, Nat.reduceEqDiff, reduceCtorEq, Nat.reduceAdd, Nat.reduceMul, Nat.reduceLeDiff, zfu, Int.mul_def, Int.add_def, zfv, cond_false, cond_true, isub, Int.reduceToNat, s0]
      simp only [zbj, zbk, retR, resL, outT, zes, zez, oneV, ↓zcy, ↓zcz, ↓reduceIte, Nat.reduceEqDiff, Option.some.injEq, AV.sc.injEq, Value.bool.injEq, Value.int.injEq, outL, outT, zft, zcp, zed, zef, zei, zeh, List.length_cons, List.length_nil, Nat.reduceAdd, Nat.zero_add, Nat.reduceLeDiff, List.drop_zero, List.take_succ_cons, List.take_zero, zfi, zfh, Ro.dl, zdb, zda, zfe, and_self, and_true, true_and, eq_self, List.append_nil, List.nil_append, List.cons_append, ne_eq, not_false_eq_true, and_false, false_and, Bool.false_eq_true, St.ev, zes, zfn, zhk, List.length_map]
  · have cG := cOrd10 (t := false) hx (by simp [hg])
    have hf := bool_f ht fun h => hg h.1.g
    subst hf
    dsimp only [Tryz.f30, bodyOf, Option.getD]
    simp (config := { maxSteps := 10000000 }) (disch := first | assumption | omega) only [go_sem, ↓reduceIte, Nat.reduceEqDiff, reduceCtorEq, Nat.reduceAdd, Nat.reduceMul, Nat.reduceLeDiff, zfu, Int.mul_def, Int.add_def, zfv, cond_false, cond_true, isub, Int.reduceToNat, s0]
    refine CLLD_pure _ cG (by simp (disch := assumption) only [pureL, pureA, isL_pure, isLL_pure, isLLL_pure, pureL_map, Bool.and_self, Bool.and_true]) rfl ?_
    simp (config := { maxSteps := 10000000 }) (disch := first | assumption | omega) only [go_sem, ↓reduceIte, Nat.reduceEqDiff, reduceCtorEq, Nat.reduceAdd, Nat.reduceMul, Nat.reduceLeDiff, zfu, Int.mul_def, Int.add_def, zfv, cond_false, cond_true, isub, Int.reduceToNat, s0]
    refine FIN_of (by kernel_rfl) ?_
    simp (config := { maxSteps := 10000000 }) (disch := first | assumption | omega) only [go_sem, ↓reduceIte, Nat.reduceEqDiff, reduceCtorEq, Nat.reduceAdd, Nat.reduceMul, Nat.reduceLeDiff, zfu, Int.mul_def, Int.add_def, zfv, cond_false, cond_true, isub, Int.reduceToNat, s0]
    simp only [zbj, zbk, retR, resL, outT, zes, zez, oneV, ↓zcy, ↓zcz, ↓reduceIte, Nat.reduceEqDiff, Option.some.injEq, AV.sc.injEq, Value.bool.injEq, Value.int.injEq, outL, outT, zft, zcp, zed, zef, zei, zeh, List.length_cons, List.length_nil, Nat.reduceAdd, Nat.zero_add, Nat.reduceLeDiff, List.drop_zero, List.take_succ_cons, List.take_zero, zfi, zfh, Ro.dl, zdb, zda, zfe, and_self, and_true, true_and, eq_self, List.append_nil, List.nil_append, List.cons_append, ne_eq, not_false_eq_true, and_false, false_and, Bool.false_eq_true, St.ev, zes, zfn, zhk, List.length_map]
end
end Go.Proofs.YtgcnmlecihegcaaGreat

/- Desks; the law of IsDesk answers true. -/
namespace Go.Proofs.YtgcnmlecihegcaaGreat
open Go.RowKit
set_option maxRecDepth 1000000

theorem tiLR : ti0 24 = some ⟨1, true, [Value.slice none 0 0], none, [(0, 22)], none, false, false⟩ := by kernel_rfl
theorem tiLM : ti0 27 = some ⟨3, true, [Value.slice none 0 0, Value.int .i64 0, Value.slice none 0 0], none, [(0, 25), (1, 2), (2, 25)], none, false, false⟩ := by kernel_rfl
theorem tiLK : ti0 32 = some ⟨6, true, [Value.slice none 0 0, Value.slice none 0 0, Value.int .i64 0, Value.slice none 0 0, Value.slice none 0 0, Value.slice none 0 0], none, [(0, 24), (1, 27), (4, 30)], none, false, false⟩ := by kernel_rfl
theorem tiDk : ti0 39 = some ⟨6, true, [Value.slice none 0 0, Value.slice none 0 0, Value.int .i64 0, Value.slice none 0 0, Value.slice none 0 0, Value.slice none 0 0], none, [(0, 35), (1, 36), (4, 37)], none, false, false⟩ := by kernel_rfl
attribute [go_sem] tiLR tiLM tiLK tiDk
theorem pureL_mapL : ∀ S : List (List Int), pureL (S.map immL) = true
  | [] => rfl
  | x :: S => by simp only [List.map_cons, pureL, pureA, pureL_map, pureL_mapL S, Bool.and_self]
theorem pureL_mapLL : ∀ T : List (List (List Int)), pureL (T.map immLL) = true
  | [] => rfl
  | x :: T => by simp only [List.map_cons, pureL, pureA, pureL_mapL, pureL_mapLL T, Bool.and_self]
theorem impE_agg3 (b : Nat) (gn : Nat → Nat) (xs ys : List AV) (v : Value) : impE b gn (.agg [.row xs, .sc v, .row ys]) = ⟨.agg [.ref b (gn b + 1) [] 0 xs.length, .sc v, .ref (b + 1) (gn (b + 1) + 1) [] 0 ys.length], none, [], [(b, .row xs), (b + 1, .row ys)]⟩ := nr _
theorem impE_agg6 (b : Nat) (gn : Nat → Nat) (a1 a2 a3 a4 a5 : List AV) (v : Value) : impE b gn (.agg [.row a1, .row a2, .sc v, .row a3, .row a4, .row a5]) = ⟨.agg [.ref b (gn b + 1) [] 0 a1.length, .ref (b + 1) (gn (b + 1) + 1) [] 0 a2.length, .sc v, .ref (b + 1 + 1) (gn (b + 1 + 1) + 1) [] 0 a3.length, .ref (b + 1 + 1 + 1) (gn (b + 1 + 1 + 1) + 1) [] 0 a4.length, .ref (b + 1 + 1 + 1 + 1) (gn (b + 1 + 1 + 1 + 1) + 1) [] 0 a5.length], none, [], [(b, .row a1), (b + 1, .row a2), (b + 1 + 1, .row a3), (b + 1 + 1 + 1, .row a4), (b + 1 + 1 + 1 + 1, .row a5)]⟩ := nr _
attribute [go_sem] impE_agg1 impE_agg2 impE_agg3 impE_agg6

abbrev dk (T : List (List (List Int))) (O : List Int) (M : Int) (V : List Int) (S : List (List Int)) (U : List Int) : AV := .agg [immLLL T, immL O, i64 M, immL V, immLL S, immL U]
section
variable {T : List (List (List Int))} {O V U : List Int} {M : Int} {S : List (List Int)}
theorem pureL_ws {a : AV} (h : pureA a = true) : pureL [a] = true := by simp only [pureL, h, Bool.and_true]
theorem cLDk (hO : O.length ≤ maxN) (hV : V.length ≤ maxN) (hM : -2^63 ≤ M ∧ M < 2^63) (hS : S.length ≤ maxN) (hU : U.length ≤ maxN) (hR : ∀ i, i < S.length → (row S i).length ≤ maxN) {t : Bool} (ht : t = true ↔ RingP T ∧ MetP O M V ∧ DataP S U) : CallOK Tryz.prog 6 [dk T O M V S U] (bo t) := by
  have h1 := isLLL_imm T
  have h2 := isL_imm O
  have h3 := isL_imm V
  have h4 := isLL_imm S
  have h5 := isL_imm U
  refine call_of (fn := Tryz.f6) (code := bodyOf Tryz.f6) Tryz.func6 rfl (by kernel_rfl) (rfl) ?_
  intro sl hs
  have s0 : sl 0 = dk T O M V S U := hs 0
  by_cases hr : RingP T
  · by_cases hm : MetP O M V
    · by_cases hd : DataP S U
      · have hf : t = true := ht.2 ⟨hr, hm, hd⟩
        subst hf
        dsimp only [Tryz.f6, bodyOf, Option.getD]
        simp (config := { maxSteps := 10000000 }) (disch := first | assumption | omega) only [go_sem, ↓reduceIte, Nat.reduceEqDiff, reduceCtorEq, Nat.reduceAdd, Nat.reduceMul, Nat.reduceLeDiff, zfu, Int.mul_def, Int.add_def, zfv, cond_false, cond_true, isub, Int.reduceToNat, s0]
        refine CLL_pure _ (c108 (t := true) h1 (by simp [hr])) (by simp only [pureL, pureA, pureL_map, pureL_mapL, pureL_mapLL, Bool.and_self, Bool.and_true]) rfl rfl ?_
        simp (config := { maxSteps := 10000000 }) (disch := first | assumption | omega) only [go_sem, ↓reduceIte, Nat.reduceEqDiff, reduceCtorEq, Nat.reduceAdd, Nat.reduceMul, Nat.reduceLeDiff, zfu, Int.mul_def, Int.add_def, zfv, cond_false, cond_true, isub, Int.reduceToNat, s0]
        refine CLL_pure _ (cL10Is (t := true) hO hV hM (by simp [hm])) (by simp only [pureL, pureA, pureL_map, pureL_mapL, pureL_mapLL, Bool.and_self, Bool.and_true]) rfl rfl ?_
        simp (config := { maxSteps := 10000000 }) (disch := first | assumption | omega) only [go_sem, ↓reduceIte, Nat.reduceEqDiff, reduceCtorEq, Nat.reduceAdd, Nat.reduceMul, Nat.reduceLeDiff, zfu, Int.mul_def, Int.add_def, zfv, cond_false, cond_true, isub, Int.reduceToNat, s0]
        refine CLL_pure _ (c66t h4 h5 hS hU hR hd) (by simp only [pureL, pureA, pureL_map, pureL_mapL, pureL_mapLL, Bool.and_self, Bool.and_true]) rfl rfl ?_
        simp (config := { maxSteps := 10000000 }) (disch := first | assumption | omega) only [go_sem, ↓reduceIte, Nat.reduceEqDiff, reduceCtorEq, Nat.reduceAdd, Nat.reduceMul, Nat.reduceLeDiff, zfu, Int.mul_def, Int.add_def, zfv, cond_false, cond_true, isub, Int.reduceToNat, s0]
        simp only [zbj, zbk, retR, resL, outT, zes, zez, oneV, ↓zcy, ↓zcz, ↓reduceIte, Nat.reduceEqDiff, Option.some.injEq, AV.sc.injEq, Value.bool.injEq, Value.int.injEq, outL, outT, zft, zcp, zed, zef, zei, zeh, List.length_cons, List.length_nil, Nat.reduceAdd, Nat.zero_add, Nat.reduceLeDiff, List.drop_zero, List.take_succ_cons, List.take_zero, zfi, zfh, Ro.dl, zdb, zda, zfe, and_self, and_true, true_and, eq_self, List.append_nil, List.nil_append, List.cons_append, ne_eq, not_false_eq_true, and_false, false_and, Bool.false_eq_true, St.ev, zes, zfn, zhk, List.length_map]
      · have hf := bool_f ht fun h => hd h.2.2
        subst hf
        dsimp only [Tryz.f6, bodyOf, Option.getD]
        simp (config := { maxSteps := 10000000 }) (disch := first | assumption | omega) only [go_sem, ↓reduceIte, Nat.reduceEqDiff, reduceCtorEq, Nat.reduceAdd, Nat.reduceMul, Nat.reduceLeDiff, zfu, Int.mul_def, Int.add_def, zfv, cond_false, cond_true, isub, Int.reduceToNat, s0]
        refine CLL_pure _ (c108 (t := true) h1 (by simp [hr])) (by simp only [pureL, pureA, pureL_map, pureL_mapL, pureL_mapLL, Bool.and_self, Bool.and_true]) rfl rfl ?_
        simp (config := { maxSteps := 10000000 }) (disch := first | assumption | omega) only [go_sem, ↓reduceIte, Nat.reduceEqDiff, reduceCtorEq, Nat.reduceAdd, Nat.reduceMul, Nat.reduceLeDiff, zfu, Int.mul_def, Int.add_def, zfv, cond_false, cond_true, isub, Int.reduceToNat, s0]
        refine CLL_pure _ (cL10Is (t := true) hO hV hM (by simp [hm])) (by simp only [pureL, pureA, pureL_map, pureL_mapL, pureL_mapLL, Bool.and_self, Bool.and_true]) rfl rfl ?_
        simp (config := { maxSteps := 10000000 }) (disch := first | assumption | omega) only [go_sem, ↓reduceIte, Nat.reduceEqDiff, reduceCtorEq, Nat.reduceAdd, Nat.reduceMul, Nat.reduceLeDiff, zfu, Int.mul_def, Int.add_def, zfv, cond_false, cond_true, isub, Int.reduceToNat, s0]
        refine CLL_pure _ (c66f h4 h5 hS hU hR hd) (by simp only [pureL, pureA, pureL_map, pureL_mapL, pureL_mapLL, Bool.and_self, Bool.and_true]) rfl rfl ?_
        simp (config := { maxSteps := 10000000 }) (disch := first | assumption | omega) only [go_sem, ↓reduceIte, Nat.reduceEqDiff, reduceCtorEq, Nat.reduceAdd, Nat.reduceMul, Nat.reduceLeDiff, zfu, Int.mul_def, Int.add_def, zfv, cond_false, cond_true, isub, Int.reduceToNat, s0]
        simp only [zbj, zbk, retR, resL, outT, zes, zez, oneV, ↓zcy, ↓zcz, ↓reduceIte, Nat.reduceEqDiff, Option.some.injEq, AV.sc.injEq, Value.bool.injEq, Value.int.injEq, outL, outT, zft, zcp, zed, zef, zei, zeh, List.length_cons, List.length_nil, Nat.reduceAdd, Nat.zero_add, Nat.reduceLeDiff, List.drop_zero, List.take_succ_cons, List.take_zero, zfi, zfh, Ro.dl, zdb, zda, zfe, and_self, and_true, true_and, eq_self, List.append_nil, List.nil_append, List.cons_append, ne_eq, not_false_eq_true, and_false, false_and, Bool.false_eq_true, St.ev, zes, zfn, zhk, List.length_map]
    · have hf := bool_f ht fun h => hm h.2.1
      subst hf
      dsimp only [Tryz.f6, bodyOf, Option.getD]
      simp (config := { maxSteps := 10000000 }) (disch := first | assumption | omega) only [go_sem, ↓reduceIte, Nat.reduceEqDiff, reduceCtorEq, Nat.reduceAdd, Nat.reduceMul, Nat.reduceLeDiff, zfu, Int.mul_def, Int.add_def, zfv, cond_false, cond_true, isub, Int.reduceToNat, s0]
      refine CLL_pure _ (c108 (t := true) h1 (by simp [hr])) (by simp only [pureL, pureA, pureL_map, pureL_mapL, pureL_mapLL, Bool.and_self, Bool.and_true]) rfl rfl ?_
      simp (config := { maxSteps := 10000000 }) (disch := first | assumption | omega) only [go_sem, ↓reduceIte, Nat.reduceEqDiff, reduceCtorEq, Nat.reduceAdd, Nat.reduceMul, Nat.reduceLeDiff, zfu, Int.mul_def, Int.add_def, zfv, cond_false, cond_true, isub, Int.reduceToNat, s0]
      refine CLL_pure _ (cL10Is (t := false) hO hV hM (by simp [hm])) (by simp only [pureL, pureA, pureL_map, pureL_mapL, pureL_mapLL, Bool.and_self, Bool.and_true]) rfl rfl ?_
      simp (config := { maxSteps := 10000000 }) (disch := first | assumption | omega) only [go_sem, ↓reduceIte, Nat.reduceEqDiff, reduceCtorEq, Nat.reduceAdd, Nat.reduceMul, Nat.reduceLeDiff, zfu, Int.mul_def, Int.add_def, zfv, cond_false, cond_true, isub, Int.reduceToNat, s0]
      simp only [zbj, zbk, retR, resL, outT, zes, zez, oneV, ↓zcy, ↓zcz, ↓reduceIte, Nat.reduceEqDiff, Option.some.injEq, AV.sc.injEq, Value.bool.injEq, Value.int.injEq, outL, outT, zft, zcp, zed, zef, zei, zeh, List.length_cons, List.length_nil, Nat.reduceAdd, Nat.zero_add, Nat.reduceLeDiff, List.drop_zero, List.take_succ_cons, List.take_zero, zfi, zfh, Ro.dl, zdb, zda, zfe, and_self, and_true, true_and, eq_self, List.append_nil, List.nil_append, List.cons_append, ne_eq, not_false_eq_true, and_false, false_and, Bool.false_eq_true, St.ev, zes, zfn, zhk, List.length_map]
  · have hf := bool_f ht fun h => hr h.1
    subst hf
    dsimp only [Tryz.f6, bodyOf, Option.getD]
    simp (config := { maxSteps := 10000000 }) (disch := first | assumption | omega) only [go_sem, ↓reduceIte, Nat.reduceEqDiff, reduceCtorEq, Nat.reduceAdd, Nat.reduceMul, Nat.reduceLeDiff, zfu, Int.mul_def, Int.add_def, zfv, cond_false, cond_true, isub, Int.reduceToNat, s0]
    refine CLL_pure _ (c108 (t := false) h1 (by simp [hr])) (by simp only [pureL, pureA, pureL_map, pureL_mapL, pureL_mapLL, Bool.and_self, Bool.and_true]) rfl rfl ?_
    simp (config := { maxSteps := 10000000 }) (disch := first | assumption | omega) only [go_sem, ↓reduceIte, Nat.reduceEqDiff, reduceCtorEq, Nat.reduceAdd, Nat.reduceMul, Nat.reduceLeDiff, zfu, Int.mul_def, Int.add_def, zfv, cond_false, cond_true, isub, Int.reduceToNat, s0]
    simp only [zbj, zbk, retR, resL, outT, zes, zez, oneV, ↓zcy, ↓zcz, ↓reduceIte, Nat.reduceEqDiff, Option.some.injEq, AV.sc.injEq, Value.bool.injEq, Value.int.injEq, outL, outT, zft, zcp, zed, zef, zei, zeh, List.length_cons, List.length_nil, Nat.reduceAdd, Nat.zero_add, Nat.reduceLeDiff, List.drop_zero, List.take_succ_cons, List.take_zero, zfi, zfh, Ro.dl, zdb, zda, zfe, and_self, and_true, true_and, eq_self, List.append_nil, List.nil_append, List.cons_append, ne_eq, not_false_eq_true, and_false, false_and, Bool.false_eq_true, St.ev, zes, zfn, zhk, List.length_map]
theorem cIDk (hT : T.length ≤ maxN) (hT2 : ∀ i, i < T.length → (mat T i).length ≤ maxN ∧ ∀ j, j < (mat T i).length → (row (mat T i) j).length ≤ maxN) (hO : O.length ≤ maxN) (hV : V.length ≤ maxN) (hM : -2^63 ≤ M ∧ M < 2^63) (hS : S.length ≤ maxN) (hU : U.length ≤ maxN) (hR : ∀ i, i < S.length → (row S i).length ≤ maxN) {t : Bool} (ht : t = true ↔ RingP T ∧ MetP O M V ∧ DataP S U) : CallOK Tryz.prog 8 [dk T O M V S U] (bo t) := by
  have h1 := isLLL_imm T
  have h2 := isL_imm O
  have h3 := isL_imm V
  have h4 := isLL_imm S
  have h5 := isL_imm U
  refine call_of (fn := Tryz.f8) (code := bodyOf Tryz.f8) Tryz.func8 rfl (by kernel_rfl) (rfl) ?_
  intro sl hs
  have s0 : sl 0 = dk T O M V S U := hs 0
  by_cases hr : RingP T
  · by_cases hm : MetP O M V
    · by_cases hd : DataP S U
      · have hf : t = true := ht.2 ⟨hr, hm, hd⟩
        subst hf
        dsimp only [Tryz.f8, bodyOf, Option.getD]
        simp (config := { maxSteps := 10000000 }) (disch := first | assumption | omega) only [go_sem, ↓reduceIte, Nat.reduceEqDiff, reduceCtorEq, Nat.reduceAdd, Nat.reduceMul, Nat.reduceLeDiff, zfu, Int.mul_def, Int.add_def, zfv, cond_false, cond_true, isub, Int.reduceToNat, s0]
        refine CLL_pure _ (c118 (t := true) h1 hT hT2 (by simp [hr])) (by simp only [pureL, pureA, pureL_map, pureL_mapL, pureL_mapLL, Bool.and_self, Bool.and_true]) rfl rfl ?_
        simp (config := { maxSteps := 10000000 }) (disch := first | assumption | omega) only [go_sem, ↓reduceIte, Nat.reduceEqDiff, reduceCtorEq, Nat.reduceAdd, Nat.reduceMul, Nat.reduceLeDiff, zfu, Int.mul_def, Int.add_def, zfv, cond_false, cond_true, isub, Int.reduceToNat, s0]
        refine CLL_pure _ (cIsMetric (t := true) hO hV hM (by simp [hm])) (by simp only [pureL, pureA, pureL_map, pureL_mapL, pureL_mapLL, Bool.and_self, Bool.and_true]) rfl rfl ?_
        simp (config := { maxSteps := 10000000 }) (disch := first | assumption | omega) only [go_sem, ↓reduceIte, Nat.reduceEqDiff, reduceCtorEq, Nat.reduceAdd, Nat.reduceMul, Nat.reduceLeDiff, zfu, Int.mul_def, Int.add_def, zfv, cond_false, cond_true, isub, Int.reduceToNat, s0]
        refine CLL_pure _ (c62t h4 h5 hS hU hR hd) (by simp only [pureL, pureA, pureL_map, pureL_mapL, pureL_mapLL, Bool.and_self, Bool.and_true]) rfl rfl ?_
        simp (config := { maxSteps := 10000000 }) (disch := first | assumption | omega) only [go_sem, ↓reduceIte, Nat.reduceEqDiff, reduceCtorEq, Nat.reduceAdd, Nat.reduceMul, Nat.reduceLeDiff, zfu, Int.mul_def, Int.add_def, zfv, cond_false, cond_true, isub, Int.reduceToNat, s0]
        simp only [zbj, zbk, retR, resL, outT, zes, zez, oneV, ↓zcy, ↓zcz, ↓reduceIte, Nat.reduceEqDiff, Option.some.injEq, AV.sc.injEq, Value.bool.injEq, Value.int.injEq, outL, outT, zft, zcp, zed, zef, zei, zeh, List.length_cons, List.length_nil, Nat.reduceAdd, Nat.zero_add, Nat.reduceLeDiff, List.drop_zero, List.take_succ_cons, List.take_zero, zfi, zfh, Ro.dl, zdb, zda, zfe, and_self, and_true, true_and, eq_self, List.append_nil, List.nil_append, List.cons_append, ne_eq, not_false_eq_true, and_false, false_and, Bool.false_eq_true, St.ev, zes, zfn, zhk, List.length_map]
      · have hf := bool_f ht fun h => hd h.2.2
        subst hf
        dsimp only [Tryz.f8, bodyOf, Option.getD]
        simp (config := { maxSteps := 10000000 }) (disch := first | assumption | omega) only [go_sem, ↓reduceIte, Nat.reduceEqDiff, reduceCtorEq, Nat.reduceAdd, Nat.reduceMul, Nat.reduceLeDiff, zfu, Int.mul_def, Int.add_def, zfv, cond_false, cond_true, isub, Int.reduceToNat, s0]
        refine CLL_pure _ (c118 (t := true) h1 hT hT2 (by simp [hr])) (by simp only [pureL, pureA, pureL_map, pureL_mapL, pureL_mapLL, Bool.and_self, Bool.and_true]) rfl rfl ?_
        simp (config := { maxSteps := 10000000 }) (disch := first | assumption | omega) only [go_sem, ↓reduceIte, Nat.reduceEqDiff, reduceCtorEq, Nat.reduceAdd, Nat.reduceMul, Nat.reduceLeDiff, zfu, Int.mul_def, Int.add_def, zfv, cond_false, cond_true, isub, Int.reduceToNat, s0]
        refine CLL_pure _ (cIsMetric (t := true) hO hV hM (by simp [hm])) (by simp only [pureL, pureA, pureL_map, pureL_mapL, pureL_mapLL, Bool.and_self, Bool.and_true]) rfl rfl ?_
        simp (config := { maxSteps := 10000000 }) (disch := first | assumption | omega) only [go_sem, ↓reduceIte, Nat.reduceEqDiff, reduceCtorEq, Nat.reduceAdd, Nat.reduceMul, Nat.reduceLeDiff, zfu, Int.mul_def, Int.add_def, zfv, cond_false, cond_true, isub, Int.reduceToNat, s0]
        refine CLL_pure _ (c62f h4 h5 hS hU hR hd) (by simp only [pureL, pureA, pureL_map, pureL_mapL, pureL_mapLL, Bool.and_self, Bool.and_true]) rfl rfl ?_
        simp (config := { maxSteps := 10000000 }) (disch := first | assumption | omega) only [go_sem, ↓reduceIte, Nat.reduceEqDiff, reduceCtorEq, Nat.reduceAdd, Nat.reduceMul, Nat.reduceLeDiff, zfu, Int.mul_def, Int.add_def, zfv, cond_false, cond_true, isub, Int.reduceToNat, s0]
        simp only [zbj, zbk, retR, resL, outT, zes, zez, oneV, ↓zcy, ↓zcz, ↓reduceIte, Nat.reduceEqDiff, Option.some.injEq, AV.sc.injEq, Value.bool.injEq, Value.int.injEq, outL, outT, zft, zcp, zed, zef, zei, zeh, List.length_cons, List.length_nil, Nat.reduceAdd, Nat.zero_add, Nat.reduceLeDiff, List.drop_zero, List.take_succ_cons, List.take_zero, zfi, zfh, Ro.dl, zdb, zda, zfe, and_self, and_true, true_and, eq_self, List.append_nil, List.nil_append, List.cons_append, ne_eq, not_false_eq_true, and_false, false_and, Bool.false_eq_true, St.ev, zes, zfn, zhk, List.length_map]
    · have hf := bool_f ht fun h => hm h.2.1
      subst hf
      dsimp only [Tryz.f8, bodyOf, Option.getD]
      simp (config := { maxSteps := 10000000 }) (disch := first | assumption | omega) only [go_sem, ↓reduceIte, Nat.reduceEqDiff, reduceCtorEq, Nat.reduceAdd, Nat.reduceMul, Nat.reduceLeDiff, zfu, Int.mul_def, Int.add_def, zfv, cond_false, cond_true, isub, Int.reduceToNat, s0]
      refine CLL_pure _ (c118 (t := true) h1 hT hT2 (by simp [hr])) (by simp only [pureL, pureA, pureL_map, pureL_mapL, pureL_mapLL, Bool.and_self, Bool.and_true]) rfl rfl ?_
      simp (config := { maxSteps := 10000000 }) (disch := first | assumption | omega) only [go_sem, ↓reduceIte, Nat.reduceEqDiff, reduceCtorEq, Nat.reduceAdd, Nat.reduceMul, Nat.reduceLeDiff, zfu, Int.mul_def, Int.add_def, zfv, cond_false, cond_true, isub, Int.reduceToNat, s0]
      refine CLL_pure _ (cIsMetric (t := false) hO hV hM (by simp [hm])) (by simp only [pureL, pureA, pureL_map, pureL_mapL, pureL_mapLL, Bool.and_self, Bool.and_true]) rfl rfl ?_
      simp (config := { maxSteps := 10000000 }) (disch := first | assumption | omega) only [go_sem, ↓reduceIte, Nat.reduceEqDiff, reduceCtorEq, Nat.reduceAdd, Nat.reduceMul, Nat.reduceLeDiff, zfu, Int.mul_def, Int.add_def, zfv, cond_false, cond_true, isub, Int.reduceToNat, s0]
      simp only [zbj, zbk, retR, resL, outT, zes, zez, oneV, ↓zcy, ↓zcz, ↓reduceIte, Nat.reduceEqDiff, Option.some.injEq, AV.sc.injEq, Value.bool.injEq, Value.int.injEq, outL, outT, zft, zcp, zed, zef, zei, zeh, List.length_cons, List.length_nil, Nat.reduceAdd, Nat.zero_add, Nat.reduceLeDiff, List.drop_zero, List.take_succ_cons, List.take_zero, zfi, zfh, Ro.dl, zdb, zda, zfe, and_self, and_true, true_and, eq_self, List.append_nil, List.nil_append, List.cons_append, ne_eq, not_false_eq_true, and_false, false_and, Bool.false_eq_true, St.ev, zes, zfn, zhk, List.length_map]
  · have hf := bool_f ht fun h => hr h.1
    subst hf
    dsimp only [Tryz.f8, bodyOf, Option.getD]
    simp (config := { maxSteps := 10000000 }) (disch := first | assumption | omega) only [go_sem, ↓reduceIte, Nat.reduceEqDiff, reduceCtorEq, Nat.reduceAdd, Nat.reduceMul, Nat.reduceLeDiff, zfu, Int.mul_def, Int.add_def, zfv, cond_false, cond_true, isub, Int.reduceToNat, s0]
    refine CLL_pure _ (c118 (t := false) h1 hT hT2 (by simp [hr])) (by simp only [pureL, pureA, pureL_map, pureL_mapL, pureL_mapLL, Bool.and_self, Bool.and_true]) rfl rfl ?_
    simp (config := { maxSteps := 10000000 }) (disch := first | assumption | omega) only [go_sem, ↓reduceIte, Nat.reduceEqDiff, reduceCtorEq, Nat.reduceAdd, Nat.reduceMul, Nat.reduceLeDiff, zfu, Int.mul_def, Int.add_def, zfv, cond_false, cond_true, isub, Int.reduceToNat, s0]
    simp only [zbj, zbk, retR, resL, outT, zes, zez, oneV, ↓zcy, ↓zcz, ↓reduceIte, Nat.reduceEqDiff, Option.some.injEq, AV.sc.injEq, Value.bool.injEq, Value.int.injEq, outL, outT, zft, zcp, zed, zef, zei, zeh, List.length_cons, List.length_nil, Nat.reduceAdd, Nat.zero_add, Nat.reduceLeDiff, List.drop_zero, List.take_succ_cons, List.take_zero, zfi, zfh, Ro.dl, zdb, zda, zfe, and_self, and_true, true_and, eq_self, List.append_nil, List.nil_append, List.cons_append, ne_eq, not_false_eq_true, and_false, false_and, Bool.false_eq_true, St.ev, zes, zfn, zhk, List.length_map]
/-! ### Equality -/
theorem cEqR (hT : T.length ≤ maxN) (hT2 : ∀ i, i < T.length → (mat T i).length ≤ maxN ∧ ∀ j, j < (mat T i).length → (row (mat T i) j).length ≤ maxN) : CallOK Tryz.prog 37 [.agg [immLLL T], .agg [immLLL T]] (bo true) := by
  have h1 := isLLL_imm T
  refine call_of (fn := Tryz.f37) (code := bodyOf Tryz.f37) Tryz.func37 rfl (by kernel_rfl) (rfl) ?_
  intro sl hs
  have s0 : sl 0 = .agg [immLLL T] := hs 0
  have s1 : sl 1 = .agg [immLLL T] := hs 1
  dsimp only [Tryz.f37, bodyOf, Option.getD]
  simp (config := { maxSteps := 10000000 }) (disch := first | assumption | omega) only [go_sem, ↓reduceIte, Nat.reduceEqDiff, reduceCtorEq, Nat.reduceAdd, Nat.reduceMul, Nat.reduceLeDiff, zfu, Int.mul_def, Int.add_def, zfv, cond_false, cond_true, isub, Int.reduceToNat, s0, s1]
  refine CLL_pure _ (cEqT h1 h1 hT hT2) (by simp only [pureL, pureA, pureL_map, pureL_mapL, pureL_mapLL, Bool.and_self, Bool.and_true]) rfl rfl ?_
  simp (config := { maxSteps := 10000000 }) (disch := first | assumption | omega) only [go_sem, ↓reduceIte, Nat.reduceEqDiff, reduceCtorEq, Nat.reduceAdd, Nat.reduceMul, Nat.reduceLeDiff, zfu, Int.mul_def, Int.add_def, zfv, cond_false, cond_true, isub, Int.reduceToNat, s0, s1]
  simp only [zbj, zbk, retR, resL, outT, zes, zez, oneV, ↓zcy, ↓zcz, ↓reduceIte, Nat.reduceEqDiff, Option.some.injEq, AV.sc.injEq, Value.bool.injEq, Value.int.injEq, outL, outT, zft, zcp, zed, zef, zei, zeh, List.length_cons, List.length_nil, Nat.reduceAdd, Nat.zero_add, Nat.reduceLeDiff, List.drop_zero, List.take_succ_cons, List.take_zero, zfi, zfh, Ro.dl, zdb, zda, zfe, and_self, and_true, true_and, eq_self, List.append_nil, List.nil_append, List.cons_append, ne_eq, not_false_eq_true, and_false, false_and, Bool.false_eq_true, St.ev, zes, zfn, zhk, List.length_map]
theorem cEqM (hO : O.length ≤ maxN) (hV : V.length ≤ maxN) : CallOK Tryz.prog 38 [mt O M V, mt O M V] (bo true) := by
  have h2 := isL_imm O
  have h3 := isL_imm V
  refine call_of (fn := Tryz.f38) (code := bodyOf Tryz.f38) Tryz.func38 rfl (by kernel_rfl) (rfl) ?_
  intro sl hs
  have s0 : sl 0 = mt O M V := hs 0
  have s1 : sl 1 = mt O M V := hs 1
  dsimp only [Tryz.f38, bodyOf, Option.getD]
  simp (config := { maxSteps := 10000000 }) (disch := first | assumption | omega) only [go_sem, ↓reduceIte, Nat.reduceEqDiff, reduceCtorEq, Nat.reduceAdd, Nat.reduceMul, Nat.reduceLeDiff, zfu, Int.mul_def, Int.add_def, zfv, cond_false, cond_true, isub, Int.reduceToNat, s0, s1]
  refine CLL_pure _ (c31t h2 h2 hO) (by simp only [pureL, pureA, pureL_map, pureL_mapL, pureL_mapLL, Bool.and_self, Bool.and_true]) rfl rfl ?_
  simp (config := { maxSteps := 10000000 }) (disch := first | assumption | omega) only [go_sem, ↓reduceIte, Nat.reduceEqDiff, reduceCtorEq, Nat.reduceAdd, Nat.reduceMul, Nat.reduceLeDiff, zfu, Int.mul_def, Int.add_def, zfv, cond_false, cond_true, isub, Int.reduceToNat, s0, s1]
  refine CLL_pure _ (c31t h3 h3 hV) (by simp only [pureL, pureA, pureL_map, pureL_mapL, pureL_mapLL, Bool.and_self, Bool.and_true]) rfl rfl ?_
  simp (config := { maxSteps := 10000000 }) (disch := first | assumption | omega) only [go_sem, ↓reduceIte, Nat.reduceEqDiff, reduceCtorEq, Nat.reduceAdd, Nat.reduceMul, Nat.reduceLeDiff, zfu, Int.mul_def, Int.add_def, zfv, cond_false, cond_true, isub, Int.reduceToNat, s0, s1]
  simp only [zbj, zbk, retR, resL, outT, zes, zez, oneV, ↓zcy, ↓zcz, ↓reduceIte, Nat.reduceEqDiff, Option.some.injEq, AV.sc.injEq, Value.bool.injEq, Value.int.injEq, outL, outT, zft, zcp, zed, zef, zei, zeh, List.length_cons, List.length_nil, Nat.reduceAdd, Nat.zero_add, Nat.reduceLeDiff, List.drop_zero, List.take_succ_cons, List.take_zero, zfi, zfh, Ro.dl, zdb, zda, zfe, and_self, and_true, true_and, eq_self, List.append_nil, List.nil_append, List.cons_append, ne_eq, not_false_eq_true, and_false, false_and, Bool.false_eq_true, St.ev, zes, zfn, zhk, List.length_map]
theorem cEqK (hT : T.length ≤ maxN) (hT2 : ∀ i, i < T.length → (mat T i).length ≤ maxN ∧ ∀ j, j < (mat T i).length → (row (mat T i) j).length ≤ maxN) (hO : O.length ≤ maxN) (hV : V.length ≤ maxN) (hS : S.length ≤ maxN) (hU : U.length ≤ maxN) (hR : ∀ i, i < S.length → (row S i).length ≤ maxN) : CallOK Tryz.prog 9 [dk T O M V S U, dk T O M V S U] (bo true) := by
  have h1 := isLLL_imm T
  have h2 := isL_imm O
  have h3 := isL_imm V
  have h4 := isLL_imm S
  have h5 := isL_imm U
  have cE := c12 h4 h4 h5 h5 hS (row_max hR) hU
  rw [decide_eq_true ⟨rfl, rfl⟩] at cE
  refine call_of (fn := Tryz.f9) (code := bodyOf Tryz.f9) Tryz.func9 rfl (by kernel_rfl) (rfl) ?_
  intro sl hs
  have s0 : sl 0 = dk T O M V S U := hs 0
  have s1 : sl 1 = dk T O M V S U := hs 1
  dsimp only [Tryz.f9, bodyOf, Option.getD]
  simp (config := { maxSteps := 10000000 }) (disch := first | assumption | omega) only [go_sem, ↓reduceIte, Nat.reduceEqDiff, reduceCtorEq, Nat.reduceAdd, Nat.reduceMul, Nat.reduceLeDiff, zfu, Int.mul_def, Int.add_def, zfv, cond_false, cond_true, isub, Int.reduceToNat, s0, s1]
  refine CLL_pure _ (cEqR hT hT2) (by simp only [pureL, pureA, pureL_map, pureL_mapL, pureL_mapLL, Bool.and_self, Bool.and_true]) rfl rfl ?_
  simp (config := { maxSteps := 10000000 }) (disch := first | assumption | omega) only [go_sem, ↓reduceIte, Nat.reduceEqDiff, reduceCtorEq, Nat.reduceAdd, Nat.reduceMul, Nat.reduceLeDiff, zfu, Int.mul_def, Int.add_def, zfv, cond_false, cond_true, isub, Int.reduceToNat, s0, s1]
  refine CLL_pure _ (cEqM hO hV) (by simp only [pureL, pureA, pureL_map, pureL_mapL, pureL_mapLL, Bool.and_self, Bool.and_true]) rfl rfl ?_
  simp (config := { maxSteps := 10000000 }) (disch := first | assumption | omega) only [go_sem, ↓reduceIte, Nat.reduceEqDiff, reduceCtorEq, Nat.reduceAdd, Nat.reduceMul, Nat.reduceLeDiff, zfu, Int.mul_def, Int.add_def, zfv, cond_false, cond_true, isub, Int.reduceToNat, s0, s1]
  refine CLL_pure _ cE (by simp only [pureL, pureA, pureL_map, pureL_mapL, pureL_mapLL, Bool.and_self, Bool.and_true]) rfl rfl ?_
  simp (config := { maxSteps := 10000000 }) (disch := first | assumption | omega) only [go_sem, ↓reduceIte, Nat.reduceEqDiff, reduceCtorEq, Nat.reduceAdd, Nat.reduceMul, Nat.reduceLeDiff, zfu, Int.mul_def, Int.add_def, zfv, cond_false, cond_true, isub, Int.reduceToNat, s0, s1]
  simp only [zbj, zbk, retR, resL, outT, zes, zez, oneV, ↓zcy, ↓zcz, ↓reduceIte, Nat.reduceEqDiff, Option.some.injEq, AV.sc.injEq, Value.bool.injEq, Value.int.injEq, outL, outT, zft, zcp, zed, zef, zei, zeh, List.length_cons, List.length_nil, Nat.reduceAdd, Nat.zero_add, Nat.reduceLeDiff, List.drop_zero, List.take_succ_cons, List.take_zero, zfi, zfh, Ro.dl, zdb, zda, zfe, and_self, and_true, true_and, eq_self, List.append_nil, List.nil_append, List.cons_append, ne_eq, not_false_eq_true, and_false, false_and, Bool.false_eq_true, St.ev, zes, zfn, zhk, List.length_map]
end

/-! ### What is handed in -/
section
variable {T : List (List (List Int))} {O V U : List Int} {M : Int} {S : List (List Int)} {a o v s u : AV}
def szM (o v : Nat) (left : Int) : Int := if left - o < 0 then -1 else szV (left - o - v)
theorem cSzR {left : Int} (ha : isLLLw a T) (hx : T.length < 2^63) (hr : ∀ i, (mat T i).length < 2^63) (hr2 : ∀ i j, (row (mat T i) j).length < 2^63) (h1 : 0 ≤ left) (h2 : left ≤ 1048576) : CallOK Tryz.prog 26 [.agg [a], i64 left] (i64 (szV (szT T (left - T.length) T.length))) := by
  refine call_of (fn := Tryz.f26) (code := bodyOf Tryz.f26) Tryz.func26 rfl (by kernel_rfl) (rfl) ?_
  intro sl hs
  have s0 : sl 0 = .agg [a] := hs 0
  have s1 : sl 1 = i64 left := hs 1
  dsimp only [Tryz.f26, bodyOf, Option.getD]
  simp (config := { maxSteps := 10000000 }) (disch := first | assumption | omega) only [go_sem, ↓reduceIte, Nat.reduceEqDiff, reduceCtorEq, Nat.reduceAdd, Nat.reduceMul, Nat.reduceLeDiff, zfu, Int.mul_def, Int.add_def, zfv, cond_false, cond_true, isub, Int.reduceToNat, s0, s1]
  refine CLL_pure _ (cSzT ha hx hr hr2 h1 h2) (by simp (disch := assumption) only [pureL, pureA, isLw_pure, isLLw_pure, isLLLw_pure, pureL_map, Bool.and_self, Bool.and_true]) rfl rfl ?_
  by_cases h : szT T (left - T.length) T.length < 0
  · have e : szV (szT T (left - T.length) T.length) = -1 := if_pos h
    rw [e]
    simp (config := { maxSteps := 10000000 }) (disch := first | assumption | omega) only [go_sem, ↓reduceIte, Nat.reduceEqDiff, reduceCtorEq, Nat.reduceAdd, Nat.reduceMul, Nat.reduceLeDiff, zfu, Int.mul_def, Int.add_def, zfv, cond_false, cond_true, isub, Int.reduceToNat, s0, s1]
    simp only [zbj, zbk, retR, resL, outT, zes, zez, oneV, ↓zcy, ↓zcz, ↓reduceIte, Nat.reduceEqDiff, Option.some.injEq, AV.sc.injEq, Value.bool.injEq, Value.int.injEq, outL, outT, zft, zcp, zed, zef, zei, zeh, List.length_cons, List.length_nil, Nat.reduceAdd, Nat.zero_add, Nat.reduceLeDiff, List.drop_zero, List.take_succ_cons, List.take_zero, zfi, zfh, Ro.dl, zdb, zda, zfe, and_self, and_true, true_and, eq_self, List.append_nil, List.nil_append, List.cons_append, ne_eq, not_false_eq_true, and_false, false_and, Bool.false_eq_true, St.ev, zes, zfn, zhk, List.length_map]
  · have e : szV (szT T (left - T.length) T.length) = szT T (left - T.length) T.length := if_neg h
    rw [e]
    simp (config := { maxSteps := 10000000 }) (disch := first | assumption | omega) only [go_sem, ↓reduceIte, Nat.reduceEqDiff, reduceCtorEq, Nat.reduceAdd, Nat.reduceMul, Nat.reduceLeDiff, zfu, Int.mul_def, Int.add_def, zfv, cond_false, cond_true, isub, Int.reduceToNat, s0, s1, h]
    simp only [zbj, zbk, retR, resL, outT, zes, zez, oneV, ↓zcy, ↓zcz, ↓reduceIte, Nat.reduceEqDiff, Option.some.injEq, AV.sc.injEq, Value.bool.injEq, Value.int.injEq, outL, outT, zft, zcp, zed, zef, zei, zeh, List.length_cons, List.length_nil, Nat.reduceAdd, Nat.zero_add, Nat.reduceLeDiff, List.drop_zero, List.take_succ_cons, List.take_zero, zfi, zfh, Ro.dl, zdb, zda, zfe, and_self, and_true, true_and, eq_self, List.append_nil, List.nil_append, List.cons_append, ne_eq, not_false_eq_true, and_false, false_and, Bool.false_eq_true, St.ev, zes, zfn, zhk, List.length_map]
theorem cSzM {left : Int} (ho : isLw o O) (hv : isLw v V) (hx : O.length < 2^63) (hx2 : V.length < 2^63) (h1 : 0 ≤ left) (h2 : left ≤ 1048576) : CallOK Tryz.prog 27 [.agg [o, i64 M, v], i64 left] (i64 (szM O.length V.length left)) := by
  refine call_of (fn := Tryz.f27) (code := bodyOf Tryz.f27) Tryz.func27 rfl (by kernel_rfl) (rfl) ?_
  intro sl hs
  have s0 : sl 0 = .agg [o, i64 M, v] := hs 0
  have s1 : sl 1 = i64 left := hs 1
  dsimp only [Tryz.f27, bodyOf, Option.getD]
  simp (config := { maxSteps := 10000000 }) (disch := first | assumption | omega) only [go_sem, ↓reduceIte, Nat.reduceEqDiff, reduceCtorEq, Nat.reduceAdd, Nat.reduceMul, Nat.reduceLeDiff, zfu, Int.mul_def, Int.add_def, zfv, cond_false, cond_true, isub, Int.reduceToNat, s0, s1]
  refine CLL_pure _ (c56 ho hx h1 (by omega)) (by simp (disch := assumption) only [pureL, pureA, isLw_pure, isLLw_pure, isLLLw_pure, pureL_map, Bool.and_self, Bool.and_true]) rfl rfl ?_
  by_cases h : left - (O.length : Int) < 0
  · have e : szV (left - (O.length : Int)) = -1 := if_pos h
    rw [e]
    simp (config := { maxSteps := 10000000 }) (disch := first | assumption | omega) only [go_sem, ↓reduceIte, Nat.reduceEqDiff, reduceCtorEq, Nat.reduceAdd, Nat.reduceMul, Nat.reduceLeDiff, zfu, Int.mul_def, Int.add_def, zfv, cond_false, cond_true, isub, Int.reduceToNat, s0, s1]
    simp only [zbj, zbk, retR, resL, outT, zes, zez, oneV, ↓zcy, ↓zcz, ↓reduceIte, Nat.reduceEqDiff, Option.some.injEq, AV.sc.injEq, Value.bool.injEq, Value.int.injEq, outL, outT, zft, zcp, zed, zef, zei, zeh, List.length_cons, List.length_nil, Nat.reduceAdd, Nat.zero_add, Nat.reduceLeDiff, List.drop_zero, List.take_succ_cons, List.take_zero, zfi, zfh, Ro.dl, zdb, zda, zfe, and_self, and_true, true_and, eq_self, List.append_nil, List.nil_append, List.cons_append, ne_eq, not_false_eq_true, and_false, false_and, Bool.false_eq_true, St.ev, zes, zfn, zhk, List.length_map]
    unfold szM; rw [if_pos h]
  · have e : szV (left - (O.length : Int)) = left - O.length := if_neg h
    rw [e]
    simp (config := { maxSteps := 10000000 }) (disch := first | assumption | omega) only [go_sem, ↓reduceIte, Nat.reduceEqDiff, reduceCtorEq, Nat.reduceAdd, Nat.reduceMul, Nat.reduceLeDiff, zfu, Int.mul_def, Int.add_def, zfv, cond_false, cond_true, isub, Int.reduceToNat, s0, s1, h]
    refine CLL_pure _ (c56 hv hx2 (by omega) (by omega)) (by simp (disch := assumption) only [pureL, pureA, isLw_pure, isLLw_pure, isLLLw_pure, pureL_map, Bool.and_self, Bool.and_true]) rfl rfl ?_
    by_cases h3 : szV (left - O.length - V.length) < 0
    · skip
      simp (config := { maxSteps := 10000000 }) (disch := first | assumption | omega) only [go_sem, ↓reduceIte, Nat.reduceEqDiff, reduceCtorEq, Nat.reduceAdd, Nat.reduceMul, Nat.reduceLeDiff, zfu, Int.mul_def, Int.add_def, zfv, cond_false, cond_true, isub, Int.reduceToNat, s0, s1, h3]
      simp only [zbj, zbk, retR, resL, outT, zes, zez, oneV, ↓zcy, ↓zcz, ↓reduceIte, Nat.reduceEqDiff, Option.some.injEq, AV.sc.injEq, Value.bool.injEq, Value.int.injEq, outL, outT, zft, zcp, zed, zef, zei, zeh, List.length_cons, List.length_nil, Nat.reduceAdd, Nat.zero_add, Nat.reduceLeDiff, List.drop_zero, List.take_succ_cons, List.take_zero, zfi, zfh, Ro.dl, zdb, zda, zfe, and_self, and_true, true_and, eq_self, List.append_nil, List.nil_append, List.cons_append, ne_eq, not_false_eq_true, and_false, false_and, Bool.false_eq_true, St.ev, zes, zfn, zhk, List.length_map]
      unfold szM; rw [if_neg h]
      unfold szV at h3 ⊢
      split
      · rfl
      · rename_i h4; rw [if_neg h4] at h3; omega
    · skip
      simp (config := { maxSteps := 10000000 }) (disch := first | assumption | omega) only [go_sem, ↓reduceIte, Nat.reduceEqDiff, reduceCtorEq, Nat.reduceAdd, Nat.reduceMul, Nat.reduceLeDiff, zfu, Int.mul_def, Int.add_def, zfv, cond_false, cond_true, isub, Int.reduceToNat, s0, s1, h3]
      simp only [zbj, zbk, retR, resL, outT, zes, zez, oneV, ↓zcy, ↓zcz, ↓reduceIte, Nat.reduceEqDiff, Option.some.injEq, AV.sc.injEq, Value.bool.injEq, Value.int.injEq, outL, outT, zft, zcp, zed, zef, zei, zeh, List.length_cons, List.length_nil, Nat.reduceAdd, Nat.zero_add, Nat.reduceLeDiff, List.drop_zero, List.take_succ_cons, List.take_zero, zfi, zfh, Ro.dl, zdb, zda, zfe, and_self, and_true, true_and, eq_self, List.append_nil, List.nil_append, List.cons_append, ne_eq, not_false_eq_true, and_false, false_and, Bool.false_eq_true, St.ev, zes, zfn, zhk, List.length_map]
      unfold szM; rw [if_neg h]
def szK (T : List (List (List Int))) (O V : List Int) (S : List (List Int)) (U : List Int) (left : Int) : Int :=
  if szT T (left - T.length) T.length < 0 then -1 else if szM O.length V.length (szT T (left - T.length) T.length) < 0 then -1 else if szD S U (szM O.length V.length (szT T (left - T.length) T.length)) < 0 then -1 else szD S U (szM O.length V.length (szT T (left - T.length) T.length))
theorem szM_le {o v : Nat} {l : Int} (h : 0 ≤ l) : szM o v l ≤ l := by
  unfold szM szV
  split
  · omega
  · split <;> omega
theorem szM_ok {o v : Nat} {l : Int} (h : ¬ szM o v l < 0) : (o : Int) ≤ l ∧ (v : Int) ≤ l := by
  unfold szM szV at h
  split at h
  · omega
  · split at h <;> omega
theorem cSzK (ha : isLLLw a T) (hx : T.length < 2^63) (hr : ∀ i, (mat T i).length < 2^63) (hr2 : ∀ i j, (row (mat T i) j).length < 2^63) (ho : isLw o O) (hv : isLw v V) (hz1 : isLLw s S) (hz2 : isLw u U) (l1 : O.length < 2^63) (l2 : V.length < 2^63) (l3 : S.length < 2^63) (l4 : ∀ i, (row S i).length < 2^63) (l5 : U.length < 2^63) : CallOK Tryz.prog 5 [.agg [a, o, i64 M, v, s, u], i64 1048576] (i64 (szK T O V S U 1048576)) := by
  have hle := szT_le T ((1048576 : Int) - T.length) (Nat.zero_le T.length)
  simp only [szT] at hle
  refine call_of (fn := Tryz.f5) (code := bodyOf Tryz.f5) Tryz.func5 rfl (by kernel_rfl) (rfl) ?_
  intro sl hs
  have s0 : sl 0 = .agg [a, o, i64 M, v, s, u] := hs 0
  have s1 : sl 1 = i64 1048576 := hs 1
  dsimp only [Tryz.f5, bodyOf, Option.getD]
  simp (config := { maxSteps := 10000000 }) (disch := first | assumption | omega) only [go_sem, ↓reduceIte, Nat.reduceEqDiff, reduceCtorEq, Nat.reduceAdd, Nat.reduceMul, Nat.reduceLeDiff, zfu, Int.mul_def, Int.add_def, zfv, cond_false, cond_true, isub, Int.reduceToNat, s0, s1]
  refine CLL_pure _ (cSzR ha hx hr hr2 (left := 1048576) (by decide) (by decide)) (by simp (disch := assumption) only [pureL, pureA, isLw_pure, isLLw_pure, isLLLw_pure, pureL_map, Bool.and_self, Bool.and_true]) rfl rfl ?_
  by_cases h : szT T ((1048576 : Int) - T.length) T.length < 0
  · have e : szV (szT T ((1048576 : Int) - T.length) T.length) = -1 := if_pos h
    rw [e]
    simp (config := { maxSteps := 10000000 }) (disch := first | assumption | omega) only [go_sem, ↓reduceIte, Nat.reduceEqDiff, reduceCtorEq, Nat.reduceAdd, Nat.reduceMul, Nat.reduceLeDiff, zfu, Int.mul_def, Int.add_def, zfv, cond_false, cond_true, isub, Int.reduceToNat, s0, s1]
    simp only [zbj, zbk, retR, resL, outT, zes, zez, oneV, ↓zcy, ↓zcz, ↓reduceIte, Nat.reduceEqDiff, Option.some.injEq, AV.sc.injEq, Value.bool.injEq, Value.int.injEq, outL, outT, zft, zcp, zed, zef, zei, zeh, List.length_cons, List.length_nil, Nat.reduceAdd, Nat.zero_add, Nat.reduceLeDiff, List.drop_zero, List.take_succ_cons, List.take_zero, zfi, zfh, Ro.dl, zdb, zda, zfe, and_self, and_true, true_and, eq_self, List.append_nil, List.nil_append, List.cons_append, ne_eq, not_false_eq_true, and_false, false_and, Bool.false_eq_true, St.ev, zes, zfn, zhk, List.length_map]
    unfold szK; rw [if_pos h]
  · have e : szV (szT T ((1048576 : Int) - T.length) T.length) = szT T ((1048576 : Int) - T.length) T.length := if_neg h
    rw [e]
    simp (config := { maxSteps := 10000000 }) (disch := first | assumption | omega) only [go_sem, ↓reduceIte, Nat.reduceEqDiff, reduceCtorEq, Nat.reduceAdd, Nat.reduceMul, Nat.reduceLeDiff, zfu, Int.mul_def, Int.add_def, zfv, cond_false, cond_true, isub, Int.reduceToNat, s0, s1, h]
    refine CLL_pure _ (cSzM (M := M) ho hv l1 l2 (by omega) (by omega)) (by simp (disch := assumption) only [pureL, pureA, isLw_pure, isLLw_pure, isLLLw_pure, pureL_map, Bool.and_self, Bool.and_true]) rfl rfl ?_
    have hle2 := szM_le (o := O.length) (v := V.length) (l := szT T ((1048576 : Int) - T.length) T.length) (by omega)
    by_cases h2 : szM O.length V.length (szT T ((1048576 : Int) - T.length) T.length) < 0
    · skip
      simp (config := { maxSteps := 10000000 }) (disch := first | assumption | omega) only [go_sem, ↓reduceIte, Nat.reduceEqDiff, reduceCtorEq, Nat.reduceAdd, Nat.reduceMul, Nat.reduceLeDiff, zfu, Int.mul_def, Int.add_def, zfv, cond_false, cond_true, isub, Int.reduceToNat, s0, s1, h2]
      simp only [zbj, zbk, retR, resL, outT, zes, zez, oneV, ↓zcy, ↓zcz, ↓reduceIte, Nat.reduceEqDiff, Option.some.injEq, AV.sc.injEq, Value.bool.injEq, Value.int.injEq, outL, outT, zft, zcp, zed, zef, zei, zeh, List.length_cons, List.length_nil, Nat.reduceAdd, Nat.zero_add, Nat.reduceLeDiff, List.drop_zero, List.take_succ_cons, List.take_zero, zfi, zfh, Ro.dl, zdb, zda, zfe, and_self, and_true, true_and, eq_self, List.append_nil, List.nil_append, List.cons_append, ne_eq, not_false_eq_true, and_false, false_and, Bool.false_eq_true, St.ev, zes, zfn, zhk, List.length_map]
      unfold szK; rw [if_neg h, if_pos h2]
    · skip
      simp (config := { maxSteps := 10000000 }) (disch := first | assumption | omega) only [go_sem, ↓reduceIte, Nat.reduceEqDiff, reduceCtorEq, Nat.reduceAdd, Nat.reduceMul, Nat.reduceLeDiff, zfu, Int.mul_def, Int.add_def, zfv, cond_false, cond_true, isub, Int.reduceToNat, s0, s1, h2]
      refine CLL_pure _ (c25 hz1 hz2 l3 (fun i _ => l4 i) l5 (by omega) (by omega)) (by simp (disch := assumption) only [pureL, pureA, isLw_pure, isLLw_pure, isLLLw_pure, pureL_map, Bool.and_self, Bool.and_true]) rfl rfl ?_
      by_cases h3 : szD S U (szM O.length V.length (szT T ((1048576 : Int) - T.length) T.length)) < 0
      · skip
        simp (config := { maxSteps := 10000000 }) (disch := first | assumption | omega) only [go_sem, ↓reduceIte, Nat.reduceEqDiff, reduceCtorEq, Nat.reduceAdd, Nat.reduceMul, Nat.reduceLeDiff, zfu, Int.mul_def, Int.add_def, zfv, cond_false, cond_true, isub, Int.reduceToNat, s0, s1, h3]
        simp only [zbj, zbk, retR, resL, outT, zes, zez, oneV, ↓zcy, ↓zcz, ↓reduceIte, Nat.reduceEqDiff, Option.some.injEq, AV.sc.injEq, Value.bool.injEq, Value.int.injEq, outL, outT, zft, zcp, zed, zef, zei, zeh, List.length_cons, List.length_nil, Nat.reduceAdd, Nat.zero_add, Nat.reduceLeDiff, List.drop_zero, List.take_succ_cons, List.take_zero, zfi, zfh, Ro.dl, zdb, zda, zfe, and_self, and_true, true_and, eq_self, List.append_nil, List.nil_append, List.cons_append, ne_eq, not_false_eq_true, and_false, false_and, Bool.false_eq_true, St.ev, zes, zfn, zhk, List.length_map]
        unfold szK; rw [if_neg h, if_neg h2, if_pos h3]
      · skip
        simp (config := { maxSteps := 10000000 }) (disch := first | assumption | omega) only [go_sem, ↓reduceIte, Nat.reduceEqDiff, reduceCtorEq, Nat.reduceAdd, Nat.reduceMul, Nat.reduceLeDiff, zfu, Int.mul_def, Int.add_def, zfv, cond_false, cond_true, isub, Int.reduceToNat, s0, s1, h3]
        simp only [zbj, zbk, retR, resL, outT, zes, zez, oneV, ↓zcy, ↓zcz, ↓reduceIte, Nat.reduceEqDiff, Option.some.injEq, AV.sc.injEq, Value.bool.injEq, Value.int.injEq, outL, outT, zft, zcp, zed, zef, zei, zeh, List.length_cons, List.length_nil, Nat.reduceAdd, Nat.zero_add, Nat.reduceLeDiff, List.drop_zero, List.take_succ_cons, List.take_zero, zfi, zfh, Ro.dl, zdb, zda, zfe, and_self, and_true, true_and, eq_self, List.append_nil, List.nil_append, List.cons_append, ne_eq, not_false_eq_true, and_false, false_and, Bool.false_eq_true, St.ev, zes, zfn, zhk, List.length_map]
        unfold szK; rw [if_neg h, if_neg h2, if_neg h3]
theorem noRef_mt (O : List Int) (M : Int) (V : List Int) : noRef (.agg [rowL O, i64 M, rowL V]) = true := by
  have h1 := noRef_rowL O
  have h2 := noRef_rowL V
  simp only [noRef, noRefL, Bool.and_true] at h1 h2 ⊢
  rw [h1, h2]; rfl
theorem cToM (ho : isLw o O) (hv : isLw v V) (hO : O.length ≤ maxN) (hV : V.length ≤ maxN) : CallOK Tryz.prog 33 [.agg [o, i64 M, v]] (.agg [rowL O, i64 M, rowL V]) := by
  refine call_of (fn := Tryz.f33) (code := bodyOf Tryz.f33) Tryz.func33 rfl (by kernel_rfl) (noRef_mt _ _ _) ?_
  intro sl hs
  have s0 : sl 0 = .agg [o, i64 M, v] := hs 0
  dsimp only [Tryz.f33, bodyOf, Option.getD]
  simp (config := { maxSteps := 10000000 }) (disch := first | assumption | omega) only [go_sem, ↓reduceIte, Nat.reduceEqDiff, reduceCtorEq, Nat.reduceAdd, Nat.reduceMul, Nat.reduceLeDiff, zfu, Int.mul_def, Int.add_def, zfv, cond_false, cond_true, isub, Int.reduceToNat, s0]
  refine CLL_pure _ (c61 ho hO) (by simp (disch := assumption) only [pureL, pureA, isLw_pure, isLLw_pure, isLLLw_pure, pureL_map, Bool.and_self, Bool.and_true]) rfl rfl ?_
  simp (config := { maxSteps := 10000000 }) (disch := first | assumption | omega) only [go_sem, ↓reduceIte, Nat.reduceEqDiff, reduceCtorEq, Nat.reduceAdd, Nat.reduceMul, Nat.reduceLeDiff, zfu, Int.mul_def, Int.add_def, zfv, cond_false, cond_true, isub, Int.reduceToNat, s0]
  refine CLL_pure _ (c61 hv hV) (by simp (disch := assumption) only [pureL, pureA, isLw_pure, isLLw_pure, isLLLw_pure, pureL_map, Bool.and_self, Bool.and_true]) rfl rfl ?_
  simp (config := { maxSteps := 10000000 }) (disch := first | assumption | omega) only [go_sem, ↓reduceIte, Nat.reduceEqDiff, reduceCtorEq, Nat.reduceAdd, Nat.reduceMul, Nat.reduceLeDiff, zfu, Int.mul_def, Int.add_def, zfv, cond_false, cond_true, isub, Int.reduceToNat, s0]
  simp only [zbj, zbk, retR, resL, outT, zes, zez, oneV, ↓zcy, ↓zcz, ↓reduceIte, Nat.reduceEqDiff, Option.some.injEq, AV.sc.injEq, Value.bool.injEq, Value.int.injEq, outL, outT, zft, zcp, zed, zef, zei, zeh, List.length_cons, List.length_nil, Nat.reduceAdd, Nat.zero_add, Nat.reduceLeDiff, List.drop_zero, List.take_succ_cons, List.take_zero, zfi, zfh, Ro.dl, zdb, zda, zfe, and_self, and_true, true_and, eq_self, List.append_nil, List.nil_append, List.cons_append, ne_eq, not_false_eq_true, and_false, false_and, Bool.false_eq_true, St.ev, zes, zfn, zhk, List.length_map, outL, zfi, zfh, zev, zex, List.all_cons, List.all_nil, zep, Option.isSome_some, tiMet, List.length_cons, List.length_nil]
theorem cToR (ha : isLLLw a T) (hT : T.length ≤ maxN) (hT2 : ∀ i, i < T.length → (mat T i).length ≤ maxN ∧ ∀ j, j < (mat T i).length → (row (mat T i) j).length ≤ maxN) : CallOK Tryz.prog 32 [.agg [a]] (.agg [rowLLL T]) := by
  refine call_of (fn := Tryz.f32) (code := bodyOf Tryz.f32) Tryz.func32 rfl (by kernel_rfl) (by have h := noRef_rowLLL T; simp only [noRef, noRefL, Bool.and_true] at h ⊢; exact h) ?_
  intro sl hs
  have s0 : sl 0 = .agg [a] := hs 0
  dsimp only [Tryz.f32, bodyOf, Option.getD]
  simp (config := { maxSteps := 10000000 }) (disch := first | assumption | omega) only [go_sem, ↓reduceIte, Nat.reduceEqDiff, reduceCtorEq, Nat.reduceAdd, Nat.reduceMul, Nat.reduceLeDiff, zfu, Int.mul_def, Int.add_def, zfv, cond_false, cond_true, isub, Int.reduceToNat, s0]
  refine CLL_pure _ (cToT ha hT hT2) (by simp (disch := assumption) only [pureL, pureA, isLw_pure, isLLw_pure, isLLLw_pure, pureL_map, Bool.and_self, Bool.and_true]) rfl rfl ?_
  simp (config := { maxSteps := 10000000 }) (disch := first | assumption | omega) only [go_sem, ↓reduceIte, Nat.reduceEqDiff, reduceCtorEq, Nat.reduceAdd, Nat.reduceMul, Nat.reduceLeDiff, zfu, Int.mul_def, Int.add_def, zfv, cond_false, cond_true, isub, Int.reduceToNat, s0]
  simp only [zbj, zbk, retR, resL, outT, zes, zez, oneV, ↓zcy, ↓zcz, ↓reduceIte, Nat.reduceEqDiff, Option.some.injEq, AV.sc.injEq, Value.bool.injEq, Value.int.injEq, outL, outT, zft, zcp, zed, zef, zei, zeh, List.length_cons, List.length_nil, Nat.reduceAdd, Nat.zero_add, Nat.reduceLeDiff, List.drop_zero, List.take_succ_cons, List.take_zero, zfi, zfh, Ro.dl, zdb, zda, zfe, and_self, and_true, true_and, eq_self, List.append_nil, List.nil_append, List.cons_append, ne_eq, not_false_eq_true, and_false, false_and, Bool.false_eq_true, St.ev, zes, zfn, zhk, List.length_map, outL, zfi, zfh, zev, zex, List.all_cons, List.all_nil, zep, Option.isSome_some, ti33, List.length_cons, List.length_nil]
theorem noRef_dk (T : List (List (List Int))) (O : List Int) (M : Int) (V : List Int) (S : List (List Int)) (U : List Int) : noRef (.agg [rowLLL T, rowL O, i64 M, rowL V, rowLL S, rowL U]) = true := by
  have h0 := noRef_rowLLL T
  have h1 := noRef_rowL O
  have h2 := noRef_rowL V
  have h3 := noRef_rowLL S
  have h4 := noRef_rowL U
  simp only [noRef, noRefL, Bool.and_true] at h0 h1 h2 h3 h4 ⊢
  rw [h0, h1, h2, h3, h4]; rfl
theorem cToK (ha : isLLLw a T) (ho : isLw o O) (hv : isLw v V) (hz1 : isLLw s S) (hz2 : isLw u U) (hT : T.length ≤ maxN) (hT2 : ∀ i, i < T.length → (mat T i).length ≤ maxN ∧ ∀ j, j < (mat T i).length → (row (mat T i) j).length ≤ maxN) (hO : O.length ≤ maxN) (hV : V.length ≤ maxN) (hS : S.length ≤ maxN) (hU : U.length ≤ maxN) (hR : ∀ i, i < S.length → (row S i).length ≤ maxN) :
    CallOK Tryz.prog 7 [.agg [a, o, i64 M, v, s, u]] (.agg [rowLLL T, rowL O, i64 M, rowL V, rowLL S, rowL U]) := by
  refine call_of (fn := Tryz.f7) (code := bodyOf Tryz.f7) Tryz.func7 rfl (by kernel_rfl) (noRef_dk _ _ _ _ _ _) ?_
  intro sl hs
  have s0 : sl 0 = .agg [a, o, i64 M, v, s, u] := hs 0
  dsimp only [Tryz.f7, bodyOf, Option.getD]
  simp (config := { maxSteps := 10000000 }) (disch := first | assumption | omega) only [go_sem, ↓reduceIte, Nat.reduceEqDiff, reduceCtorEq, Nat.reduceAdd, Nat.reduceMul, Nat.reduceLeDiff, zfu, Int.mul_def, Int.add_def, zfv, cond_false, cond_true, isub, Int.reduceToNat, s0]
  refine CLL_pure _ (cToR ha hT hT2) (by simp (disch := assumption) only [pureL, pureA, isLw_pure, isLLw_pure, isLLLw_pure, pureL_map, Bool.and_self, Bool.and_true]) rfl rfl ?_
  simp (config := { maxSteps := 10000000 }) (disch := first | assumption | omega) only [go_sem, ↓reduceIte, Nat.reduceEqDiff, reduceCtorEq, Nat.reduceAdd, Nat.reduceMul, Nat.reduceLeDiff, zfu, Int.mul_def, Int.add_def, zfv, cond_false, cond_true, isub, Int.reduceToNat, s0]
  refine CLL_pure _ (cToM ho hv hO hV) (by simp (disch := assumption) only [pureL, pureA, isLw_pure, isLLw_pure, isLLLw_pure, pureL_map, Bool.and_self, Bool.and_true]) rfl rfl ?_
  simp (config := { maxSteps := 10000000 }) (disch := first | assumption | omega) only [go_sem, ↓reduceIte, Nat.reduceEqDiff, reduceCtorEq, Nat.reduceAdd, Nat.reduceMul, Nat.reduceLeDiff, zfu, Int.mul_def, Int.add_def, zfv, cond_false, cond_true, isub, Int.reduceToNat, s0]
  refine CLL_pure _ (c27 hz1 hz2 hS hU hR) (by simp (disch := assumption) only [pureL, pureA, isLw_pure, isLLw_pure, isLLLw_pure, pureL_map, Bool.and_self, Bool.and_true]) rfl rfl ?_
  simp (config := { maxSteps := 10000000 }) (disch := first | assumption | omega) only [go_sem, ↓reduceIte, Nat.reduceEqDiff, reduceCtorEq, Nat.reduceAdd, Nat.reduceMul, Nat.reduceLeDiff, zfu, Int.mul_def, Int.add_def, zfv, cond_false, cond_true, isub, Int.reduceToNat, s0]
  simp only [zbj, zbk, retR, resL, outT, zes, zez, oneV, ↓zcy, ↓zcz, ↓reduceIte, Nat.reduceEqDiff, Option.some.injEq, AV.sc.injEq, Value.bool.injEq, Value.int.injEq, outL, outT, zft, zcp, zed, zef, zei, zeh, List.length_cons, List.length_nil, Nat.reduceAdd, Nat.zero_add, Nat.reduceLeDiff, List.drop_zero, List.take_succ_cons, List.take_zero, zfi, zfh, Ro.dl, zdb, zda, zfe, and_self, and_true, true_and, eq_self, List.append_nil, List.nil_append, List.cons_append, ne_eq, not_false_eq_true, and_false, false_and, Bool.false_eq_true, St.ev, zes, zfn, zhk, List.length_map, outL, zfi, zfh, zev, zex, List.all_cons, List.all_nil, zep, Option.isSome_some, tiDk, List.length_cons, List.length_nil]
theorem nrL_rowLLm (T : List (List (List Int))) : noRefL (List.map rowLL T) = true := by
  have h := noRef_rowLLL T
  simpa only [noRef] using h
attribute [go_sem] nrL_rowLLm
theorem cIsDesk (ha : isLLLw a T) (ho : isLw o O) (hv : isLw v V) (hz1 : isLLw s S) (hz2 : isLw u U) (hx : T.length < 2^63) (hr : ∀ i, (mat T i).length < 2^63) (hr2 : ∀ i j, (row (mat T i) j).length < 2^63) (l1 : O.length < 2^63) (hM : -2^63 ≤ M ∧ M < 2^63) (l2 : V.length < 2^63) (l3 : S.length < 2^63) (l4 : ∀ i, (row S i).length < 2^63) (l5 : U.length < 2^63) :
    CallOK Tryz.prog 3 [.agg [a, o, i64 M, v, s, u]] (bo true) := by
  have cZ := cSzK (M := M) ha hx hr hr2 ho hv hz1 hz2 l1 l2 l3 l4 l5
  refine call_of (fn := Tryz.f3) (code := bodyOf Tryz.f3) Tryz.func3 rfl (by kernel_rfl) (rfl) ?_
  intro sl hs
  have s0 : sl 0 = .agg [a, o, i64 M, v, s, u] := hs 0
  by_cases hz : szK T O V S U 1048576 < 0
  · skip
    dsimp only [Tryz.f3, bodyOf, Option.getD]
    simp (config := { maxSteps := 10000000 }) (disch := first | assumption | omega) only [go_sem, ↓reduceIte, Nat.reduceEqDiff, reduceCtorEq, Nat.reduceAdd, Nat.reduceMul, Nat.reduceLeDiff, zfu, Int.mul_def, Int.add_def, zfv, cond_false, cond_true, isub, Int.reduceToNat, s0]
    refine CLL_pure _ cZ (by simp (disch := assumption) only [pureL, pureA, isLw_pure, isLLw_pure, isLLLw_pure, pureL_map, Bool.and_self, Bool.and_true]) rfl rfl ?_
    simp (config := { maxSteps := 10000000 }) (disch := first | assumption | omega) only [go_sem, ↓reduceIte, Nat.reduceEqDiff, reduceCtorEq, Nat.reduceAdd, Nat.reduceMul, Nat.reduceLeDiff, zfu, Int.mul_def, Int.add_def, zfv, cond_false, cond_true, isub, Int.reduceToNat, s0, hz]
    simp only [zbj, zbk, retR, resL, outT, zes, zez, oneV, ↓zcy, ↓zcz, ↓reduceIte, Nat.reduceEqDiff, Option.some.injEq, AV.sc.injEq, Value.bool.injEq, Value.int.injEq, outL, outT, zft, zcp, zed, zef, zei, zeh, List.length_cons, List.length_nil, Nat.reduceAdd, Nat.zero_add, Nat.reduceLeDiff, List.drop_zero, List.take_succ_cons, List.take_zero, zfi, zfh, Ro.dl, zdb, zda, zfe, and_self, and_true, true_and, eq_self, List.append_nil, List.nil_append, List.cons_append, ne_eq, not_false_eq_true, and_false, false_and, Bool.false_eq_true, St.ev, zes, zfn, zhk, List.length_map]
  · obtain ⟨z1, z2, z3⟩ : (¬ szT T ((1048576 : Int) - T.length) T.length < 0) ∧ (¬ szM O.length V.length (szT T ((1048576 : Int) - T.length) T.length) < 0) ∧ ¬ szD S U (szM O.length V.length (szT T ((1048576 : Int) - T.length) T.length)) < 0 := by
      unfold szK at hz
      split at hz
      · omega
      · rename_i h1
        split at hz
        · omega
        · rename_i h2
          split at hz
          · omega
          · rename_i h3; exact ⟨h1, h2, h3⟩
    have hle := szT_le T ((1048576 : Int) - T.length) (Nat.zero_le T.length)
    simp only [szT] at hle
    obtain ⟨b1, b2⟩ := szT_ok z1
    obtain ⟨b3, b4⟩ := szM_ok z2
    have hle2 := szM_le (o := O.length) (v := V.length) (l := szT T ((1048576 : Int) - T.length) T.length) (by omega)
    obtain ⟨b5, b6, b7⟩ := szD_ok z3
    have hT : T.length ≤ maxN := maxN_of (by omega)
    have hT2 : ∀ i, i < T.length → (mat T i).length ≤ maxN ∧ ∀ j, j < (mat T i).length → (row (mat T i) j).length ≤ maxN := fun i hi => ⟨maxN_of (b2 i hi).1, fun j hj => maxN_of ((b2 i hi).2 j hj)⟩
    have hO : O.length ≤ maxN := maxN_of (by omega)
    have hV : V.length ≤ maxN := maxN_of (by omega)
    have hS : S.length ≤ maxN := maxN_of (by omega)
    have hU : U.length ≤ maxN := maxN_of (by omega)
    have hR : ∀ i, i < S.length → (row S i).length ≤ maxN := fun i hi => maxN_of (by have := b7 i hi; omega)
    have cT := cToK (M := M) ha ho hv hz1 hz2 hT hT2 hO hV hS hU hR
    have cE := cEqK (M := M) hT hT2 hO hV hS hU hR
    obtain ⟨t, ht⟩ : ∃ t : Bool, t = true ↔ RingP T ∧ MetP O M V ∧ DataP S U := by
      by_cases h : RingP T ∧ MetP O M V ∧ DataP S U
      · exact ⟨true, by simp [h]⟩
      · exact ⟨false, by simp [h]⟩
    have cL := cLDk hO hV hM hS hU hR ht
    have cI := cIDk hT hT2 hO hV hM hS hU hR ht
    dsimp only [Tryz.f3, bodyOf, Option.getD]
    simp (config := { maxSteps := 10000000 }) (disch := first | assumption | omega) only [go_sem, ↓reduceIte, Nat.reduceEqDiff, reduceCtorEq, Nat.reduceAdd, Nat.reduceMul, Nat.reduceLeDiff, zfu, Int.mul_def, Int.add_def, zfv, cond_false, cond_true, isub, Int.reduceToNat, s0]
    refine CLL_pure _ cZ (by simp (disch := assumption) only [pureL, pureA, isLw_pure, isLLw_pure, isLLLw_pure, pureL_map, Bool.and_self, Bool.and_true]) rfl rfl ?_
    simp (config := { maxSteps := 10000000 }) (disch := first | assumption | omega) only [go_sem, ↓reduceIte, Nat.reduceEqDiff, reduceCtorEq, Nat.reduceAdd, Nat.reduceMul, Nat.reduceLeDiff, zfu, Int.mul_def, Int.add_def, zfv, cond_false, cond_true, isub, Int.reduceToNat, s0, hz]
    refine CLL_pure _ cT (by simp (disch := assumption) only [pureL, pureA, isLw_pure, isLLw_pure, isLLLw_pure, pureL_map, Bool.and_self, Bool.and_true]) rfl rfl ?_
    simp (config := { maxSteps := 10000000 }) (disch := first | assumption | omega) only [go_sem, ↓reduceIte, Nat.reduceEqDiff, reduceCtorEq, Nat.reduceAdd, Nat.reduceMul, Nat.reduceLeDiff, zfu, Int.mul_def, Int.add_def, zfv, cond_false, cond_true, isub, Int.reduceToNat, s0]
    refine CLL_q _ cL (.cons (exq_agg (.cons (exq_refLLL (by simp only [↓zcy, ↓zcz, ↓zda, ↓zdb, ↓reduceIte, Nat.reduceEqDiff, and_true, true_and, and_self, ne_eq, not_false_eq_true, eq_self, false_and, and_false, reduceCtorEq]) (by simp only [List.length_map]) (by decide)) (.cons (exq_refL (by simp only [↓zcy, ↓zcz, ↓zda, ↓zdb, ↓reduceIte, Nat.reduceEqDiff, and_true, true_and, and_self, ne_eq, not_false_eq_true, eq_self, false_and, and_false, reduceCtorEq]) (by simp only [List.length_map]) (by decide)) (.cons (exq_sc _ _ _ (by decide)) (.cons (exq_refL (by simp only [↓zcy, ↓zcz, ↓zda, ↓zdb, ↓reduceIte, Nat.reduceEqDiff, and_true, true_and, and_self, ne_eq, not_false_eq_true, eq_self, false_and, and_false, reduceCtorEq]) (by simp only [List.length_map]) (by decide)) (.cons (exq_refLL (by simp only [↓zcy, ↓zcz, ↓zda, ↓zdb, ↓reduceIte, Nat.reduceEqDiff, and_true, true_and, and_self, ne_eq, not_false_eq_true, eq_self, false_and, and_false, reduceCtorEq]) (by simp only [List.length_map]) (by decide)) (.cons (exq_refL (by simp only [↓zcy, ↓zcz, ↓zda, ↓zdb, ↓reduceIte, Nat.reduceEqDiff, and_true, true_and, and_self, ne_eq, not_false_eq_true, eq_self, false_and, and_false, reduceCtorEq]) (by simp only [List.length_map]) (by decide)) .nil))))))) .nil) rfl rfl rfl ?_
    simp (config := { maxSteps := 10000000 }) (disch := first | assumption | omega) only [go_sem, ↓reduceIte, Nat.reduceEqDiff, reduceCtorEq, Nat.reduceAdd, Nat.reduceMul, Nat.reduceLeDiff, zfu, Int.mul_def, Int.add_def, zfv, cond_false, cond_true, isub, Int.reduceToNat, s0]
    refine CLL_pure _ cT (by simp (disch := assumption) only [pureL, pureA, isLw_pure, isLLw_pure, isLLLw_pure, pureL_map, Bool.and_self, Bool.and_true]) rfl rfl ?_
    simp (config := { maxSteps := 10000000 }) (disch := first | assumption | omega) only [go_sem, ↓reduceIte, Nat.reduceEqDiff, reduceCtorEq, Nat.reduceAdd, Nat.reduceMul, Nat.reduceLeDiff, zfu, Int.mul_def, Int.add_def, zfv, cond_false, cond_true, isub, Int.reduceToNat, s0]
    refine CLL_q _ cI (.cons (exq_agg (.cons (exq_refLLL (by simp only [↓zcy, ↓zcz, ↓zda, ↓zdb, ↓reduceIte, Nat.reduceEqDiff, and_true, true_and, and_self, ne_eq, not_false_eq_true, eq_self, false_and, and_false, reduceCtorEq]) (by simp only [List.length_map]) (by decide)) (.cons (exq_refL (by simp only [↓zcy, ↓zcz, ↓zda, ↓zdb, ↓reduceIte, Nat.reduceEqDiff, and_true, true_and, and_self, ne_eq, not_false_eq_true, eq_self, false_and, and_false, reduceCtorEq]) (by simp only [List.length_map]) (by decide)) (.cons (exq_sc _ _ _ (by decide)) (.cons (exq_refL (by simp only [↓zcy, ↓zcz, ↓zda, ↓zdb, ↓reduceIte, Nat.reduceEqDiff, and_true, true_and, and_self, ne_eq, not_false_eq_true, eq_self, false_and, and_false, reduceCtorEq]) (by simp only [List.length_map]) (by decide)) (.cons (exq_refLL (by simp only [↓zcy, ↓zcz, ↓zda, ↓zdb, ↓reduceIte, Nat.reduceEqDiff, and_true, true_and, and_self, ne_eq, not_false_eq_true, eq_self, false_and, and_false, reduceCtorEq]) (by simp only [List.length_map]) (by decide)) (.cons (exq_refL (by simp only [↓zcy, ↓zcz, ↓zda, ↓zdb, ↓reduceIte, Nat.reduceEqDiff, and_true, true_and, and_self, ne_eq, not_false_eq_true, eq_self, false_and, and_false, reduceCtorEq]) (by simp only [List.length_map]) (by decide)) .nil))))))) .nil) rfl rfl rfl ?_
    have ett : (t == t) = true := by cases t <;> rfl
    simp (config := { maxSteps := 10000000 }) (disch := first | assumption | omega) only [go_sem, ↓reduceIte, Nat.reduceEqDiff, reduceCtorEq, Nat.reduceAdd, Nat.reduceMul, Nat.reduceLeDiff, zfu, Int.mul_def, Int.add_def, zfv, cond_false, cond_true, isub, Int.reduceToNat, s0, ett]
    refine CLLD_pure _ cT (by simp (disch := assumption) only [pureL, pureA, isLw_pure, isLLw_pure, isLLLw_pure, pureL_map, Bool.and_self, Bool.and_true]) rfl ?_
    simp (config := { maxSteps := 10000000 }) (disch := first | assumption | omega) only [go_sem, ↓reduceIte, Nat.reduceEqDiff, reduceCtorEq, Nat.reduceAdd, Nat.reduceMul, Nat.reduceLeDiff, zfu, Int.mul_def, Int.add_def, zfv, cond_false, cond_true, isub, Int.reduceToNat, s0]
    refine CLLD_q _ cE (.cons (exq_agg (.cons (exq_refLLL (by simp only [↓zcy, ↓zcz, ↓zda, ↓zdb, ↓reduceIte, Nat.reduceEqDiff, and_true, true_and, and_self, ne_eq, not_false_eq_true, eq_self, false_and, and_false, reduceCtorEq]) (by simp only [List.length_map]) (by decide)) (.cons (exq_refL (by simp only [↓zcy, ↓zcz, ↓zda, ↓zdb, ↓reduceIte, Nat.reduceEqDiff, and_true, true_and, and_self, ne_eq, not_false_eq_true, eq_self, false_and, and_false, reduceCtorEq]) (by simp only [List.length_map]) (by decide)) (.cons (exq_sc _ _ _ (by decide)) (.cons (exq_refL (by simp only [↓zcy, ↓zcz, ↓zda, ↓zdb, ↓reduceIte, Nat.reduceEqDiff, and_true, true_and, and_self, ne_eq, not_false_eq_true, eq_self, false_and, and_false, reduceCtorEq]) (by simp only [List.length_map]) (by decide)) (.cons (exq_refLL (by simp only [↓zcy, ↓zcz, ↓zda, ↓zdb, ↓reduceIte, Nat.reduceEqDiff, and_true, true_and, and_self, ne_eq, not_false_eq_true, eq_self, false_and, and_false, reduceCtorEq]) (by simp only [List.length_map]) (by decide)) (.cons (exq_refL (by simp only [↓zcy, ↓zcz, ↓zda, ↓zdb, ↓reduceIte, Nat.reduceEqDiff, and_true, true_and, and_self, ne_eq, not_false_eq_true, eq_self, false_and, and_false, reduceCtorEq]) (by simp only [List.length_map]) (by decide)) .nil))))))) (.cons (exq_agg (.cons (exq_refLLL (by simp only [↓zcy, ↓zcz, ↓zda, ↓zdb, ↓reduceIte, Nat.reduceEqDiff, and_true, true_and, and_self, ne_eq, not_false_eq_true, eq_self, false_and, and_false, reduceCtorEq]) (by simp only [List.length_map]) (by decide)) (.cons (exq_refL (by simp only [↓zcy, ↓zcz, ↓zda, ↓zdb, ↓reduceIte, Nat.reduceEqDiff, and_true, true_and, and_self, ne_eq, not_false_eq_true, eq_self, false_and, and_false, reduceCtorEq]) (by simp only [List.length_map]) (by decide)) (.cons (exq_sc _ _ _ (by decide)) (.cons (exq_refL (by simp only [↓zcy, ↓zcz, ↓zda, ↓zdb, ↓reduceIte, Nat.reduceEqDiff, and_true, true_and, and_self, ne_eq, not_false_eq_true, eq_self, false_and, and_false, reduceCtorEq]) (by simp only [List.length_map]) (by decide)) (.cons (exq_refLL (by simp only [↓zcy, ↓zcz, ↓zda, ↓zdb, ↓reduceIte, Nat.reduceEqDiff, and_true, true_and, and_self, ne_eq, not_false_eq_true, eq_self, false_and, and_false, reduceCtorEq]) (by simp only [List.length_map]) (by decide)) (.cons (exq_refL (by simp only [↓zcy, ↓zcz, ↓zda, ↓zdb, ↓reduceIte, Nat.reduceEqDiff, and_true, true_and, and_self, ne_eq, not_false_eq_true, eq_self, false_and, and_false, reduceCtorEq]) (by simp only [List.length_map]) (by decide)) .nil))))))) .nil)) rfl rfl ?_
    simp (config := { maxSteps := 10000000 }) (disch := first | assumption | omega) only [go_sem, ↓reduceIte, Nat.reduceEqDiff, reduceCtorEq, Nat.reduceAdd, Nat.reduceMul, Nat.reduceLeDiff, zfu, Int.mul_def, Int.add_def, zfv, cond_false, cond_true, isub, Int.reduceToNat, s0]
    refine FIN_of (by kernel_rfl) ?_
    simp (config := { maxSteps := 10000000 }) (disch := first | assumption | omega) only [go_sem, ↓reduceIte, Nat.reduceEqDiff, reduceCtorEq, Nat.reduceAdd, Nat.reduceMul, Nat.reduceLeDiff, zfu, Int.mul_def, Int.add_def, zfv, cond_false, cond_true, isub, Int.reduceToNat, s0]
    simp only [zbj, zbk, retR, resL, outT, zes, zez, oneV, ↓zcy, ↓zcz, ↓reduceIte, Nat.reduceEqDiff, Option.some.injEq, AV.sc.injEq, Value.bool.injEq, Value.int.injEq, outL, outT, zft, zcp, zed, zef, zei, zeh, List.length_cons, List.length_nil, Nat.reduceAdd, Nat.zero_add, Nat.reduceLeDiff, List.drop_zero, List.take_succ_cons, List.take_zero, zfi, zfh, Ro.dl, zdb, zda, zfe, and_self, and_true, true_and, eq_self, List.append_nil, List.nil_append, List.cons_append, ne_eq, not_false_eq_true, and_false, false_and, Bool.false_eq_true, St.ev, zes, zfn, zhk, List.length_map]
end
end Go.Proofs.YtgcnmlecihegcaaGreat
