/- Texts joined: G6. -/
import Derived.Test.YtifgeenipinnmaaMl
set_option linter.all false
/- The second indicator; the law of SecondIndicator answers true. -/
namespace Go.Proofs.Ytifgeenipinnmaa
open Go.RowKit
set_option maxRecDepth 1000000

section
variable (S : List (List Int)) (T : List Int)
def sqT (j : Nat) : Int := atI T j * atI T j % 55441
def upT (j : Nat) : Int := atI (row S 0) j * sqT T j % 55441
def dnT (j : Nat) : Int := atI (row S 0) j * pw (sqT T j) 55439 % 55441
def nmC (i j k : Nat) : Int := nmE S T.length (cjL S T) i j k
/-- The reference's sums. -/
def siI (i : Nat) (s : Int) (j : Nat) : Nat → Int
  | 0 => s
  | k + 1 => (siI i s j k + nmC S T j k i * (upT S T j * dnT S T k % 55441)) % 55441
def siO (i : Nat) : Nat → Int
  | 0 => 0
  | j + 1 => siI S T i (siO i j) j T.length
/-- The program's terms. -/
def wtT (j k : Nat) : Int := atI (row S 0) j * atI (row S 0) k % 55441 * qt (pwz (atI T j) 2) (pwz (atI T k) 2) % 55441
def tmT (i j k : Nat) : Int := nmC S T j k i * wtT S T j k % 55441
def rwT (i j : Nat) : Int := sm (tmT S T i j) T.length
end
theorem num_siI {S : List (List Int)} {T : List Int} {i j : Nat} {s : Int} (h : num s) : ∀ k, num (siI S T i s j k)
  | 0 => h
  | _ + 1 => num_mod _
theorem num_siO (S : List (List Int)) (T : List Int) (i : Nat) : ∀ j, num (siO S T i j)
  | 0 => ⟨Int.le_refl _, by show (0 : Int) < 55441; decide⟩
  | j + 1 => num_siI (num_siO S T i j) _
theorem pwz2 (a : Int) : pwz a 2 = a * a % 55441 := by
  unfold pwz pw
  rw [if_neg (by decide)]
  show a ^ 2 % 55441 = _
  rw [Int.pow_succ, Int.pow_succ, Int.pow_zero, Int.one_mul]
theorem tm_MM (S : List (List Int)) (T : List Int) (i j k : Nat) : MM (nmC S T j k i * (upT S T j * dnT S T k % 55441)) (tmT S T i j k) := by
  unfold tmT wtT upT dnT qt sqT
  rw [pwz2, pwz2]
  generalize nmC S T j k i = n
  generalize atI (row S 0) j = a
  generalize atI (row S 0) k = b
  generalize atI T j * atI T j % 55441 = c
  generalize pw (atI T k * atI T k % 55441) 55439 = d
  have h1 : MM (n * (a * c % 55441 * (b * d % 55441) % 55441)) (n * (a * c * (b * d))) := MM.mul MM.rfl ((MM.mod _).trans (MM.mul (MM.mod _) (MM.mod _)))
  have h2 : MM (n * (a * b % 55441 * (c * d % 55441) % 55441) % 55441) (n * (a * b * (c * d))) := (MM.mod _).trans (MM.mul MM.rfl ((MM.mod _).trans (MM.mul (MM.mod _) (MM.mod _))))
  refine h1.trans (MM.trans ?_ h2.symm)
  have : a * c * (b * d) = a * b * (c * d) := by
    rw [Int.mul_assoc a c (b * d), Int.mul_assoc a b (c * d), Int.mul_left_comm c b d]
  rw [this]; exact MM.rfl
theorem siI_MM {S : List (List Int)} {T : List Int} {i j : Nat} {s s' : Int} (h : MM s s') : ∀ k, MM (siI S T i s j k) (s' + sm (tmT S T i j) k)
  | 0 => by simpa [siI, sm] using h
  | k + 1 => by
    refine (MM.mod _).trans ?_
    simp only [sm]
    rw [← Int.add_assoc]
    exact MM.add (siI_MM h k) (tm_MM S T i j k)
theorem siO_MM (S : List (List Int)) (T : List Int) (i : Nat) : ∀ j, MM (siO S T i j) (sm (rwT S T i) j)
  | 0 => MM.rfl
  | j + 1 => siI_MM (siO_MM S T i j) T.length
theorem num_tm (S : List (List Int)) (T : List Int) (i j k : Nat) : 0 ≤ tmT S T i j k ∧ tmT S T i j k ≤ 55440 := by
  have := num_mod (nmC S T j k i * wtT S T j k)
  unfold num at this; unfold tmT; omega
theorem bnd_rw (S : List (List Int)) (T : List Int) (h : T.length ≤ 16) (i j : Nat) : 0 ≤ rwT S T i j ∧ rwT S T i j ≤ 887040 := by
  have := sm_bnd (f := tmT S T i j) (B := 55440) (num_tm S T i j) T.length
  unfold rwT; omega
def sinV (S : List (List Int)) (T : List Int) (i : Nat) : Int := siO S T i T.length * pw (whl S T.length) 55439 % 55441
theorem sin_eq (S : List (List Int)) (T : List Int) (i : Nat) : qt (sm (rwT S T i) T.length % 55441) (whl S T.length) = sinV S T i := by
  unfold qt sinV
  exact MM.mul ((MM.mod _).trans (siO_MM S T i T.length).symm) MM.rfl

section
variable {a b : AV} {S : List (List Int)} {T : List Int}
theorem c34n {i : Int} (hi1 : -2^63 ≤ i) (hi2 : i < 2^63) (ha : isLL a S) (hb : isL b T) (hS : S.length ≤ maxN) (hT : T.length ≤ maxN) (hR : ∀ i, i < S.length → (row S i).length ≤ maxN) (h : ¬ chg S T i = 0) : CallOK Try.prog 34 [.agg [a, b], i64 i] (.tup [i64 0, i64 (chg S T i)]) := by
  have c57' := c57 hi1 hi2 ha hb hS hT hR
  refine call_of (fn := Try.f34) (code := bodyOf Try.f34) Try.func34 rfl (by kernel_rfl) (rfl) ?_
  intro sl hs
  have s0 : sl 0 = .agg [a, b] := hs 0
  have s1 : sl 1 = i64 i := hs 1
  dsimp only [Try.f34, bodyOf, Option.getD]
  simp (config := { maxSteps := 10000000 }) (disch := first | assumption | omega) only [go_sem, ↓reduceIte, Nat.reduceEqDiff, reduceCtorEq, Nat.reduceAdd, Nat.reduceMul, Nat.reduceLeDiff, zfu, Int.mul_def, Int.add_def, zfv, cond_false, cond_true, isub, Int.reduceToNat, s0, s1]
  refine CLL_pure _ c57' (by simp (disch := assumption) only [pureL, pureA, isL_pure, isLL_pure, isLLL_pure, pureL_map, Bool.and_self, Bool.and_true]) rfl rfl ?_
  simp (config := { maxSteps := 10000000 }) (disch := first | assumption | omega) only [go_sem, ↓reduceIte, Nat.reduceEqDiff, reduceCtorEq, Nat.reduceAdd, Nat.reduceMul, Nat.reduceLeDiff, zfu, Int.mul_def, Int.add_def, zfv, cond_false, cond_true, isub, Int.reduceToNat, s0, s1, h]
  simp only [zbj, zbk, retR, resL, outT, zes, zez, oneV, ↓zcy, ↓zcz, ↓reduceIte, Nat.reduceEqDiff, Option.some.injEq, AV.sc.injEq, Value.bool.injEq, Value.int.injEq, outL, outT, zft, zcp, zed, zef, zei, zeh, List.length_cons, List.length_nil, Nat.reduceAdd, Nat.zero_add, Nat.reduceLeDiff, List.drop_zero, List.take_succ_cons, List.take_zero, zfi, zfh, Ro.dl, zdb, zda, zfe, and_self, and_true, true_and, eq_self, List.append_nil, List.nil_append, List.cons_append, ne_eq, not_false_eq_true, and_false, false_and, Bool.false_eq_true, St.ev, zes, zfn, zhk, List.length_map]
theorem c68n {i : Int} (ha : isLL a S) (hb : isL b T) (hS : S.length ≤ maxN) (hT : T.length ≤ maxN) (hR : ∀ i, i < S.length → (row S i).length ≤ maxN) (h : ¬ chg S T i = 0) : CallOK Try.prog 68 [.agg [a, b], i64 i, i64 2] (.tup [i64 0, i64 (chg S T i)]) := by
  have c1 := c63 (i := i) ha hb hS
  refine call_of (fn := Try.f68) (code := bodyOf Try.f68) Try.func68 rfl (by kernel_rfl) (rfl) ?_
  intro sl hs
  have s0 : sl 0 = .agg [a, b] := hs 0
  have s1 : sl 1 = i64 i := hs 1
  have s2 : sl 2 = i64 2 := hs 2
  by_cases hd : DataP S T
  · by_cases hi : 0 ≤ i ∧ i ≤ (T.length : Int) - 1
    · exact absurd (chg0 hd hi) h
    · rw [hd.dat.shp.lS, decide_eq_false hi] at c1
      rw [chg2 hd hi]
      dsimp only [Try.f68, bodyOf, Option.getD]
      simp (config := { maxSteps := 10000000 }) (disch := first | assumption | omega) only [go_sem, ↓reduceIte, Nat.reduceEqDiff, reduceCtorEq, Nat.reduceAdd, Nat.reduceMul, Nat.reduceLeDiff, zfu, Int.mul_def, Int.add_def, zfv, cond_false, cond_true, isub, Int.reduceToNat, s0, s1, s2]
      refine CLL_pure _ (c62t ha hb hS hT hR hd) (by simp (disch := assumption) only [pureL, pureA, isL_pure, isLL_pure, isLLL_pure, pureL_map, Bool.and_self, Bool.and_true]) rfl rfl ?_
      simp (config := { maxSteps := 10000000 }) (disch := first | assumption | omega) only [go_sem, ↓reduceIte, Nat.reduceEqDiff, reduceCtorEq, Nat.reduceAdd, Nat.reduceMul, Nat.reduceLeDiff, zfu, Int.mul_def, Int.add_def, zfv, cond_false, cond_true, isub, Int.reduceToNat, s0, s1, s2]
      refine CLL_pure _ c1 (by simp (disch := assumption) only [pureL, pureA, isL_pure, isLL_pure, isLLL_pure, pureL_map, Bool.and_self, Bool.and_true]) rfl rfl ?_
      simp (config := { maxSteps := 10000000 }) (disch := first | assumption | omega) only [go_sem, ↓reduceIte, Nat.reduceEqDiff, reduceCtorEq, Nat.reduceAdd, Nat.reduceMul, Nat.reduceLeDiff, zfu, Int.mul_def, Int.add_def, zfv, cond_false, cond_true, isub, Int.reduceToNat, s0, s1, s2]
      simp only [zbj, zbk, retR, resL, outT, zes, zez, oneV, ↓zcy, ↓zcz, ↓reduceIte, Nat.reduceEqDiff, Option.some.injEq, AV.sc.injEq, Value.bool.injEq, Value.int.injEq, outL, outT, zft, zcp, zed, zef, zei, zeh, List.length_cons, List.length_nil, Nat.reduceAdd, Nat.zero_add, Nat.reduceLeDiff, List.drop_zero, List.take_succ_cons, List.take_zero, zfi, zfh, Ro.dl, zdb, zda, zfe, and_self, and_true, true_and, eq_self, List.append_nil, List.nil_append, List.cons_append, ne_eq, not_false_eq_true, and_false, false_and, Bool.false_eq_true, St.ev, zes, zfn, zhk, List.length_map]
  · rw [chg1 hd]
    dsimp only [Try.f68, bodyOf, Option.getD]
    simp (config := { maxSteps := 10000000 }) (disch := first | assumption | omega) only [go_sem, ↓reduceIte, Nat.reduceEqDiff, reduceCtorEq, Nat.reduceAdd, Nat.reduceMul, Nat.reduceLeDiff, zfu, Int.mul_def, Int.add_def, zfv, cond_false, cond_true, isub, Int.reduceToNat, s0, s1, s2]
    refine CLL_pure _ (c62f ha hb hS hT hR hd) (by simp (disch := assumption) only [pureL, pureA, isL_pure, isLL_pure, isLLL_pure, pureL_map, Bool.and_self, Bool.and_true]) rfl rfl ?_
    simp (config := { maxSteps := 10000000 }) (disch := first | assumption | omega) only [go_sem, ↓reduceIte, Nat.reduceEqDiff, reduceCtorEq, Nat.reduceAdd, Nat.reduceMul, Nat.reduceLeDiff, zfu, Int.mul_def, Int.add_def, zfv, cond_false, cond_true, isub, Int.reduceToNat, s0, s1, s2]
    simp only [zbj, zbk, retR, resL, outT, zes, zez, oneV, ↓zcy, ↓zcz, ↓reduceIte, Nat.reduceEqDiff, Option.some.injEq, AV.sc.injEq, Value.bool.injEq, Value.int.injEq, outL, outT, zft, zcp, zed, zef, zei, zeh, List.length_cons, List.length_nil, Nat.reduceAdd, Nat.zero_add, Nat.reduceLeDiff, List.drop_zero, List.take_succ_cons, List.take_zero, zfi, zfh, Ro.dl, zdb, zda, zfe, and_self, and_true, true_and, eq_self, List.append_nil, List.nil_append, List.cons_append, ne_eq, not_false_eq_true, and_false, false_and, Bool.false_eq_true, St.ev, zes, zfn, zhk, List.length_map]
theorem c35 {i : Int} {v z : Int} (ha : isLL a S) (hb : isL b T) (h : CallOK Try.prog 68 [.agg [a, b], i64 i, i64 2] (.tup [i64 v, i64 z])) : CallOK Try.prog 35 [.agg [a, b], i64 i] (.tup [i64 v, i64 z]) := by
  refine call_of (fn := Try.f35) (code := bodyOf Try.f35) Try.func35 rfl (by kernel_rfl) (rfl) ?_
  intro sl hs
  have s0 : sl 0 = .agg [a, b] := hs 0
  have s1 : sl 1 = i64 i := hs 1
  dsimp only [Try.f35, bodyOf, Option.getD]
  simp (config := { maxSteps := 10000000 }) (disch := first | assumption | omega) only [go_sem, ↓reduceIte, Nat.reduceEqDiff, reduceCtorEq, Nat.reduceAdd, Nat.reduceMul, Nat.reduceLeDiff, zfu, Int.mul_def, Int.add_def, zfv, cond_false, cond_true, isub, Int.reduceToNat, s0, s1]
  refine CLL_pure _ h (by simp (disch := assumption) only [pureL, pureA, isL_pure, isLL_pure, isLLL_pure, pureL_map, Bool.and_self, Bool.and_true]) rfl rfl ?_
  simp (config := { maxSteps := 10000000 }) (disch := first | assumption | omega) only [go_sem, ↓reduceIte, Nat.reduceEqDiff, reduceCtorEq, Nat.reduceAdd, Nat.reduceMul, Nat.reduceLeDiff, zfu, Int.mul_def, Int.add_def, zfv, cond_false, cond_true, isub, Int.reduceToNat, s0, s1]
  simp only [zbj, zbk, retR, resL, outT, zes, zez, oneV, ↓zcy, ↓zcz, ↓reduceIte, Nat.reduceEqDiff, Option.some.injEq, AV.sc.injEq, Value.bool.injEq, Value.int.injEq, outL, outT, zft, zcp, zed, zef, zei, zeh, List.length_cons, List.length_nil, Nat.reduceAdd, Nat.zero_add, Nat.reduceLeDiff, List.drop_zero, List.take_succ_cons, List.take_zero, zfi, zfh, Ro.dl, zdb, zda, zfe, and_self, and_true, true_and, eq_self, List.append_nil, List.nil_append, List.cons_append, ne_eq, not_false_eq_true, and_false, false_and, Bool.false_eq_true, St.ev, zes, zfn, zhk, List.length_map]

theorem c34d {i : Nat} (ha : isLL a S) (hb : isL b T) (hS : S.length ≤ maxN) (hT : T.length ≤ maxN) (hR : ∀ i, i < S.length → (row S i).length ≤ maxN) (h : DataP S T) (hi : i < T.length) : CallOK Try.prog 34 [.agg [a, b], i64 i] (.tup [i64 (sinV S T i), i64 0]) := by
  have hT' : T.length ≤ 4294967296 := hT
  have D := h.dat
  have h16 := D.m16
  have c57' := c57 (i := (i : Int)) (by omega) (by omega) ha hb hS hT hR
  rw [chg0 h ⟨by omega, by omega⟩] at c57'
  have h0 := isLL_row ha (k := 0) (by have := D.shp.lS; omega)
  have hS0 : 0 < S.length := by have := D.shp.lS; omega
  have hl0 : (row S 0).length = T.length := D.shp.lR 0 D.shp.pos
  refine call_of (fn := Try.f34) (code := bodyOf Try.f34) Try.func34 rfl (by kernel_rfl) (rfl) ?_
  intro sl hs
  have s0 : sl 0 = .agg [a, b] := hs 0
  have s1 : sl 1 = i64 i := hs 1
  dsimp only [Try.f34, bodyOf, Option.getD]
  simp (config := { maxSteps := 10000000 }) (disch := first | assumption | omega) only [go_sem, ↓reduceIte, Nat.reduceEqDiff, reduceCtorEq, Nat.reduceAdd, Nat.reduceMul, Nat.reduceLeDiff, zfu, Int.mul_def, Int.add_def, zfv, cond_false, cond_true, isub, Int.reduceToNat, s0, s1]
  refine CLL_pure _ c57' (by simp (disch := assumption) only [pureL, pureA, isL_pure, isLL_pure, isLLL_pure, pureL_map, Bool.and_self, Bool.and_true]) rfl rfl ?_
  simp (config := { maxSteps := 10000000 }) (disch := first | assumption | omega) only [go_sem, ↓reduceIte, Nat.reduceEqDiff, reduceCtorEq, Nat.reduceAdd, Nat.reduceMul, Nat.reduceLeDiff, zfu, Int.mul_def, Int.add_def, zfv, cond_false, cond_true, isub, Int.reduceToNat, s0, s1]
  refine CLL_pure _ (c45 hb ha D.shp D.cj) (by simp (disch := assumption) only [pureL, pureA, isL_pure, isLL_pure, isLLL_pure, pureL_map, Bool.and_self, Bool.and_true]) rfl rfl ?_
  simp (config := { maxSteps := 10000000 }) (disch := first | assumption | omega) only [go_sem, ↓reduceIte, Nat.reduceEqDiff, reduceCtorEq, Nat.reduceAdd, Nat.reduceMul, Nat.reduceLeDiff, zfu, Int.mul_def, Int.add_def, zfv, cond_false, cond_true, isub, Int.reduceToNat, s0, s1]
  refine WK_for (fun j st => st.sl 1 = i64 i ∧ st.sl 2 = .ptr 4096 1 [] 0 ∧ st.ro 4096 1 = some (.bx [a, b]) ∧ st.sl 7 = .ref 20496 1 [] 0 T.length ∧ st.ro 20496 1 = some (cubeA (nmE S T.length (cjL S T)) T.length) ∧ st.sl 8 = i64 0 ∧ st.sl 9 = .ref 24576 (st.gn 24576) [] 0 j ∧ st.ro 24576 (st.gn 24576) = some (.row (rws (fun x => i64 (upT S T x)) j)) ∧ st.sl 10 = .ref 24592 (st.gn 24592) [] 0 j ∧ st.ro 24592 (st.gn 24592) = some (.row (rws (fun x => i64 (dnT S T x)) j)) ∧ st.sl 11 = i64 (j : Int)) T.length ?_ ?_ ?_
  · simp only [↓zcy, ↓zcz, ↓zda, ↓zdb, ↓reduceIte, Nat.reduceEqDiff, and_true, true_and, and_self, ne_eq, not_false_eq_true, eq_self, false_and, and_false, reduceCtorEq, rws_zero, s0, s1]
    rfl
  · rintro j sl ro gn hj ⟨s1, s2, r4096, s7, r20496, s8, s9, r24576, s10, r24592, s11⟩
    dsimp only at s1 s2 r4096 s7 r20496 s8 s9 r24576 s10 r24592 s11
    have hj' : (j : Int) < (T.length : Nat) := by omega
    have b1 := num_mul (D.shp.nT j) (D.shp.nT j)
    have b2 := num_mod (atI T j * atI T j)
    have e1 : atI T j * atI T j % 55441 = sqT T j := rfl
    rw [e1] at b2
    have b3 := num_mul (D.shp.nS 0 j) b2
    have b4 : num (pw (sqT T j) 55439) := num_mod _
    have b5 := num_mul (D.shp.nS 0 j) b4
    have e2 : atI (row S 0) j * sqT T j % 55441 = upT S T j := rfl
    have e3 : atI (row S 0) j * pw (sqT T j) 55439 % 55441 = dnT S T j := rfl
    simp (config := { maxSteps := 10000000 }) (disch := first | assumption | omega) only [go_sem, ↓reduceIte, Nat.reduceEqDiff, reduceCtorEq, Nat.reduceAdd, Nat.reduceMul, Nat.reduceLeDiff, zfu, Int.mul_def, Int.add_def, zfv, cond_false, cond_true, isub, Int.reduceToNat, s1, s2, r4096, s7, r20496, s8, s9, r24576, s10, r24592, s11, hj', hj, Int.tmod_eq_emod_of_nonneg, e1]
    refine FIN_of (by kernel_rfl) ?_
    simp (config := { maxSteps := 10000000 }) (disch := first | assumption | omega) only [go_sem, ↓reduceIte, Nat.reduceEqDiff, reduceCtorEq, Nat.reduceAdd, Nat.reduceMul, Nat.reduceLeDiff, zfu, Int.mul_def, Int.add_def, zfv, cond_false, cond_true, isub, Int.reduceToNat, s1, s2, r4096, s7, r20496, s8, s9, r24576, s10, r24592, s11, hj', hj, Int.tmod_eq_emod_of_nonneg, e2, zfm]
    refine CLLD_pure _ (c59 b2.1 b2.2) rfl rfl ?_
    simp (config := { maxSteps := 10000000 }) (disch := first | assumption | omega) only [go_sem, ↓reduceIte, Nat.reduceEqDiff, reduceCtorEq, Nat.reduceAdd, Nat.reduceMul, Nat.reduceLeDiff, zfu, Int.mul_def, Int.add_def, zfv, cond_false, cond_true, isub, Int.reduceToNat, s1, s2, r4096, s7, r20496, s8, s9, r24576, s10, r24592, s11, hj', hj, Int.tmod_eq_emod_of_nonneg, e3, zfm]
    refine FIN_of (by kernel_rfl) ?_
    simp (config := { maxSteps := 10000000 }) (disch := first | assumption | omega) only [go_sem, ↓reduceIte, Nat.reduceEqDiff, reduceCtorEq, Nat.reduceAdd, Nat.reduceMul, Nat.reduceLeDiff, zfu, Int.mul_def, Int.add_def, zfv, cond_false, cond_true, isub, Int.reduceToNat, s1, s2, r4096, s7, r20496, s8, s9, r24576, s10, r24592, s11, hj', hj, zfm]
    exact i64c (by omega)
  · rintro sl ro gn ⟨s1, s2, r4096, s7, r20496, s8, s9, r24576, s10, r24592, s11⟩
    dsimp only at s1 s2 r4096 s7 r20496 s8 s9 r24576 s10 r24592 s11
    have hj' : ¬ ((T.length : Nat) : Int) < (T.length : Nat) := by omega
    simp (config := { maxSteps := 10000000 }) (disch := first | assumption | omega) only [go_sem, ↓reduceIte, Nat.reduceEqDiff, reduceCtorEq, Nat.reduceAdd, Nat.reduceMul, Nat.reduceLeDiff, zfu, Int.mul_def, Int.add_def, zfv, cond_false, cond_true, isub, Int.reduceToNat, s1, s2, r4096, s7, r20496, s8, s9, r24576, s10, r24592, s11, hj']
    refine WK_for (fun j st => st.sl 1 = i64 i ∧ st.sl 2 = .ptr 4096 1 [] 0 ∧ st.ro 4096 1 = some (.bx [a, b]) ∧ st.sl 7 = .ref 20496 1 [] 0 T.length ∧ st.ro 20496 1 = some (cubeA (nmE S T.length (cjL S T)) T.length) ∧ st.sl 8 = i64 (siO S T i j) ∧ st.sl 9 = .ref 24576 (st.gn 24576) [] 0 T.length ∧ st.ro 24576 (st.gn 24576) = some (.row (rws (fun x => i64 (upT S T x)) T.length)) ∧ st.sl 10 = .ref 24592 (st.gn 24592) [] 0 T.length ∧ st.ro 24592 (st.gn 24592) = some (.row (rws (fun x => i64 (dnT S T x)) T.length)) ∧ st.sl 13 = i64 (j : Int)) T.length ?_ ?_ ?_
    · simp only [↓zcy, ↓zcz, ↓zda, ↓zdb, ↓reduceIte, Nat.reduceEqDiff, and_true, true_and, and_self, ne_eq, not_false_eq_true, eq_self, false_and, and_false, reduceCtorEq, rws_zero, s1, s2, r4096, s7, r20496, s8, s9, r24576, s10, r24592, s11, hj']
      exact ⟨rfl, rfl⟩
    · rintro j sl ro gn hj ⟨s1, s2, r4096, s7, r20496, s8, s9, r24576, s10, r24592, s13⟩
      dsimp only at s1 s2 r4096 s7 r20496 s8 s9 r24576 s10 r24592 s13
      have hj' : (j : Int) < (T.length : Nat) := by omega
      simp (config := { maxSteps := 10000000 }) (disch := first | assumption | omega) only [go_sem, ↓reduceIte, Nat.reduceEqDiff, reduceCtorEq, Nat.reduceAdd, Nat.reduceMul, Nat.reduceLeDiff, zfu, Int.mul_def, Int.add_def, zfv, cond_false, cond_true, isub, Int.reduceToNat, s1, s2, r4096, s7, r20496, s8, s9, r24576, s10, r24592, s13, hj', hj]
      refine WK_for (fun k st => st.sl 1 = i64 i ∧ st.sl 2 = .ptr 4096 1 [] 0 ∧ st.ro 4096 1 = some (.bx [a, b]) ∧ st.sl 7 = .ref 20496 1 [] 0 T.length ∧ st.ro 20496 1 = some (cubeA (nmE S T.length (cjL S T)) T.length) ∧ st.sl 9 = .ref 24576 (st.gn 24576) [] 0 T.length ∧ st.ro 24576 (st.gn 24576) = some (.row (rws (fun x => i64 (upT S T x)) T.length)) ∧ st.sl 10 = .ref 24592 (st.gn 24592) [] 0 T.length ∧ st.ro 24592 (st.gn 24592) = some (.row (rws (fun x => i64 (dnT S T x)) T.length)) ∧ st.sl 13 = i64 (j : Int) ∧ st.sl 8 = i64 (siI S T i (siO S T i j) j k) ∧ st.sl 14 = i64 (k : Int)) T.length ?_ ?_ ?_
      · simp only [↓zcy, ↓zcz, ↓zda, ↓zdb, ↓reduceIte, Nat.reduceEqDiff, and_true, true_and, and_self, ne_eq, not_false_eq_true, eq_self, false_and, and_false, reduceCtorEq, rws_zero, s1, s2, r4096, s7, r20496, s8, s9, r24576, s10, r24592, s13, hj', hj]
        exact ⟨rfl, rfl⟩
      · rintro k sl ro gn hk ⟨s1, s2, r4096, s7, r20496, s9, r24576, s10, r24592, s13, s8, s14⟩
        dsimp only at s1 s2 r4096 s7 r20496 s9 r24576 s10 r24592 s13 s8 s14
        have hk' : (k : Int) < (T.length : Nat) := by omega
        have b1 : num (upT S T j) := num_mod _
        have b2 : num (dnT S T k) := num_mod _
        have b3 := num_mul b1 b2
        have b4 := num_mod (upT S T j * dnT S T k)
        have b5 := D.cube j hj k hk i hi
        unfold num at b4
        have b6 := bnd2 b5.1 b5.2 b4.1 (show upT S T j * dnT S T k % 55441 ≤ 55440 by omega)
        have b7 := num_siI (S := S) (T := T) (i := i) (j := j) (num_siO S T i j) k
        unfold num at b7
        have e1 : (siI S T i (siO S T i j) j k + nmE S T.length (cjL S T) j k i * (upT S T j * dnT S T k % 55441)) % 55441 = siI S T i (siO S T i j) j (k + 1) := rfl
        simp (config := { maxSteps := 10000000 }) (disch := first | assumption | omega) only [go_sem, ↓reduceIte, Nat.reduceEqDiff, reduceCtorEq, Nat.reduceAdd, Nat.reduceMul, Nat.reduceLeDiff, zfu, Int.mul_def, Int.add_def, zfv, cond_false, cond_true, isub, Int.reduceToNat, s1, s2, r4096, s7, r20496, s9, r24576, s10, r24592, s13, s8, s14, hk', hk, hi, Int.tmod_eq_emod_of_nonneg, e1]
        refine FIN_of (by kernel_rfl) ?_
        simp (config := { maxSteps := 10000000 }) (disch := first | assumption | omega) only [go_sem, ↓reduceIte, Nat.reduceEqDiff, reduceCtorEq, Nat.reduceAdd, Nat.reduceMul, Nat.reduceLeDiff, zfu, Int.mul_def, Int.add_def, zfv, cond_false, cond_true, isub, Int.reduceToNat, s1, s2, r4096, s7, r20496, s9, r24576, s10, r24592, s13, s8, s14, hk', hk]
        exact i64c (by omega)
      · rintro sl ro gn ⟨s1, s2, r4096, s7, r20496, s9, r24576, s10, r24592, s13, s8, s14⟩
        dsimp only at s1 s2 r4096 s7 r20496 s9 r24576 s10 r24592 s13 s8 s14
        have hk' : ¬ ((T.length : Nat) : Int) < (T.length : Nat) := by omega
        have e1 : siI S T i (siO S T i j) j T.length = siO S T i (j + 1) := rfl
        simp (config := { maxSteps := 10000000 }) (disch := first | assumption | omega) only [go_sem, ↓reduceIte, Nat.reduceEqDiff, reduceCtorEq, Nat.reduceAdd, Nat.reduceMul, Nat.reduceLeDiff, zfu, Int.mul_def, Int.add_def, zfv, cond_false, cond_true, isub, Int.reduceToNat, s1, s2, r4096, s7, r20496, s9, r24576, s10, r24592, s13, s8, s14, hk', e1]
        exact i64c (by omega)
    · rintro sl ro gn ⟨s1, s2, r4096, s7, r20496, s8, s9, r24576, s10, r24592, s13⟩
      dsimp only at s1 s2 r4096 s7 r20496 s8 s9 r24576 s10 r24592 s13
      have hj' : ¬ ((T.length : Nat) : Int) < (T.length : Nat) := by omega
      have b1 := num_siO S T i T.length
      have b2 : num (pw (whl S T.length) 55439) := num_mod _
      have b3 := num_mul b1 b2
      simp (config := { maxSteps := 10000000 }) (disch := first | assumption | omega) only [go_sem, ↓reduceIte, Nat.reduceEqDiff, reduceCtorEq, Nat.reduceAdd, Nat.reduceMul, Nat.reduceLeDiff, zfu, Int.mul_def, Int.add_def, zfv, cond_false, cond_true, isub, Int.reduceToNat, s1, s2, r4096, s7, r20496, s8, s9, r24576, s10, r24592, s13, hj']
      refine CLL_pure _ (c67 ha hb (by omega) (by omega) (by omega) D.shp.nS) (by simp (disch := assumption) only [pureL, pureA, isL_pure, isLL_pure, isLLL_pure, pureL_map, Bool.and_self, Bool.and_true]) rfl rfl ?_
      simp (config := { maxSteps := 10000000 }) (disch := first | assumption | omega) only [go_sem, ↓reduceIte, Nat.reduceEqDiff, reduceCtorEq, Nat.reduceAdd, Nat.reduceMul, Nat.reduceLeDiff, zfu, Int.mul_def, Int.add_def, zfv, cond_false, cond_true, isub, Int.reduceToNat, s1, s2, r4096, s7, r20496, s8, s9, r24576, s10, r24592, s13, hj']
      refine CLL_pure _ (c59 (num_whl S T.length).1 (num_whl S T.length).2) rfl rfl rfl ?_
      simp (config := { maxSteps := 10000000 }) (disch := first | assumption | omega) only [go_sem, ↓reduceIte, Nat.reduceEqDiff, reduceCtorEq, Nat.reduceAdd, Nat.reduceMul, Nat.reduceLeDiff, zfu, Int.mul_def, Int.add_def, zfv, cond_false, cond_true, isub, Int.reduceToNat, s1, s2, r4096, s7, r20496, s8, s9, r24576, s10, r24592, s13, hj', Int.tmod_eq_emod_of_nonneg]
      simp only [zbj, zbk, retR, resL, outT, zes, zez, oneV, ↓zcy, ↓zcz, ↓reduceIte, Nat.reduceEqDiff, Option.some.injEq, AV.sc.injEq, Value.bool.injEq, Value.int.injEq, outL, outT, zft, zcp, zed, zef, zei, zeh, List.length_cons, List.length_nil, Nat.reduceAdd, Nat.zero_add, Nat.reduceLeDiff, List.drop_zero, List.take_succ_cons, List.take_zero, zfi, zfh, Ro.dl, zdb, zda, zfe, and_self, and_true, true_and, eq_self, List.append_nil, List.nil_append, List.cons_append, ne_eq, not_false_eq_true, and_false, false_and, Bool.false_eq_true, St.ev, zes, zfn, zhk, List.length_map]
      rfl

theorem c68d {i : Nat} (ha : isLL a S) (hb : isL b T) (hS : S.length ≤ maxN) (hT : T.length ≤ maxN) (hR : ∀ i, i < S.length → (row S i).length ≤ maxN) (h : DataP S T) (hi : i < T.length) : CallOK Try.prog 68 [.agg [a, b], i64 i, i64 2] (.tup [i64 (sinV S T i), i64 0]) := by
  have hT' : T.length ≤ 4294967296 := hT
  have D := h.dat
  have h16 := D.m16
  have c1 := c63 (i := (i : Int)) ha hb hS
  rw [D.shp.lS, decide_eq_true ⟨by omega, by omega⟩] at c1
  have h0 := isLL_row ha (k := 0) (by have := D.shp.lS; omega)
  have hS0 : 0 < S.length := by have := D.shp.lS; omega
  have hl0 : (row S 0).length = T.length := D.shp.lR 0 D.shp.pos
  rw [← sin_eq]
  refine call_of (fn := Try.f68) (code := bodyOf Try.f68) Try.func68 rfl (by kernel_rfl) (rfl) ?_
  intro sl hs
  have s0 : sl 0 = .agg [a, b] := hs 0
  have s1 : sl 1 = i64 i := hs 1
  have s2 : sl 2 = i64 2 := hs 2
  dsimp only [Try.f68, bodyOf, Option.getD]
  simp (config := { maxSteps := 10000000 }) (disch := first | assumption | omega) only [go_sem, ↓reduceIte, Nat.reduceEqDiff, reduceCtorEq, Nat.reduceAdd, Nat.reduceMul, Nat.reduceLeDiff, zfu, Int.mul_def, Int.add_def, zfv, cond_false, cond_true, isub, Int.reduceToNat, s0, s1, s2]
  refine CLL_pure _ (c62t ha hb hS hT hR h) (by simp (disch := assumption) only [pureL, pureA, isL_pure, isLL_pure, isLLL_pure, pureL_map, Bool.and_self, Bool.and_true]) rfl rfl ?_
  simp (config := { maxSteps := 10000000 }) (disch := first | assumption | omega) only [go_sem, ↓reduceIte, Nat.reduceEqDiff, reduceCtorEq, Nat.reduceAdd, Nat.reduceMul, Nat.reduceLeDiff, zfu, Int.mul_def, Int.add_def, zfv, cond_false, cond_true, isub, Int.reduceToNat, s0, s1, s2]
  refine CLL_pure _ c1 (by simp (disch := assumption) only [pureL, pureA, isL_pure, isLL_pure, isLLL_pure, pureL_map, Bool.and_self, Bool.and_true]) rfl rfl ?_
  simp (config := { maxSteps := 10000000 }) (disch := first | assumption | omega) only [go_sem, ↓reduceIte, Nat.reduceEqDiff, reduceCtorEq, Nat.reduceAdd, Nat.reduceMul, Nat.reduceLeDiff, zfu, Int.mul_def, Int.add_def, zfv, cond_false, cond_true, isub, Int.reduceToNat, s0, s1, s2]
  refine CLL_pure _ (c40t ⟨by decide, by decide⟩) rfl rfl rfl ?_
  simp (config := { maxSteps := 10000000 }) (disch := first | assumption | omega) only [go_sem, ↓reduceIte, Nat.reduceEqDiff, reduceCtorEq, Nat.reduceAdd, Nat.reduceMul, Nat.reduceLeDiff, zfu, Int.mul_def, Int.add_def, zfv, cond_false, cond_true, isub, Int.reduceToNat, s0, s1, s2]
  refine WK_for (fun j st => st.sl 1 = i64 i ∧ st.sl 2 = i64 2 ∧ st.sl 3 = .ptr 4096 1 [] 0 ∧ st.ro 4096 1 = some (.bx [a, b]) ∧ st.sl 8 = i64 0 ∧ st.sl 9 = .ref 24576 (st.gn 24576) [] 0 j ∧ st.ro 24576 (st.gn 24576) = some (.row (rws (fun x => i64 (pwz (atI T x) 2)) j)) ∧ st.sl 31 = b ∧ st.sl 32 = i64 (T.length : Int) ∧ st.sl 33 = i64 (j : Int)) T.length ?_ ?_ ?_
  · simp only [↓zcy, ↓zcz, ↓zda, ↓zdb, ↓reduceIte, Nat.reduceEqDiff, and_true, true_and, and_self, ne_eq, not_false_eq_true, eq_self, false_and, and_false, reduceCtorEq, rws_zero, s0, s1, s2]
    rfl
  · rintro j sl ro gn hj ⟨s1, s2, s3, r4096, s8, s9, r24576, s31, s32, s33⟩
    dsimp only at s1 s2 s3 r4096 s8 s9 r24576 s31 s32 s33
    have hj' : (j : Int) < (T.length : Nat) := by omega
    simp (config := { maxSteps := 10000000 }) (disch := first | assumption | omega) only [go_sem, ↓reduceIte, Nat.reduceEqDiff, reduceCtorEq, Nat.reduceAdd, Nat.reduceMul, Nat.reduceLeDiff, zfu, Int.mul_def, Int.add_def, zfv, cond_false, cond_true, isub, Int.reduceToNat, s1, s2, s3, r4096, s8, s9, r24576, s31, s32, s33, hj', hj]
    refine CLL_pure _ (c76 (D.shp.nT j).1 (D.shp.nT j).2 (by decide) (by decide)) rfl rfl rfl ?_
    simp (config := { maxSteps := 10000000 }) (disch := first | assumption | omega) only [go_sem, ↓reduceIte, Nat.reduceEqDiff, reduceCtorEq, Nat.reduceAdd, Nat.reduceMul, Nat.reduceLeDiff, zfu, Int.mul_def, Int.add_def, zfv, cond_false, cond_true, isub, Int.reduceToNat, s1, s2, s3, r4096, s8, s9, r24576, s31, s32, s33, hj', hj, zfm]
    exact i64c (by omega)
  · rintro sl ro gn ⟨s1, s2, s3, r4096, s8, s9, r24576, s31, s32, s33⟩
    dsimp only at s1 s2 s3 r4096 s8 s9 r24576 s31 s32 s33
    have hj' : ¬ ((T.length : Nat) : Int) < (T.length : Nat) := by omega
    simp (config := { maxSteps := 10000000 }) (disch := first | assumption | omega) only [go_sem, ↓reduceIte, Nat.reduceEqDiff, reduceCtorEq, Nat.reduceAdd, Nat.reduceMul, Nat.reduceLeDiff, zfu, Int.mul_def, Int.add_def, zfv, cond_false, cond_true, isub, Int.reduceToNat, s1, s2, s3, r4096, s8, s9, r24576, s31, s32, s33, hj']
    refine CLL_pure _ (c46 hb ha D.shp D.whl D.cj) (by simp (disch := assumption) only [pureL, pureA, isL_pure, isLL_pure, isLLL_pure, pureL_map, Bool.and_self, Bool.and_true]) rfl rfl ?_
    simp (config := { maxSteps := 10000000 }) (disch := first | assumption | omega) only [go_sem, ↓reduceIte, Nat.reduceEqDiff, reduceCtorEq, Nat.reduceAdd, Nat.reduceMul, Nat.reduceLeDiff, zfu, Int.mul_def, Int.add_def, zfv, cond_false, cond_true, isub, Int.reduceToNat, s1, s2, s3, r4096, s8, s9, r24576, s31, s32, s33, hj']
    refine WK_for (fun j st => st.sl 1 = i64 i ∧ st.sl 3 = .ptr 4096 1 [] 0 ∧ st.ro 4096 1 = some (.bx [a, b]) ∧ st.sl 8 = i64 (sm (rwT S T i) j) ∧ st.sl 9 = .ref 24576 (st.gn 24576) [] 0 T.length ∧ st.ro 24576 (st.gn 24576) = some (.row (rws (fun x => i64 (pwz (atI T x) 2)) T.length)) ∧ st.sl 46 = .ref 49168 (st.gn 49168) [] 0 T.length ∧ st.ro 49168 (st.gn 49168) = some (cubeA (nmE S T.length (cjL S T)) T.length) ∧ st.sl 47 = i64 (T.length : Int) ∧ st.sl 48 = i64 (j : Int)) T.length ?_ ?_ ?_
    · simp only [↓zcy, ↓zcz, ↓zda, ↓zdb, ↓reduceIte, Nat.reduceEqDiff, and_true, true_and, and_self, ne_eq, not_false_eq_true, eq_self, false_and, and_false, reduceCtorEq, rws_zero, s1, s2, s3, r4096, s8, s9, r24576, s31, s32, s33, hj']
      exact ⟨rfl, rfl⟩
    · rintro j sl ro gn hj ⟨s1, s3, r4096, s8, s9, r24576, s46, r49168, s47, s48⟩
      dsimp only at s1 s3 r4096 s8 s9 r24576 s46 r49168 s47 s48
      have hj' : (j : Int) < (T.length : Nat) := by omega
      simp (config := { maxSteps := 10000000 }) (disch := first | assumption | omega) only [go_sem, ↓reduceIte, Nat.reduceEqDiff, reduceCtorEq, Nat.reduceAdd, Nat.reduceMul, Nat.reduceLeDiff, zfu, Int.mul_def, Int.add_def, zfv, cond_false, cond_true, isub, Int.reduceToNat, s1, s3, r4096, s8, s9, r24576, s46, r49168, s47, s48, hj', hj]
      refine WK_for (fun l st => st.sl 1 = i64 i ∧ st.sl 3 = .ptr 4096 1 [] 0 ∧ st.ro 4096 1 = some (.bx [a, b]) ∧ st.sl 9 = .ref 24576 (st.gn 24576) [] 0 T.length ∧ st.ro 24576 (st.gn 24576) = some (.row (rws (fun x => i64 (pwz (atI T x) 2)) T.length)) ∧ st.sl 46 = .ref 49168 (st.gn 49168) [] 0 T.length ∧ st.ro 49168 (st.gn 49168) = some (cubeA (nmE S T.length (cjL S T)) T.length) ∧ st.sl 47 = i64 (T.length : Int) ∧ st.sl 48 = i64 (j : Int) ∧ st.sl 12 = i64 (j : Int) ∧ st.sl 8 = i64 (sm (rwT S T i) j + sm (tmT S T i j) l) ∧ st.sl 53 = .ref 49168 (st.gn 49168) [j] 0 T.length ∧ st.sl 54 = i64 (T.length : Int) ∧ st.sl 55 = i64 (l : Int)) T.length ?_ ?_ ?_
      · simp only [↓zcy, ↓zcz, ↓zda, ↓zdb, ↓reduceIte, Nat.reduceEqDiff, and_true, true_and, and_self, ne_eq, not_false_eq_true, eq_self, false_and, and_false, reduceCtorEq, rws_zero, s1, s3, r4096, s8, s9, r24576, s46, r49168, s47, s48, hj', hj]
        exact ⟨i64c (by simp [sm]), rfl⟩
      · rintro l sl ro gn hl ⟨s1, s3, r4096, s9, r24576, s46, r49168, s47, s48, s12, s8, s53, s54, s55⟩
        dsimp only at s1 s3 r4096 s9 r24576 s46 r49168 s47 s48 s12 s8 s53 s54 s55
        have hl' : (l : Int) < (T.length : Nat) := by omega
        have b1 := num_mul (D.shp.nS 0 j) (D.shp.nS 0 l)
        have b2 : num (qt (pwz (atI T j) 2) (pwz (atI T l) 2)) := num_mod _
        have b3 := num_mul (num_mod (atI (row S 0) j * atI (row S 0) l)) b2
        have b4 : num (pwz (atI T j) 2) := by rw [pwz2]; exact num_mod _
        have b5 : num (pwz (atI T l) 2) := by rw [pwz2]; exact num_mod _
        have e1 : atI (row S 0) j * atI (row S 0) l % 55441 * qt (pwz (atI T j) 2) (pwz (atI T l) 2) % 55441 = wtT S T j l := rfl
        have b6 := D.cube j hj l hl i hi
        have b7 : num (wtT S T j l) := num_mod _
        unfold num at b7
        have b8 := bnd2 b6.1 b6.2 b7.1 (show wtT S T j l ≤ 55440 by omega)
        have b9 := sm_bnd (f := rwT S T i) (B := 887040) (bnd_rw S T h16 i) j
        have b10 := sm_bnd (f := tmT S T i j) (B := 55440) (num_tm S T i j) l
        have b11 := num_tm S T i j l
        have e2 : nmE S T.length (cjL S T) j l i * wtT S T j l % 55441 = tmT S T i j l := rfl
        simp (config := { maxSteps := 10000000 }) (disch := first | assumption | omega) only [go_sem, ↓reduceIte, Nat.reduceEqDiff, reduceCtorEq, Nat.reduceAdd, Nat.reduceMul, Nat.reduceLeDiff, zfu, Int.mul_def, Int.add_def, zfv, cond_false, cond_true, isub, Int.reduceToNat, s1, s3, r4096, s9, r24576, s46, r49168, s47, s48, s12, s8, s53, s54, s55, hl', hl, hi, Int.tmod_eq_emod_of_nonneg]
        refine CLLD_pure _ (c65 b4.1 b4.2 b5.1 b5.2) rfl rfl ?_
        simp (config := { maxSteps := 10000000 }) (disch := first | assumption | omega) only [go_sem, ↓reduceIte, Nat.reduceEqDiff, reduceCtorEq, Nat.reduceAdd, Nat.reduceMul, Nat.reduceLeDiff, zfu, Int.mul_def, Int.add_def, zfv, cond_false, cond_true, isub, Int.reduceToNat, s1, s3, r4096, s9, r24576, s46, r49168, s47, s48, s12, s8, s53, s54, s55, hl', hl, hi, Int.tmod_eq_emod_of_nonneg, e1]
        refine FIN_of (by kernel_rfl) ?_
        simp (config := { maxSteps := 10000000 }) (disch := first | assumption | omega) only [go_sem, ↓reduceIte, Nat.reduceEqDiff, reduceCtorEq, Nat.reduceAdd, Nat.reduceMul, Nat.reduceLeDiff, zfu, Int.mul_def, Int.add_def, zfv, cond_false, cond_true, isub, Int.reduceToNat, s1, s3, r4096, s9, r24576, s46, r49168, s47, s48, s12, s8, s53, s54, s55, hl', hl, hi, Int.tmod_eq_emod_of_nonneg, e2]
        exact ⟨i64c (by simp only [sm]; omega), i64c (by omega)⟩
      · rintro sl ro gn ⟨s1, s3, r4096, s9, r24576, s46, r49168, s47, s48, s12, s8, s53, s54, s55⟩
        dsimp only at s1 s3 r4096 s9 r24576 s46 r49168 s47 s48 s12 s8 s53 s54 s55
        have hl' : ¬ ((T.length : Nat) : Int) < (T.length : Nat) := by omega
        simp (config := { maxSteps := 10000000 }) (disch := first | assumption | omega) only [go_sem, ↓reduceIte, Nat.reduceEqDiff, reduceCtorEq, Nat.reduceAdd, Nat.reduceMul, Nat.reduceLeDiff, zfu, Int.mul_def, Int.add_def, zfv, cond_false, cond_true, isub, Int.reduceToNat, s1, s3, r4096, s9, r24576, s46, r49168, s47, s48, s12, s8, s53, s54, s55, hl']
        exact ⟨i64c rfl, i64c (by omega)⟩
    · rintro sl ro gn ⟨s1, s3, r4096, s8, s9, r24576, s46, r49168, s47, s48⟩
      dsimp only at s1 s3 r4096 s8 s9 r24576 s46 r49168 s47 s48
      have hj' : ¬ ((T.length : Nat) : Int) < (T.length : Nat) := by omega
      have b9 := sm_bnd (f := rwT S T i) (B := 887040) (bnd_rw S T h16 i) T.length
      have c91' := c91 (b := b) ha (isL_cell hb) (fun ro => isL_cellB ro hb) (by omega) (by omega) D.shp.nS
      rw [hl0] at c91'
      have b10 := num_mod (sm (rwT S T i) T.length)
      simp (config := { maxSteps := 10000000 }) (disch := first | assumption | omega) only [go_sem, ↓reduceIte, Nat.reduceEqDiff, reduceCtorEq, Nat.reduceAdd, Nat.reduceMul, Nat.reduceLeDiff, zfu, Int.mul_def, Int.add_def, zfv, cond_false, cond_true, isub, Int.reduceToNat, s1, s3, r4096, s8, s9, r24576, s46, r49168, s47, s48, hj', Int.tmod_eq_emod_of_nonneg]
      refine CLL_pure _ c91' (by simp (disch := assumption) only [pureL, pureA, isL_pure, isLL_pure, isLLL_pure, pureL_map, Bool.and_self, Bool.and_true]) rfl rfl ?_
      simp (config := { maxSteps := 10000000 }) (disch := first | assumption | omega) only [go_sem, ↓reduceIte, Nat.reduceEqDiff, reduceCtorEq, Nat.reduceAdd, Nat.reduceMul, Nat.reduceLeDiff, zfu, Int.mul_def, Int.add_def, zfv, cond_false, cond_true, isub, Int.reduceToNat, s1, s3, r4096, s8, s9, r24576, s46, r49168, s47, s48, hj']
      refine CLL_pure _ (c65 b10.1 b10.2 (num_whl S T.length).1 (num_whl S T.length).2) rfl rfl rfl ?_
      simp (config := { maxSteps := 10000000 }) (disch := first | assumption | omega) only [go_sem, ↓reduceIte, Nat.reduceEqDiff, reduceCtorEq, Nat.reduceAdd, Nat.reduceMul, Nat.reduceLeDiff, zfu, Int.mul_def, Int.add_def, zfv, cond_false, cond_true, isub, Int.reduceToNat, s1, s3, r4096, s8, s9, r24576, s46, r49168, s47, s48, hj']
      simp only [zbj, zbk, retR, resL, outT, zes, zez, oneV, ↓zcy, ↓zcz, ↓reduceIte, Nat.reduceEqDiff, Option.some.injEq, AV.sc.injEq, Value.bool.injEq, Value.int.injEq, outL, outT, zft, zcp, zed, zef, zei, zeh, List.length_cons, List.length_nil, Nat.reduceAdd, Nat.zero_add, Nat.reduceLeDiff, List.drop_zero, List.take_succ_cons, List.take_zero, zfi, zfh, Ro.dl, zdb, zda, zfe, and_self, and_true, true_and, eq_self, List.append_nil, List.nil_append, List.cons_append, ne_eq, not_false_eq_true, and_false, false_and, Bool.false_eq_true, St.ev, zes, zfn, zhk, List.length_map]
end
theorem si_both {S : List (List Int)} {T : List Int} {i : Int} (hi1 : -2^63 ≤ i) (hi2 : i < 2^63) (hS : S.length ≤ maxN) (hT : T.length ≤ maxN) (hR : ∀ i, i < S.length → (row S i).length ≤ maxN) :
    ∃ v z, CallOK Try.prog 34 [.agg [immLL S, immL T], i64 i] (.tup [i64 v, i64 z]) ∧ CallOK Try.prog 35 [.agg [immLL S, immL T], i64 i] (.tup [i64 v, i64 z]) := by
  by_cases h : chg S T i = 0
  · have hd : DataP S T := Classical.byContradiction fun hn => by rw [chg1 hn] at h; omega
    have hij : 0 ≤ i ∧ i ≤ (T.length : Int) - 1 := Classical.byContradiction fun hn => by rw [chg2 hd hn] at h; omega
    obtain ⟨i, rfl⟩ := Int.eq_ofNat_of_zero_le hij.1
    have hi : i < T.length := by omega
    exact ⟨_, _, c34d (isLL_imm S) (isL_imm T) hS hT hR hd hi, c35 (isLL_imm S) (isL_imm T) (c68d (isLL_imm S) (isL_imm T) hS hT hR hd hi)⟩
  · exact ⟨_, _, c34n hi1 hi2 (isLL_imm S) (isL_imm T) hS hT hR h, c35 (isLL_imm S) (isL_imm T) (c68n (isLL_imm S) (isL_imm T) hS hT hR h)⟩
theorem c8 {a b : AV} {S : List (List Int)} {T : List Int} {i : Int} (ha : isLLw a S) (hb : isLw b T) (l1 : S.length < 2^63) (l2 : ∀ i, (row S i).length < 2^63) (l3 : T.length < 2^63) (hi1 : -2^63 ≤ i) (hi2 : i < 2^63) : CallOK Try.prog 8 [.agg [a, b], i64 i] (bo true) := by
  have cZ := c25 (left := 1048576) ha hb l1 (fun i _ => l2 i) l3 (by decide) (by decide)
  refine call_of (fn := Try.f8) (code := bodyOf Try.f8) Try.func8 rfl (by kernel_rfl) (rfl) ?_
  intro sl hs
  have s0 : sl 0 = .agg [a, b] := hs 0
  have s1 : sl 1 = i64 i := hs 1
  by_cases hz : szD S T 1048576 < 0
  · skip
    dsimp only [Try.f8, bodyOf, Option.getD]
    simp (config := { maxSteps := 10000000 }) (disch := first | assumption | omega) only [go_sem, ↓reduceIte, Nat.reduceEqDiff, reduceCtorEq, Nat.reduceAdd, Nat.reduceMul, Nat.reduceLeDiff, zfu, Int.mul_def, Int.add_def, zfv, cond_false, cond_true, isub, Int.reduceToNat, s0, s1]
    refine CLL_pure _ cZ (by simp (disch := assumption) only [pureL, pureA, isLw_pure, isLLw_pure, pureL_map, Bool.and_self, Bool.and_true]) rfl rfl ?_
    simp (config := { maxSteps := 10000000 }) (disch := first | assumption | omega) only [go_sem, ↓reduceIte, Nat.reduceEqDiff, reduceCtorEq, Nat.reduceAdd, Nat.reduceMul, Nat.reduceLeDiff, zfu, Int.mul_def, Int.add_def, zfv, cond_false, cond_true, isub, Int.reduceToNat, s0, s1, hz]
    simp only [zbj, zbk, retR, resL, outT, zes, zez, oneV, ↓zcy, ↓zcz, ↓reduceIte, Nat.reduceEqDiff, Option.some.injEq, AV.sc.injEq, Value.bool.injEq, Value.int.injEq, outL, outT, zft, zcp, zed, zef, zei, zeh, List.length_cons, List.length_nil, Nat.reduceAdd, Nat.zero_add, Nat.reduceLeDiff, List.drop_zero, List.take_succ_cons, List.take_zero, zfi, zfh, Ro.dl, zdb, zda, zfe, and_self, and_true, true_and, eq_self, List.append_nil, List.nil_append, List.cons_append, ne_eq, not_false_eq_true, and_false, false_and, Bool.false_eq_true, St.ev, zes, zfn, zhk, List.length_map]
  · obtain ⟨z1, z2, z3⟩ := szD_ok hz
    have hS := maxN_of z1
    have hT := maxN_of z2
    have hR : ∀ i, i < S.length → (row S i).length ≤ maxN := fun i hi => maxN_of (z3 i hi)
    obtain ⟨v, z, h34, h35⟩ := si_both (i := i) hi1 hi2 hS hT hR
    have cT := c27 ha hb hS hT hR
    have cE := c12 (isLL_imm S) (isLL_imm S) (isL_imm T) (isL_imm T) hS (row_max hR) hT
    rw [decide_eq_true ⟨rfl, rfl⟩] at cE
    dsimp only [Try.f8, bodyOf, Option.getD]
    simp (config := { maxSteps := 10000000 }) (disch := first | assumption | omega) only [go_sem, ↓reduceIte, Nat.reduceEqDiff, reduceCtorEq, Nat.reduceAdd, Nat.reduceMul, Nat.reduceLeDiff, zfu, Int.mul_def, Int.add_def, zfv, cond_false, cond_true, isub, Int.reduceToNat, s0, s1]
    refine CLL_pure _ cZ (by simp (disch := assumption) only [pureL, pureA, isLw_pure, isLLw_pure, pureL_map, Bool.and_self, Bool.and_true]) rfl rfl ?_
    simp (config := { maxSteps := 10000000 }) (disch := first | assumption | omega) only [go_sem, ↓reduceIte, Nat.reduceEqDiff, reduceCtorEq, Nat.reduceAdd, Nat.reduceMul, Nat.reduceLeDiff, zfu, Int.mul_def, Int.add_def, zfv, cond_false, cond_true, isub, Int.reduceToNat, s0, s1, hz]
    refine CLL_pure _ cT (by simp (disch := assumption) only [pureL, pureA, isLw_pure, isLLw_pure, pureL_map, Bool.and_self, Bool.and_true]) rfl rfl ?_
    simp (config := { maxSteps := 10000000 }) (disch := first | assumption | omega) only [go_sem, ↓reduceIte, Nat.reduceEqDiff, reduceCtorEq, Nat.reduceAdd, Nat.reduceMul, Nat.reduceLeDiff, zfu, Int.mul_def, Int.add_def, zfv, cond_false, cond_true, isub, Int.reduceToNat, s0, s1]
    refine CLL_q _ h34 (by repeat' first | exact exqL.nil | refine exqL.cons ?_ ?_ | exact exq_sc _ _ _ (by decide) | exact exq_L (by first | assumption | exact isL_imm _) (by decide) | exact exq_LL (by assumption) (by decide) | exact exq_LLL (by assumption) (by decide) | exact exq_refL (by first | assumption | (simp only [↓zcy, ↓zcz, ↓zda, ↓zdb, ↓reduceIte, Nat.reduceEqDiff, and_true, true_and, and_self, ne_eq, not_false_eq_true, eq_self, false_and, and_false, reduceCtorEq]; done) | (simp only [↓zcy, ↓zcz, ↓zda, ↓zdb, ↓reduceIte, Nat.reduceEqDiff, and_true, true_and, and_self, ne_eq, not_false_eq_true, eq_self, false_and, and_false, reduceCtorEq]; first | rfl | assumption)) (by first | rfl | (simp only [zfe, List.length_map, tms_len]; done)) (by decide) | exact exq_refLL (by first | assumption | (simp only [↓zcy, ↓zcz, ↓zda, ↓zdb, ↓reduceIte, Nat.reduceEqDiff, and_true, true_and, and_self, ne_eq, not_false_eq_true, eq_self, false_and, and_false, reduceCtorEq]; done) | (simp only [↓zcy, ↓zcz, ↓zda, ↓zdb, ↓reduceIte, Nat.reduceEqDiff, and_true, true_and, and_self, ne_eq, not_false_eq_true, eq_self, false_and, and_false, reduceCtorEq]; first | rfl | assumption)) (by first | rfl | (simp only [zfe, List.length_map, tms_len]; done)) (by decide) | exact exq_cube (by first | assumption | (simp only [↓zcy, ↓zcz, ↓zda, ↓zdb, ↓reduceIte, Nat.reduceEqDiff, and_true, true_and, and_self, ne_eq, not_false_eq_true, eq_self, false_and, and_false, reduceCtorEq]; done) | (simp only [↓zcy, ↓zcz, ↓zda, ↓zdb, ↓reduceIte, Nat.reduceEqDiff, and_true, true_and, and_self, ne_eq, not_false_eq_true, eq_self, false_and, and_false, reduceCtorEq]; first | rfl | assumption)) (by decide) | exact exq_mat (by first | assumption | (simp only [↓zcy, ↓zcz, ↓zda, ↓zdb, ↓reduceIte, Nat.reduceEqDiff, and_true, true_and, and_self, ne_eq, not_false_eq_true, eq_self, false_and, and_false, reduceCtorEq]; done) | (simp only [↓zcy, ↓zcz, ↓zda, ↓zdb, ↓reduceIte, Nat.reduceEqDiff, and_true, true_and, and_self, ne_eq, not_false_eq_true, eq_self, false_and, and_false, reduceCtorEq]; first | rfl | assumption)) (by decide) | refine exq_agg ?_) rfl rfl rfl ?_
    simp (config := { maxSteps := 10000000 }) (disch := first | assumption | omega) only [go_sem, ↓reduceIte, Nat.reduceEqDiff, reduceCtorEq, Nat.reduceAdd, Nat.reduceMul, Nat.reduceLeDiff, zfu, Int.mul_def, Int.add_def, zfv, cond_false, cond_true, isub, Int.reduceToNat, s0, s1]
    refine CLL_pure _ cT (by simp (disch := assumption) only [pureL, pureA, isLw_pure, isLLw_pure, pureL_map, Bool.and_self, Bool.and_true]) rfl rfl ?_
    simp (config := { maxSteps := 10000000 }) (disch := first | assumption | omega) only [go_sem, ↓reduceIte, Nat.reduceEqDiff, reduceCtorEq, Nat.reduceAdd, Nat.reduceMul, Nat.reduceLeDiff, zfu, Int.mul_def, Int.add_def, zfv, cond_false, cond_true, isub, Int.reduceToNat, s0, s1]
    refine CLL_q _ h35 (by repeat' first | exact exqL.nil | refine exqL.cons ?_ ?_ | exact exq_sc _ _ _ (by decide) | exact exq_L (by first | assumption | exact isL_imm _) (by decide) | exact exq_LL (by assumption) (by decide) | exact exq_LLL (by assumption) (by decide) | exact exq_refL (by first | assumption | (simp only [↓zcy, ↓zcz, ↓zda, ↓zdb, ↓reduceIte, Nat.reduceEqDiff, and_true, true_and, and_self, ne_eq, not_false_eq_true, eq_self, false_and, and_false, reduceCtorEq]; done) | (simp only [↓zcy, ↓zcz, ↓zda, ↓zdb, ↓reduceIte, Nat.reduceEqDiff, and_true, true_and, and_self, ne_eq, not_false_eq_true, eq_self, false_and, and_false, reduceCtorEq]; first | rfl | assumption)) (by first | rfl | (simp only [zfe, List.length_map, tms_len]; done)) (by decide) | exact exq_refLL (by first | assumption | (simp only [↓zcy, ↓zcz, ↓zda, ↓zdb, ↓reduceIte, Nat.reduceEqDiff, and_true, true_and, and_self, ne_eq, not_false_eq_true, eq_self, false_and, and_false, reduceCtorEq]; done) | (simp only [↓zcy, ↓zcz, ↓zda, ↓zdb, ↓reduceIte, Nat.reduceEqDiff, and_true, true_and, and_self, ne_eq, not_false_eq_true, eq_self, false_and, and_false, reduceCtorEq]; first | rfl | assumption)) (by first | rfl | (simp only [zfe, List.length_map, tms_len]; done)) (by decide) | exact exq_cube (by first | assumption | (simp only [↓zcy, ↓zcz, ↓zda, ↓zdb, ↓reduceIte, Nat.reduceEqDiff, and_true, true_and, and_self, ne_eq, not_false_eq_true, eq_self, false_and, and_false, reduceCtorEq]; done) | (simp only [↓zcy, ↓zcz, ↓zda, ↓zdb, ↓reduceIte, Nat.reduceEqDiff, and_true, true_and, and_self, ne_eq, not_false_eq_true, eq_self, false_and, and_false, reduceCtorEq]; first | rfl | assumption)) (by decide) | exact exq_mat (by first | assumption | (simp only [↓zcy, ↓zcz, ↓zda, ↓zdb, ↓reduceIte, Nat.reduceEqDiff, and_true, true_and, and_self, ne_eq, not_false_eq_true, eq_self, false_and, and_false, reduceCtorEq]; done) | (simp only [↓zcy, ↓zcz, ↓zda, ↓zdb, ↓reduceIte, Nat.reduceEqDiff, and_true, true_and, and_self, ne_eq, not_false_eq_true, eq_self, false_and, and_false, reduceCtorEq]; first | rfl | assumption)) (by decide) | refine exq_agg ?_) rfl rfl rfl ?_
    simp (config := { maxSteps := 10000000 }) (disch := first | assumption | omega) only [go_sem, ↓reduceIte, Nat.reduceEqDiff, reduceCtorEq, Nat.reduceAdd, Nat.reduceMul, Nat.reduceLeDiff, zfu, Int.mul_def, Int.add_def, zfv, cond_false, cond_true, isub, Int.reduceToNat, s0, s1]
    refine CLLD_pure _ cT (by simp (disch := assumption) only [pureL, pureA, isLw_pure, isLLw_pure, pureL_map, Bool.and_self, Bool.and_true]) rfl ?_
    simp (config := { maxSteps := 10000000 }) (disch := first | assumption | omega) only [go_sem, ↓reduceIte, Nat.reduceEqDiff, reduceCtorEq, Nat.reduceAdd, Nat.reduceMul, Nat.reduceLeDiff, zfu, Int.mul_def, Int.add_def, zfv, cond_false, cond_true, isub, Int.reduceToNat, s0, s1]
    refine CLLD_q _ cE (by repeat' first | exact exqL.nil | refine exqL.cons ?_ ?_ | exact exq_sc _ _ _ (by decide) | exact exq_L (by first | assumption | exact isL_imm _) (by decide) | exact exq_LL (by assumption) (by decide) | exact exq_LLL (by assumption) (by decide) | exact exq_refL (by first | assumption | (simp only [↓zcy, ↓zcz, ↓zda, ↓zdb, ↓reduceIte, Nat.reduceEqDiff, and_true, true_and, and_self, ne_eq, not_false_eq_true, eq_self, false_and, and_false, reduceCtorEq]; done) | (simp only [↓zcy, ↓zcz, ↓zda, ↓zdb, ↓reduceIte, Nat.reduceEqDiff, and_true, true_and, and_self, ne_eq, not_false_eq_true, eq_self, false_and, and_false, reduceCtorEq]; first | rfl | assumption)) (by first | rfl | (simp only [zfe, List.length_map, tms_len]; done)) (by decide) | exact exq_refLL (by first | assumption | (simp only [↓zcy, ↓zcz, ↓zda, ↓zdb, ↓reduceIte, Nat.reduceEqDiff, and_true, true_and, and_self, ne_eq, not_false_eq_true, eq_self, false_and, and_false, reduceCtorEq]; done) | (simp only [↓zcy, ↓zcz, ↓zda, ↓zdb, ↓reduceIte, Nat.reduceEqDiff, and_true, true_and, and_self, ne_eq, not_false_eq_true, eq_self, false_and, and_false, reduceCtorEq]; first | rfl | assumption)) (by first | rfl | (simp only [zfe, List.length_map, tms_len]; done)) (by decide) | exact exq_cube (by first | assumption | (simp only [↓zcy, ↓zcz, ↓zda, ↓zdb, ↓reduceIte, Nat.reduceEqDiff, and_true, true_and, and_self, ne_eq, not_false_eq_true, eq_self, false_and, and_false, reduceCtorEq]; done) | (simp only [↓zcy, ↓zcz, ↓zda, ↓zdb, ↓reduceIte, Nat.reduceEqDiff, and_true, true_and, and_self, ne_eq, not_false_eq_true, eq_self, false_and, and_false, reduceCtorEq]; first | rfl | assumption)) (by decide) | exact exq_mat (by first | assumption | (simp only [↓zcy, ↓zcz, ↓zda, ↓zdb, ↓reduceIte, Nat.reduceEqDiff, and_true, true_and, and_self, ne_eq, not_false_eq_true, eq_self, false_and, and_false, reduceCtorEq]; done) | (simp only [↓zcy, ↓zcz, ↓zda, ↓zdb, ↓reduceIte, Nat.reduceEqDiff, and_true, true_and, and_self, ne_eq, not_false_eq_true, eq_self, false_and, and_false, reduceCtorEq]; first | rfl | assumption)) (by decide) | refine exq_agg ?_) rfl rfl ?_
    simp (config := { maxSteps := 10000000 }) (disch := first | assumption | omega) only [go_sem, ↓reduceIte, Nat.reduceEqDiff, reduceCtorEq, Nat.reduceAdd, Nat.reduceMul, Nat.reduceLeDiff, zfu, Int.mul_def, Int.add_def, zfv, cond_false, cond_true, isub, Int.reduceToNat, s0, s1]
    refine FIN_of (by kernel_rfl) ?_
    simp (config := { maxSteps := 10000000 }) (disch := first | assumption | omega) only [go_sem, ↓reduceIte, Nat.reduceEqDiff, reduceCtorEq, Nat.reduceAdd, Nat.reduceMul, Nat.reduceLeDiff, zfu, Int.mul_def, Int.add_def, zfv, cond_false, cond_true, isub, Int.reduceToNat, s0, s1]
    simp only [zbj, zbk, retR, resL, outT, zes, zez, oneV, ↓zcy, ↓zcz, ↓reduceIte, Nat.reduceEqDiff, Option.some.injEq, AV.sc.injEq, Value.bool.injEq, Value.int.injEq, outL, outT, zft, zcp, zed, zef, zei, zeh, List.length_cons, List.length_nil, Nat.reduceAdd, Nat.zero_add, Nat.reduceLeDiff, List.drop_zero, List.take_succ_cons, List.take_zero, zfi, zfh, Ro.dl, zdb, zda, zfe, and_self, and_true, true_and, eq_self, List.append_nil, List.nil_append, List.cons_append, ne_eq, not_false_eq_true, and_false, false_and, Bool.false_eq_true, St.ev, zes, zfn, zhk, List.length_map]
end Go.Proofs.Ytifgeenipinnmaa
