/- The whole dimension; products of matrices (reference). -/
import Derived.Test.YtifgeenipinnmaaD1
set_option linter.all false
namespace Go.Proofs.Ytifgeenipinnmaa
open Go.RowKit

theorem noRef_rowL (xs : List Int) : noRef (rowL xs) = true := noRef_row _ (noRefL_map _ (fun _ => rfl) _)
theorem noRef_rowLL (xss : List (List Int)) : noRef (rowLL xss) = true := noRef_row _ (noRefL_map _ (fun xs => noRef_rowL xs) _)
theorem noIL_map {α : Type} (f : α → AV) (h : ∀ i, noI (f i) = true) : ∀ l : List α, noIL (l.map f) = true
  | [] => rfl
  | a :: l => by simp only [List.map_cons, noIL, h, noIL_map f h l, Bool.and_self]
theorem noI_row (cs : List AV) (h : noIL cs = true) : noI (.row cs) = true := by simpa only [noI] using h
theorem noI_rowL (xs : List Int) : noI (rowL xs) = true := noI_row _ (noIL_map _ (fun _ => rfl) _)
theorem noI_rowLL (xss : List (List Int)) : noI (rowLL xss) = true := noI_row _ (noIL_map _ (fun xs => noI_rowL xs) _)
theorem isLL_row {a : AV} {xss : List (List Int)} (h : isLL a xss) {k : Nat} (hk : k < xss.length) : isL (atA a k) (row xss k) := isLL_at h hk

/-- The whole dimension. -/
def whl (S : List (List Int)) (n : Nat) : Int := sm (fun j => atI (row S 0) j * atI (row S 0) j) n % 55441
theorem num_whl (S : List (List Int)) (n : Nat) : num (whl S n) := num_mod _

set_option maxRecDepth 1000000 in
theorem c67 {a b : AV} {S : List (List Int)} {T : List Int} (ha : isLL a S) (hb : isL b T) (hT : T.length ≤ maxN) (h0 : 0 < S.length) (hl : T.length ≤ (row S 0).length) (nS : numLL S) : CallOK Try.prog 67 [.agg [a, b]] (i64 (whl S T.length)) := by
  refine call_of (fn := Try.f67) (code := bodyOf Try.f67) Try.func67 rfl (by kernel_rfl) rfl ?_
  intro sl hs
  have s0 : sl 0 = .agg [a, b] := hs 0
  have hT' : T.length ≤ 4294967296 := hT
  simp only [Try.f67, bodyOf, Option.getD, go_sem, ↓reduceIte, Nat.reduceEqDiff, reduceCtorEq, Nat.reduceAdd, Nat.reduceMul, Nat.reduceLeDiff, ti2, ti3, ti4, ti22, ti25, s0, isLL_cellB _ ha, isL_cellB _ hb]
  refine WK_for (fun k st => st.sl 1 = .ptr 4096 1 [] 0 ∧ st.ro 4096 1 = some (.bx [a, b]) ∧ st.sl 4 = i64 (k : Int) ∧ st.sl 3 = i64 (sm (fun j => atI (row S 0) j * atI (row S 0) j % 55441) k)) T.length ?_ ?_ ?_
  · simp only [↓zcy, ↓zcz, ↓zda, ↓zdb, ↓reduceIte, Nat.reduceEqDiff, and_true, true_and, and_self, ne_eq, not_false_eq_true, eq_self, false_and, and_false, reduceCtorEq]
    exact ⟨rfl, rfl⟩
  · rintro k sl ro gn hk ⟨s1, r1, s4, s3⟩
    dsimp only at s1 r1 s4 s3
    have hk' : (k : Int) < T.length := by omega
    have h1 := isLL_row ha h0
    have hb1 := num_mul (nS 0 k) (nS 0 k)
    have hb2 := sm_bnd (f := fun j => atI (row S 0) j * atI (row S 0) j % 55441) (B := 55440) (fun j => by have := num_mod (atI (row S 0) j * atI (row S 0) j); unfold num at this; omega) k
    have hb3 := num_mod (atI (row S 0) k * atI (row S 0) k)
    unfold num at hb3
    simp (config := { maxSteps := 10000000 }) (disch := first | omega | assumption) only [go_sem, ↓reduceIte, Nat.reduceEqDiff, reduceCtorEq, Nat.reduceAdd, Nat.reduceMul, Nat.reduceLeDiff, zfu, Int.mul_def, Int.add_def, zfv, cond_false, cond_true, isub, ti2, ti3, ti4, ti22, ti23, ti25, s1, r1, s4, s3, isLL_lift _ _ _ ha, isL_lift _ _ _ hb, isL_len hb, isLL_idx0 ha h0, isL_idx h1 (Nat.lt_of_lt_of_le hk hl), isLL_sites ha, isL_sites h1, hk', Int.tmod_eq_emod_of_nonneg]
    refine FIN_of (by kernel_rfl) ?_
    simp (config := { maxSteps := 10000000 }) (disch := first | omega | assumption) only [go_sem, ↓reduceIte, Nat.reduceEqDiff, reduceCtorEq, Nat.reduceAdd, Nat.reduceMul, Nat.reduceLeDiff, zfu, Int.mul_def, Int.add_def, zfv, cond_false, cond_true, isub, ti2, ti3, ti4, ti23, s1, r1, s4, s3]
    exact ⟨i64c (by omega), i64c rfl⟩
  · rintro sl ro gn ⟨s1, r1, s4, s3⟩
    dsimp only at s1 r1 s4 s3
    have hk' : ¬ (T.length : Int) < T.length := by omega
    have hb2 := sm_bnd (f := fun j => atI (row S 0) j * atI (row S 0) j % 55441) (B := 55440) (fun j => by have := num_mod (atI (row S 0) j * atI (row S 0) j); unfold num at this; omega) T.length
    simp (config := { maxSteps := 10000000 }) (disch := first | omega | assumption) only [go_sem, ↓reduceIte, Nat.reduceEqDiff, reduceCtorEq, Nat.reduceAdd, Nat.reduceMul, Nat.reduceLeDiff, zfu, Int.mul_def, Int.add_def, zfv, cond_false, cond_true, isub, ti2, ti3, ti4, ti22, ti23, ti25, s1, r1, s4, s3, isLL_lift _ _ _ ha, isL_lift _ _ _ hb, isL_len hb, hk', Int.tmod_eq_emod_of_nonneg]
    simp only [zbj, zbk, retR, resL, outT, zes, zez, oneV, ↓zcy, ↓zcz, ↓reduceIte, Nat.reduceEqDiff, Option.some.injEq, AV.sc.injEq, Value.bool.injEq, Value.int.injEq, outL, outT, zft, zcp, zed, zef, zei, zeh, List.length_cons, List.length_nil, Nat.reduceAdd, Nat.zero_add, Nat.reduceLeDiff, List.drop_zero, List.take_succ_cons, List.take_zero, zfi, zfh, Ro.dl, zdb, zda, zfe, and_self, and_true, true_and, eq_self, List.append_nil, List.nil_append, List.cons_append, ne_eq, not_false_eq_true, and_false, false_and, Bool.false_eq_true, St.ev, zes, zfn, sm_mod, whl]

set_option maxRecDepth 1000000 in
theorem c91 {a b : AV} {S : List (List Int)} (ha : isLL a S) (hb : zez b = true) (hB : ∀ ro, cellOkB ro b = true) (hS : (row S 0).length ≤ maxN) (h0 : 0 < S.length) (nS : numLL S) : CallOK Try.prog 91 [.agg [a, b]] (i64 (whl S (row S 0).length)) := by
  refine call_of (fn := Try.f91) (code := bodyOf Try.f91) Try.func91 rfl (by kernel_rfl) rfl ?_
  intro sl hs
  have s0 : sl 0 = .agg [a, b] := hs 0
  have h1 := isLL_row ha h0
  simp only [Try.f91, bodyOf, Option.getD, go_sem, ↓reduceIte, Nat.reduceEqDiff, reduceCtorEq, Nat.reduceAdd, Nat.reduceMul, Nat.reduceLeDiff, ti2, ti3, ti4, ti22, ti23, ti25, s0, isLL_cellB _ ha, hB, isLL_lift _ _ _ ha, isLL_idx0 ha h0, isLL_sites ha]
  refine CLLD_pure _ (c119 h1 h1 hS (Nat.le_refl _) (nS 0) (nS 0)) (by simp only [pureL, isL_pure h1, Bool.and_self]) rfl ?_
  simp (config := { maxSteps := 10000000 }) (disch := first | omega | assumption) only [go_sem, ↓reduceIte, Nat.reduceEqDiff, reduceCtorEq, Nat.reduceAdd, Nat.reduceMul, Nat.reduceLeDiff, zfu, Int.mul_def, Int.add_def, zfv, cond_false, cond_true, isub, ti2, pureL, isL_pure h1]
  refine FIN_of (by kernel_rfl) ?_
  simp (config := { maxSteps := 10000000 }) (disch := first | omega | assumption) only [go_sem, ↓reduceIte, Nat.reduceEqDiff, reduceCtorEq, Nat.reduceAdd, Nat.reduceMul, Nat.reduceLeDiff, zfu, Int.mul_def, Int.add_def, zfv, cond_false, cond_true, isub, ti2]
  simp only [zbj, zbk, retR, resL, outT, zes, zez, oneV, ↓zcy, ↓zcz, ↓reduceIte, Nat.reduceEqDiff, Option.some.injEq, AV.sc.injEq, Value.bool.injEq, Value.int.injEq, outL, outT, zft, zcp, zed, zef, zei, zeh, List.length_cons, List.length_nil, Nat.reduceAdd, Nat.zero_add, Nat.reduceLeDiff, List.drop_zero, List.take_succ_cons, List.take_zero, zfi, zfh, Ro.dl, zdb, zda, zfe, and_self, and_true, true_and, eq_self, List.append_nil, List.nil_append, List.cons_append, ne_eq, not_false_eq_true, and_false, false_and, Bool.false_eq_true, St.ev, zes, zfn, whl]

/-- The product of matrices: rows of A, columns of B. -/
def tmE (A B : List (List Int)) (i j : Nat) : Int := sm (fun k => atI (row A i) k * atI (row B k) j) B.length % 55441
def tms (A B : List (List Int)) : List (List Int) := rws (fun i => rws (fun j => tmE A B i j) B.length) A.length

set_option maxRecDepth 1000000 in
set_option maxHeartbeats 10000000 in
theorem c86 {a b : AV} {A B : List (List Int)} (ha : isLL a A) (hb : isLL b B) (hA : A.length ≤ maxN) (hB : B.length ≤ maxN) (lA : ∀ i, i < A.length → B.length ≤ (row A i).length) (lB : ∀ i, i < B.length → B.length ≤ (row B i).length) (nA : numLL A) (nB : numLL B) :
    CallOK Try.prog 86 [a, b] (rowLL (tms A B)) := by
  have e0 : rowLL (tms A B) = .row (rws (fun i => .row (rws (fun j => i64 (tmE A B i j)) B.length)) A.length) := by simp only [rowLL, rowL, tms, rws_map]
  refine call_of (fn := Try.f86) (code := bodyOf Try.f86) Try.func86 rfl (by kernel_rfl) (noRef_rowLL _) ?_
  rw [e0]
  intro sl hs
  have s0 : sl 0 = a := hs 0
  have s1 : sl 1 = b := hs 1
  have hA' : A.length ≤ 4294967296 := hA
  have hB' : B.length ≤ 4294967296 := hB
  simp only [Try.f86, bodyOf, Option.getD, go_sem, ↓reduceIte, Nat.reduceEqDiff, reduceCtorEq, Nat.reduceAdd, Nat.reduceMul, Nat.reduceLeDiff, ti2, ti3, ti4, ti22, ti23, s0, s1]
  refine WK_for (fun i st => st.sl 0 = a ∧ st.sl 1 = b ∧ st.sl 6 = i64 (i : Int) ∧ st.sl 5 = .ref 8192 (st.gn 8192) [] 0 i ∧ st.ro 8192 (st.gn 8192) = some (.row (rws (fun i => .row (rws (fun j => i64 (tmE A B i j)) B.length)) i))) A.length ?_ ?_ ?_
  · simp only [↓zcy, ↓zcz, ↓zda, ↓zdb, ↓reduceIte, Nat.reduceEqDiff, and_true, true_and, and_self, ne_eq, not_false_eq_true, eq_self, false_and, and_false, reduceCtorEq, s0, s1, rws_zero]
    rfl
  · rintro i sl ro gn hi ⟨s0, s1, s6, s5, r5⟩
    dsimp only at s0 s1 s6 s5 r5
    have hi' : (i : Int) < A.length := by omega
    have hi2 : i + 1 ≤ 4294967296 := by omega
    simp (config := { maxSteps := 10000000 }) (disch := first | omega | assumption) only [go_sem, ↓reduceIte, Nat.reduceEqDiff, reduceCtorEq, Nat.reduceAdd, Nat.reduceMul, Nat.reduceLeDiff, zfu, Int.mul_def, Int.add_def, zfv, cond_false, cond_true, isub, ti2, ti3, ti4, ti22, ti23, s0, s1, s6, isLL_len ha, hi']
    refine WK_for (fun j st => st.sl 0 = a ∧ st.sl 1 = b ∧ st.sl 6 = i64 (i : Int) ∧ st.sl 5 = .ref 8192 (st.gn 8192) [] 0 i ∧ st.ro 8192 (st.gn 8192) = some (.row (rws (fun i => .row (rws (fun j => i64 (tmE A B i j)) B.length)) i)) ∧
      st.sl 8 = i64 (j : Int) ∧ st.sl 7 = .ref 24576 (st.gn 24576) [] 0 j ∧ st.ro 24576 (st.gn 24576) = some (.row (rws (fun j => i64 (tmE A B i j)) j))) B.length ?_ ?_ ?_
    · simp only [↓zcy, ↓zcz, ↓zda, ↓zdb, ↓reduceIte, Nat.reduceEqDiff, and_true, true_and, and_self, ne_eq, not_false_eq_true, eq_self, false_and, and_false, reduceCtorEq, s0, s1, s6, s5, r5, rws_zero]
      rfl
    · rintro j sl ro gn hj ⟨s0, s1, s6, s5, r5, s8, s7, r7⟩
      dsimp only at s0 s1 s6 s5 r5 s8 s7 r7
      have hj' : (j : Int) < B.length := by omega
      have hj2 : j + 1 ≤ 4294967296 := by omega
      simp (config := { maxSteps := 10000000 }) (disch := first | omega | assumption) only [go_sem, ↓reduceIte, Nat.reduceEqDiff, reduceCtorEq, Nat.reduceAdd, Nat.reduceMul, Nat.reduceLeDiff, zfu, Int.mul_def, Int.add_def, zfv, cond_false, cond_true, isub, ti2, ti3, ti4, ti22, ti23, s0, s1, s8, isLL_len hb, hj']
      refine WK_for (fun k st => st.sl 0 = a ∧ st.sl 1 = b ∧ st.sl 6 = i64 (i : Int) ∧ st.sl 5 = .ref 8192 (st.gn 8192) [] 0 i ∧ st.ro 8192 (st.gn 8192) = some (.row (rws (fun i => .row (rws (fun j => i64 (tmE A B i j)) B.length)) i)) ∧
        st.sl 8 = i64 (j : Int) ∧ st.sl 7 = .ref 24576 (st.gn 24576) [] 0 j ∧ st.ro 24576 (st.gn 24576) = some (.row (rws (fun j => i64 (tmE A B i j)) j)) ∧
        st.sl 10 = i64 (k : Int) ∧ st.sl 9 = i64 (sm (fun k => atI (row A i) k * atI (row B k) j % 55441) k)) B.length ?_ ?_ ?_
      · simp only [↓zcy, ↓zcz, ↓zda, ↓zdb, ↓reduceIte, Nat.reduceEqDiff, and_true, true_and, and_self, ne_eq, not_false_eq_true, eq_self, false_and, and_false, reduceCtorEq, s0, s1, s6, s5, r5, s8, s7, r7]
        exact ⟨rfl, rfl⟩
      · rintro k sl ro gn hk ⟨s0, s1, s6, s5, r5, s8, s7, r7, s10, s9⟩
        dsimp only at s0 s1 s6 s5 r5 s8 s7 r7 s10 s9
        have hk' : (k : Int) < B.length := by omega
        have h1 := isLL_row ha hi
        have h2 := isLL_row hb hk
        have hb1 := num_mul (nA i k) (nB k j)
        have hb2 := sm_bnd (f := fun k => atI (row A i) k * atI (row B k) j % 55441) (B := 55440) (fun k => by have := num_mod (atI (row A i) k * atI (row B k) j); unfold num at this; omega) k
        have hb3 := num_mod (atI (row A i) k * atI (row B k) j)
        unfold num at hb3
        simp (config := { maxSteps := 10000000 }) (disch := first | omega | assumption) only [go_sem, ↓reduceIte, Nat.reduceEqDiff, reduceCtorEq, Nat.reduceAdd, Nat.reduceMul, Nat.reduceLeDiff, zfu, Int.mul_def, Int.add_def, zfv, cond_false, cond_true, isub, ti2, ti3, ti4, ti22, ti23, s0, s1, s6, s8, s9, s10, isLL_len hb, isLL_idx ha hi, isLL_idx hb hk, isL_idx h1 (Nat.lt_of_lt_of_le hk (lA i hi)), isL_idx h2 (Nat.lt_of_lt_of_le hj (lB k hk)), isLL_sites ha, isLL_sites hb, isL_sites h1, isL_sites h2, hk', Int.tmod_eq_emod_of_nonneg]
        refine FIN_of (by kernel_rfl) ?_
        simp (config := { maxSteps := 10000000 }) (disch := first | omega | assumption) only [go_sem, ↓reduceIte, Nat.reduceEqDiff, reduceCtorEq, Nat.reduceAdd, Nat.reduceMul, Nat.reduceLeDiff, zfu, Int.mul_def, Int.add_def, zfv, cond_false, cond_true, isub, ti2, ti3, ti4, ti23, s0, s1, s6, s5, r5, s8, s7, r7, s10, s9]
        exact ⟨i64c (by omega), i64c rfl⟩
      · rintro sl ro gn ⟨s0, s1, s6, s5, r5, s8, s7, r7, s10, s9⟩
        dsimp only at s0 s1 s6 s5 r5 s8 s7 r7 s10 s9
        have hk' : ¬ (B.length : Int) < B.length := by omega
        have hb2 := sm_bnd (f := fun k => atI (row A i) k * atI (row B k) j % 55441) (B := 55440) (fun k => by have := num_mod (atI (row A i) k * atI (row B k) j); unfold num at this; omega) B.length
        have e1 : sm (fun k => atI (row A i) k * atI (row B k) j % 55441) B.length % 55441 = tmE A B i j := sm_mod _ _
        simp (config := { maxSteps := 10000000 }) (disch := first | omega | assumption) only [go_sem, ↓reduceIte, Nat.reduceEqDiff, reduceCtorEq, Nat.reduceAdd, Nat.reduceMul, Nat.reduceLeDiff, zfu, Int.mul_def, Int.add_def, zfv, cond_false, cond_true, isub, ti2, ti3, ti4, ti22, ti23, s0, s1, s6, s5, r5, s8, s7, r7, s10, s9, isLL_len hb, hk', hj2, Int.tmod_eq_emod_of_nonneg, e1]
        exact i64c (by omega)
    · rintro sl ro gn ⟨s0, s1, s6, s5, r5, s8, s7, r7⟩
      dsimp only at s0 s1 s6 s5 r5 s8 s7 r7
      have hj' : ¬ (B.length : Int) < B.length := by omega
      simp (config := { maxSteps := 10000000 }) (disch := first | omega | assumption) only [go_sem, ↓reduceIte, Nat.reduceEqDiff, reduceCtorEq, Nat.reduceAdd, Nat.reduceMul, Nat.reduceLeDiff, zfu, Int.mul_def, Int.add_def, zfv, cond_false, cond_true, isub, ti2, ti3, ti4, ti22, ti23, s0, s1, s6, s5, r5, s8, s7, r7, isLL_len hb, hj', hi2]
      exact i64c (by omega)
  · rintro sl ro gn ⟨s0, s1, s6, s5, r5⟩
    dsimp only at s0 s1 s6 s5 r5
    have hi' : ¬ (A.length : Int) < A.length := by omega
    simp (config := { maxSteps := 10000000 }) (disch := first | omega | assumption) only [go_sem, ↓reduceIte, Nat.reduceEqDiff, reduceCtorEq, Nat.reduceAdd, Nat.reduceMul, Nat.reduceLeDiff, zfu, Int.mul_def, Int.add_def, zfv, cond_false, cond_true, isub, ti2, ti3, ti4, ti22, ti23, s0, s1, s6, s5, r5, isLL_len ha, hi']
    simp only [zbj, zbk, retR, resL, outT, zes, zez, oneV, ↓zcy, ↓zcz, ↓reduceIte, Nat.reduceEqDiff, Option.some.injEq, AV.sc.injEq, Value.bool.injEq, Value.int.injEq, outL, outT, zft, zcp, zed, zef, zei, zeh, List.length_cons, List.length_nil, Nat.reduceAdd, Nat.zero_add, Nat.reduceLeDiff, List.drop_zero, List.take_succ_cons, List.take_zero, zfi, zfh, Ro.dl, zdb, zda, zfe, and_self, and_true, true_and, eq_self, List.append_nil, List.nil_append, List.cons_append, ne_eq, not_false_eq_true, and_false, false_and, Bool.false_eq_true, St.ev, zes, zfn, r5]
end Go.Proofs.Ytifgeenipinnmaa
