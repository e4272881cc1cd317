/- The doubles of cyclic groups. -/
import Derived.Test.YtifgeenipinnmaaK4
set_option linter.all false
namespace Go.Proofs.Ytifgeenipinnmaa
open Go.RowKit

theorem mulB {x y X Y : Int} (h1 : 0 ≤ x) (h2 : x ≤ X) (h3 : 0 ≤ y) (h4 : y ≤ Y) : 0 ≤ x * y ∧ x * y ≤ X * Y :=
  ⟨Int.mul_nonneg h1 h3, Int.mul_le_mul h2 h4 h3 (by omega)⟩

theorem dvB {n x : Int} (h1 : 1 ≤ n) (h2 : n ≤ 4) (h3 : 0 ≤ x) (h4 : x < n * n) : 0 ≤ x / n ∧ x / n ≤ 3 ∧ 0 ≤ x % n ∧ x % n ≤ 3 := by
  have h5 : x / n < n := Int.ediv_lt_of_lt_mul (by omega) h4
  have h6 : 0 ≤ x / n := Int.ediv_nonneg h3 (by omega)
  have h7 := Int.emod_nonneg x (b := n) (by omega)
  have h8 := Int.emod_lt_of_pos x (b := n) (by omega)
  omega
theorem noRefL_map {α : Type} (f : α → AV) (h : ∀ i, noRef (f i) = true) : ∀ l : List α, noRefL (l.map f) = true
  | [] => rfl
  | a :: l => by simp only [List.map_cons, noRefL, h, noRefL_map f h l, Bool.and_self]
theorem noRefL_rws (f : Nat → AV) (n : Nat) (h : ∀ i, noRef (f i) = true) : noRefL (rws f n) = true := noRefL_map f h _
theorem noRef_row (cs : List AV) (h : noRefL cs = true) : noRef (.row cs) = true := by simpa only [noRef] using h
theorem noRef_dbl (f : Nat → Nat → Int) (g : Nat → Int) (m m' : Nat) : noRef (.agg [.row (rws (fun i => .row (rws (fun j => i64 (f i j)) m)) m'), .row (rws (fun i => i64 (g i)) m')]) = true := by
  have h1 : noRefL (rws (fun i => AV.row (rws (fun j => i64 (f i j)) m)) m') = true := noRefL_rws _ _ fun i => noRef_row _ (noRefL_rws _ _ fun j => rfl)
  have h2 : noRefL (rws (fun i => i64 (g i)) m') = true := noRefL_rws _ _ fun i => rfl
  simp only [noRef, noRefL, h1, h2, Bool.and_self]
/-- The exponents of the double. -/
def dE (n k : Int) (i j : Nat) : Int := n * ((i : Int) / n * ((j : Int) % n) + (j : Int) / n * ((i : Int) % n)) + 2 * k * ((i : Int) / n) * ((j : Int) / n)
def dT (n k : Int) (i : Nat) : Int := n * ((i : Int) / n) * ((i : Int) % n) + k * ((i : Int) / n) * ((i : Int) / n)
def dz (n : Int) : Int := pw 38 (55440 / (n * n))

set_option maxRecDepth 1000000 in
set_option maxHeartbeats 10000000 in
theorem c41 {n k : Int} (h1 : 1 ≤ n) (h2 : n ≤ 4) (h3 : 0 ≤ k) (h4 : k < n) : CallOK Try.prog 41 [i64 n, i64 k]
    (.agg [.row (rws (fun i => .row (rws (fun j => i64 (pwz (dz n) (-(dE n k i j)))) (n * n).toNat)) (n * n).toNat), .row (rws (fun i => i64 (pw (dz n) (dT n k i))) (n * n).toNat)]) := by
  refine call_of (fn := Try.f41) (code := bodyOf Try.f41) Try.func41 rfl (by kernel_rfl) (noRef_dbl _ _ _ _) ?_
  intro sl hs
  have s0 : sl 0 = i64 n := hs 0
  have s1 : sl 1 = i64 k := hs 1
  have hnn := mulB (x := n) (y := n) (X := 4) (Y := 4) (by omega) h2 (by omega) h2
  have hn1 : 1 ≤ n * n := Int.mul_le_mul (a := 1) (b := 1) h1 h1 (by omega) (by omega)
  simp (config := { maxSteps := 10000000 }) (disch := first | omega | assumption) only [Try.f41, bodyOf, Option.getD, go_sem, ↓reduceIte, Nat.reduceEqDiff, reduceCtorEq, Nat.reduceAdd, Nat.reduceMul, Nat.reduceLeDiff, zfu, Int.mul_def, Int.add_def, zfv, cond_false, cond_true, isub, ti2, ti22, ti23, ti25, s0, s1]
  refine CLL_pure _ (c75 hn1 (by omega)) rfl rfl rfl ?_
  simp (config := { maxSteps := 10000000 }) (disch := first | omega | assumption) only [go_sem, ↓reduceIte, Nat.reduceEqDiff, reduceCtorEq, Nat.reduceAdd, Nat.reduceMul, Nat.reduceLeDiff, zfu, Int.mul_def, Int.add_def, zfv, cond_false, cond_true, isub, ti2, ti22, ti23, ti25, s0, s1, List.map_nil]
  have hm : ((n * n).toNat : Int) = n * n := Int.toNat_of_nonneg hnn.1
  refine WK_for (fun i st => st.sl 0 = i64 n ∧ st.sl 1 = i64 k ∧ st.sl 4 = .ptr 4096 1 [] 0 ∧ st.sl 5 = i64 (dz n) ∧ st.sl 6 = .ptr 8272 1 [] 0 ∧ st.sl 21 = i64 (n * n) ∧ st.sl 22 = i64 (i : Int) ∧
    st.ro 4096 1 = some (.bx [nilA, nilA]) ∧ 
    ((i = 0 ∧ st.ro 8272 1 = some (.bx [nilA, nilA])) ∨ (0 < i ∧ st.ro 8272 1 = some (.bx [.ref 57408 (st.gn 57408) [] 0 i, .ref 57680 (st.gn 57680) [] 0 i]) ∧
      st.ro 57408 (st.gn 57408) = some (.row (rws (fun i => .row (rws (fun j => i64 (pwz (dz n) (-(dE n k i j)))) (n * n).toNat)) i)) ∧
      st.ro 57680 (st.gn 57680) = some (.row (rws (fun i => i64 (pw (dz n) (dT n k i))) i))))) (n * n).toNat ?_ ?_ ?_
  · simp only [↓zcy, ↓zcz, ↓zda, ↓zdb, ↓reduceIte, Nat.reduceEqDiff, and_true, true_and, and_self, ne_eq, not_false_eq_true, eq_self, false_and, and_false, reduceCtorEq, s0, s1, dz, pw]
    exact ⟨rfl, .inl trivial⟩
  · rintro i sl ro gn hi ⟨s0, s1, s4, s5, s6, s21, s22, r1, r2⟩
    dsimp only at s0 s1 s4 s5 s6 s21 s22 r1 r2
    have hi' : (i : Int) < n * n := by omega
    have ha := dvB h1 h2 (Int.natCast_nonneg i) hi'
    simp (config := { maxSteps := 10000000 }) (disch := first | omega | assumption) only [go_sem, ↓reduceIte, Nat.reduceEqDiff, reduceCtorEq, Nat.reduceAdd, Nat.reduceMul, Nat.reduceLeDiff, zfu, Int.mul_def, Int.add_def, zfv, cond_false, cond_true, isub, ti2, ti22, ti23, ti25, s0, s1, s21, s22, hi', Int.tdiv_eq_ediv_of_nonneg, Int.tmod_eq_emod_of_nonneg]
    refine FIN_of (by kernel_rfl) ?_
    simp (config := { maxSteps := 10000000 }) (disch := first | omega | assumption) only [go_sem, ↓reduceIte, Nat.reduceEqDiff, reduceCtorEq, Nat.reduceAdd, Nat.reduceMul, Nat.reduceLeDiff, zfu, Int.mul_def, Int.add_def, zfv, cond_false, cond_true, isub, ti2, ti22, ti23, ti25, s0, s1, s21, s22]
    refine WK_for (fun j st => st.sl 0 = i64 n ∧ st.sl 1 = i64 k ∧ st.sl 4 = .ptr 4096 1 [] 0 ∧ st.sl 5 = i64 (dz n) ∧ st.sl 6 = .ptr 8272 1 [] 0 ∧ st.sl 8 = i64 ((i : Int) / n) ∧ st.sl 9 = i64 ((i : Int) % n) ∧ st.sl 21 = i64 (n * n) ∧ st.sl 22 = i64 (i : Int) ∧
      st.sl 34 = i64 (n * n) ∧ st.sl 35 = i64 (j : Int) ∧ st.sl 10 = .ref 28672 (st.gn 28672) [] 0 j ∧ st.ro 28672 (st.gn 28672) = some (.row (rws (fun j => i64 (pwz (dz n) (-(dE n k i j)))) j)) ∧
      st.ro 4096 1 = some (.bx [nilA, nilA]) ∧
      ((i = 0 ∧ st.ro 8272 1 = some (.bx [nilA, nilA])) ∨ (0 < i ∧ st.ro 8272 1 = some (.bx [.ref 57408 (st.gn 57408) [] 0 i, .ref 57680 (st.gn 57680) [] 0 i]) ∧
      st.ro 57408 (st.gn 57408) = some (.row (rws (fun i => .row (rws (fun j => i64 (pwz (dz n) (-(dE n k i j)))) (n * n).toNat)) i)) ∧
      st.ro 57680 (st.gn 57680) = some (.row (rws (fun i => i64 (pw (dz n) (dT n k i))) i))))) (n * n).toNat ?_ ?_ ?_
    · simp only [↓zcy, ↓zcz, ↓zda, ↓zdb, ↓reduceIte, Nat.reduceEqDiff, and_true, true_and, and_self, ne_eq, not_false_eq_true, eq_self, false_and, and_false, reduceCtorEq, s0, s1, s4, s5, s6, s21, s22, r1, r2, rws_zero]
      rfl
    · rintro j sl ro gn hj ⟨s0, s1, s4, s5, s6, s8, s9, s21, s22, s34, s35, s10, r0, r1, r2⟩
      dsimp only at s0 s1 s4 s5 s6 s8 s9 s21 s22 s34 s35 s10 r0 r1 r2
      have hj' : (j : Int) < n * n := by omega
      simp (config := { maxSteps := 10000000 }) (disch := first | omega | assumption) only [go_sem, ↓reduceIte, Nat.reduceEqDiff, reduceCtorEq, Nat.reduceAdd, Nat.reduceMul, Nat.reduceLeDiff, zfu, Int.mul_def, Int.add_def, zfv, cond_false, cond_true, isub, ti2, ti22, ti23, ti25, s0, s1, s34, s35, hj', Int.tdiv_eq_ediv_of_nonneg, Int.tmod_eq_emod_of_nonneg]
      refine FIN_of (by kernel_rfl) ?_
      obtain ⟨a1, a2, a3, a4⟩ := ha
      obtain ⟨b1, b2, b3, b4⟩ := dvB h1 h2 (Int.natCast_nonneg j) hj'
      have hmx : j + 1 ≤ 4294967296 := by omega
      have p1 := mulB a1 a2 b3 b4
      have p2 := mulB b1 b2 a3 a4
      have p3 := mulB (x := n) (X := 4) (y := (i : Int) / n * ((j : Int) % n) + (j : Int) / n * ((i : Int) % n)) (Y := 18) (by omega) h2 (by omega) (by omega)
      have p5 := mulB (x := 2 * k) (X := 6) (by omega) (by omega) a1 a2
      have p6 := mulB p5.1 p5.2 b1 b2
      simp (config := { maxSteps := 10000000 }) (disch := first | omega | assumption) only [go_sem, ↓reduceIte, Nat.reduceEqDiff, reduceCtorEq, Nat.reduceAdd, Nat.reduceMul, Nat.reduceLeDiff, zfu, Int.mul_def, Int.add_def, zfv, cond_false, cond_true, isub, ti2, ti22, ti23, ti25, s0, s1, s5, s8, s9, s10, s34, s35, Int.zero_sub]
      refine CLL_pure (i64 (pwz (dz n) (-(dE n k i j)))) (c76 (pw_nonneg _ _) (pw_lt _ _) (by omega) (by omega)) rfl rfl rfl ?_
      simp (config := { maxSteps := 10000000 }) (disch := first | omega | assumption) only [go_sem, ↓reduceIte, Nat.reduceEqDiff, reduceCtorEq, Nat.reduceAdd, Nat.reduceMul, Nat.reduceLeDiff, zfu, Int.mul_def, Int.add_def, zfv, cond_false, cond_true, isub, ti2, ti22, ti23, ti25, s0, s1, s4, s5, s6, s8, s9, s10, s21, s22, s34, s35, r0, r1, hmx]
      exact ⟨i64c (by omega), r2⟩
    · rintro sl ro gn ⟨s0, s1, s4, s5, s6, s8, s9, s21, s22, s34, s35, s10, r0, r1, r2⟩
      dsimp only at s0 s1 s4 s5 s6 s8 s9 s21 s22 s34 s35 s10 r0 r1 r2
      have hj' : ¬ (((n * n).toNat : Int) < n * n) := by omega
      have hmx : i + 1 ≤ 4294967296 := by omega
      obtain ⟨a1, a2, a3, a4⟩ := ha
      have p1 := mulB (x := n) (X := 4) (by omega) h2 a1 a2
      have p2 := mulB p1.1 p1.2 a3 a4
      have p3 := mulB (x := k) (X := 3) h3 (by omega) a1 a2
      have p4 := mulB p3.1 p3.2 a1 a2
      rcases r2 with ⟨hi0, q2⟩ | ⟨hi0, q2, q3, q4⟩
      · simp (config := { maxSteps := 10000000 }) (disch := first | omega | assumption) only [go_sem, ↓reduceIte, Nat.reduceEqDiff, reduceCtorEq, Nat.reduceAdd, Nat.reduceMul, Nat.reduceLeDiff, zfu, Int.mul_def, Int.add_def, zfv, cond_false, cond_true, isub, ti2, ti22, ti23, ti25, s0, s1, s4, s5, s6, s8, s9, s10, s21, s22, s34, s35, r0, r1, q2, hj']
        refine CLLD_pure (i64 (pw (dz n) (dT n k i))) (c77 (pw_nonneg _ _) (pw_lt _ _) (by omega) (by omega)) rfl rfl ?_
        simp (config := { maxSteps := 10000000 }) (disch := first | omega | assumption) only [go_sem, ↓reduceIte, Nat.reduceEqDiff, reduceCtorEq, Nat.reduceAdd, Nat.reduceMul, Nat.reduceLeDiff, zfu, Int.mul_def, Int.add_def, zfv, cond_false, cond_true, isub, ti2, ti22, ti23, ti25, s0, s1, s4, s5, s6, s8, s9, s10, s21, s22, s34, s35, r0, r1, q2, pureL, pureA]
        refine FIN_of (by kernel_rfl) ?_
        simp (config := { maxSteps := 10000000 }) (disch := first | omega | assumption) only [go_sem, ↓reduceIte, Nat.reduceEqDiff, reduceCtorEq, Nat.reduceAdd, Nat.reduceMul, Nat.reduceLeDiff, zfu, Int.mul_def, Int.add_def, zfv, cond_false, cond_true, isub, ti2, ti22, ti23, ti25, s0, s1, s4, s5, s6, s8, s9, s10, s21, s22, s34, s35, r0, r1, q2]
        refine ⟨i64c (by omega), .inr ⟨by omega, ?_⟩⟩
        subst hi0
        exact ⟨rfl, rfl, rfl⟩
      · simp (config := { maxSteps := 10000000 }) (disch := first | omega | assumption) only [go_sem, ↓reduceIte, Nat.reduceEqDiff, reduceCtorEq, Nat.reduceAdd, Nat.reduceMul, Nat.reduceLeDiff, zfu, Int.mul_def, Int.add_def, zfv, cond_false, cond_true, isub, ti2, ti22, ti23, ti25, s0, s1, s4, s5, s6, s8, s9, s10, s21, s22, s34, s35, r0, r1, q2, q3, q4, hj', hmx]
        refine CLLD_pure (i64 (pw (dz n) (dT n k i))) (c77 (pw_nonneg _ _) (pw_lt _ _) (by omega) (by omega)) rfl rfl ?_
        simp (config := { maxSteps := 10000000 }) (disch := first | omega | assumption) only [go_sem, ↓reduceIte, Nat.reduceEqDiff, reduceCtorEq, Nat.reduceAdd, Nat.reduceMul, Nat.reduceLeDiff, zfu, Int.mul_def, Int.add_def, zfv, cond_false, cond_true, isub, ti2, ti22, ti23, ti25, s0, s1, s4, s5, s6, s8, s9, s10, s21, s22, s34, s35, r0, r1, q2, q3, q4, pureL, pureA, hmx]
        refine FIN_of (by kernel_rfl) ?_
        simp (config := { maxSteps := 10000000 }) (disch := first | omega | assumption) only [go_sem, ↓reduceIte, Nat.reduceEqDiff, reduceCtorEq, Nat.reduceAdd, Nat.reduceMul, Nat.reduceLeDiff, zfu, Int.mul_def, Int.add_def, zfv, cond_false, cond_true, isub, ti2, ti22, ti23, ti25, s0, s1, s4, s5, s6, s8, s9, s10, s21, s22, s34, s35, r0, r1, q2, q3, q4]
        exact ⟨i64c (by omega), .inr trivial⟩
  · rintro sl ro gn ⟨s0, s1, s4, s5, s6, s21, s22, r1, r2⟩
    dsimp only at s0 s1 s4 s5 s6 s21 s22 r1 r2
    rcases r2 with ⟨hi0, q2⟩ | ⟨hi0, q2, q3, q4⟩
    · omega
    · have hi' : ¬ (((n * n).toNat : Int) < n * n) := by omega
      simp (config := { maxSteps := 10000000 }) (disch := first | omega | assumption) only [go_sem, ↓reduceIte, Nat.reduceEqDiff, reduceCtorEq, Nat.reduceAdd, Nat.reduceMul, Nat.reduceLeDiff, zfu, Int.mul_def, Int.add_def, zfv, cond_false, cond_true, isub, ti2, ti22, ti23, ti25, s0, s1, s4, s5, s6, s21, s22, r1, q2, q3, q4, hi']
      simp only [zbj, zbk, retR, resL, outT, zes, zez, oneV, ↓zcy, ↓zcz, ↓reduceIte, Nat.reduceEqDiff, Option.some.injEq, AV.sc.injEq, Value.bool.injEq, Value.int.injEq, outL, outT, zft, zcp, zed, zef, zei, zeh, List.length_cons, List.length_nil, Nat.reduceAdd, Nat.zero_add, Nat.reduceLeDiff, List.drop_zero, List.take_succ_cons, List.take_zero, zfi, zfh, Ro.dl, zdb, zda, zfe, and_self, and_true, true_and, eq_self, List.append_nil, List.nil_append, List.cons_append, ne_eq, not_false_eq_true, and_false, false_and, Bool.false_eq_true, St.ev, zes, zfn, s4, ti25, q2, q3, q4]

set_option maxRecDepth 1000000 in
set_option maxHeartbeats 10000000 in
theorem c39 {n k : Int} (h1 : 1 ≤ n) (h2 : n ≤ 4) (h3 : 0 ≤ k) (h4 : k < n) : CallOK Try.prog 39 [i64 n, i64 k]
    (.agg [.row (rws (fun i => .row (rws (fun j => i64 (pw (pw (dz n) 55439) (dE n k i j))) (n * n).toNat)) (n * n).toNat), .row (rws (fun i => i64 (pw (dz n) (dT n k i))) (n * n).toNat)]) := by
  refine call_of (fn := Try.f39) (code := bodyOf Try.f39) Try.func39 rfl (by kernel_rfl) (noRef_dbl _ _ _ _) ?_
  intro sl hs
  have s0 : sl 0 = i64 n := hs 0
  have s1 : sl 1 = i64 k := hs 1
  have hnn := mulB (x := n) (y := n) (X := 4) (Y := 4) (by omega) h2 (by omega) h2
  have hn1 : 1 ≤ n * n := Int.mul_le_mul (a := 1) (b := 1) h1 h1 (by omega) (by omega)
  simp (config := { maxSteps := 10000000 }) (disch := first | omega | assumption) only [Try.f39, bodyOf, Option.getD, go_sem, ↓reduceIte, Nat.reduceEqDiff, reduceCtorEq, Nat.reduceAdd, Nat.reduceMul, Nat.reduceLeDiff, zfu, Int.mul_def, Int.add_def, zfv, cond_false, cond_true, isub, ti2, ti22, ti23, ti25, s0, s1]
  refine CLL_pure (i64 (dz n)) (c73 hn1 (by omega)) rfl rfl rfl ?_
  simp (config := { maxSteps := 10000000 }) (disch := first | omega | assumption) only [go_sem, ↓reduceIte, Nat.reduceEqDiff, reduceCtorEq, Nat.reduceAdd, Nat.reduceMul, Nat.reduceLeDiff, zfu, Int.mul_def, Int.add_def, zfv, cond_false, cond_true, isub, ti2, ti22, ti23, ti25, s0, s1, List.map_nil]
  refine CLL_pure (i64 (pw (dz n) 55439)) (c59 (pw_nonneg _ _) (pw_lt _ _)) rfl rfl rfl ?_
  simp (config := { maxSteps := 10000000 }) (disch := first | omega | assumption) only [go_sem, ↓reduceIte, Nat.reduceEqDiff, reduceCtorEq, Nat.reduceAdd, Nat.reduceMul, Nat.reduceLeDiff, zfu, Int.mul_def, Int.add_def, zfv, cond_false, cond_true, isub, ti2, ti22, ti23, ti25, s0, s1, List.map_nil]
  have hm : ((n * n).toNat : Int) = n * n := Int.toNat_of_nonneg hnn.1
  refine WK_for (fun i st => st.sl 0 = i64 n ∧ st.sl 1 = i64 k ∧ st.sl 4 = .ptr 4096 1 [] 0 ∧ st.sl 5 = i64 (dz n) ∧ st.sl 6 = .ptr 8272 1 [] 0 ∧ st.sl 7 = i64 (pw (dz n) 55439) ∧ st.sl 8 = i64 (i : Int) ∧
    st.ro 4096 1 = some (.bx [nilA, nilA]) ∧ 
    ((i = 0 ∧ st.ro 8272 1 = some (.bx [nilA, nilA])) ∨ (0 < i ∧ st.ro 8272 1 = some (.bx [.ref 57408 (st.gn 57408) [] 0 i, .ref 61696 (st.gn 61696) [] 0 i]) ∧
      st.ro 57408 (st.gn 57408) = some (.row (rws (fun i => .row (rws (fun j => i64 (pw (pw (dz n) 55439) (dE n k i j))) (n * n).toNat)) i)) ∧
      st.ro 61696 (st.gn 61696) = some (.row (rws (fun i => i64 (pw (dz n) (dT n k i))) i))))) (n * n).toNat ?_ ?_ ?_
  · simp only [↓zcy, ↓zcz, ↓zda, ↓zdb, ↓reduceIte, Nat.reduceEqDiff, and_true, true_and, and_self, ne_eq, not_false_eq_true, eq_self, false_and, and_false, reduceCtorEq, s0, s1]
    exact ⟨rfl, .inl trivial⟩
  · rintro i sl ro gn hi ⟨s0, s1, s4, s5, s6, s7, s8, r1, r2⟩
    dsimp only at s0 s1 s4 s5 s6 s7 s8 r1 r2
    have hi' : (i : Int) < n * n := by omega
    have ha := dvB h1 h2 (Int.natCast_nonneg i) hi'
    simp (config := { maxSteps := 10000000 }) (disch := first | omega | assumption) only [go_sem, ↓reduceIte, Nat.reduceEqDiff, reduceCtorEq, Nat.reduceAdd, Nat.reduceMul, Nat.reduceLeDiff, zfu, Int.mul_def, Int.add_def, zfv, cond_false, cond_true, isub, ti2, ti22, ti23, ti25, s0, s1, s8, hi', Int.tdiv_eq_ediv_of_nonneg, Int.tmod_eq_emod_of_nonneg]
    refine FIN_of (by kernel_rfl) ?_
    simp (config := { maxSteps := 10000000 }) (disch := first | omega | assumption) only [go_sem, ↓reduceIte, Nat.reduceEqDiff, reduceCtorEq, Nat.reduceAdd, Nat.reduceMul, Nat.reduceLeDiff, zfu, Int.mul_def, Int.add_def, zfv, cond_false, cond_true, isub, ti2, ti22, ti23, ti25, s0, s1, s8]
    refine WK_for (fun j st => st.sl 0 = i64 n ∧ st.sl 1 = i64 k ∧ st.sl 4 = .ptr 4096 1 [] 0 ∧ st.sl 5 = i64 (dz n) ∧ st.sl 6 = .ptr 8272 1 [] 0 ∧ st.sl 7 = i64 (pw (dz n) 55439) ∧ st.sl 8 = i64 (i : Int) ∧ st.sl 10 = i64 ((i : Int) / n) ∧ st.sl 11 = i64 ((i : Int) % n) ∧
      st.sl 12 = i64 (j : Int) ∧ st.sl 9 = .ref 28672 (st.gn 28672) [] 0 j ∧ st.ro 28672 (st.gn 28672) = some (.row (rws (fun j => i64 (pw (pw (dz n) 55439) (dE n k i j))) j)) ∧
      st.ro 4096 1 = some (.bx [nilA, nilA]) ∧
      ((i = 0 ∧ st.ro 8272 1 = some (.bx [nilA, nilA])) ∨ (0 < i ∧ st.ro 8272 1 = some (.bx [.ref 57408 (st.gn 57408) [] 0 i, .ref 61696 (st.gn 61696) [] 0 i]) ∧
      st.ro 57408 (st.gn 57408) = some (.row (rws (fun i => .row (rws (fun j => i64 (pw (pw (dz n) 55439) (dE n k i j))) (n * n).toNat)) i)) ∧
      st.ro 61696 (st.gn 61696) = some (.row (rws (fun i => i64 (pw (dz n) (dT n k i))) i))))) (n * n).toNat ?_ ?_ ?_
    · simp only [↓zcy, ↓zcz, ↓zda, ↓zdb, ↓reduceIte, Nat.reduceEqDiff, and_true, true_and, and_self, ne_eq, not_false_eq_true, eq_self, false_and, and_false, reduceCtorEq, s0, s1, s4, s5, s6, s7, s8, r1, r2, rws_zero]
      rfl
    · rintro j sl ro gn hj ⟨s0, s1, s4, s5, s6, s7, s8, s10, s11, s12, s9, r0, r1, r2⟩
      dsimp only at s0 s1 s4 s5 s6 s7 s8 s10 s11 s12 s9 r0 r1 r2
      have hj' : (j : Int) < n * n := by omega
      simp (config := { maxSteps := 10000000 }) (disch := first | omega | assumption) only [go_sem, ↓reduceIte, Nat.reduceEqDiff, reduceCtorEq, Nat.reduceAdd, Nat.reduceMul, Nat.reduceLeDiff, zfu, Int.mul_def, Int.add_def, zfv, cond_false, cond_true, isub, ti2, ti22, ti23, ti25, s0, s1, s12, hj', Int.tdiv_eq_ediv_of_nonneg, Int.tmod_eq_emod_of_nonneg]
      refine FIN_of (by kernel_rfl) ?_
      obtain ⟨a1, a2, a3, a4⟩ := ha
      obtain ⟨b1, b2, b3, b4⟩ := dvB h1 h2 (Int.natCast_nonneg j) hj'
      have hmx : j + 1 ≤ 4294967296 := by omega
      have p1 := mulB a1 a2 b3 b4
      have p2 := mulB b1 b2 a3 a4
      have p3 := mulB (x := n) (X := 4) (y := (i : Int) / n * ((j : Int) % n) + (j : Int) / n * ((i : Int) % n)) (Y := 18) (by omega) h2 (by omega) (by omega)
      have p5 := mulB (x := 2 * k) (X := 6) (by omega) (by omega) a1 a2
      have p6 := mulB p5.1 p5.2 b1 b2
      simp (config := { maxSteps := 10000000 }) (disch := first | omega | assumption) only [go_sem, ↓reduceIte, Nat.reduceEqDiff, reduceCtorEq, Nat.reduceAdd, Nat.reduceMul, Nat.reduceLeDiff, zfu, Int.mul_def, Int.add_def, zfv, cond_false, cond_true, isub, ti2, ti22, ti23, ti25, s0, s1, s5, s7, s9, s10, s11, s12, Int.zero_sub]
      refine CLL_pure (i64 (pw (pw (dz n) 55439) (dE n k i j))) (c74 (pw_nonneg _ _) (pw_lt _ _) (by omega) (by omega)) rfl rfl rfl ?_
      simp (config := { maxSteps := 10000000 }) (disch := first | omega | assumption) only [go_sem, ↓reduceIte, Nat.reduceEqDiff, reduceCtorEq, Nat.reduceAdd, Nat.reduceMul, Nat.reduceLeDiff, zfu, Int.mul_def, Int.add_def, zfv, cond_false, cond_true, isub, ti2, ti22, ti23, ti25, s0, s1, s4, s5, s6, s7, s8, s9, s10, s11, s12, r0, r1, hmx]
      exact ⟨i64c (by omega), r2⟩
    · rintro sl ro gn ⟨s0, s1, s4, s5, s6, s7, s8, s10, s11, s12, s9, r0, r1, r2⟩
      dsimp only at s0 s1 s4 s5 s6 s7 s8 s10 s11 s12 s9 r0 r1 r2
      have hj' : ¬ (((n * n).toNat : Int) < n * n) := by omega
      have hmx : i + 1 ≤ 4294967296 := by omega
      obtain ⟨a1, a2, a3, a4⟩ := ha
      have p1 := mulB (x := n) (X := 4) (by omega) h2 a1 a2
      have p2 := mulB p1.1 p1.2 a3 a4
      have p3 := mulB (x := k) (X := 3) h3 (by omega) a1 a2
      have p4 := mulB p3.1 p3.2 a1 a2
      rcases r2 with ⟨hi0, q2⟩ | ⟨hi0, q2, q3, q4⟩
      · simp (config := { maxSteps := 10000000 }) (disch := first | omega | assumption) only [go_sem, ↓reduceIte, Nat.reduceEqDiff, reduceCtorEq, Nat.reduceAdd, Nat.reduceMul, Nat.reduceLeDiff, zfu, Int.mul_def, Int.add_def, zfv, cond_false, cond_true, isub, ti2, ti22, ti23, ti25, s0, s1, s4, s5, s6, s7, s8, s9, s10, s11, s12, r0, r1, q2, hj']
        refine CLLD_pure (i64 (pw (dz n) (dT n k i))) (c74 (pw_nonneg _ _) (pw_lt _ _) (by omega) (by omega)) rfl rfl ?_
        simp (config := { maxSteps := 10000000 }) (disch := first | omega | assumption) only [go_sem, ↓reduceIte, Nat.reduceEqDiff, reduceCtorEq, Nat.reduceAdd, Nat.reduceMul, Nat.reduceLeDiff, zfu, Int.mul_def, Int.add_def, zfv, cond_false, cond_true, isub, ti2, ti22, ti23, ti25, s0, s1, s4, s5, s6, s7, s8, s9, s10, s11, s12, r0, r1, q2, pureL, pureA]
        refine FIN_of (by kernel_rfl) ?_
        simp (config := { maxSteps := 10000000 }) (disch := first | omega | assumption) only [go_sem, ↓reduceIte, Nat.reduceEqDiff, reduceCtorEq, Nat.reduceAdd, Nat.reduceMul, Nat.reduceLeDiff, zfu, Int.mul_def, Int.add_def, zfv, cond_false, cond_true, isub, ti2, ti22, ti23, ti25, s0, s1, s4, s5, s6, s7, s8, s9, s10, s11, s12, r0, r1, q2]
        refine ⟨i64c (by omega), .inr ⟨by omega, ?_⟩⟩
        subst hi0
        exact ⟨rfl, rfl, rfl⟩
      · simp (config := { maxSteps := 10000000 }) (disch := first | omega | assumption) only [go_sem, ↓reduceIte, Nat.reduceEqDiff, reduceCtorEq, Nat.reduceAdd, Nat.reduceMul, Nat.reduceLeDiff, zfu, Int.mul_def, Int.add_def, zfv, cond_false, cond_true, isub, ti2, ti22, ti23, ti25, s0, s1, s4, s5, s6, s7, s8, s9, s10, s11, s12, r0, r1, q2, q3, q4, hj', hmx]
        refine CLLD_pure (i64 (pw (dz n) (dT n k i))) (c74 (pw_nonneg _ _) (pw_lt _ _) (by omega) (by omega)) rfl rfl ?_
        simp (config := { maxSteps := 10000000 }) (disch := first | omega | assumption) only [go_sem, ↓reduceIte, Nat.reduceEqDiff, reduceCtorEq, Nat.reduceAdd, Nat.reduceMul, Nat.reduceLeDiff, zfu, Int.mul_def, Int.add_def, zfv, cond_false, cond_true, isub, ti2, ti22, ti23, ti25, s0, s1, s4, s5, s6, s7, s8, s9, s10, s11, s12, r0, r1, q2, q3, q4, pureL, pureA, hmx]
        refine FIN_of (by kernel_rfl) ?_
        simp (config := { maxSteps := 10000000 }) (disch := first | omega | assumption) only [go_sem, ↓reduceIte, Nat.reduceEqDiff, reduceCtorEq, Nat.reduceAdd, Nat.reduceMul, Nat.reduceLeDiff, zfu, Int.mul_def, Int.add_def, zfv, cond_false, cond_true, isub, ti2, ti22, ti23, ti25, s0, s1, s4, s5, s6, s7, s8, s9, s10, s11, s12, r0, r1, q2, q3, q4]
        exact ⟨i64c (by omega), .inr trivial⟩
  · rintro sl ro gn ⟨s0, s1, s4, s5, s6, s7, s8, r1, r2⟩
    dsimp only at s0 s1 s4 s5 s6 s7 s8 r1 r2
    rcases r2 with ⟨hi0, q2⟩ | ⟨hi0, q2, q3, q4⟩
    · omega
    · have hi' : ¬ (((n * n).toNat : Int) < n * n) := by omega
      simp (config := { maxSteps := 10000000 }) (disch := first | omega | assumption) only [go_sem, ↓reduceIte, Nat.reduceEqDiff, reduceCtorEq, Nat.reduceAdd, Nat.reduceMul, Nat.reduceLeDiff, zfu, Int.mul_def, Int.add_def, zfv, cond_false, cond_true, isub, ti2, ti22, ti23, ti25, s0, s1, s4, s5, s6, s8, r1, q2, q3, q4, hi']
      simp only [zbj, zbk, retR, resL, outT, zes, zez, oneV, ↓zcy, ↓zcz, ↓reduceIte, Nat.reduceEqDiff, Option.some.injEq, AV.sc.injEq, Value.bool.injEq, Value.int.injEq, outL, outT, zft, zcp, zed, zef, zei, zeh, List.length_cons, List.length_nil, Nat.reduceAdd, Nat.zero_add, Nat.reduceLeDiff, List.drop_zero, List.take_succ_cons, List.take_zero, zfi, zfh, Ro.dl, zdb, zda, zfe, and_self, and_true, true_and, eq_self, List.append_nil, List.nil_append, List.cons_append, ne_eq, not_false_eq_true, and_false, false_and, Bool.false_eq_true, St.ev, zes, zfn, s4, ti25, q2, q3, q4]
end Go.Proofs.Ytifgeenipinnmaa
