/- Texts joined: Bi1 Bi2 Bi3 Bi4. -/
import Derived.Test.YtmchdjiigfiabaaGreatPc
set_option linter.all false
/- Counting bicharacters, generators, digits (program and reference). -/
namespace Go.Proofs.YtmchdjiigfiabaaGreat
open Go.RowKit
set_option maxRecDepth 1000000
theorem cGcdP {x y : Nat} (hx : x < 4294967296) (hy : y < 4294967296) : CallOK Tryz.prog 31 [i64 (x : Int), i64 (y : Int)] (i64 (Nat.gcd x y : Nat)) := by
 refine call_of (fn := Tryz.f31) (code := bodyOf Tryz.f31) Tryz.func31 rfl (by kernel_rfl) (rfl) ?_
 intro sl hs
 have s0 : sl 0 = i64 (x : Int) := hs 0
 have s1 : sl 1 = i64 (y : Int) := hs 1
 dsimp only [Tryz.f31, bodyOf, Option.getD]
 refine Yac ?_
 refine WK_loopM (fun n st => ∃ u v : Nat, v = n ∧ u < 4294967296 ∧ v < 4294967296 ∧ Nat.gcd u v = Nat.gcd x y ∧ st.sl 0 = i64 (u : Int) ∧ st.sl 1 = i64 (v : Int)) y ?_ ?_
 ·simp only [↓za, ↓reduceIte, Nat.reduceEqDiff, zb, reduceCtorEq, s0, s1]
  exact ⟨x, y, rfl, hx, hy, rfl, rfl, rfl⟩
 ·rintro n sl ro gn ⟨u, v, rfl, hu, hv, hg, s0, s1⟩
  dsimp only at s0 s1
  by_cases hv0 : (v : Int) = 0
  ·have : v = 0 := by omega
   subst this
   rw [Nat.gcd_zero_right] at hg
   have hmx : ¬ 0 - (u : Int) > u := by omega
   simp (maxSteps := 10000000) (disch := first | assumption | omega) only [go_sem, ↓reduceIte, Nat.reduceEqDiff, reduceCtorEq, Nat.reduceAdd, Nat.reduceMul, Nat.reduceLeDiff, zc, s0, s1, eq_true hv0, kMax_i]
   have e : mxI (u : Int) (0 - (u : Int)) = u := by unfold mxI; rw [if_neg hmx]
   rw [e]
   refine Yab ?_
   rw [hg]
  ·have et : Int.tmod (u : Int) (v : Int) = ((u % v : Nat) : Int) := by rw [Int.tmod_eq_emod_of_nonneg (Int.natCast_nonneg _)]; rfl
   have hlt : u % v < v := Nat.mod_lt _ (by omega)
   simp (maxSteps := 10000000) (disch := first | assumption | omega) only [go_sem, ↓reduceIte, Nat.reduceEqDiff, reduceCtorEq, Nat.reduceAdd, Nat.reduceMul, Nat.reduceLeDiff, zc, s0, s1, eq_false hv0, et]
   refine FIN_of (by kernel_rfl) ?_
   simp (maxSteps := 10000000) (disch := first | assumption | omega) only [go_sem, ↓reduceIte, Nat.reduceEqDiff, reduceCtorEq, Nat.reduceAdd, Nat.reduceMul, Nat.reduceLeDiff, zc, s0, s1, eq_false hv0, et]
   refine ⟨u % v, hlt, v, u % v, rfl, hv, by omega, ?_, rfl, i64c rfl⟩
   rw [← hg, Nat.gcd_comm u v, Nat.gcd_rec v u, Nat.gcd_comm]
section
variable {O : List Int} {o : AV}
def hbc (O : List Int) (m i k : Nat) : Nat := Nat.gcd (Nat.gcd (atI O i).toNat (atI O k).toNat) m
theorem hbc_le {m i k : Nat} (hO : OrdP O) (hk : k < O.length) : hbc O m i k ≤ (atI O k).toNat := by
 have h1 := hO.2 k hk
 have h2 : 0 < Nat.gcd (atI O i).toNat (atI O k).toNat := Nat.gcd_pos_of_pos_right _ (by omega)
 exact Nat.le_trans (Nat.gcd_le_left _ h2) (Nat.gcd_le_right _ (by omega))
theorem hbc_row {m i : Nat} (hO : OrdP O) : ∀ k, k ≤ O.length → ((prd (hbc O m i) k : Nat) : Int) ≤ pfx O k
 | 0, _ => Int.le_refl _
 | k + 1, hk => by
  have h1 := hbc_row (m := m) (i := i) hO k (by omega)
  have h2 := hbc_le (m := m) (i := i) hO (show k < O.length by omega)
  have h3 := hO.2 k (by omega)
  show ((prd (hbc O m i) k * hbc O m i k : Nat) : Int) ≤ pfx O k * atI O k
  rw [Int.natCast_mul]
  exact Int.mul_le_mul h1 (by omega) (by omega) (by have := pfx_pos1 (i := k) (fun j hj => hO.2 j (by omega)); omega)
theorem pfx_mono {i : Nat} (hO : OrdP O) (hi : i ≤ O.length) : pfx O i ≤ pfx O O.length := pfx_ge hO.2 hi
theorem hbc_all {m : Nat} (hO : OrdP O) (h8 : pfx O O.length ≤ 8) : ∀ i, i ≤ O.length → prd (fun i => prd (hbc O m i) O.length) i ≤ 8 ^ i
 | 0, _ => Nat.le_refl _
 | i + 1, hi => by
  have h1 := hbc_all (m := m) hO h8 i (by omega)
  have h2 := hbc_row (m := m) (i := i) hO O.length (Nat.le_refl _)
  show prd _ i * prd (hbc O m i) O.length ≤ 8 ^ i * 8
  exact Nat.mul_le_mul h1 (by omega)
theorem pow8 {i : Nat} (h : i ≤ 6) : 8 ^ i ≤ 262144 := by
 have : i = 0 ∨ i = 1 ∨ i = 2 ∨ i = 3 ∨ i = 4 ∨ i = 5 ∨ i = 6 := by omega
 rcases this with e | e | e | e | e | e | e <;> rw [e] <;> decide
set_option maxHeartbeats 4000000 in
theorem cBcS {M : Int} (ho : isL o O) (hO : O.length ≤ 6) {N e : Int} (h1 : ¬ OrdP O → N = 0 ∧ e = 1) (h3 : OrdP O → 8 < pfx O O.length → N = 0 ∧ e = 3) (h2 : OrdP O → ¬ 8 < pfx O O.length → ¬ (1 ≤ M ∧ M ≤ 1000) → N = 0 ∧ e = 2)
  (h0 : ∀ m : Nat, M = m → OrdP O → ¬ 8 < pfx O O.length → (1 ≤ M ∧ M ≤ 1000) → N = bicN O m ∧ e = 0) : CallOK Tryz.prog 15 [o, i64 M] (.tup [i64 N, i64 e]) := by
 by_cases hP : OrdP O ∧ ¬ 8 < pfx O O.length ∧ (1 ≤ M ∧ M ≤ 1000)
 ·obtain ⟨hP, h8, hm⟩ := hP
  have cg := cGroup (M := M) ho hO (e := 0) (fun h => absurd hP h) (fun _ h => absurd h h8) (fun _ _ h => absurd hm h) (fun _ _ _ => rfl)
  obtain ⟨m, rfl⟩ := Int.eq_ofNat_of_zero_le (show 0 ≤ M by omega)
  obtain ⟨rfl, rfl⟩ := h0 m rfl hP h8 hm
  have hxO : O.length ≤ maxN := Nat.le_trans hO (by decide)
  have hm' : 1 ≤ m ∧ m ≤ 1000 := by omega
  have h64 := pow8 hO
  refine call_of (fn := Tryz.f15) (code := bodyOf Tryz.f15) Tryz.func15 rfl (by kernel_rfl) (rfl) ?_
  intro sl hs
  have s0 : sl 0 = o := hs 0
  have s1 : sl 1 = i64 (m : Int) := hs 1
  dsimp only [Tryz.f15, bodyOf, Option.getD]
  refine Yac ?_
  refine CLL_pure _ cg PUt rfl rfl ?_
  refine Yac ?_
  refine WK_for (fun i st => st.sl 0 = o ∧ st.sl 1 = i64 (m : Int) ∧ st.sl 8 = i64 (i : Int) ∧ st.sl 7 = i64 ((prd (fun i => prd (hbc O m i) O.length) i : Nat) : Int)) O.length ?_ ?_ ?_
  ·refine Yan ?_
   exact ⟨rfl, rfl⟩
  ·rintro i sl ro gn hi ⟨s0, s1, s8, s7⟩
   dsimp only at s0 s1 s8 s7
   have hi' : (i : Int) < (O.length : Nat) := by omega
   have b1 := hbc_all (m := m) hP (by omega) i (by omega)
   have b3 : 8 ^ i ≤ 8 ^ O.length := Nat.pow_le_pow_right (by omega) (by omega)
   simp (maxSteps := 10000000) (disch := first | assumption | omega) only [go_sem, ↓reduceIte, Nat.reduceEqDiff, reduceCtorEq, Nat.reduceAdd, Nat.reduceMul, Nat.reduceLeDiff, zc, Int.reduceToNat, s0, s1, s8, s7, hi', hi]
   refine WK_for (fun k st => st.sl 0 = o ∧ st.sl 1 = i64 (m : Int) ∧ st.sl 8 = i64 (i : Int) ∧ st.sl 9 = i64 (k : Int) ∧ st.sl 7 = i64 ((prd (fun i => prd (hbc O m i) O.length) i * prd (hbc O m i) k : Nat) : Int)) O.length ?_ ?_ ?_
   ·simp only [↓za, ↓reduceIte, Nat.reduceEqDiff, zb, reduceCtorEq, rws_zero, s0, s1, s8, s7, hi', hi]
    rw [show prd (hbc O m i) 0 = 1 from rfl, Nat.mul_one]
    exact ⟨rfl, rfl⟩
   ·rintro k sl ro gn hk ⟨s0, s1, s8, s9, s7⟩
    dsimp only at s0 s1 s8 s9 s7
    have hk' : (k : Int) < (O.length : Nat) := by omega
    have o1 := hP.2 i hi
    have o2 := hP.2 k hk
    have p1 := pfx_at hP.2 hi
    have p2 := pfx_at hP.2 hk
    have q1 : ((atI O i).toNat : Int) = atI O i := by omega
    have q2 : ((atI O k).toNat : Int) = atI O k := by omega
    have c1 := cGcd (x := (atI O i).toNat) (y := (atI O k).toNat) (by omega) (by omega)
    rw [q1, q2] at c1
    have c2 := cGcd (x := Nat.gcd (atI O i).toNat (atI O k).toNat) (y := m) (by have := Nat.gcd_le_right (atI O i).toNat (show 0 < (atI O k).toNat by omega); omega) (by omega)
    have b2 := hbc_row (m := m) (i := i) hP (k + 1) (by omega)
    have b4 := pfx_mono (i := k + 1) hP (by omega)
    have b5 : prd (fun i => prd (hbc O m i) O.length) i * prd (hbc O m i) (k + 1) ≤ 8 ^ i * 8 := Nat.mul_le_mul b1 (by omega)
    have e1 : ((prd (fun i => prd (hbc O m i) O.length) i * prd (hbc O m i) k : Nat) : Int) * ((Nat.gcd (Nat.gcd (atI O i).toNat (atI O k).toNat) m : Nat) : Int) = ((prd (fun i => prd (hbc O m i) O.length) i * prd (hbc O m i) (k + 1) : Nat) : Int) := by
     rw [← Int.natCast_mul, Nat.mul_assoc]
     rfl
    have e2 : wrF ((prd (fun i => prd (hbc O m i) O.length) i * prd (hbc O m i) (k + 1) : Nat) : Int) = ((prd (fun i => prd (hbc O m i) O.length) i * prd (hbc O m i) (k + 1) : Nat) : Int) := zfu (by omega) (by omega)
    simp (maxSteps := 10000000) (disch := first | assumption | omega) only [go_sem, ↓reduceIte, Nat.reduceEqDiff, reduceCtorEq, Nat.reduceAdd, Nat.reduceMul, Nat.reduceLeDiff, zc, Int.reduceToNat, s0, s1, s8, s9, s7, hk', hk]
    refine CLLD_pure _ c1 PUt rfl ?_
    simp (maxSteps := 10000000) (disch := first | assumption | omega) only [go_sem, ↓reduceIte, Nat.reduceEqDiff, reduceCtorEq, Nat.reduceAdd, Nat.reduceMul, Nat.reduceLeDiff, zc, Int.reduceToNat, s0, s1, s8, s9, s7, hk', hk]
    refine CLLD_pure _ c2 PUt rfl ?_
    simp (maxSteps := 10000000) (disch := first | assumption | omega) only [go_sem, ↓reduceIte, Nat.reduceEqDiff, reduceCtorEq, Nat.reduceAdd, Nat.reduceMul, Nat.reduceLeDiff, zc, Int.reduceToNat, s0, s1, s8, s9, s7, hk', hk, e1, e2]
    refine FIN_of (by kernel_rfl) ?_
    simp (maxSteps := 10000000) (disch := first | assumption | omega) only [go_sem, ↓reduceIte, Nat.reduceEqDiff, reduceCtorEq, Nat.reduceAdd, Nat.reduceMul, Nat.reduceLeDiff, zc, Int.reduceToNat, s0, s1, s8, s9, s7, hk', hk, e1, e2]
    exact i64c (by omega)
   ·rintro sl ro gn ⟨s0, s1, s8, s9, s7⟩
    dsimp only at s0 s1 s8 s9 s7
    have hk' : ¬ ((O.length : Nat) : Int) < (O.length : Nat) := by omega
    simp (maxSteps := 10000000) (disch := first | assumption | omega) only [go_sem, ↓reduceIte, Nat.reduceEqDiff, reduceCtorEq, Nat.reduceAdd, Nat.reduceMul, Nat.reduceLeDiff, zc, Int.reduceToNat, s0, s1, s8, s9, s7, hk']
    first | exact ⟨i64c (by omega), rfl⟩ | exact ⟨rfl, i64c (by omega)⟩ | rfl | trace_state
  ·rintro sl ro gn ⟨s0, s1, s8, s7⟩
   dsimp only at s0 s1 s8 s7
   have hi' : ¬ ((O.length : Nat) : Int) < (O.length : Nat) := by omega
   simp (maxSteps := 10000000) (disch := first | assumption | omega) only [go_sem, ↓reduceIte, Nat.reduceEqDiff, reduceCtorEq, Nat.reduceAdd, Nat.reduceMul, Nat.reduceLeDiff, zc, Int.reduceToNat, s0, s1, s8, s7, hi']
   refine Yab ?_
   rfl
 ·have cg := cGroup (M := M) ho hO (e := e) (fun h => (h1 h).2) (fun h h' => (h3 h h').2) (fun h h' h'' => (h2 h h' h'').2) (fun h h' h'' => absurd ⟨h, h', h''⟩ hP)
  have hN : N = 0 ∧ ¬ e = 0 := by
   by_cases q1 : OrdP O
   ·by_cases q2 : 8 < pfx O O.length
    ·obtain ⟨r1, r2⟩ := h3 q1 q2; omega
    ·have q3 : ¬ (1 ≤ M ∧ M ≤ 1000) := fun h => hP ⟨q1, q2, h⟩
     obtain ⟨r1, r2⟩ := h2 q1 q2 q3; omega
   ·obtain ⟨r1, r2⟩ := h1 q1; omega
  obtain ⟨rfl, he⟩ := hN
  refine call_of (fn := Tryz.f15) (code := bodyOf Tryz.f15) Tryz.func15 rfl (by kernel_rfl) (rfl) ?_
  intro sl hs
  have s0 : sl 0 = o := hs 0
  have s1 : sl 1 = i64 M := hs 1
  dsimp only [Tryz.f15, bodyOf, Option.getD]
  refine Yac ?_
  refine CLL_pure _ cg PUt rfl rfl ?_
  simp (maxSteps := 10000000) (disch := first | assumption | omega) only [go_sem, ↓reduceIte, Nat.reduceEqDiff, reduceCtorEq, Nat.reduceAdd, Nat.reduceMul, Nat.reduceLeDiff, zc, Int.reduceToNat, s0, s1, he]
  exact Yad
set_option maxHeartbeats 4000000 in
theorem cBcI {M : Int} (ho : isL o O) (hO : O.length ≤ 6) {N e : Int} (h1 : ¬ OrdP O → N = 0 ∧ e = 1) (h3 : OrdP O → 8 < pfx O O.length → N = 0 ∧ e = 3) (h2 : OrdP O → ¬ 8 < pfx O O.length → ¬ (1 ≤ M ∧ M ≤ 1000) → N = 0 ∧ e = 2)
  (h0 : ∀ m : Nat, M = m → OrdP O → ¬ 8 < pfx O O.length → (1 ≤ M ∧ M ≤ 1000) → N = bicN O m ∧ e = 0) : CallOK Tryz.prog 11 [o, i64 M] (.tup [i64 N, i64 e]) := by
 have hxO : O.length ≤ maxN := Nat.le_trans hO (by decide)
 by_cases hq : OrdP O ∧ ¬ 8 < pfx O O.length
 ·obtain ⟨hP, h8⟩ := hq
  have cg := cOrdC ho hxO (e := 0) (fun h => absurd hP h) (fun _ h => absurd h h8) (fun _ _ => rfl)
  have ci : CallOK Tryz.prog 30 [i64 M] (bo (decide (1 ≤ M ∧ M ≤ 1000))) := cIsM
  by_cases hm : 1 ≤ M ∧ M ≤ 1000
  ·obtain ⟨m, rfl⟩ := Int.eq_ofNat_of_zero_le (show 0 ≤ M by omega)
   obtain ⟨rfl, rfl⟩ := h0 m rfl hP h8 hm
   rw [decide_eq_true hm] at ci
   have hxO : O.length ≤ maxN := Nat.le_trans hO (by decide)
   have hm' : 1 ≤ m ∧ m ≤ 1000 := by omega
   have h64 := pow8 hO
   refine call_of (fn := Tryz.f11) (code := bodyOf Tryz.f11) Tryz.func11 rfl (by kernel_rfl) (rfl) ?_
   intro sl hs
   have s0 : sl 0 = o := hs 0
   have s1 : sl 1 = i64 (m : Int) := hs 1
   dsimp only [Tryz.f11, bodyOf, Option.getD]
   refine Yac ?_
   refine CLL_pure _ cg PUt rfl rfl ?_
   refine Yac ?_
   refine CLL_pure _ ci PUt rfl rfl ?_
   refine Yac ?_
   refine WK_for (fun i st => st.sl 0 = o ∧ st.sl 1 = i64 (m : Int) ∧ st.sl 20 = o ∧ st.sl 21 = i64 (O.length : Nat) ∧ st.sl 22 = i64 (i : Int) ∧ st.sl 7 = i64 ((prd (fun i => prd (hbc O m i) O.length) i : Nat) : Int)) O.length ?_ ?_ ?_
   ·refine Yan ?_
    exact ⟨rfl, rfl⟩
   ·rintro i sl ro gn hi ⟨s0, s1, s20, s21, s22, s7⟩
    dsimp only at s0 s1 s20 s21 s22 s7
    have hi' : (i : Int) < (O.length : Nat) := by omega
    have b1 := hbc_all (m := m) hP (by omega) i (by omega)
    have b3 : 8 ^ i ≤ 8 ^ O.length := Nat.pow_le_pow_right (by omega) (by omega)
    simp (maxSteps := 10000000) (disch := first | assumption | omega) only [go_sem, ↓reduceIte, Nat.reduceEqDiff, reduceCtorEq, Nat.reduceAdd, Nat.reduceMul, Nat.reduceLeDiff, zc, Int.reduceToNat, s0, s1, s20, s21, s22, s7, hi', hi]
    refine WK_for (fun k st => st.sl 0 = o ∧ st.sl 1 = i64 (m : Int) ∧ st.sl 20 = o ∧ st.sl 21 = i64 (O.length : Nat) ∧ st.sl 22 = i64 (i : Int) ∧ st.sl 9 = i64 (atI O i) ∧ st.sl 26 = o ∧ st.sl 27 = i64 (O.length : Nat) ∧ st.sl 28 = i64 (k : Int) ∧ st.sl 7 = i64 ((prd (fun i => prd (hbc O m i) O.length) i * prd (hbc O m i) k : Nat) : Int)) O.length ?_ ?_ ?_
    ·simp only [↓za, ↓reduceIte, Nat.reduceEqDiff, zb, reduceCtorEq, rws_zero, s0, s1, s20, s21, s22, s7, hi', hi]
     rw [show prd (hbc O m i) 0 = 1 from rfl, Nat.mul_one]
     exact ⟨rfl, rfl⟩
    ·rintro k sl ro gn hk ⟨s0, s1, s20, s21, s22, s9, s26, s27, s28, s7⟩
     dsimp only at s0 s1 s20 s21 s22 s9 s26 s27 s28 s7
     have hk' : (k : Int) < (O.length : Nat) := by omega
     have o1 := hP.2 i hi
     have o2 := hP.2 k hk
     have p1 := pfx_at hP.2 hi
     have p2 := pfx_at hP.2 hk
     have q1 : ((atI O i).toNat : Int) = atI O i := by omega
     have q2 : ((atI O k).toNat : Int) = atI O k := by omega
     have c1 := cGcdP (x := (atI O i).toNat) (y := (atI O k).toNat) (by omega) (by omega)
     rw [q1, q2] at c1
     have c2 := cGcdP (x := Nat.gcd (atI O i).toNat (atI O k).toNat) (y := m) (by have := Nat.gcd_le_right (atI O i).toNat (show 0 < (atI O k).toNat by omega); omega) (by omega)
     have b2 := hbc_row (m := m) (i := i) hP (k + 1) (by omega)
     have b4 := pfx_mono (i := k + 1) hP (by omega)
     have b5 : prd (fun i => prd (hbc O m i) O.length) i * prd (hbc O m i) (k + 1) ≤ 8 ^ i * 8 := Nat.mul_le_mul b1 (by omega)
     have e1 : ((prd (fun i => prd (hbc O m i) O.length) i * prd (hbc O m i) k : Nat) : Int) * ((Nat.gcd (Nat.gcd (atI O i).toNat (atI O k).toNat) m : Nat) : Int) = ((prd (fun i => prd (hbc O m i) O.length) i * prd (hbc O m i) (k + 1) : Nat) : Int) := by
      rw [← Int.natCast_mul, Nat.mul_assoc]
      rfl
     have e2 : wrF ((prd (fun i => prd (hbc O m i) O.length) i * prd (hbc O m i) (k + 1) : Nat) : Int) = ((prd (fun i => prd (hbc O m i) O.length) i * prd (hbc O m i) (k + 1) : Nat) : Int) := zfu (by omega) (by omega)
     simp (maxSteps := 10000000) (disch := first | assumption | omega) only [go_sem, ↓reduceIte, Nat.reduceEqDiff, reduceCtorEq, Nat.reduceAdd, Nat.reduceMul, Nat.reduceLeDiff, zc, Int.reduceToNat, s0, s1, s20, s21, s22, s9, s26, s27, s28, s7, hk', hk]
     refine CLL_pure _ c1 PUt rfl rfl ?_
     simp (maxSteps := 10000000) (disch := first | assumption | omega) only [go_sem, ↓reduceIte, Nat.reduceEqDiff, reduceCtorEq, Nat.reduceAdd, Nat.reduceMul, Nat.reduceLeDiff, zc, Int.reduceToNat, s0, s1, s20, s21, s22, s9, s26, s27, s28, s7, hk', hk]
     refine CLL_pure _ c2 PUt rfl rfl ?_
     simp (maxSteps := 10000000) (disch := first | assumption | omega) only [go_sem, ↓reduceIte, Nat.reduceEqDiff, reduceCtorEq, Nat.reduceAdd, Nat.reduceMul, Nat.reduceLeDiff, zc, Int.reduceToNat, s0, s1, s20, s21, s22, s9, s26, s27, s28, s7, hk', hk, e1, e2]
     exact i64c (by omega)
    ·rintro sl ro gn ⟨s0, s1, s20, s21, s22, s9, s26, s27, s28, s7⟩
     dsimp only at s0 s1 s20 s21 s22 s9 s26 s27 s28 s7
     have hk' : ¬ ((O.length : Nat) : Int) < (O.length : Nat) := by omega
     simp (maxSteps := 10000000) (disch := first | assumption | omega) only [go_sem, ↓reduceIte, Nat.reduceEqDiff, reduceCtorEq, Nat.reduceAdd, Nat.reduceMul, Nat.reduceLeDiff, zc, Int.reduceToNat, s0, s1, s20, s21, s22, s9, s26, s27, s28, s7, hk']
     first | exact ⟨i64c (by omega), rfl⟩ | exact ⟨rfl, i64c (by omega)⟩ | rfl | trace_state
   ·rintro sl ro gn ⟨s0, s1, s20, s21, s22, s7⟩
    dsimp only at s0 s1 s20 s21 s22 s7
    have hi' : ¬ ((O.length : Nat) : Int) < (O.length : Nat) := by omega
    simp (maxSteps := 10000000) (disch := first | assumption | omega) only [go_sem, ↓reduceIte, Nat.reduceEqDiff, reduceCtorEq, Nat.reduceAdd, Nat.reduceMul, Nat.reduceLeDiff, zc, Int.reduceToNat, s0, s1, s20, s21, s22, s7, hi']
    refine Yab ?_
    rfl
  ·obtain ⟨rfl, rfl⟩ := h2 hP h8 hm
   rw [decide_eq_false hm] at ci
   refine call_of (fn := Tryz.f11) (code := bodyOf Tryz.f11) Tryz.func11 rfl (by kernel_rfl) (rfl) ?_
   intro sl hs
   have s0 : sl 0 = o := hs 0
   have s1 : sl 1 = i64 M := hs 1
   dsimp only [Tryz.f11, bodyOf, Option.getD]
   refine Yac ?_
   refine CLL_pure _ cg PUt rfl rfl ?_
   refine Yac ?_
   refine CLL_pure _ ci PUt rfl rfl ?_
   refine Yac ?_
   exact Yad
 ·have cg := cOrdC ho hxO (e := e) (fun h => (h1 h).2) (fun h h' => (h3 h h').2) (fun h h' => absurd ⟨h, h'⟩ hq)
  have hN : N = 0 ∧ ¬ e = 0 := by
   by_cases q1 : OrdP O
   ·by_cases q2 : 8 < pfx O O.length
    ·obtain ⟨r1, r2⟩ := h3 q1 q2; omega
    ·exact absurd ⟨q1, q2⟩ hq
   ·obtain ⟨r1, r2⟩ := h1 q1; omega
  obtain ⟨rfl, he⟩ := hN
  refine call_of (fn := Tryz.f11) (code := bodyOf Tryz.f11) Tryz.func11 rfl (by kernel_rfl) (rfl) ?_
  intro sl hs
  have s0 : sl 0 = o := hs 0
  have s1 : sl 1 = i64 M := hs 1
  dsimp only [Tryz.f11, bodyOf, Option.getD]
  refine Yac ?_
  refine CLL_pure _ cg PUt rfl rfl ?_
  simp (maxSteps := 10000000) (disch := first | assumption | omega) only [go_sem, ↓reduceIte, Nat.reduceEqDiff, reduceCtorEq, Nat.reduceAdd, Nat.reduceMul, Nat.reduceLeDiff, zc, Int.reduceToNat, s0, s1, he]
  exact Yad
end
end Go.Proofs.YtmchdjiigfiabaaGreat
/- Generators and tuples by the program. -/
namespace Go.Proofs.YtmchdjiigfiabaaGreat
open Go.RowKit
set_option maxRecDepth 1000000
section
variable {O : List Int}
def gnF (O : List Int) (pre : List Nat) : List Int × Int := pre.foldl (fun s i => (s.1.set i s.2, s.2 * atI O i)) (List.replicate O.length 0, 1)
def tpF (O : List Int) (x : Int) (pre : List Nat) : List Int × Int := pre.foldl (fun s i => (s.1.set i (s.2 % atI O i), s.2 / atI O i)) (List.replicate O.length 0, x)
theorem gnF_app (pre : List Nat) (i : Nat) : gnF O (pre ++ [i]) = ((gnF O pre).1.set i (gnF O pre).2, (gnF O pre).2 * atI O i) := by
 unfold gnF
 rw [List.foldl_append]
 rfl
theorem tpF_app (x : Int) (pre : List Nat) (i : Nat) : tpF O x (pre ++ [i]) = ((tpF O x pre).1.set i ((tpF O x pre).2 % atI O i), (tpF O x pre).2 / atI O i) := by
 unfold tpF
 rw [List.foldl_append]
 rfl
theorem gnF_len : ∀ pre : List Nat, (gnF O pre).1.length = O.length := by
 intro pre
 rcases List.eq_nil_or_concat pre with e | ⟨p, i, e⟩
 ·subst e; simp [gnF]
 ·subst e
  rw [List.concat_eq_append, gnF_app, List.length_set]
  exact gnF_len p
termination_by pre => pre.length
decreasing_by rw [e]; simp
theorem tpF_len (x : Int) : ∀ pre : List Nat, (tpF O x pre).1.length = O.length := by
 intro pre
 rcases List.eq_nil_or_concat pre with e | ⟨p, i, e⟩
 ·subst e; simp [tpF]
 ·subst e
  rw [List.concat_eq_append, tpF_app, List.length_set]
  exact tpF_len x p
termination_by pre => pre.length
decreasing_by rw [e]; simp
theorem gnF_b (hO : GrpP O) : ∀ (n : Nat) (pre : List Nat), pre.length = n → (∀ i, i ∈ pre → i < O.length) → 0 ≤ (gnF O pre).2 ∧ (gnF O pre).2 ≤ 16 ^ n
 | 0, pre, h, _ => by
  obtain rfl := List.length_eq_zero_iff.1 h
  show (0 : Int) ≤ 1 ∧ (1 : Int) ≤ 16 ^ 0
  decide
 | n + 1, pre, h, hr => by
  obtain ⟨ini, o, rfl⟩ : ∃ ini o, pre = ini ++ [o] := by
   have hne : pre ≠ [] := by rintro rfl; simp at h
   exact ⟨pre.dropLast, pre.getLast hne, (List.dropLast_concat_getLast hne).symm⟩
  rw [List.length_append] at h
  obtain ⟨h1, h2⟩ := gnF_b hO n ini (by simpa using h) fun m hm => hr m (by simp [hm])
  obtain ⟨o1, o2⟩ := hO.rg o (hr o (by simp))
  rw [gnF_app]
  have e16 : (16 : Int) ^ (n + 1) = 16 ^ n * 16 := Int.pow_succ _ _
  rw [e16]
  exact ⟨Int.mul_nonneg h1 (by omega), Int.mul_le_mul h2 o2 (by omega) (by omega)⟩
theorem tpF_b (hO : GrpP O) {x : Int} (hx : 0 ≤ x ∧ x < 4294967296) : ∀ (n : Nat) (pre : List Nat), pre.length = n → (∀ i, i ∈ pre → i < O.length) → 0 ≤ (tpF O x pre).2 ∧ (tpF O x pre).2 < 4294967296
 | 0, pre, h, _ => by
  obtain rfl := List.length_eq_zero_iff.1 h
  exact hx
 | n + 1, pre, h, hr => by
  obtain ⟨ini, o, rfl⟩ : ∃ ini o, pre = ini ++ [o] := by
   have hne : pre ≠ [] := by rintro rfl; simp at h
   exact ⟨pre.dropLast, pre.getLast hne, (List.dropLast_concat_getLast hne).symm⟩
  rw [List.length_append] at h
  obtain ⟨h1, h2⟩ := tpF_b hO hx n ini (by simpa using h) fun m hm => hr m (by simp [hm])
  obtain ⟨o1, o2⟩ := hO.rg o (hr o (by simp))
  rw [tpF_app]
  have := Int.ediv_le_self (atI O o) h1
  exact ⟨Int.ediv_nonneg h1 (by omega), by show (tpF O x ini).2 / atI O o < 4294967296; omega⟩
theorem rws_repl (r : Nat) : List.replicate r (0 : Int) = rws (fun _ => 0) r := rep_rws _ _
theorem gnF_dwn : ∀ k, k ≤ O.length → gnF O (dwn O.length k) = (rws (fun j => if O.length ≤ j + k then plO O (O.length - 1 - j) else 0) O.length, plO O k)
 | 0, _ => by
  refine Prod.ext ?_ rfl
  show List.replicate O.length (0 : Int) = _
  rw [rws_repl]
  exact rws_congr fun j hj => by rw [if_neg (by omega)]
 | k + 1, hk => by
  rw [dwn_succ, gnF_app, gnF_dwn k (by omega)]
  refine Prod.ext ?_ rfl
  show (rws _ _).set (O.length - 1 - k) (plO O k) = _
  rw [rws_set]
  refine rws_congr fun j hj => ?_
  by_cases e : j = O.length - 1 - k
  ·rw [if_pos e, if_pos (by omega), e, show O.length - 1 - (O.length - 1 - k) = k by omega]
  ·rw [if_neg e]
   have : (O.length ≤ j + k) ↔ (O.length ≤ j + (k + 1)) := by omega
   simp only [this]
theorem tpF_dwn (x : Int) : ∀ k, k ≤ O.length → tpF O x (dwn O.length k) = (rws (fun j => if O.length ≤ j + k then dgD O x j else 0) O.length, dgq O x k)
 | 0, _ => by
  refine Prod.ext ?_ rfl
  show List.replicate O.length (0 : Int) = _
  rw [rws_repl]
  exact rws_congr fun j hj => by rw [if_neg (by omega)]
 | k + 1, hk => by
  rw [dwn_succ, tpF_app, tpF_dwn x k (by omega)]
  refine Prod.ext ?_ rfl
  show (rws _ _).set (O.length - 1 - k) (dgq O x k % atI O (O.length - 1 - k)) = _
  rw [rws_set]
  refine rws_congr fun j hj => ?_
  by_cases e : j = O.length - 1 - k
  ·rw [if_pos e, if_pos (by omega), e]
   unfold dgD
   rw [show O.length - 1 - (O.length - 1 - k) = k by omega]
  ·rw [if_neg e]
   have : (O.length ≤ j + k) ↔ (O.length ≤ j + (k + 1)) := by omega
   simp only [this]
theorem map_set_i (l : List Int) (i : Nat) (v : Int) : (l.map i64).set i (i64 v) = (l.set i v).map i64 := by rw [List.map_set]
attribute [local go_sem] Oper.semAt_some
theorem asgG {l k : Nat} {t : Array Value} {u v : Value} {W : World} {K : Act → World → Prop} {id : Nat} {ty : TypeId} {ps : String} (h1 : 11 < t.size) (h2 : 12 < t.size) (hK : K { tmps := ((t.setIfInBounds 11 u).setIfInBounds 12 v).setIfInBounds 5 u, defers := [] } W) :
  (Code.region id #[{ dst := some 5, op := Op.assign (Operand.tmp 11), type := ty, pos := ps, after := #[], guard := none }] false).wpIn (Fence.wide.inRound l) k Tryz.prog (Exit.then K fun _ _ _ => False) { tmps := (t.setIfInBounds 11 u).setIfInBounds 12 v, defers := [] } W := by
 have hg : ((t.setIfInBounds 11 u).setIfInBounds 12 v).getD 11 undef = u := by
  rw [Array.getD_eq_getD_getElem?, Array.getElem?_setIfInBounds_ne (by decide)]
  simp [h1]
 gi_wp2
 exact hK
abbrev tV : Nat → Int → Prop := fun _ _ => True
def InvG (O : List Int) (st0 : St) (pre : List (BX tV O.length)) (st : St) : Prop :=
 st.sl = st0.sl ∧ st.ro 4096 (st0.gn 4096) = some (.bx [immL O]) ∧ st.ro 4096 1 = some (.bx [immL O]) ∧ st.ro 8240 1 = some (.bx [.ref 8224 1 [] 0 O.length]) ∧ st.ro 8224 1 = some (rowL (gnF O (pre.map BX.i)).1) ∧ st.ro 8256 1 = some (.bx [i64 (gnF O (pre.map BX.i)).2])
theorem bx_lt {V : Nat → Int → Prop} {n : Nat} (pre : List (BX V n)) : ∀ i, i ∈ pre.map BX.i → i < n := fun i hi => by
 obtain ⟨z, _, rfl⟩ := List.mem_map.1 hi
 exact z.lt
theorem cGenP (hO : GrpP O) : CallOK Tryz.prog 78 [immL O] (.row (rws (fun j => i64 (plO O (O.length - 1 - j))) O.length)) := by
 have hl1 := hO.l1
 have hl4 := hO.l4
 have ho := isL_imm O
 have hm' : (O.length : Int) ≤ ((4294967296 : Nat) : Int) := by omega
 refine call_of (fn := Tryz.f78) (code := bodyOf Tryz.f78) Tryz.func78 rfl (by kernel_rfl) (noRef_row _ (noRefL_rws _ _ fun _ => rfl)) ?_
 intro sl hs
 have s0 : sl 0 = immL O := hs 0
 dsimp only [Tryz.f78, bodyOf, Option.getD]
 simp (maxSteps := 10000000) (disch := first | assumption | omega) only [go_sem, ↓reduceIte, Nat.reduceEqDiff, reduceCtorEq, Nat.reduceAdd, Nat.reduceMul, Nat.reduceLeDiff, zc, Int.reduceToNat, s0, kMake, Int.natCast_nonneg, Int.le_refl, hm', List.getD_cons_zero, rep_rws]
 refine CLL_in rfl _ _ _ inBack ?_
 refine Yaa ?_
 generalize hst : St.mk _ _ _ = st0
 have s10 : st0.sl 10 = .fn 79 [.ptr 4096 (st0.gn 4096) [] 0] := by rw [← hst]; simp only [↓za, ↓reduceIte, Nat.reduceEqDiff, zb, reduceCtorEq]
 have s1 : st0.sl 1 = .ptr 4096 1 [] 0 := by rw [← hst]; simp only [↓za, ↓reduceIte, Nat.reduceEqDiff, zb, reduceCtorEq]
 have s3 : st0.sl 3 = .ptr 8240 1 [] 0 := by rw [← hst]; simp only [↓za, ↓reduceIte, Nat.reduceEqDiff, zb, reduceCtorEq]
 have s4 : st0.sl 4 = .ptr 8256 1 [] 0 := by rw [← hst]; simp only [↓za, ↓reduceIte, Nat.reduceEqDiff, zb, reduceCtorEq]
 have b0 : st0.ro 4096 (st0.gn 4096) = some (.bx [immL O]) := by rw [← hst]; simp only [↓za, ↓reduceIte, Nat.reduceEqDiff, zb, reduceCtorEq]
 have b1 : st0.ro 4096 1 = some (.bx [immL O]) := by rw [← hst]; simp only [↓za, ↓reduceIte, Nat.reduceEqDiff, zb, reduceCtorEq]
 have b2 : st0.ro 8240 1 = some (.bx [.ref 8224 1 [] 0 O.length]) := by rw [← hst]; simp only [↓za, ↓reduceIte, Nat.reduceEqDiff, zb, reduceCtorEq]
 have b3 : st0.ro 8224 1 = some (rowL (gnF O []).1) := by
  rw [← hst]
  refine Yax ?_
  show some (AV.row (rws (fun _ => i64 0) O.length)) = some (AV.row ((List.replicate O.length (0 : Int)).map i64))
  rw [List.map_replicate, rep_rws]
 have b4 : st0.ro 8256 1 = some (.bx [i64 1]) := by rw [← hst]; simp only [↓za, ↓reduceIte, Nat.reduceEqDiff, zb, reduceCtorEq]
 clear hst
 refine WK_rf _ (semC_back (ta := 5) (n := O.length) (V := tV) true (by omega) hl1 (by decide) s10 (InvG O st0) ⟨rfl, b0, b1, b2, b3, b4⟩ (fun pre st h => ⟨h.1, O, rfl, fun _ _ => trivial, .inl h.2.1⟩) (by kernel_rfl) (fun k h => by simpa [dstOK] using h) (fun l k t u v W K h1 h2 hK => asgG h1 h2 hK) ?_) ?_
 ·rintro pre q ⟨sl, ro, gn⟩ ⟨q0, q1, q2, q3, q4, q5⟩ hlen
  dsimp only at q0 q1 q2 q3 q4 q5
  have hb := gnF_b hO _ (pre.map BX.i) rfl (bx_lt pre)
  rw [List.length_map] at hb
  have h16 := pow6 (i := pre.length) (by omega)
  have hlen2 := gnF_len (O := O) (pre.map BX.i)
  have hql := q.lt
  obtain ⟨m1, m2⟩ := hO.rg _ hql
  unfold InvG
  rw [List.map_append, List.map_singleton, gnF_app]
  generalize gnF O (pre.map BX.i) = t at q4 q5 hb hlen2 ⊢
  obtain ⟨L, p⟩ := t
  dsimp only at q4 q5 hb hlen2 ⊢
  have hp2 : 0 ≤ p * atI O q.i := Int.mul_nonneg hb.1 (by omega)
  have hp3 : p * atI O q.i ≤ 1048576 * 16 := Int.mul_le_mul (by omega) m2 (by omega) (by omega)
  have hqi : (q.i : Int) < (O.length : Nat) := Int.ofNat_lt.2 hql
  refine wk_ok (X := XX) _ ?_
  show WK XX _ [] _ _
  simp (maxSteps := 10000000) (disch := first | assumption | omega) only [go_sem, ↓reduceIte, Nat.reduceEqDiff, reduceCtorEq, Nat.reduceAdd, Nat.reduceMul, Nat.reduceLeDiff, zc, Int.reduceToNat, s1, s3, s4, q2, q3, q4, q5, hqi, List.length_map, hlen2, map_set_i]
  refine FIN_of (by kernel_rfl) ?_
  simp (maxSteps := 10000000) (disch := first | assumption | omega) only [go_sem, ↓reduceIte, Nat.reduceEqDiff, reduceCtorEq, Nat.reduceAdd, Nat.reduceMul, Nat.reduceLeDiff, zc, Int.reduceToNat, s1, s3, s4, q2, q3, q4, q5, hqi, List.length_map, hlen2, map_set_i]
  exact q1
 ·rintro e ⟨sl', ro', gn'⟩ ⟨rfl, xs, hxs, q0, q1, q2, q3, q4, q5⟩
  dsimp only at q0 q1 q2 q3 q4 q5
  subst q0
  rw [hxs, gnF_dwn _ (Nat.le_refl _)] at q4
  have q6 : ro' 8224 1 = some (.row (rws (fun j => i64 (plO O (O.length - 1 - j))) O.length)) := by
   rw [q4]
   show some (AV.row ((rws _ _).map i64)) = _
   rw [rws_map]
   exact congrArg (fun z => some (AV.row z)) (rws_congr fun j hj => by rw [if_pos (by omega)])
  simp (maxSteps := 10000000) (disch := first | assumption | omega) only [go_sem, ↓reduceIte, Nat.reduceEqDiff, reduceCtorEq, Nat.reduceAdd, Nat.reduceMul, Nat.reduceLeDiff, zc, Int.reduceToNat, s3, q3, q6]
  simp only [zr, zb, retR, resL, outT, outL, zes, zez, oneV, zcp, zed, zfi, Ro.dl, St.ev, zhk, ↓za, ↓reduceIte, Nat.reduceEqDiff, Nat.reduceAdd, Nat.reduceLeDiff, q6]
theorem cOwnG (hO : GrpP O) : CallOK Tryz.prog 45 [immL O] (.row (rws (fun i => i64 (genI O i)) O.length)) := by
 have hl4 := hO.l4
 have ho := isL_imm O
 have cg := cGenP hO
 refine call_of (fn := Tryz.f45) (code := bodyOf Tryz.f45) Tryz.func45 rfl (by kernel_rfl) (noRef_row _ (noRefL_rws _ _ fun _ => rfl)) ?_
 intro sl hs
 have s0 : sl 0 = immL O := hs 0
 dsimp only [Tryz.f45, bodyOf, Option.getD]
 refine Yaa ?_
 refine CLL_pure _ cg PUt rfl rfl ?_
 simp (maxSteps := 10000000) (disch := first | assumption | omega) only [go_sem, ↓reduceIte, Nat.reduceEqDiff, reduceCtorEq, Nat.reduceAdd, Nat.reduceMul, Nat.reduceLeDiff, zc, Int.reduceToNat, s0, impE_row, zfe]
 refine WK_for (fun i st => st.sl 0 = immL O ∧ st.sl 8 = .ref 12304 1 [] 0 O.length ∧ st.ro 12304 1 = some (.row (rws (fun j => i64 (plO O (O.length - 1 - j))) O.length)) ∧ st.sl 9 = i64 (O.length : Nat) ∧ st.sl 10 = i64 (i : Int) ∧ st.sl 3 = .ref 8192 (st.gn 8192) [] 0 i ∧ st.ro 8192 (st.gn 8192) = some (.row (rws (fun j => i64 (genI O j)) i))) O.length ?_ ?_ ?_
 ·refine Yaz ?_
  exact rfl
 ·rintro i sl ro gn hi ⟨s0, s8, r12304, s9, s10, s3, r8192⟩
  dsimp only at s0 s8 r12304 s9 s10 s3 r8192
  have hi' : (i : Int) < (O.length : Nat) := by omega
  have hi2 : i + 1 ≤ 4294967296 := by omega
  by_cases h1 : atI O i = 1
  ·have e : genI O i = 0 := by unfold genI; rw [if_pos h1]
   rw [← zfm, e]
   simp (maxSteps := 10000000) (disch := first | assumption | omega) only [go_sem, ↓reduceIte, Nat.reduceEqDiff, reduceCtorEq, Nat.reduceAdd, Nat.reduceMul, Nat.reduceLeDiff, zc, Int.reduceToNat, s0, s8, r12304, s9, s10, s3, r8192, hi', hi, rws_get _ _ _ hi, eq_true h1, hi2]
   exact i64c (by omega)
  ·have e : genI O i = plO O (O.length - 1 - i) := by unfold genI; rw [if_neg h1]
   rw [← zfm, e]
   simp (maxSteps := 10000000) (disch := first | assumption | omega) only [go_sem, ↓reduceIte, Nat.reduceEqDiff, reduceCtorEq, Nat.reduceAdd, Nat.reduceMul, Nat.reduceLeDiff, zc, Int.reduceToNat, s0, s8, r12304, s9, s10, s3, r8192, hi', hi, rws_get _ _ _ hi, eq_false h1, hi2]
   exact i64c (by omega)
 ·rintro sl ro gn ⟨s0, s8, r12304, s9, s10, s3, r8192⟩
  dsimp only at s0 s8 r12304 s9 s10 s3 r8192
  have hi' : ¬ ((O.length : Nat) : Int) < (O.length : Nat) := by omega
  simp (maxSteps := 10000000) (disch := first | assumption | omega) only [go_sem, ↓reduceIte, Nat.reduceEqDiff, reduceCtorEq, Nat.reduceAdd, Nat.reduceMul, Nat.reduceLeDiff, zc, Int.reduceToNat, s0, s8, r12304, s9, s10, s3, r8192, hi']
  exact Ybx
theorem asgT {l k : Nat} {t : Array Value} {u v : Value} {W : World} {K : Act → World → Prop} {id : Nat} {ty : TypeId} {ps : String} (h1 : 12 < t.size) (h2 : 13 < t.size) (hK : K { tmps := ((t.setIfInBounds 12 u).setIfInBounds 13 v).setIfInBounds 6 u, defers := [] } W) :
  (Code.region id #[{ dst := some 6, op := Op.assign (Operand.tmp 12), type := ty, pos := ps, after := #[], guard := none }] false).wpIn (Fence.wide.inRound l) k Tryz.prog (Exit.then K fun _ _ _ => False) { tmps := (t.setIfInBounds 12 u).setIfInBounds 13 v, defers := [] } W := by
 have hg : ((t.setIfInBounds 12 u).setIfInBounds 13 v).getD 12 undef = u := by
  rw [Array.getD_eq_getD_getElem?, Array.getElem?_setIfInBounds_ne (by decide)]
  simp [h1]
 gi_wp2
 exact hK
def InvT (O : List Int) (x : Int) (st0 : St) (pre : List (BX tV O.length)) (st : St) : Prop :=
 st.sl = st0.sl ∧ st.ro 4096 (st0.gn 4096) = some (.bx [immL O]) ∧ st.ro 4096 1 = some (.bx [immL O]) ∧ st.ro 8240 1 = some (.bx [.ref 8224 1 [] 0 O.length]) ∧ st.ro 8224 1 = some (rowL (tpF O x (pre.map BX.i)).1) ∧ st.ro 4112 1 = some (.bx [i64 (tpF O x (pre.map BX.i)).2])
theorem cTup (hO : GrpP O) {x : Int} (hx : 0 ≤ x ∧ x < 4294967296) : CallOK Tryz.prog 100 [immL O, i64 x] (.row (rws (fun j => i64 (dgD O x j)) O.length)) := by
 have hl1 := hO.l1
 have hl4 := hO.l4
 have ho := isL_imm O
 have hm' : (O.length : Int) ≤ ((4294967296 : Nat) : Int) := by omega
 refine call_of (fn := Tryz.f100) (code := bodyOf Tryz.f100) Tryz.func100 rfl (by kernel_rfl) (noRef_row _ (noRefL_rws _ _ fun _ => rfl)) ?_
 intro sl hs
 have s0 : sl 0 = immL O := hs 0
 have s1 : sl 1 = i64 x := hs 1
 dsimp only [Tryz.f100, bodyOf, Option.getD]
 refine Yde ?_
 refine CLL_in rfl _ _ _ inBack ?_
 refine Yac ?_
 generalize hst : St.mk _ _ _ = st0
 have s11 : st0.sl 11 = .fn 79 [.ptr 4096 (st0.gn 4096) [] 0] := by rw [← hst]; simp only [↓za, ↓reduceIte, Nat.reduceEqDiff, zb, reduceCtorEq]
 have s2 : st0.sl 2 = .ptr 4096 1 [] 0 := by rw [← hst]; simp only [↓za, ↓reduceIte, Nat.reduceEqDiff, zb, reduceCtorEq]
 have s3 : st0.sl 3 = .ptr 4112 1 [] 0 := by rw [← hst]; simp only [↓za, ↓reduceIte, Nat.reduceEqDiff, zb, reduceCtorEq]
 have s5 : st0.sl 5 = .ptr 8240 1 [] 0 := by rw [← hst]; simp only [↓za, ↓reduceIte, Nat.reduceEqDiff, zb, reduceCtorEq]
 have b0 : st0.ro 4096 (st0.gn 4096) = some (.bx [immL O]) := by rw [← hst]; simp only [↓za, ↓reduceIte, Nat.reduceEqDiff, zb, reduceCtorEq]
 have b1 : st0.ro 4096 1 = some (.bx [immL O]) := by rw [← hst]; simp only [↓za, ↓reduceIte, Nat.reduceEqDiff, zb, reduceCtorEq]
 have b2 : st0.ro 8240 1 = some (.bx [.ref 8224 1 [] 0 O.length]) := by rw [← hst]; simp only [↓za, ↓reduceIte, Nat.reduceEqDiff, zb, reduceCtorEq]
 have b3 : st0.ro 8224 1 = some (rowL (tpF O x []).1) := by
  rw [← hst]
  refine Yax ?_
  show some (AV.row (rws (fun _ => i64 0) O.length)) = some (AV.row ((List.replicate O.length (0 : Int)).map i64))
  rw [List.map_replicate, rep_rws]
 have b4 : st0.ro 4112 1 = some (.bx [i64 x]) := by rw [← hst]; simp only [↓za, ↓reduceIte, Nat.reduceEqDiff, zb, reduceCtorEq]
 clear hst
 refine WK_rf _ (semC_back (ta := 6) (n := O.length) (V := tV) true (by omega) hl1 (by decide) s11 (InvT O x st0) ⟨rfl, b0, b1, b2, b3, b4⟩ (fun pre st h => ⟨h.1, O, rfl, fun _ _ => trivial, .inl h.2.1⟩) (by kernel_rfl) (fun k h => by simpa [dstOK] using h) (fun l k t u v W K h1 h2 hK => asgT h1 h2 hK) ?_) ?_
 ·rintro pre q ⟨sl, ro, gn⟩ ⟨q0, q1, q2, q3, q4, q5⟩ hlen
  dsimp only at q0 q1 q2 q3 q4 q5
  have hb := tpF_b hO hx _ (pre.map BX.i) rfl (bx_lt pre)
  have hlen2 := tpF_len (O := O) x (pre.map BX.i)
  have hql := q.lt
  obtain ⟨m1, m2⟩ := hO.rg _ hql
  unfold InvT
  rw [List.map_append, List.map_singleton, tpF_app]
  generalize tpF O x (pre.map BX.i) = t at q4 q5 hb hlen2 ⊢
  obtain ⟨L, p⟩ := t
  dsimp only at q4 q5 hb hlen2 ⊢
  have hmz : ¬ atI O q.i = 0 := by omega
  have eu : p.tmod (atI O q.i) = p % atI O q.i := Int.tmod_eq_emod_of_nonneg hb.1
  have du : p.tdiv (atI O q.i) = p / atI O q.i := Int.tdiv_eq_ediv_of_nonneg hb.1
  have c12 := Int.ediv_le_self (atI O q.i) hb.1
  have c11 : 0 ≤ p / atI O q.i := Int.ediv_nonneg hb.1 (by omega)
  have hqi : (q.i : Int) < (O.length : Nat) := Int.ofNat_lt.2 hql
  refine wk_ok (X := XX) _ ?_
  show WK XX _ [] _ _
  refine Ybz ?_
  refine FIN_of (by kernel_rfl) ?_
  refine Ybz ?_
  refine FIN_of (by kernel_rfl) ?_
  refine Ybz ?_
  exact q1
 ·rintro e ⟨sl', ro', gn'⟩ ⟨rfl, xs, hxs, q0, q1, q2, q3, q4, q5⟩
  dsimp only at q0 q1 q2 q3 q4 q5
  subst q0
  rw [hxs, tpF_dwn _ _ (Nat.le_refl _)] at q4
  have q6 : ro' 8224 1 = some (.row (rws (fun j => i64 (dgD O x j)) O.length)) := by
   rw [q4]
   show some (AV.row ((rws _ _).map i64)) = _
   rw [rws_map]
   exact congrArg (fun z => some (AV.row z)) (rws_congr fun j hj => by rw [if_pos (by omega)])
  simp (maxSteps := 10000000) (disch := first | assumption | omega) only [go_sem, ↓reduceIte, Nat.reduceEqDiff, reduceCtorEq, Nat.reduceAdd, Nat.reduceMul, Nat.reduceLeDiff, zc, Int.reduceToNat, s5, q3, q6]
  simp only [zr, zb, retR, resL, outT, outL, zes, zez, oneV, zcp, zed, zfi, Ro.dl, St.ev, zhk, ↓za, ↓reduceIte, Nat.reduceEqDiff, Nat.reduceAdd, Nat.reduceLeDiff, q6]
end
end Go.Proofs.YtmchdjiigfiabaaGreat
/- The visitors of sums (program), in the caller's memory. -/
namespace Go.Proofs.YtmchdjiigfiabaaGreat
open Go.RowKit
set_option maxRecDepth 1000000
section
variable {O : List Int} {m : Nat} {F : Nat → Nat → Nat → Int} {l : List Nat} {c : AV}
theorem rwI_rg {M : Int} {F : Nat → Nat → Nat → Int} {L : Nat → Nat → Int} (hm : 1 ≤ M) {g : Nat} {P : List Stp} : RgF M (rwB O M F L g (fun _ => 0) P) := rwB_rg hm fun _ => ⟨Int.le_refl _, by show (0 : Int) < M; omega⟩
theorem gsI_rg {M : Int} {L : Nat → Nat → Int} (hm : 1 ≤ M) {P : List Stp} : ∀ k x, RgF M (gsI O M F L P k x)
 | 0, _ => fun _ => ⟨Int.le_refl _, by show (0 : Int) < M; omega⟩
 | k + 1, x => fun z => by
  unfold gsI
  rw [List.range_succ, List.foldl_append]
  show 0 ≤ (if x = gen O k then _ else _ : Nat → Int) z ∧ (if x = gen O k then _ else _ : Nat → Int) z < M
  split
  ·exact rwI_rg hm z
  ·exact gsI_rg hm k x z
theorem mtI_rg {M : Int} (hm : 1 ≤ M) {B : Nat → Nat → Int} : ∀ {P : List Stp} {A : Nat → Nat → Int}, (∀ x, RgF M (A x)) → ∀ x, RgF M (P.foldl (mtI O M F B) A x)
 | [], _, h => h
 | s :: P, A, h => by
  refine mtI_rg (P := P) hm fun x z => ?_
  show 0 ≤ (if x = s.1 then _ else _ : Nat → Int) z ∧ (if x = s.1 then _ else _ : Nat → Int) z < M
  split
  ·exact RgF.md hm _
  ·exact h x z
theorem cRestN {c : AV} {T : List (List (List Int))} (hc : isLLL c T) (hm : 1 ≤ m ∧ m ≤ 1000) {z : Int} (hz : -4611686018427387904 < z ∧ z < 4611686018427387904) : CallOK Tryz.prog 77 [.agg [immL O, i64 (m : Int), c], i64 z] (i64 (z % m)) := cRest (isL_imm O) hc (by omega) hz
set_option maxHeartbeats 4000000 in
theorem inL1 {ro : Ro} {gn : Nat → Nat} {gc gr gl gL gi g9 gw gg gR i j : Nat} {s : Stp} {R : Nat → Int} (hW : CoP O m F (szO O)) (sm : SmO O) (hr : O.length ≤ 3) (hc : isLLL c (cubeL F (szO O))) (hl : l.length = O.length * O.length) (hlm : ∀ x, x ∈ l → x < m) (hi : i < O.length) (hp : StpP O (plI O) j s) (hRg : RgF m R)
  (r1 : ro 4096 gc = some (.bx [immL O, i64 (m : Int), c])) (r2 : ro 32800 gr = some (.bx [.ref 32784 gR [] 0 (szO O)])) (r3 : ro 4112 gl = some (.bx [.ref 61488 gL [] 0 (O.length * O.length)])) (r4 : ro 61488 gL = some (rowL (zl l))) (r5 : ro 28720 gi = some (.bx [i64 (i : Int)]))
  (r6 : ro 16416 g9 = some (.bx [i64 (O.length : Nat)])) (r7 : ro 8336 gw = some (.bx [c])) (r8 : ro 28736 gg = some (.bx [i64 (gen O i : Nat)])) (r9 : ro 32784 gR = some (.row (rws (fun z => i64 (R z)) (szO O)))) :
  InS Tryz.prog 82 [i64 (s.2.1 : Nat), i64 (gen O s.2.2 : Nat), i64 (s.2.2 : Nat), .ptr 4096 gc [] 0, .ptr 32800 gr [] 0, .ptr 4112 gl [] 0, .ptr 28720 gi [] 0, .ptr 16416 g9 [] 0, .ptr 8336 gw [] 0, .ptr 28736 gg [] 0] ro gn
   (fun _ ro' gn' => Fru [32784] 32784 gR ro gn ro' gn' ∧ ro' 32784 gR = some (.row (rws (fun z => i64 (rwS O m F (LI O.length l) i R s z)) (szO O)))) := by
 have hO := hW.s.g sm.l6
 have ho := isL_imm O
 have hm := hW.s.m
 have n8 := hW.s.n8
 have hb := hW.s.b
 have lX : (cubeL F (szO O)).length = szO O := zfe _ _
 have q1 := hp.e
 have q2 := hp.x
 have q3 := hp.k
 have hgn := sm.gn hi
 have hgk := sm.gn q3
 have hgr : i * O.length + s.2.2 < O.length * O.length := by
  have := Nat.mul_le_mul_right O.length (show i + 1 ≤ O.length from hi)
  rw [Nat.succ_mul] at this
  omega
 have hrr : O.length * O.length ≤ 9 := Nat.mul_le_mul hr hr
 have e1 : (i : Int) * (O.length : Nat) = ((i * O.length : Nat) : Int) := (Int.natCast_mul _ _).symm
 have e2 : ((i * O.length : Nat) : Int) + ((s.2.2 : Nat) : Int) = ((i * O.length + s.2.2 : Nat) : Int) := (Int.natCast_add _ _).symm
 have e3 : ((i * O.length + s.2.2 : Nat) : Int) < ((O.length * O.length : Nat) : Int) := Int.ofNat_lt.2 hgr
 have hal : i * O.length + s.2.2 < (zl l).length := by rw [List.length_map]; omega
 have hat : ((zl l).map i64)[i * O.length + s.2.2]? = some (i64 (LI O.length l i s.2.2)) := by
  rw [map_get_i hal]
  unfold atI LI
  rw [List.getD_eq_getElem?_getD, List.getD_eq_getElem?_getD, List.getElem?_map, List.getElem?_eq_getElem (by omega)]
  rfl
 have hLb : 0 ≤ LI O.length l i s.2.2 ∧ LI O.length l i s.2.2 ≤ 1000 := by
  have := getD_lt (j := i * O.length + s.2.2) hlm (by omega)
  show (0 : Int) ≤ (l.getD (i * O.length + s.2.2) 0 : Nat) ∧ ((l.getD (i * O.length + s.2.2) 0 : Nat) : Int) ≤ 1000
  omega
 have iy := isLLL_mat hc (k := s.2.1) (by omega)
 have ix := isLLL_mat hc (k := gen O i) (by omega)
 have my := cube_row F q2
 have mx := cube_row F hgn
 have iyx := isLL_row iy (k := gen O i) (by omega)
 have iyh := isLL_row iy (k := gen O s.2.2) (by omega)
 have ixy := isLL_row ix (k := s.2.1) (by omega)
 have m1 := cube_rr F q2 hgn
 have m2 := cube_rr F q2 hgk
 have m3 := cube_rr F hgn q2
 have v1 : atI (row (mat (cubeL F (szO O)) s.2.1) (gen O i)) (gen O s.2.2) = F s.2.1 (gen O i) (gen O s.2.2) := at3_cube q2 hgn hgk
 have v2 : atI (row (mat (cubeL F (szO O)) s.2.1) (gen O s.2.2)) (gen O i) = F s.2.1 (gen O s.2.2) (gen O i) := at3_cube q2 hgk hgn
 have v3 : atI (row (mat (cubeL F (szO O)) (gen O i)) s.2.1) (gen O s.2.2) = F (gen O i) s.2.1 (gen O s.2.2) := at3_cube hgn q2 hgk
 have b1 := hb _ q2 _ hgn _ hgk
 have b2 := hb _ q2 _ hgk _ hgn
 have b3 := hb _ hgn _ q2 _ hgk
 have b4 := hRg s.2.1
 have cp := cPlus (M := m) (c := c) hc hO (x := s.2.1) (y := gen O s.2.2) (by omega) (by omega)
 rw [← hp.ad] at cp
 have cm := cRestN (O := O) (m := m) hc (by omega) (z := R s.2.1 + LI O.length l i s.2.2 + F s.2.1 (gen O i) (gen O s.2.2) - F s.2.1 (gen O s.2.2) (gen O i) - F (gen O i) s.2.1 (gen O s.2.2)) (by omega)
 have ev : (R s.2.1 + LI O.length l i s.2.2 + F s.2.1 (gen O i) (gen O s.2.2) - F s.2.1 (gen O s.2.2) (gen O i) - F (gen O i) s.2.1 (gen O s.2.2)) % (m : Int) = rwV O m F (LI O.length l) i R s := by
  unfold rwV
  congr 1
  omega
 rw [ev] at cm
 have q1' : ((s.1 : Nat) : Int) < (szO O : Nat) := Int.ofNat_lt.2 q1
 have q2' : ((s.2.1 : Nat) : Int) < (szO O : Nat) := Int.ofNat_lt.2 q2
 refine in_ofS (fn := Tryz.f82) (code := bodyOf Tryz.f82) Tryz.func82 rfl (by kernel_rfl) ?_
 intro sl hs
 have s0 : sl 0 = i64 (s.2.1 : Nat) := hs 0
 have s1 : sl 1 = i64 (gen O s.2.2 : Nat) := hs 1
 have s2 : sl 2 = i64 (s.2.2 : Nat) := hs 2
 have s3 : sl 3 = .ptr 4096 gc [] 0 := hs 3
 have s4 : sl 4 = .ptr 32800 gr [] 0 := hs 4
 have s5 : sl 5 = .ptr 4112 gl [] 0 := hs 5
 have s6 : sl 6 = .ptr 28720 gi [] 0 := hs 6
 have s7 : sl 7 = .ptr 16416 g9 [] 0 := hs 7
 have s8 : sl 8 = .ptr 8336 gw [] 0 := hs 8
 have s9 : sl 9 = .ptr 28736 gg [] 0 := hs 9
 dsimp only [Tryz.f82, bodyOf, Option.getD]
 simp (maxSteps := 10000000) (disch := first | assumption | omega) only [go_sem, ↓reduceIte, Nat.reduceEqDiff, reduceCtorEq, Nat.reduceAdd, Nat.reduceMul, Nat.reduceLeDiff, zc, Int.reduceToNat, s0, s1, s2, s3, s4, s5, s6, s7, s8, s9, tiC, r1, r2]
 refine CLLD_pure _ cp PUt rfl ?_
 simp (maxSteps := 10000000) (disch := first | assumption | omega) only [go_sem, ↓reduceIte, Nat.reduceEqDiff, reduceCtorEq, Nat.reduceAdd, Nat.reduceMul, Nat.reduceLeDiff, zc, Int.reduceToNat, s0, s1, s2, s3, s4, s5, s6, s7, s8, s9, tiC, r1, r2, r3, r4, r5, r6, r7, r8, r9, q2', rws_get _ _ _ q2, e1, e2, e3, hat, v1, v2, v3]
 refine CLLD_pure _ cm PUt rfl ?_
 simp (maxSteps := 10000000) (disch := first | assumption | omega) only [go_sem, ↓reduceIte, Nat.reduceEqDiff, reduceCtorEq, Nat.reduceAdd, Nat.reduceMul, Nat.reduceLeDiff, zc, Int.reduceToNat, s0, s1, s2, s3, s4, s5, s6, s7, s8, s9, r9, q1', rws_set]
 refine FIN_of (by kernel_rfl) ?_
 simp (maxSteps := 10000000) (disch := first | assumption | omega) only [go_sem, ↓reduceIte, Nat.reduceEqDiff, reduceCtorEq, Nat.reduceAdd, Nat.reduceMul, Nat.reduceLeDiff, zc, Int.reduceToNat, s0, s1, s2, s3, s4, s5, s6, s7, s8, s9, r9, q1', rws_set]
 refine ⟨.inl rfl, [], rfl, ?_, ?_⟩
 ·exact Fru.wr (Fru.refl _ _ _ _ _) _ _ _ (by decide) (.inr ⟨rfl, rfl⟩)
 ·refine Yax ?_
  refine congrArg (fun z => some (AV.row z)) (rws_congr fun z _ => ?_)
  show (if z = s.1 then _ else _) = i64 (if z = s.1 then _ else _)
  split <;> rfl
def mZI (O : List Int) (M : Int) (F : Nat → Nat → Nat → Int) (B A : Nat → Nat → Int) (s : Stp) (k : Nat) : Nat → Nat → Int := fun x z => if x = s.1 ∧ z < k then mtV O M F A B s z else A x z
theorem mZI_s {M : Int} {B A : Nat → Nat → Int} {s : Stp} {k n : Nat} : matA (upd2 (mZI O M F B A s k) s.1 k (mtV O M F A B s k)) n n = matA (mZI O M F B A s (k + 1)) n n := mat_congr fun x z _ _ => by
 unfold upd2 mZI
 by_cases e : x = s.1
 ·subst e
  by_cases e2 : z = k
  ·simp [e2]
  ·have h : (z < k) ↔ (z < k + 1) := by omega
   simp [e2, h]
 ·simp [e]
theorem mZI_0 {M : Int} {B A : Nat → Nat → Int} {s : Stp} {n : Nat} : matA A n n = matA (mZI O M F B A s 0) n n := mat_congr fun x z _ _ => by simp [mZI]
theorem mZI_n {M : Int} {B A : Nat → Nat → Int} {s : Stp} {n : Nat} : matA (mZI O M F B A s n) n n = matA (mtI O M F B A s) n n := mat_congr fun x z _ hz => by
 unfold mZI mtI
 by_cases e : x = s.1
 ·simp [e, hz, updR]
 ·simp [e, updR]
set_option maxHeartbeats 4000000 in
theorem inL2 {ro : Ro} {gn : Nat → Nat} {gN gc gA gB g3 g4 gw j : Nat} {s : Stp} {A B : Nat → Nat → Int} (hW : CoP O m F (szO O)) (sm : SmO O) (hc : isLLL c (cubeL F (szO O))) (hp : StpP O (plI O) j s) (hAg : ∀ x, RgF m (A x)) (hBg : ∀ x, RgF m (B x))
  (r1 : ro 8320 gN = some (.bx [i64 (szO O : Nat)])) (r2 : ro 4096 gc = some (.bx [immL O, i64 (m : Int), c])) (r3 : ro 53296 g3 = some (.bx [.ref 53280 gA [] 0 (szO O)])) (r4 : ro 49184 g4 = some (.bx [.ref 12336 gB [] 0 (szO O)])) (r5 : ro 8336 gw = some (.bx [c])) (r6 : ro 53280 gA = some (matA A (szO O) (szO O))) (r7 : ro 12336 gB = some (matA B (szO O) (szO O))) :
  InS Tryz.prog 83 [i64 (s.2.1 : Nat), i64 (gen O s.2.2 : Nat), i64 (s.2.2 : Nat), .ptr 8320 gN [] 0, .ptr 4096 gc [] 0, .ptr 53296 g3 [] 0, .ptr 49184 g4 [] 0, .ptr 8336 gw [] 0] ro gn
   (fun _ ro' gn' => Fru [53280] 53280 gA ro gn ro' gn' ∧ ro' 53280 gA = some (matA (mtI O m F B A s) (szO O) (szO O))) := by
 have hO := hW.s.g sm.l6
 have ho := isL_imm O
 have hm := hW.s.m
 have n8 := hW.s.n8
 have hb := hW.s.b
 have lX : (cubeL F (szO O)).length = szO O := zfe _ _
 have q1 := hp.e
 have q2 := hp.x
 have q3 := hp.k
 have hgk := sm.gn q3
 have cp := cPlus (M := m) (c := c) hc hO (x := s.2.1) (y := gen O s.2.2) (by omega) (by omega)
 rw [← hp.ad] at cp
 have q1' : ((s.1 : Nat) : Int) < (szO O : Nat) := Int.ofNat_lt.2 q1
 have q2' : ((s.2.1 : Nat) : Int) < (szO O : Nat) := Int.ofNat_lt.2 q2
 have hgk' : ((gen O s.2.2 : Nat) : Int) < (szO O : Nat) := Int.ofNat_lt.2 hgk
 have iy := isLLL_mat hc (k := s.2.1) (by omega)
 have my := cube_row F q2
 have iyg := isLL_row iy (k := gen O s.2.2) (by omega)
 have m3 := cube_rr F q2 hgk
 refine in_ofS (fn := Tryz.f83) (code := bodyOf Tryz.f83) Tryz.func83 rfl (by kernel_rfl) ?_
 intro sl hs
 have s0 : sl 0 = i64 (s.2.1 : Nat) := hs 0
 have s1 : sl 1 = i64 (gen O s.2.2 : Nat) := hs 1
 have s2 : sl 2 = i64 (s.2.2 : Nat) := hs 2
 have s3 : sl 3 = .ptr 8320 gN [] 0 := hs 3
 have s4 : sl 4 = .ptr 4096 gc [] 0 := hs 4
 have s5 : sl 5 = .ptr 53296 g3 [] 0 := hs 5
 have s6 : sl 6 = .ptr 49184 g4 [] 0 := hs 6
 have s7 : sl 7 = .ptr 8336 gw [] 0 := hs 7
 dsimp only [Tryz.f83, bodyOf, Option.getD]
 simp (maxSteps := 10000000) (disch := first | assumption | omega) only [go_sem, ↓reduceIte, Nat.reduceEqDiff, reduceCtorEq, Nat.reduceAdd, Nat.reduceMul, Nat.reduceLeDiff, zc, Int.reduceToNat, s0, s1, s2, s3, s4, s5, s6, s7, r1]
 refine WK_for (fun z st => st.sl 0 = i64 (s.2.1 : Nat) ∧ st.sl 1 = i64 (gen O s.2.2 : Nat) ∧ st.sl 2 = i64 (s.2.2 : Nat) ∧ st.sl 3 = .ptr 8320 gN [] 0 ∧ st.sl 4 = .ptr 4096 gc [] 0 ∧ st.sl 5 = .ptr 53296 g3 [] 0 ∧ st.sl 6 = .ptr 49184 g4 [] 0 ∧ st.sl 7 = .ptr 8336 gw [] 0 ∧ st.sl 12 = i64 (szO O : Nat) ∧ st.sl 13 = i64 (z : Int) ∧ (Fru [53280] 53280 gA ro gn st.ro st.gn) ∧ st.ro 53280 gA = some (matA (mZI O m F B A s z) (szO O) (szO O))) ((szO O)) ?_ ?_ ?_
 ·simp only [↓za, ↓reduceIte, Nat.reduceEqDiff, zb, reduceCtorEq, rws_zero, s0, s1, s2, s3, s4, s5, s6, s7]
  exact ⟨rfl, Fru.refl _ _ _ _ _, r6.trans (congrArg some mZI_0)⟩
 ·rintro z sl ro gn hz ⟨s0, s1, s2, s3, s4, s5, s6, s7, s12, s13, fr, r53280⟩
  dsimp only at s0 s1 s2 s3 s4 s5 s6 s7 s12 s13 r53280
  have hz' : (z : Int) < ((szO O) : Nat) := by omega
  dsimp only at fr
  have k1 := (congrFun (fr.off 8320 (by decide)).1 gN).trans r1
  have k2 := (congrFun (fr.off 4096 (by decide)).1 gc).trans r2
  have k3 := (congrFun (fr.off 53296 (by decide)).1 g3).trans r3
  have k4 := (congrFun (fr.off 49184 (by decide)).1 g4).trans r4
  have k5 := (congrFun (fr.off 8336 (by decide)).1 gw).trans r5
  have k7 := (congrFun (fr.off 12336 (by decide)).1 gB).trans r7
  have hzn' : (z : Int) < (szO O : Nat) := Int.ofNat_lt.2 hz
  have u1 : mZI O m F B A s z s.2.1 z = A s.2.1 z := if_neg fun h => hp.ex h.1.symm
  have iz := isLLL_mat hc (k := z) (by omega)
  have mz := cube_row F hz
  have iyz := isLL_row iy (k := z) (by omega)
  have izy := isLL_row iz (k := s.2.1) (by omega)
  have m1 := cube_rr F q2 hz
  have m2 := cube_rr F hz q2
  have v1 : atI (row (mat (cubeL F (szO O)) s.2.1) z) (gen O s.2.2) = F s.2.1 z (gen O s.2.2) := at3_cube q2 hz hgk
  have v2 : atI (row (mat (cubeL F (szO O)) z) s.2.1) (gen O s.2.2) = F z s.2.1 (gen O s.2.2) := at3_cube hz q2 hgk
  have v3 : atI (row (mat (cubeL F (szO O)) s.2.1) (gen O s.2.2)) z = F s.2.1 (gen O s.2.2) z := at3_cube q2 hgk hz
  have b1 := hb _ q2 _ hz _ hgk
  have b2 := hb _ hz _ q2 _ hgk
  have b3 := hb _ q2 _ hgk _ hz
  have b4 := hAg s.2.1 z
  have b5 := hBg (gen O s.2.2) z
  have cm := cRestN (O := O) (m := m) hc (by omega) (z := A s.2.1 z + B (gen O s.2.2) z - F s.2.1 z (gen O s.2.2) + F z s.2.1 (gen O s.2.2) + F s.2.1 (gen O s.2.2) z) (by omega)
  have ev : (A s.2.1 z + B (gen O s.2.2) z - F s.2.1 z (gen O s.2.2) + F z s.2.1 (gen O s.2.2) + F s.2.1 (gen O s.2.2) z) % (m : Int) = mtV O m F A B s z := by
   unfold mtV
   congr 1
   omega
  rw [ev] at cm
  simp (maxSteps := 10000000) (disch := first | assumption | omega) only [go_sem, ↓reduceIte, Nat.reduceEqDiff, reduceCtorEq, Nat.reduceAdd, Nat.reduceMul, Nat.reduceLeDiff, zc, Int.reduceToNat, s0, s1, s2, s3, s4, s5, s6, s7, s12, s13, r53280, hz', hz, tiC, k1, k2, k3, hzn']
  refine CLLD_pure _ cp PUt rfl ?_
  simp (maxSteps := 10000000) (disch := first | assumption | omega) only [go_sem, ↓reduceIte, Nat.reduceEqDiff, reduceCtorEq, Nat.reduceAdd, Nat.reduceMul, Nat.reduceLeDiff, zc, Int.reduceToNat, s0, s1, s2, s3, s4, s5, s6, s7, s12, s13, r53280, hz', hz, tiC, k2, k3, k4, k5, k7, hzn', q1', q2', hgk', rws_get _ _ _ hz, mat_cells r53280 q1, mat_cells r53280 q2, mat_cells k7 hgk, u1, v1, v2, v3]
  refine CLLD_pure _ cm PUt rfl ?_
  refine Yck ?_
  refine FIN_of (by kernel_rfl) ?_
  refine Yck ?_
  exact ⟨i64c (by omega), fr.wr _ _ _ (by decide) (.inr ⟨rfl, rfl⟩), congrArg some mZI_s⟩
 ·rintro sl ro gn ⟨s0, s1, s2, s3, s4, s5, s6, s7, s12, s13, fr, r53280⟩
  dsimp only at s0 s1 s2 s3 s4 s5 s6 s7 s12 s13 r53280
  have hz' : ¬ (((szO O) : Nat) : Int) < ((szO O) : Nat) := by omega
  dsimp only at fr
  rw [mZI_n] at r53280
  simp (maxSteps := 10000000) (disch := first | assumption | omega) only [go_sem, ↓reduceIte, Nat.reduceEqDiff, reduceCtorEq, Nat.reduceAdd, Nat.reduceMul, Nat.reduceLeDiff, zc, Int.reduceToNat, s0, s1, s2, s3, s4, s5, s6, s7, s12, s13, r53280, hz']
  exact ⟨.inl rfl, [], rfl, fr, r53280⟩
end
end Go.Proofs.YtmchdjiigfiabaaGreat
/- Elements as sums (program): each is visited once. -/
namespace Go.Proofs.YtmchdjiigfiabaaGreat
open Go.RowKit
set_option maxRecDepth 1000000
section
variable {O : List Int} {m : Nat} {F : Nat → Nat → Nat → Int} {c : AV}
theorem lstK_z {y : Nat} : ∀ k j, lstK O y k < j → j < k → dgD O y j = 0
 | k + 1, j, h1, h2 => by
  unfold lstK at h1
  by_cases h : dgD O y k = 0
  ·rw [if_pos h] at h1
   rcases Nat.lt_or_eq_of_le (Nat.le_of_lt_succ h2) with h3 | h3
   ·exact lstK_z k j h1 h3
   ·rw [h3]; exact h
  ·rw [if_neg h] at h1
   omega
theorem plI_get {j : Nat} (hj : j < szO O - 1) : (plI O)[j]? = some (j + 1, j + 1 - gen O (lstK O (j + 1) O.length), lstK O (j + 1) O.length) := by
 unfold plI
 rw [List.getElem?_map, List.getElem?_range hj]
 rfl
theorem plI_len (O : List Int) : (plI O).length = szO O - 1 := by simp [plI]
def R1 : List Nat := [4096, 32800, 4112, 61488, 28720, 16416, 8336, 28736]
def R2 : List Nat := [8320, 4096, 53296, 49184, 12336, 8336]
set_option maxHeartbeats 8000000 in
theorem sEach1 {rb : Ro} {gb : Nat → Nat} {go u g : Nat} {caps : List AV} {X : Nat → AV} (hW : CoP O m F (szO O)) (sm : SmO O) (hc : isLLL c (cubeL F (szO O))) (hown : rb 8224 go = some (.row (rws (fun i => i64 (gen O i : Nat)) O.length))) (hX0 : rb 32784 u = some (X 0)) (hu : u ≤ gb 32784) (hg : XX.isIn g = true)
  (hV : ∀ j s ro gn, (plI O)[j]? = some s → StpP O (plI O) j s → (∀ x, x ∈ R1 → ∀ y, y ≤ gb x → ro x y = rb x y) → ro 32784 u = some (X j) → InS Tryz.prog g (i64 (s.2.1 : Nat) :: i64 (gen O s.2.2 : Nat) :: i64 (s.2.2 : Nat) :: caps) ro gn (fun _ ro' gn' => Fru [32784] 32784 u ro gn ro' gn' ∧ ro' 32784 u = some (X (j + 1)))) :
  InS Tryz.prog 81 [.agg [immL O, i64 (m : Int), c], .ref 8224 go [] 0 O.length, .fn g caps] rb gb (fun _ ro' gn' => Fru [4096, 20528, 32784] 32784 u rb gb ro' gn' ∧ ro' 32784 u = some (X (szO O - 1))) := by
 have hO := hW.s.g sm.l6
 have ho := isL_imm O
 have n8 := hW.s.n8
 have h4 := hO.l4
 have hl1 := hO.l1
 have lX : (cubeL F (szO O)).length = szO O := zfe _ _
 refine in_ofS (fn := Tryz.f81) (code := bodyOf Tryz.f81) Tryz.func81 rfl (by kernel_rfl) ?_
 intro sl hs
 have s0 : sl 0 = .agg [immL O, i64 (m : Int), c] := hs 0
 have s1 : sl 1 = .ref 8224 go [] 0 O.length := hs 1
 have s2 : sl 2 = .fn g caps := hs 2
 dsimp only [Tryz.f81, bodyOf, Option.getD]
 simp (maxSteps := 10000000) (disch := first | assumption | omega) only [go_sem, ↓reduceIte, Nat.reduceEqDiff, reduceCtorEq, Nat.reduceAdd, Nat.reduceMul, Nat.reduceLeDiff, zc, Int.reduceToNat, s0, s1, s2, tiC]
 obtain ⟨g3, hg3⟩ : ∃ g3, g3 = gb 4096 + 1 := ⟨_, rfl⟩
 rw [← hg3]
 refine WK_for (fun j st => st.sl 1 = .ref 8224 go [] 0 O.length ∧ st.sl 2 = .fn g caps ∧ st.sl 3 = .ptr 4096 g3 [] 0 ∧ st.ro 4096 g3 = some (.bx [immL O, i64 (m : Int), c]) ∧ st.sl 6 = i64 ((j + 1 : Nat) : Int) ∧ (g3 ≤ st.gn 4096) ∧ (Fru [4096, 20528, 32784] 32784 u rb gb st.ro st.gn) ∧ (st.ro 32784 u = some (X j))) ((szO O - 1)) ?_ ?_ ?_
 ·refine Ybv ?_
  refine ⟨rfl, by rw [hg3]; exact Nat.le_refl _, by rw [hg3]; exact (by (repeat' first | assumption | exact Fru.refl _ _ _ _ _ | refine Fru.al ?_ _ _ _ (by decide) rfl | refine Fru.wr ?_ _ _ _ (by decide) (by omega))), ?_⟩
  first | exact hX0 | (simp only [↓za, ↓reduceIte, Nat.reduceEqDiff, zb, reduceCtorEq]; exact hX0)
 ·rintro j sl ro gn hj ⟨s1, s2, s3, r4096, s6, g3l, fr, hx⟩
  dsimp only at s1 s2 s3 r4096 s6
  have hj' : (j : Int) < ((szO O - 1) : Nat) := by omega
  dsimp only at g3l fr hx
  have rO := (congrFun (fr.off 8224 (by decide)).1 go).trans hown
  have hj1 : j + 1 < szO O := by omega
  have hjn : ((j + 1 : Nat) : Int) < (szO O : Nat) := by omega
  have ct := cTup hO (x := ((j + 1 : Nat) : Int)) (by omega)
  obtain ⟨K1, K2, K3⟩ := sm.lk (j + 1) hj1 (by omega)
  have hz := fun i => lstK_z (O := O) (y := j + 1) O.length i
  have hs := plI_get (O := O) hj
  have hp := sm.pI.st j _ hs
  have hVj := fun ro1 gn1 => hV j _ ro1 gn1 hs hp
  dsimp only at hVj
  obtain ⟨K, hK⟩ : ∃ K, K = lstK O (j + 1) O.length := ⟨_, rfl⟩
  rw [← hK] at K1 K2 K3 hz hVj
  have em : (O.length : Int) - 1 = ((O.length - 1 - 0 : Nat) : Int) := by omega
  simp (maxSteps := 10000000) (disch := first | assumption | omega) only [go_sem, ↓reduceIte, Nat.reduceEqDiff, reduceCtorEq, Nat.reduceAdd, Nat.reduceMul, Nat.reduceLeDiff, zc, Int.reduceToNat, s1, s2, s3, r4096, s6, hj', hj, tiC, lX, hjn]
  refine CLL_pure _ ct PUt rfl rfl ?_
  simp (maxSteps := 10000000) (disch := first | assumption | omega) only [go_sem, ↓reduceIte, Nat.reduceEqDiff, reduceCtorEq, Nat.reduceAdd, Nat.reduceMul, Nat.reduceLeDiff, zc, Int.reduceToNat, s1, s2, s3, r4096, s6, hj', hj, impE_row, zfe, em, rO]
  refine WK_for (fun w st => st.sl 1 = .ref 8224 go [] 0 O.length ∧ st.sl 2 = .fn g caps ∧ st.sl 3 = .ptr 4096 g3 [] 0 ∧ st.ro 4096 g3 = some (.bx [immL O, i64 (m : Int), c]) ∧ st.sl 6 = i64 ((j + 1 : Nat) : Int) ∧ (g3 ≤ st.gn 4096) ∧ (Fru [4096, 20528, 32784] 32784 u rb gb st.ro st.gn) ∧ (st.ro 32784 u = some (X j)) ∧ st.sl 7 = .ref 20528 (st.gn 20528) [] 0 O.length ∧ st.ro 20528 (st.gn 20528) = some (.row (rws (fun i => i64 (dgD O ((j + 1 : Nat) : Int) i)) O.length)) ∧ st.sl 8 = i64 ((O.length - 1 - w : Nat) : Int)) ((O.length - 1 - K)) ?_ ?_ ?_
  ·simp only [↓za, ↓reduceIte, Nat.reduceEqDiff, zb, reduceCtorEq, rws_zero, s1, s2, s3, r4096, s6, hj', hj]
   refine ⟨?_, ?_, ?_⟩
   ·first | exact g3l | (simp only [↓za, ↓reduceIte, Nat.reduceEqDiff, zb, reduceCtorEq]; exact g3l)
   ·exact (by (repeat' first | assumption | exact Fru.refl _ _ _ _ _ | refine Fru.al ?_ _ _ _ (by decide) rfl | refine Fru.wr ?_ _ _ _ (by decide) (by omega)))
   ·first | exact hx | (simp only [↓za, ↓reduceIte, Nat.reduceEqDiff, zb, reduceCtorEq]; exact hx)
  ·rintro w sl ro gn hw ⟨s1, s2, s3, r4096, s6, g3l, fr, hx, s7, r20528, s8⟩
   dsimp only at s1 s2 s3 r4096 s6 s7 r20528 s8
   have hw' : (w : Int) < ((O.length - 1 - K) : Nat) := by omega
   dsimp only at g3l fr hx
   have hk1 : O.length - 1 - w < O.length := by omega
   have hk2 : ((O.length - 1 - w : Nat) : Int) < (O.length : Nat) := by omega
   have ed : dgD O ((j + 1 : Nat) : Int) (O.length - 1 - w) = 0 := hz _ (by omega) hk1
   refine Ydh ?_
   exact ⟨g3l, fr, hx, i64c (by omega)⟩
  ·rintro sl ro gn ⟨s1, s2, s3, r4096, s6, g3l, fr, hx, s7, r20528, s8⟩
   dsimp only at s1 s2 s3 r4096 s6 s7 r20528 s8
   have hw' : ¬ (((O.length - 1 - K) : Nat) : Int) < ((O.length - 1 - K) : Nat) := by omega
   dsimp only at g3l fr hx
   have ek : O.length - 1 - (O.length - 1 - K) = K := by omega
   rw [ek] at s8
   have rO := (congrFun (fr.off 8224 (by decide)).1 go).trans hown
   have hk2 : ((K : Nat) : Int) < (O.length : Nat) := by omega
   have es : ((j + 1 : Nat) : Int) - ((gen O K : Nat) : Int) = ((j + 1 - gen O K : Nat) : Int) := by omega
   refine Ydb ?_
   refine CLLD_inS [e0, e0, e0, e0, ⟨some [8224], []⟩, ⟨some [8224], []⟩, e0, e0, e0, ⟨some [8224], []⟩, ⟨some [8224], []⟩, e0, ⟨some R1, [32784]⟩] (inX_fru (W := [32784]) (t := 32784) (u := u) (R := R1) (Res := fun _ _ ro' _ => ro' 32784 u = some (X (j + 1))) (fun ro1 gn1 q1 q2 => ?_) (fun _ _ ro' _ ro2 _ _ hh hr => ?_) (by kernel_rfl) (aftB_ok (by kernel_rfl))) rfl ?_ rfl (by kernel_rfl) rfl
   ·exact hVj ro1 gn1 (fun x hx y hy => (congrFun (q1 x (.inl hx)) y).trans (fr.kp x y hy fun h => absurd hx (by rw [h.1]; decide))) ((congrFun (q1 32784 (.inr (by decide))) u).trans hx)
   ·rw [(hh 32784 (by decide)).1]
    exact hr
   ·rintro r ro' gn' ⟨fr', hx'⟩
    have k4 := (fr'.kp 4096 g3 (Ue g3l) (by omega)).trans r4096
    have frM := fr.trans (fr'.mono (W' := [4096, 20528, 32784]) (by decide)) (.inr ⟨rfl, rfl⟩)
    have g3n := Nat.le_trans g3l (fr'.up 4096)
    simp (maxSteps := 10000000) (disch := first | assumption | omega) only [go_sem, ↓reduceIte, Nat.reduceEqDiff, reduceCtorEq, Nat.reduceAdd, Nat.reduceMul, Nat.reduceLeDiff, zc, Int.reduceToNat, s1, s2, s3, r4096, s6, s7, r20528, s8, hw']
    refine FING_of rfl ?_
    simp (maxSteps := 10000000) (disch := first | assumption | omega) only [go_sem, ↓reduceIte, Nat.reduceEqDiff, reduceCtorEq, Nat.reduceAdd, Nat.reduceMul, Nat.reduceLeDiff, zc, Int.reduceToNat, s1, s2, s3, r4096, s6, s7, r20528, s8, hw', k4]
    exact ⟨i64c (by omega), g3n, frM, hx'⟩
 ·rintro sl ro gn ⟨s1, s2, s3, r4096, s6, g3l, fr, hx⟩
  dsimp only at s1 s2 s3 r4096 s6
  have hj' : ¬ (((szO O - 1) : Nat) : Int) < ((szO O - 1) : Nat) := by omega
  dsimp only at g3l fr hx
  have hjn : ¬ ((szO O - 1 + 1 : Nat) : Int) < (szO O : Nat) := by omega
  simp (maxSteps := 10000000) (disch := first | assumption | omega) only [go_sem, ↓reduceIte, Nat.reduceEqDiff, reduceCtorEq, Nat.reduceAdd, Nat.reduceMul, Nat.reduceLeDiff, zc, Int.reduceToNat, s1, s2, s3, r4096, s6, hj', tiC, lX, hjn]
  exact ⟨.inl rfl, [], rfl, fr, hx⟩
set_option maxHeartbeats 8000000 in
theorem sEach2 {rb : Ro} {gb : Nat → Nat} {go u g : Nat} {caps : List AV} {X : Nat → AV} (hW : CoP O m F (szO O)) (sm : SmO O) (hc : isLLL c (cubeL F (szO O))) (hown : rb 8224 go = some (.row (rws (fun i => i64 (gen O i : Nat)) O.length))) (hX0 : rb 53280 u = some (X 0)) (hu : u ≤ gb 53280) (hg : XX.isIn g = true)
  (hV : ∀ j s ro gn, (plI O)[j]? = some s → StpP O (plI O) j s → (∀ x, x ∈ R2 → ∀ y, y ≤ gb x → ro x y = rb x y) → ro 53280 u = some (X j) → InS Tryz.prog g (i64 (s.2.1 : Nat) :: i64 (gen O s.2.2 : Nat) :: i64 (s.2.2 : Nat) :: caps) ro gn (fun _ ro' gn' => Fru [53280] 53280 u ro gn ro' gn' ∧ ro' 53280 u = some (X (j + 1)))) :
  InS Tryz.prog 81 [.agg [immL O, i64 (m : Int), c], .ref 8224 go [] 0 O.length, .fn g caps] rb gb (fun _ ro' gn' => Fru [4096, 20528, 53280] 53280 u rb gb ro' gn' ∧ ro' 53280 u = some (X (szO O - 1))) := by
 have hO := hW.s.g sm.l6
 have ho := isL_imm O
 have n8 := hW.s.n8
 have h4 := hO.l4
 have hl1 := hO.l1
 have lX : (cubeL F (szO O)).length = szO O := zfe _ _
 refine in_ofS (fn := Tryz.f81) (code := bodyOf Tryz.f81) Tryz.func81 rfl (by kernel_rfl) ?_
 intro sl hs
 have s0 : sl 0 = .agg [immL O, i64 (m : Int), c] := hs 0
 have s1 : sl 1 = .ref 8224 go [] 0 O.length := hs 1
 have s2 : sl 2 = .fn g caps := hs 2
 dsimp only [Tryz.f81, bodyOf, Option.getD]
 simp (maxSteps := 10000000) (disch := first | assumption | omega) only [go_sem, ↓reduceIte, Nat.reduceEqDiff, reduceCtorEq, Nat.reduceAdd, Nat.reduceMul, Nat.reduceLeDiff, zc, Int.reduceToNat, s0, s1, s2, tiC]
 obtain ⟨g3, hg3⟩ : ∃ g3, g3 = gb 4096 + 1 := ⟨_, rfl⟩
 rw [← hg3]
 refine WK_for (fun j st => st.sl 1 = .ref 8224 go [] 0 O.length ∧ st.sl 2 = .fn g caps ∧ st.sl 3 = .ptr 4096 g3 [] 0 ∧ st.ro 4096 g3 = some (.bx [immL O, i64 (m : Int), c]) ∧ st.sl 6 = i64 ((j + 1 : Nat) : Int) ∧ (g3 ≤ st.gn 4096) ∧ (Fru [4096, 20528, 53280] 53280 u rb gb st.ro st.gn) ∧ (st.ro 53280 u = some (X j))) ((szO O - 1)) ?_ ?_ ?_
 ·refine Ybv ?_
  refine ⟨rfl, by rw [hg3]; exact Nat.le_refl _, by rw [hg3]; exact (by (repeat' first | assumption | exact Fru.refl _ _ _ _ _ | refine Fru.al ?_ _ _ _ (by decide) rfl | refine Fru.wr ?_ _ _ _ (by decide) (by omega))), ?_⟩
  first | exact hX0 | (simp only [↓za, ↓reduceIte, Nat.reduceEqDiff, zb, reduceCtorEq]; exact hX0)
 ·rintro j sl ro gn hj ⟨s1, s2, s3, r4096, s6, g3l, fr, hx⟩
  dsimp only at s1 s2 s3 r4096 s6
  have hj' : (j : Int) < ((szO O - 1) : Nat) := by omega
  dsimp only at g3l fr hx
  have rO := (congrFun (fr.off 8224 (by decide)).1 go).trans hown
  have hj1 : j + 1 < szO O := by omega
  have hjn : ((j + 1 : Nat) : Int) < (szO O : Nat) := by omega
  have ct := cTup hO (x := ((j + 1 : Nat) : Int)) (by omega)
  obtain ⟨K1, K2, K3⟩ := sm.lk (j + 1) hj1 (by omega)
  have hz := fun i => lstK_z (O := O) (y := j + 1) O.length i
  have hs := plI_get (O := O) hj
  have hp := sm.pI.st j _ hs
  have hVj := fun ro1 gn1 => hV j _ ro1 gn1 hs hp
  dsimp only at hVj
  obtain ⟨K, hK⟩ : ∃ K, K = lstK O (j + 1) O.length := ⟨_, rfl⟩
  rw [← hK] at K1 K2 K3 hz hVj
  have em : (O.length : Int) - 1 = ((O.length - 1 - 0 : Nat) : Int) := by omega
  simp (maxSteps := 10000000) (disch := first | assumption | omega) only [go_sem, ↓reduceIte, Nat.reduceEqDiff, reduceCtorEq, Nat.reduceAdd, Nat.reduceMul, Nat.reduceLeDiff, zc, Int.reduceToNat, s1, s2, s3, r4096, s6, hj', hj, tiC, lX, hjn]
  refine CLL_pure _ ct PUt rfl rfl ?_
  simp (maxSteps := 10000000) (disch := first | assumption | omega) only [go_sem, ↓reduceIte, Nat.reduceEqDiff, reduceCtorEq, Nat.reduceAdd, Nat.reduceMul, Nat.reduceLeDiff, zc, Int.reduceToNat, s1, s2, s3, r4096, s6, hj', hj, impE_row, zfe, em, rO]
  refine WK_for (fun w st => st.sl 1 = .ref 8224 go [] 0 O.length ∧ st.sl 2 = .fn g caps ∧ st.sl 3 = .ptr 4096 g3 [] 0 ∧ st.ro 4096 g3 = some (.bx [immL O, i64 (m : Int), c]) ∧ st.sl 6 = i64 ((j + 1 : Nat) : Int) ∧ (g3 ≤ st.gn 4096) ∧ (Fru [4096, 20528, 53280] 53280 u rb gb st.ro st.gn) ∧ (st.ro 53280 u = some (X j)) ∧ st.sl 7 = .ref 20528 (st.gn 20528) [] 0 O.length ∧ st.ro 20528 (st.gn 20528) = some (.row (rws (fun i => i64 (dgD O ((j + 1 : Nat) : Int) i)) O.length)) ∧ st.sl 8 = i64 ((O.length - 1 - w : Nat) : Int)) ((O.length - 1 - K)) ?_ ?_ ?_
  ·simp only [↓za, ↓reduceIte, Nat.reduceEqDiff, zb, reduceCtorEq, rws_zero, s1, s2, s3, r4096, s6, hj', hj]
   refine ⟨?_, ?_, ?_⟩
   ·first | exact g3l | (simp only [↓za, ↓reduceIte, Nat.reduceEqDiff, zb, reduceCtorEq]; exact g3l)
   ·exact (by (repeat' first | assumption | exact Fru.refl _ _ _ _ _ | refine Fru.al ?_ _ _ _ (by decide) rfl | refine Fru.wr ?_ _ _ _ (by decide) (by omega)))
   ·first | exact hx | (simp only [↓za, ↓reduceIte, Nat.reduceEqDiff, zb, reduceCtorEq]; exact hx)
  ·rintro w sl ro gn hw ⟨s1, s2, s3, r4096, s6, g3l, fr, hx, s7, r20528, s8⟩
   dsimp only at s1 s2 s3 r4096 s6 s7 r20528 s8
   have hw' : (w : Int) < ((O.length - 1 - K) : Nat) := by omega
   dsimp only at g3l fr hx
   have hk1 : O.length - 1 - w < O.length := by omega
   have hk2 : ((O.length - 1 - w : Nat) : Int) < (O.length : Nat) := by omega
   have ed : dgD O ((j + 1 : Nat) : Int) (O.length - 1 - w) = 0 := hz _ (by omega) hk1
   refine Ydh ?_
   exact ⟨g3l, fr, hx, i64c (by omega)⟩
  ·rintro sl ro gn ⟨s1, s2, s3, r4096, s6, g3l, fr, hx, s7, r20528, s8⟩
   dsimp only at s1 s2 s3 r4096 s6 s7 r20528 s8
   have hw' : ¬ (((O.length - 1 - K) : Nat) : Int) < ((O.length - 1 - K) : Nat) := by omega
   dsimp only at g3l fr hx
   have ek : O.length - 1 - (O.length - 1 - K) = K := by omega
   rw [ek] at s8
   have rO := (congrFun (fr.off 8224 (by decide)).1 go).trans hown
   have hk2 : ((K : Nat) : Int) < (O.length : Nat) := by omega
   have es : ((j + 1 : Nat) : Int) - ((gen O K : Nat) : Int) = ((j + 1 - gen O K : Nat) : Int) := by omega
   refine Ydb ?_
   refine CLLD_inS [e0, e0, e0, e0, ⟨some [8224], []⟩, ⟨some [8224], []⟩, e0, e0, e0, ⟨some [8224], []⟩, ⟨some [8224], []⟩, e0, ⟨some R2, [53280]⟩] (inX_fru (W := [53280]) (t := 53280) (u := u) (R := R2) (Res := fun _ _ ro' _ => ro' 53280 u = some (X (j + 1))) (fun ro1 gn1 q1 q2 => ?_) (fun _ _ ro' _ ro2 _ _ hh hr => ?_) (by kernel_rfl) (aftB_ok (by kernel_rfl))) rfl ?_ rfl (by kernel_rfl) rfl
   ·exact hVj ro1 gn1 (fun x hx y hy => (congrFun (q1 x (.inl hx)) y).trans (fr.kp x y hy fun h => absurd hx (by rw [h.1]; decide))) ((congrFun (q1 53280 (.inr (by decide))) u).trans hx)
   ·rw [(hh 53280 (by decide)).1]
    exact hr
   ·rintro r ro' gn' ⟨fr', hx'⟩
    have k4 := (fr'.kp 4096 g3 (Ue g3l) (by omega)).trans r4096
    have frM := fr.trans (fr'.mono (W' := [4096, 20528, 53280]) (by decide)) (.inr ⟨rfl, rfl⟩)
    have g3n := Nat.le_trans g3l (fr'.up 4096)
    simp (maxSteps := 10000000) (disch := first | assumption | omega) only [go_sem, ↓reduceIte, Nat.reduceEqDiff, reduceCtorEq, Nat.reduceAdd, Nat.reduceMul, Nat.reduceLeDiff, zc, Int.reduceToNat, s1, s2, s3, r4096, s6, s7, r20528, s8, hw']
    refine FING_of rfl ?_
    simp (maxSteps := 10000000) (disch := first | assumption | omega) only [go_sem, ↓reduceIte, Nat.reduceEqDiff, reduceCtorEq, Nat.reduceAdd, Nat.reduceMul, Nat.reduceLeDiff, zc, Int.reduceToNat, s1, s2, s3, r4096, s6, s7, r20528, s8, hw', k4]
    exact ⟨i64c (by omega), g3n, frM, hx'⟩
 ·rintro sl ro gn ⟨s1, s2, s3, r4096, s6, g3l, fr, hx⟩
  dsimp only at s1 s2 s3 r4096 s6
  have hj' : ¬ (((szO O - 1) : Nat) : Int) < ((szO O - 1) : Nat) := by omega
  dsimp only at g3l fr hx
  have hjn : ¬ ((szO O - 1 + 1 : Nat) : Int) < (szO O : Nat) := by omega
  simp (maxSteps := 10000000) (disch := first | assumption | omega) only [go_sem, ↓reduceIte, Nat.reduceEqDiff, reduceCtorEq, Nat.reduceAdd, Nat.reduceMul, Nat.reduceLeDiff, zc, Int.reduceToNat, s1, s2, s3, r4096, s6, hj', tiC, lX, hjn]
  exact ⟨.inl rfl, [], rfl, fr, hx⟩
end
end Go.Proofs.YtmchdjiigfiabaaGreat
