/- Texts joined: QG QH. -/
import Derived.Test.YtmchdjiigfiabaaGreatOd
set_option linter.all false
/- What cocycles are: the reference. -/
namespace Go.Proofs.YtmchdjiigfiabaaGreat
open Go.RowKit
set_option maxRecDepth 1000000
structure ShC (O : List Int) (M : Int) (F : Nat → Nat → Nat → Int) (n : Nat) : Prop where
 o : OrdP O
 m : 1 ≤ M ∧ M ≤ 1000
 e : (n : Int) = pfx O O.length
 n8 : n ≤ 8
 b : ∀ x, x < n → ∀ y, y < n → ∀ z, z < n → 0 ≤ F x y z ∧ F x y z ≤ M - 1
def NmC (F : Nat → Nat → Nat → Int) (n : Nat) : Prop := ∀ x, x < n → ∀ y, y < n → F 0 x y = 0 ∧ F x 0 y = 0 ∧ F x y 0 = 0
def cyE (O : List Int) (F : Nat → Nat → Nat → Int) (x y z t : Nat) : Int := F y z t - F (adN O x y) z t + F x (adN O y z) t - F x y (adN O z t) + F x y z
abbrev l4 (x y z t : Nat) : List Int := [(x : Int), (y : Int), (z : Int), (t : Int)]
def ft17 (O : List Int) (M : Int) (F : Nat → Nat → Nat → Int) (n : Nat) : Option (List Int) :=
 fnd n fun x => fnd n fun y => fnd n fun z => fnd n fun t => if cyE O F x y z t % M = 0 then none else some (l4 x y z t)
def optL : Option (List Int) → AV
 | none => nilA
 | some l => rowL l
structure CoP (O : List Int) (M : Int) (F : Nat → Nat → Nat → Int) (n : Nat) : Prop where
 s : ShC O M F n
 nm : NmC F n
 f : ft17 O M F n = none
def PrP (n : Nat) (M : Int) (G : Nat → Nat → Int) (k l : Nat) : Prop := k = n ∧ ∀ x, x < n → l = n ∧ ∀ y, y < n → (0 ≤ G x y ∧ G x y ≤ M - 1) ∧ (x = 0 ∨ y = 0 → G x y = 0)
theorem matL_len2 (G : Nat → Nat → Int) (k l : Nat) : (matL G k l).length = k := zfe _ _
theorem matL_row2 {G : Nat → Nat → Int} {k l x : Nat} (hx : x < k) : (row (matL G k l) x).length = l := by rw [matL_row hx, zfe]
section
variable {o c v : AV} {O : List Int} {M : Int} {F : Nat → Nat → Nat → Int} {n : Nat} {G : Nat → Nat → Int} {k l : Nat}
theorem ShC.g (h : ShC O M F n) (hl : O.length ≤ 6) : GrpP O := h.o.grp hl (by have := h.e; have := h.n8; omega)
theorem cube_row (F : Nat → Nat → Nat → Int) {x : Nat} (hx : x < n) : (mat (cubeL F n) x).length = n := by rw [mat_cube hx, zfe]
theorem cube_rr (F : Nat → Nat → Nat → Int) {x y : Nat} (hx : x < n) (hy : y < n) : (row (mat (cubeL F n) x) y).length = n := by rw [mat_cube hx, row_rws _ hy, zfe]
set_option maxHeartbeats 4000000 in
theorem cShape17 (ho : isL o O) (hO : O.length ≤ 6) (hc : isLLL c (cubeL F n)) (h16 : n ≤ 16) (hM : -1048576 ≤ M ∧ M ≤ 1048576) {t : Bool} (ht : t = true ↔ ShC O M F n) : CallOK Tryz.prog 49 [.agg [o, i64 M, c]] (bo t) := by
 have hxO : O.length ≤ maxN := Nat.le_trans hO (by decide)
 have lX : (cubeL F n).length = n := zfe _ _
 by_cases h1 : OrdP O
 ·by_cases h2 : 1 ≤ M ∧ M ≤ 1000
  ·have c1 := cL6o (t := true) ho hxO (by simp [h1])
   have c2 : CallOK Tryz.prog _ [i64 M, i64 1, i64 1000] (bo (decide (1 ≤ M ∧ M ≤ 1000))) := c38
   rw [decide_eq_true h2] at c2
   have c3 := cL7s ho hxO h1.2
   have hp1 := pfx_pos1 h1.2
   by_cases h3 : pfx O O.length ≤ 8
   ·have e3 : l6s O = pfx O O.length := by unfold l6s; rw [if_pos h3]
    obtain ⟨N, hN⟩ := Int.eq_ofNat_of_zero_le (show 0 ≤ pfx O O.length by omega)
    rw [e3, hN] at c3
    have h3' : ¬ (8 : Int) < (N : Int) := by omega
    by_cases h4 : N = n
    ·subst h4
     refine call_of (fn := Tryz.f49) (code := bodyOf Tryz.f49) Tryz.func49 rfl (by kernel_rfl) (rfl) ?_
     intro sl hs
     have s0 : sl 0 = .agg [o, i64 M, c] := hs 0
     dsimp only [Tryz.f49, bodyOf, Option.getD]
     refine Yag ?_
     refine CLL_pure _ c1 PUt rfl rfl ?_
     refine Yaa ?_
     refine CLL_pure _ c2 rfl rfl rfl ?_
     refine Yaa ?_
     refine CLL_pure _ c3 PUt rfl rfl ?_
     simp (maxSteps := 10000000) (disch := first | assumption | omega) only [go_sem, ↓reduceIte, Nat.reduceEqDiff, reduceCtorEq, Nat.reduceAdd, Nat.reduceMul, Nat.reduceLeDiff, zc, Int.reduceToNat, s0, h3', lX]
     have hn0 : N ≠ 0 := by omega
     refine WK_for (fun x st => st.sl 1 = .ptr 4096 1 [] 0 ∧ st.ro 4096 1 = some (.bx [o, i64 M, c]) ∧ st.sl 3 = i64 (N : Int) ∧ st.sl 4 = i64 (x : Int) ∧ (∀ x', x' < x → ∀ y, y < N → ∀ z, z < N → 0 ≤ F x' y z ∧ F x' y z ≤ M - 1)) N ?_ ?_ ?_
     ·refine Yaz ?_
      exact ⟨rfl, fun x' h => absurd h (Nat.not_lt_zero _)⟩
     ·rintro x sl ro gn hx ⟨s1, r4096, s3, s4, q⟩
      dsimp only at s1 r4096 s3 s4
      have hx' : (x : Int) < (N : Nat) := by omega
      have hi := isLLL_mat hc (k := x) (by omega)
      have lm := cube_row F hx
      simp (maxSteps := 10000000) (disch := first | assumption | omega) only [go_sem, ↓reduceIte, Nat.reduceEqDiff, reduceCtorEq, Nat.reduceAdd, Nat.reduceMul, Nat.reduceLeDiff, zc, Int.reduceToNat, s1, r4096, s3, s4, hx', hx, lm, lX]
      refine WK_for (fun y st => st.sl 1 = .ptr 4096 1 [] 0 ∧ st.ro 4096 1 = some (.bx [o, i64 M, c]) ∧ st.sl 3 = i64 (N : Int) ∧ st.sl 4 = i64 (x : Int) ∧ st.sl 5 = i64 (y : Int) ∧ (∀ y', y' < y → ∀ z, z < N → 0 ≤ F x y' z ∧ F x y' z ≤ M - 1)) N ?_ ?_ ?_
      ·simp only [↓za, ↓reduceIte, Nat.reduceEqDiff, zb, reduceCtorEq, rws_zero, s1, r4096, s3, s4, hx', hx]
       exact ⟨rfl, fun x' h => absurd h (Nat.not_lt_zero _)⟩
      ·rintro y sl ro gn hy ⟨s1, r4096, s3, s4, s5, qy⟩
       dsimp only at s1 r4096 s3 s4 s5
       have hy' : (y : Int) < (N : Nat) := by omega
       have hj := isLL_row hi (k := y) (by omega)
       have lr := cube_rr F hx hy
       simp (maxSteps := 10000000) (disch := first | assumption | omega) only [go_sem, ↓reduceIte, Nat.reduceEqDiff, reduceCtorEq, Nat.reduceAdd, Nat.reduceMul, Nat.reduceLeDiff, zc, Int.reduceToNat, s1, r4096, s3, s4, s5, hy', hy, lm, lX, lr]
       refine WK_for (fun z st => st.sl 1 = .ptr 4096 1 [] 0 ∧ st.ro 4096 1 = some (.bx [o, i64 M, c]) ∧ st.sl 3 = i64 (N : Int) ∧ st.sl 4 = i64 (x : Int) ∧ st.sl 5 = i64 (y : Int) ∧ st.sl 6 = i64 (z : Int) ∧ (∀ z', z' < z → 0 ≤ F x y z' ∧ F x y z' ≤ M - 1)) N ?_ ?_ ?_
       ·simp only [↓za, ↓reduceIte, Nat.reduceEqDiff, zb, reduceCtorEq, rws_zero, s1, r4096, s3, s4, s5, hy', hy]
        exact ⟨rfl, fun x' h => absurd h (Nat.not_lt_zero _)⟩
       ·rintro z sl ro gn hz ⟨s1, r4096, s3, s4, s5, s6, qz⟩
        dsimp only at s1 r4096 s3 s4 s5 s6
        have hz' : (z : Int) < (N : Nat) := by omega
        have v1 : atI (row (mat (cubeL F N) x) y) z = F x y z := at3_cube hx hy hz
        simp (maxSteps := 10000000) (disch := first | assumption | omega) only [go_sem, ↓reduceIte, Nat.reduceEqDiff, reduceCtorEq, Nat.reduceAdd, Nat.reduceMul, Nat.reduceLeDiff, zc, Int.reduceToNat, s1, r4096, s3, s4, s5, s6, hz', hz, lm, lX, lr, v1]
        refine CLLD_pure _ c38 rfl rfl ?_
        by_cases hb : 0 ≤ F x y z ∧ F x y z ≤ M - 1
        ·rw [decide_eq_true hb]
         refine Ybo ?_
         refine FIN_of (by kernel_rfl) ?_
         refine Ybo ?_
         refine ⟨i64c (by omega), fun z' h => ?_⟩
         rcases Nat.lt_or_ge z' z with h' | h'
         ·exact qz z' h'
         ·rw [show z' = z by omega]; exact hb
        ·rw [decide_eq_false hb]
         refine Ybo ?_
         refine FIN_of (by kernel_rfl) ?_
         refine Ybo ?_
         refine Yab ?_
         exact bool_false ht fun h => hb (h.b x hx y hy z hz)
       ·rintro sl ro gn ⟨s1, r4096, s3, s4, s5, s6, qz⟩
        dsimp only at s1 r4096 s3 s4 s5 s6
        have hz' : ¬ ((N : Nat) : Int) < (N : Nat) := by omega
        simp (maxSteps := 10000000) (disch := first | assumption | omega) only [go_sem, ↓reduceIte, Nat.reduceEqDiff, reduceCtorEq, Nat.reduceAdd, Nat.reduceMul, Nat.reduceLeDiff, zc, Int.reduceToNat, s1, r4096, s3, s4, s5, s6, hz']
        refine ⟨i64c (by omega), fun y' h => ?_⟩
        rcases Nat.lt_or_ge y' y with h' | h'
        ·exact qy y' h'
        ·rw [show y' = y by omega]; exact qz
      ·rintro sl ro gn ⟨s1, r4096, s3, s4, s5, qy⟩
       dsimp only at s1 r4096 s3 s4 s5
       have hy' : ¬ ((N : Nat) : Int) < (N : Nat) := by omega
       simp (maxSteps := 10000000) (disch := first | assumption | omega) only [go_sem, ↓reduceIte, Nat.reduceEqDiff, reduceCtorEq, Nat.reduceAdd, Nat.reduceMul, Nat.reduceLeDiff, zc, Int.reduceToNat, s1, r4096, s3, s4, s5, hy']
       refine ⟨i64c (by omega), fun y' h => ?_⟩
       rcases Nat.lt_or_ge y' x with h' | h'
       ·exact q y' h'
       ·rw [show y' = x by omega]; exact qy
     ·rintro sl ro gn ⟨s1, r4096, s3, s4, q⟩
      dsimp only at s1 r4096 s3 s4
      have hx' : ¬ ((N : Nat) : Int) < (N : Nat) := by omega
      simp (maxSteps := 10000000) (disch := first | assumption | omega) only [go_sem, ↓reduceIte, Nat.reduceEqDiff, reduceCtorEq, Nat.reduceAdd, Nat.reduceMul, Nat.reduceLeDiff, zc, Int.reduceToNat, s1, r4096, s3, s4, hx']
      refine Yab ?_
      exact (ht.2 ⟨h1, h2, hN.symm, by omega, q⟩).symm
    ·have h4' : ¬ (n : Int) = N := by omega
     refine call_of (fn := Tryz.f49) (code := bodyOf Tryz.f49) Tryz.func49 rfl (by kernel_rfl) (rfl) ?_
     intro sl hs
     have s0 : sl 0 = .agg [o, i64 M, c] := hs 0
     dsimp only [Tryz.f49, bodyOf, Option.getD]
     refine Yag ?_
     refine CLL_pure _ c1 PUt rfl rfl ?_
     refine Yaa ?_
     refine CLL_pure _ c2 rfl rfl rfl ?_
     refine Yaa ?_
     refine CLL_pure _ c3 PUt rfl rfl ?_
     simp (maxSteps := 10000000) (disch := first | assumption | omega) only [go_sem, ↓reduceIte, Nat.reduceEqDiff, reduceCtorEq, Nat.reduceAdd, Nat.reduceMul, Nat.reduceLeDiff, zc, Int.reduceToNat, s0, h3', lX, eq_false h4']
     refine Yab ?_
     exact bool_false ht fun h => h4' (by rw [h.e, hN])
   ·have e3 : l6s O = 9 := by unfold l6s; rw [if_neg h3]
    rw [e3] at c3
    refine call_of (fn := Tryz.f49) (code := bodyOf Tryz.f49) Tryz.func49 rfl (by kernel_rfl) (rfl) ?_
    intro sl hs
    have s0 : sl 0 = .agg [o, i64 M, c] := hs 0
    dsimp only [Tryz.f49, bodyOf, Option.getD]
    refine Yag ?_
    refine CLL_pure _ c1 PUt rfl rfl ?_
    refine Yaa ?_
    refine CLL_pure _ c2 rfl rfl rfl ?_
    refine Yaa ?_
    refine CLL_pure _ c3 PUt rfl rfl ?_
    refine Yag ?_
    refine Yab ?_
    exact bool_false ht fun h => h3 (by have := h.e; have := h.n8; omega)
  ·have c1 := cL6o (t := true) ho hxO (by simp [h1])
   have c2 : CallOK Tryz.prog _ [i64 M, i64 1, i64 1000] (bo (decide (1 ≤ M ∧ M ≤ 1000))) := c38
   rw [decide_eq_false h2] at c2
   refine call_of (fn := Tryz.f49) (code := bodyOf Tryz.f49) Tryz.func49 rfl (by kernel_rfl) (rfl) ?_
   intro sl hs
   have s0 : sl 0 = .agg [o, i64 M, c] := hs 0
   dsimp only [Tryz.f49, bodyOf, Option.getD]
   refine Yag ?_
   refine CLL_pure _ c1 PUt rfl rfl ?_
   refine Yaa ?_
   refine CLL_pure _ c2 rfl rfl rfl ?_
   refine Yaa ?_
   refine Yab ?_
   exact bool_false ht fun h => h2 h.m
 ·have c1 := cL6o (t := false) ho hxO (by simp [h1])
  refine call_of (fn := Tryz.f49) (code := bodyOf Tryz.f49) Tryz.func49 rfl (by kernel_rfl) (rfl) ?_
  intro sl hs
  have s0 : sl 0 = .agg [o, i64 M, c] := hs 0
  dsimp only [Tryz.f49, bodyOf, Option.getD]
  refine Yag ?_
  refine CLL_pure _ c1 PUt rfl rfl ?_
  refine Yaa ?_
  refine Yab ?_
  exact bool_false ht fun h => h1 h.o
set_option maxHeartbeats 4000000 in
theorem cNorm17 (ho : isL o O) (hc : isLLL c (cubeL F n)) (h0 : 0 < n) (h16 : n ≤ 16) {t : Bool} (ht : t = true ↔ NmC F n) : CallOK Tryz.prog 50 [.agg [o, i64 M, c]] (bo t) := by
 have lX : (cubeL F n).length = n := zfe _ _
 refine call_of (fn := Tryz.f50) (code := bodyOf Tryz.f50) Tryz.func50 rfl (by kernel_rfl) (rfl) ?_
 intro sl hs
 have s0 : sl 0 = .agg [o, i64 M, c] := hs 0
 dsimp only [Tryz.f50, bodyOf, Option.getD]
 refine Yag ?_
 have hi0 := isLLL_mat hc (k := 0) (by omega)
 have lm0 := cube_row F h0
 have hj00 := isLL_row hi0 (k := 0) (by omega)
 refine WK_for (fun x st => st.sl 1 = .ptr 4096 1 [] 0 ∧ st.ro 4096 1 = some (.bx [o, i64 M, c]) ∧ st.sl 3 = i64 (n : Int) ∧ st.sl 4 = i64 (x : Int) ∧ (∀ x', x' < x → ∀ y, y < n → F 0 x' y = 0 ∧ F x' 0 y = 0 ∧ F x' y 0 = 0)) n ?_ ?_ ?_
 ·refine Yaz ?_
  exact ⟨rfl, fun x' h => absurd h (Nat.not_lt_zero _)⟩
 ·rintro x sl ro gn hx ⟨s1, r4096, s3, s4, q⟩
  dsimp only at s1 r4096 s3 s4
  have hx' : (x : Int) < (n : Nat) := by omega
  have hi := isLLL_mat hc (k := x) (by omega)
  have lm := cube_row F hx
  have hj0 := isLL_row hi (k := 0) (by omega)
  have h0j := isLL_row hi0 (k := x) (by omega)
  have lr0 := cube_rr F hx h0
  have lr1 := cube_rr F h0 hx
  simp (maxSteps := 10000000) (disch := first | assumption | omega) only [go_sem, ↓reduceIte, Nat.reduceEqDiff, reduceCtorEq, Nat.reduceAdd, Nat.reduceMul, Nat.reduceLeDiff, zc, Int.reduceToNat, s1, r4096, s3, s4, hx', hx, lm, lX]
  refine WK_for (fun y st => st.sl 1 = .ptr 4096 1 [] 0 ∧ st.ro 4096 1 = some (.bx [o, i64 M, c]) ∧ st.sl 3 = i64 (n : Int) ∧ st.sl 4 = i64 (x : Int) ∧ st.sl 5 = i64 (y : Int) ∧ (∀ y', y' < y → F 0 x y' = 0 ∧ F x 0 y' = 0 ∧ F x y' 0 = 0)) n ?_ ?_ ?_
  ·simp only [↓za, ↓reduceIte, Nat.reduceEqDiff, zb, reduceCtorEq, rws_zero, s1, r4096, s3, s4, hx', hx]
   exact ⟨rfl, fun x' h => absurd h (Nat.not_lt_zero _)⟩
  ·rintro y sl ro gn hy ⟨s1, r4096, s3, s4, s5, qy⟩
   dsimp only at s1 r4096 s3 s4 s5
   have hy' : (y : Int) < (n : Nat) := by omega
   have hj := isLL_row hi (k := y) (by omega)
   have lr := cube_rr F hx hy
   have v1 : atI (row (mat (cubeL F n) 0) x) y = F 0 x y := at3_cube h0 hx hy
   have v2 : atI (row (mat (cubeL F n) x) 0) y = F x 0 y := at3_cube hx h0 hy
   have v3 : atI (row (mat (cubeL F n) x) y) 0 = F x y 0 := at3_cube hx hy h0
   by_cases h1 : F 0 x y = 0
   ·by_cases h2 : F x 0 y = 0
    ·by_cases h3 : F x y 0 = 0
     ·simp (maxSteps := 10000000) (disch := first | assumption | omega) only [go_sem, ↓reduceIte, Nat.reduceEqDiff, reduceCtorEq, Nat.reduceAdd, Nat.reduceMul, Nat.reduceLeDiff, zc, Int.reduceToNat, s1, r4096, s3, s4, s5, hy', hy, lm, lX, lr, lr0, lr1, lm0, v1, v2, v3, eq_true h1, eq_true h2, eq_true h3]
      refine ⟨i64c (by omega), fun y' h => ?_⟩
      rcases Nat.lt_or_ge y' y with h' | h'
      ·exact qy y' h'
      ·rw [show y' = y by omega]; exact ⟨h1, h2, h3⟩
     ·simp (maxSteps := 10000000) (disch := first | assumption | omega) only [go_sem, ↓reduceIte, Nat.reduceEqDiff, reduceCtorEq, Nat.reduceAdd, Nat.reduceMul, Nat.reduceLeDiff, zc, Int.reduceToNat, s1, r4096, s3, s4, s5, hy', hy, lm, lX, lr, lr0, lr1, lm0, v1, v2, v3, eq_true h1, eq_true h2, eq_false h3]
      refine Yab ?_
      exact bool_false ht fun h => h3 (h x hx y hy).2.2
    ·simp (maxSteps := 10000000) (disch := first | assumption | omega) only [go_sem, ↓reduceIte, Nat.reduceEqDiff, reduceCtorEq, Nat.reduceAdd, Nat.reduceMul, Nat.reduceLeDiff, zc, Int.reduceToNat, s1, r4096, s3, s4, s5, hy', hy, lm, lX, lr, lr0, lr1, lm0, v1, v2, v3, eq_true h1, eq_false h2]
     refine Yab ?_
     exact bool_false ht fun h => h2 (h x hx y hy).2.1
   ·simp (maxSteps := 10000000) (disch := first | assumption | omega) only [go_sem, ↓reduceIte, Nat.reduceEqDiff, reduceCtorEq, Nat.reduceAdd, Nat.reduceMul, Nat.reduceLeDiff, zc, Int.reduceToNat, s1, r4096, s3, s4, s5, hy', hy, lm, lX, lr, lr0, lr1, lm0, v1, v2, v3, eq_false h1]
    refine Yab ?_
    exact bool_false ht fun h => h1 (h x hx y hy).1
  ·rintro sl ro gn ⟨s1, r4096, s3, s4, s5, qy⟩
   dsimp only at s1 r4096 s3 s4 s5
   have hy' : ¬ ((n : Nat) : Int) < (n : Nat) := by omega
   simp (maxSteps := 10000000) (disch := first | assumption | omega) only [go_sem, ↓reduceIte, Nat.reduceEqDiff, reduceCtorEq, Nat.reduceAdd, Nat.reduceMul, Nat.reduceLeDiff, zc, Int.reduceToNat, s1, r4096, s3, s4, s5, hy']
   refine ⟨i64c (by omega), fun y' h => ?_⟩
   rcases Nat.lt_or_ge y' x with h' | h'
   ·exact q y' h'
   ·rw [show y' = x by omega]; exact qy
 ·rintro sl ro gn ⟨s1, r4096, s3, s4, q⟩
  dsimp only at s1 r4096 s3 s4
  have hx' : ¬ ((n : Nat) : Int) < (n : Nat) := by omega
  simp (maxSteps := 10000000) (disch := first | assumption | omega) only [go_sem, ↓reduceIte, Nat.reduceEqDiff, reduceCtorEq, Nat.reduceAdd, Nat.reduceMul, Nat.reduceLeDiff, zc, Int.reduceToNat, s1, r4096, s3, s4, hx']
  refine Yab ?_
  exact (ht.2 q).symm
theorem optL_none {p : Option (List Int)} (h : p = none) : nilA = optL p := by rw [h]; rfl
theorem optL_some {p : Option (List Int)} {l : List Int} (h : p = some l) : rowL l = optL p := by rw [h]; rfl
theorem noRef_opt (p : Option (List Int)) : noRef (optL p) = true := by
 cases p with
 | none => rfl
 | some l => exact noRef_rowL l
theorem tmod0 (a m : Int) : a.tmod m = 0 ↔ a % m = 0 := ⟨fun h => Int.emod_eq_zero_of_dvd (Int.dvd_of_tmod_eq_zero h), fun h => Int.tmod_eq_zero_of_dvd (Int.dvd_of_emod_eq_zero h)⟩
theorem isL_ne {o : AV} {O : List Int} (ho : isL o O) (h : 0 < O.length) : o = immL O := by
 rcases ho with h' | ⟨h', _⟩
 ·exact h'
 ·rw [h'] at h; exact absurd h (Nat.lt_irrefl 0)
set_option maxHeartbeats 8000000 in
theorem cFault17 (ho : isL o O) (hO : O.length ≤ 6) (hc : isLLL c (cubeL F n)) (hs : ShC O M F n) : CallOK Tryz.prog 51 [.agg [o, i64 M, c]] (optL (ft17 O M F n)) := by
 have lX : (cubeL F n).length = n := zfe _ _
 have hG := hs.g hO
 have hm := hs.m
 have n8 := hs.n8
 have he := hs.e
 have hb := hs.b
 have hm0 : ¬ M = 0 := by omega
 have hal : ∀ x, x < n → ∀ y, y < n → CallOK Tryz.prog 84 [immL O, i64 (x : Int), i64 (y : Int)] (i64 (adN O x y : Int)) := by
  intro x hx y hy
  have := cL6a hG (x := x) (y := y) (by omega) (by omega)
  rwa [(hG.adN x y).1] at this
 have hlt : ∀ x y, adN O x y < n := fun x y => by have := (hG.adN x y).2; omega
 obtain rfl := isL_ne ho hs.o.1
 refine call_of (fn := Tryz.f51) (code := bodyOf Tryz.f51) Tryz.func51 rfl (by kernel_rfl) (noRef_opt _) ?_
 intro sl hs
 have s0 : sl 0 = .agg [immL O, i64 M, c] := hs 0
 dsimp only [Tryz.f51, bodyOf, Option.getD]
 refine Yag ?_
 refine FIN_of (by kernel_rfl) ?_
 refine Yaa ?_
 refine WK_for (fun x st => st.sl 1 = .ptr 4096 1 [] 0 ∧ st.ro 4096 1 = some (.bx [immL O, i64 M, c]) ∧ st.sl 3 = i64 (n : Int) ∧ st.sl 4 = c ∧ st.sl 5 = i64 (x : Int) ∧ (∀ x', x' < x → (fnd n fun y => fnd n fun z => fnd n fun t => if cyE O F x' y z t % M = 0 then none else some (l4 x' y z t)) = none)) n ?_ ?_ ?_
 ·refine Yaz ?_
  exact ⟨rfl, fun x' h => absurd h (Nat.not_lt_zero _)⟩
 ·rintro x sl ro gn hx ⟨s1, r4096, s3, s4, s5, q⟩
  dsimp only at s1 r4096 s3 s4 s5
  have hx' : (x : Int) < (n : Nat) := by omega
  have ix := isLLL_mat hc (k := x) (by omega)
  have mx := cube_row F hx
  simp (maxSteps := 10000000) (disch := first | assumption | omega) only [go_sem, ↓reduceIte, Nat.reduceEqDiff, reduceCtorEq, Nat.reduceAdd, Nat.reduceMul, Nat.reduceLeDiff, zc, Int.reduceToNat, s1, r4096, s3, s4, s5, hx', hx]
  refine WK_for (fun y st => st.sl 1 = .ptr 4096 1 [] 0 ∧ st.ro 4096 1 = some (.bx [immL O, i64 M, c]) ∧ st.sl 3 = i64 (n : Int) ∧ st.sl 4 = c ∧ st.sl 5 = i64 (x : Int) ∧ st.sl 6 = i64 (y : Int) ∧ (∀ y', y' < y → (fnd n fun z => fnd n fun t => if cyE O F x y' z t % M = 0 then none else some (l4 x y' z t)) = none)) n ?_ ?_ ?_
  ·simp only [↓za, ↓reduceIte, Nat.reduceEqDiff, zb, reduceCtorEq, rws_zero, s1, r4096, s3, s4, s5, hx', hx]
   exact ⟨rfl, fun x' h => absurd h (Nat.not_lt_zero _)⟩
  ·rintro y sl ro gn hy ⟨s1, r4096, s3, s4, s5, s6, qy⟩
   dsimp only at s1 r4096 s3 s4 s5 s6
   have hy' : (y : Int) < (n : Nat) := by omega
   have iy := isLLL_mat hc (k := y) (by omega)
   have my := cube_row F hy
   have ixy := isLL_row ix (k := y) (by omega)
   have mxy := cube_rr F hx hy
   have hxy := hlt x y
   have iX := isLLL_mat hc (k := adN O x y) (by omega)
   have mX := cube_row F hxy
   simp (maxSteps := 10000000) (disch := first | assumption | omega) only [go_sem, ↓reduceIte, Nat.reduceEqDiff, reduceCtorEq, Nat.reduceAdd, Nat.reduceMul, Nat.reduceLeDiff, zc, Int.reduceToNat, s1, r4096, s3, s4, s5, s6, hy', hy]
   refine WK_for (fun z st => st.sl 1 = .ptr 4096 1 [] 0 ∧ st.ro 4096 1 = some (.bx [immL O, i64 M, c]) ∧ st.sl 3 = i64 (n : Int) ∧ st.sl 4 = c ∧ st.sl 5 = i64 (x : Int) ∧ st.sl 6 = i64 (y : Int) ∧ st.sl 7 = i64 (z : Int) ∧ (∀ z', z' < z → (fnd n fun t => if cyE O F x y z' t % M = 0 then none else some (l4 x y z' t)) = none)) n ?_ ?_ ?_
   ·simp only [↓za, ↓reduceIte, Nat.reduceEqDiff, zb, reduceCtorEq, rws_zero, s1, r4096, s3, s4, s5, s6, hy', hy]
    exact ⟨rfl, fun x' h => absurd h (Nat.not_lt_zero _)⟩
   ·rintro z sl ro gn hz ⟨s1, r4096, s3, s4, s5, s6, s7, qz⟩
    dsimp only at s1 r4096 s3 s4 s5 s6 s7
    have hz' : (z : Int) < (n : Nat) := by omega
    have hyz := hlt y z
    have iyz := isLL_row iy (k := z) (by omega)
    have myz := cube_rr F hy hz
    have iXz := isLL_row iX (k := z) (by omega)
    have mXz := cube_rr F hxy hz
    have ixY := isLL_row ix (k := adN O y z) (by omega)
    have mxY := cube_rr F hx hyz
    have v5 : atI (row (mat (cubeL F n) x) y) z = F x y z := at3_cube hx hy hz
    have b5 := hb x hx y hy z hz
    simp (maxSteps := 10000000) (disch := first | assumption | omega) only [go_sem, ↓reduceIte, Nat.reduceEqDiff, reduceCtorEq, Nat.reduceAdd, Nat.reduceMul, Nat.reduceLeDiff, zc, Int.reduceToNat, s1, r4096, s3, s4, s5, s6, s7, hz', hz]
    refine WK_for (fun t st => st.sl 1 = .ptr 4096 1 [] 0 ∧ st.ro 4096 1 = some (.bx [immL O, i64 M, c]) ∧ st.sl 3 = i64 (n : Int) ∧ st.sl 4 = c ∧ st.sl 5 = i64 (x : Int) ∧ st.sl 6 = i64 (y : Int) ∧ st.sl 7 = i64 (z : Int) ∧ st.sl 8 = i64 (t : Int) ∧ (∀ t', t' < t → (if cyE O F x y z t' % M = 0 then none else some (l4 x y z t')) = (none : Option (List Int)))) n ?_ ?_ ?_
    ·simp only [↓za, ↓reduceIte, Nat.reduceEqDiff, zb, reduceCtorEq, rws_zero, s1, r4096, s3, s4, s5, s6, s7, hz', hz]
     exact ⟨rfl, fun x' h => absurd h (Nat.not_lt_zero _)⟩
    ·rintro t sl ro gn ht ⟨s1, r4096, s3, s4, s5, s6, s7, s8, qt⟩
     dsimp only at s1 r4096 s3 s4 s5 s6 s7 s8
     have ht' : (t : Int) < (n : Nat) := by omega
     have hzt := hlt z t
     have v1 : atI (row (mat (cubeL F n) y) z) t = F y z t := at3_cube hy hz ht
     have v2 : atI (row (mat (cubeL F n) (adN O x y)) z) t = F (adN O x y) z t := at3_cube hxy hz ht
     have v3 : atI (row (mat (cubeL F n) x) (adN O y z)) t = F x (adN O y z) t := at3_cube hx hyz ht
     have v4 : atI (row (mat (cubeL F n) x) y) (adN O z t) = F x y (adN O z t) := at3_cube hx hy hzt
     have b1 := hb y hy z hz t ht
     have b2 := hb _ hxy z hz t ht
     have b3 := hb x hx _ hyz t ht
     have b4 := hb x hx y hy _ hzt
     refine Ybm ?_
     refine CLLD_pure _ (hal x hx y hy) PUt rfl ?_
     refine Ybm ?_
     refine CLLD_pure _ (hal y hy z hz) PUt rfl ?_
     refine Ybm ?_
     refine CLLD_pure _ (hal z hz t ht) PUt rfl ?_
     refine Ybm ?_
     refine FIN_of (by kernel_rfl) ?_
     by_cases h0 : cyE O F x y z t % M = 0
     ·have et : (F y z t - F (adN O x y) z t + F x (adN O y z) t - F x y (adN O z t) + F x y z).tmod M = 0 := (tmod0 _ _).2 h0
      refine Ycw ?_
      refine FIN_of (by kernel_rfl) ?_
      simp (maxSteps := 10000000) (disch := first | assumption | omega) only [go_sem, ↓reduceIte, Nat.reduceEqDiff, reduceCtorEq, Nat.reduceAdd, Nat.reduceMul, Nat.reduceLeDiff, zc, Int.reduceToNat, s1, r4096, s3, s4, s5, s6, s7, s8, ht', ht, eq_true et]
      refine ⟨i64c (by omega), fun t' h => ?_⟩
      rcases Nat.lt_or_ge t' t with h' | h'
      ·exact qt t' h'
      ·rw [show t' = t by omega]; exact if_pos h0
     ·have et : ¬ (F y z t - F (adN O x y) z t + F x (adN O y z) t - F x y (adN O z t) + F x y z).tmod M = 0 := fun h => h0 ((tmod0 _ _).1 h)
      refine Ycw ?_
      refine FIN_of (by kernel_rfl) ?_
      simp (maxSteps := 10000000) (disch := first | assumption | omega) only [go_sem, ↓reduceIte, Nat.reduceEqDiff, reduceCtorEq, Nat.reduceAdd, Nat.reduceMul, Nat.reduceLeDiff, zc, Int.reduceToNat, s1, r4096, s3, s4, s5, s6, s7, s8, ht', ht, eq_false et]
      refine Yab ?_
      exact optL_some (fnd_some (fnd_some (fnd_some (fnd_some (if_neg h0) qt ht) qz hz) qy hy) q hx)
    ·rintro sl ro gn ⟨s1, r4096, s3, s4, s5, s6, s7, s8, qt⟩
     dsimp only at s1 r4096 s3 s4 s5 s6 s7 s8
     have ht' : ¬ ((n : Nat) : Int) < (n : Nat) := by omega
     simp (maxSteps := 10000000) (disch := first | assumption | omega) only [go_sem, ↓reduceIte, Nat.reduceEqDiff, reduceCtorEq, Nat.reduceAdd, Nat.reduceMul, Nat.reduceLeDiff, zc, Int.reduceToNat, s1, r4096, s3, s4, s5, s6, s7, s8, ht']
     refine ⟨i64c (by omega), fun t' h => ?_⟩
     rcases Nat.lt_or_ge t' z with h' | h'
     ·exact qz t' h'
     ·rw [show t' = z by omega]; exact fnd_none.2 qt
   ·rintro sl ro gn ⟨s1, r4096, s3, s4, s5, s6, s7, qz⟩
    dsimp only at s1 r4096 s3 s4 s5 s6 s7
    have hz' : ¬ ((n : Nat) : Int) < (n : Nat) := by omega
    simp (maxSteps := 10000000) (disch := first | assumption | omega) only [go_sem, ↓reduceIte, Nat.reduceEqDiff, reduceCtorEq, Nat.reduceAdd, Nat.reduceMul, Nat.reduceLeDiff, zc, Int.reduceToNat, s1, r4096, s3, s4, s5, s6, s7, hz']
    refine ⟨i64c (by omega), fun t' h => ?_⟩
    rcases Nat.lt_or_ge t' y with h' | h'
    ·exact qy t' h'
    ·rw [show t' = y by omega]; exact fnd_none.2 qz
  ·rintro sl ro gn ⟨s1, r4096, s3, s4, s5, s6, qy⟩
   dsimp only at s1 r4096 s3 s4 s5 s6
   have hy' : ¬ ((n : Nat) : Int) < (n : Nat) := by omega
   simp (maxSteps := 10000000) (disch := first | assumption | omega) only [go_sem, ↓reduceIte, Nat.reduceEqDiff, reduceCtorEq, Nat.reduceAdd, Nat.reduceMul, Nat.reduceLeDiff, zc, Int.reduceToNat, s1, r4096, s3, s4, s5, s6, hy']
   refine ⟨i64c (by omega), fun t' h => ?_⟩
   rcases Nat.lt_or_ge t' x with h' | h'
   ·exact q t' h'
   ·rw [show t' = x by omega]; exact fnd_none.2 qy
 ·rintro sl ro gn ⟨s1, r4096, s3, s4, s5, q⟩
  dsimp only at s1 r4096 s3 s4 s5
  have hx' : ¬ ((n : Nat) : Int) < (n : Nat) := by omega
  simp (maxSteps := 10000000) (disch := first | assumption | omega) only [go_sem, ↓reduceIte, Nat.reduceEqDiff, reduceCtorEq, Nat.reduceAdd, Nat.reduceMul, Nat.reduceLeDiff, zc, Int.reduceToNat, s1, r4096, s3, s4, s5, hx']
  refine Yab ?_
  exact optL_none (fnd_none.2 q)
theorem ShC.pos (h : ShC O M F n) : 0 < n := by have := pfx_pos1 h.o.2; have := h.e; omega
set_option maxHeartbeats 4000000 in
theorem cIs17 (ho : isL o O) (hO : O.length ≤ 6) (hc : isLLL c (cubeL F n)) (h16 : n ≤ 16) (hM : -1048576 ≤ M ∧ M ≤ 1048576) {t : Bool} (ht : t = true ↔ CoP O M F n) : CallOK Tryz.prog 21 [.agg [o, i64 M, c]] (bo t) := by
 by_cases h1 : ShC O M F n
 ·have c1 := cShape17 (t := true) ho hO hc h16 hM (by simp [h1])
  by_cases h2 : NmC F n
  ·have c2 := cNorm17 (M := M) (t := true) ho hc h1.pos h16 (by simp [h2])
   have c3 := cFault17 ho hO hc h1
   rcases hf : ft17 O M F n with _ | lst
   ·rw [hf] at c3
    change CallOK Tryz.prog _ _ nilA at c3
    refine call_of (fn := Tryz.f21) (code := bodyOf Tryz.f21) Tryz.func21 rfl (by kernel_rfl) (rfl) ?_
    intro sl hs
    have s0 : sl 0 = .agg [o, i64 M, c] := hs 0
    dsimp only [Tryz.f21, bodyOf, Option.getD]
    refine Yaa ?_
    refine CLL_pure _ c1 PUt rfl rfl ?_
    refine Yaa ?_
    refine CLL_pure _ c2 PUt rfl rfl ?_
    refine Yaa ?_
    refine CLL_pure _ c3 PUt rfl rfl ?_
    refine Yaa ?_
    refine Yab ?_
    exact (ht.2 ⟨h1, h2, hf⟩).symm
   ·rw [hf] at c3
    change CallOK Tryz.prog _ _ (rowL lst) at c3
    have hl : lst.length = 4 := by
     obtain ⟨x, hx, e1⟩ := fnd_ex hf
     obtain ⟨y, hy, e2⟩ := fnd_ex e1
     obtain ⟨z, hz, e3⟩ := fnd_ex e2
     obtain ⟨u, hu, e4⟩ := fnd_ex e3
     split at e4
     ·cases e4
     ·cases e4; rfl
    refine call_of (fn := Tryz.f21) (code := bodyOf Tryz.f21) Tryz.func21 rfl (by kernel_rfl) (rfl) ?_
    intro sl hs
    have s0 : sl 0 = .agg [o, i64 M, c] := hs 0
    dsimp only [Tryz.f21, bodyOf, Option.getD]
    refine Yaa ?_
    refine CLL_pure _ c1 PUt rfl rfl ?_
    refine Yaa ?_
    refine CLL_pure _ c2 PUt rfl rfl ?_
    refine Yaa ?_
    refine CLL_pure _ c3 PUt rfl rfl ?_
    refine Ycr ?_
    refine Yab ?_
    exact bool_false ht fun h => by have := h.f; rw [hf] at this; cases this
  ·have c2 := cNorm17 (M := M) (t := false) ho hc h1.pos h16 (by simp [h2])
   refine call_of (fn := Tryz.f21) (code := bodyOf Tryz.f21) Tryz.func21 rfl (by kernel_rfl) (rfl) ?_
   intro sl hs
   have s0 : sl 0 = .agg [o, i64 M, c] := hs 0
   dsimp only [Tryz.f21, bodyOf, Option.getD]
   refine Yaa ?_
   refine CLL_pure _ c1 PUt rfl rfl ?_
   refine Yaa ?_
   refine CLL_pure _ c2 PUt rfl rfl ?_
   refine Yaa ?_
   refine Yab ?_
   exact bool_false ht fun h => h2 h.nm
 ·have c1 := cShape17 (t := false) ho hO hc h16 hM (by simp [h1])
  refine call_of (fn := Tryz.f21) (code := bodyOf Tryz.f21) Tryz.func21 rfl (by kernel_rfl) (rfl) ?_
  intro sl hs
  have s0 : sl 0 = .agg [o, i64 M, c] := hs 0
  dsimp only [Tryz.f21, bodyOf, Option.getD]
  refine Yaa ?_
  refine CLL_pure _ c1 PUt rfl rfl ?_
  refine Yaa ?_
  refine Yab ?_
  exact bool_false ht fun h => h1 h.s
set_option maxHeartbeats 4000000 in
theorem cPair17 (hv : isLL v (matL G k l)) (h16 : n ≤ 16 ∧ k ≤ 16 ∧ l ≤ 16) (hM : -1048576 ≤ M ∧ M ≤ 1048576) {t : Bool} (ht : t = true ↔ PrP n M G k l) : CallOK Tryz.prog 102 [i64 (n : Int), i64 M, v] (bo t) := by
 have lX := matL_len2 G k l
 by_cases h1 : k = n
 ·subst h1
  refine call_of (fn := Tryz.f102) (code := bodyOf Tryz.f102) Tryz.func102 rfl (by kernel_rfl) (rfl) ?_
  intro sl hs
  have s0 : sl 0 = i64 (k : Int) := hs 0
  have s1 : sl 1 = i64 M := hs 1
  have s2 : sl 2 = v := hs 2
  dsimp only [Tryz.f102, bodyOf, Option.getD]
  simp (maxSteps := 10000000) (disch := first | assumption | omega) only [go_sem, ↓reduceIte, Nat.reduceEqDiff, reduceCtorEq, Nat.reduceAdd, Nat.reduceMul, Nat.reduceLeDiff, zc, Int.reduceToNat, s0, s1, s2, lX]
  refine WK_for (fun x st => st.sl 0 = i64 (k : Int) ∧ st.sl 1 = i64 M ∧ st.sl 2 = v ∧ st.sl 7 = i64 (x : Int) ∧ (∀ x', x' < x → l = k ∧ ∀ y, y < k → (0 ≤ G x' y ∧ G x' y ≤ M - 1) ∧ (x' = 0 ∨ y = 0 → G x' y = 0))) k ?_ ?_ ?_
  ·refine Ybv ?_
   exact ⟨rfl, fun x' h => absurd h (Nat.not_lt_zero _)⟩
  ·rintro x sl ro gn hx ⟨s0, s1, s2, s7, q⟩
   dsimp only at s0 s1 s2 s7
   have hx' : (x : Int) < (k : Nat) := by omega
   have hi := isLL_row hv (k := x) (by omega)
   have lr := matL_row2 (G := G) (l := l) hx
   by_cases h2 : l = k
   ·have h2' : (l : Int) = k := by omega
    simp (maxSteps := 10000000) (disch := first | assumption | omega) only [go_sem, ↓reduceIte, Nat.reduceEqDiff, reduceCtorEq, Nat.reduceAdd, Nat.reduceMul, Nat.reduceLeDiff, zc, Int.reduceToNat, s0, s1, s2, s7, hx', hx, lX, lr, eq_true h2']
    refine WK_for (fun y st => st.sl 0 = i64 (k : Int) ∧ st.sl 1 = i64 M ∧ st.sl 2 = v ∧ st.sl 7 = i64 (x : Int) ∧ st.sl 8 = i64 (y : Int) ∧ (∀ y', y' < y → (0 ≤ G x y' ∧ G x y' ≤ M - 1) ∧ (x = 0 ∨ y' = 0 → G x y' = 0))) k ?_ ?_ ?_
    ·simp only [↓za, ↓reduceIte, Nat.reduceEqDiff, zb, reduceCtorEq, rws_zero, s0, s1, s2, s7, hx', hx]
     exact ⟨rfl, fun x' h => absurd h (Nat.not_lt_zero _)⟩
    ·rintro y sl ro gn hy ⟨s0, s1, s2, s7, s8, qy⟩
     dsimp only at s0 s1 s2 s7 s8
     have hy' : (y : Int) < (k : Nat) := by omega
     have v1 : atI (row (matL G k l) x) y = G x y := matL_at hx (by omega)
     have hyl : y < l := by omega
     simp (maxSteps := 10000000) (disch := first | assumption | omega) only [go_sem, ↓reduceIte, Nat.reduceEqDiff, reduceCtorEq, Nat.reduceAdd, Nat.reduceMul, Nat.reduceLeDiff, zc, Int.reduceToNat, s0, s1, s2, s7, s8, hy', hy, lX, lr, v1]
     refine CLL_pure _ c38 rfl rfl rfl ?_
     by_cases hb : 0 ≤ G x y ∧ G x y ≤ M - 1
     ·rw [decide_eq_true hb]
      by_cases h0 : G x y = 0
      ·have step : ∀ y', y' < y + 1 → (0 ≤ G x y' ∧ G x y' ≤ M - 1) ∧ (x = 0 ∨ y' = 0 → G x y' = 0) := fun y' h => by
        rcases Nat.lt_or_ge y' y with h' | h'
        ·exact qy y' h'
        ·rw [show y' = y by omega]; exact ⟨hb, fun _ => h0⟩
       rcases Nat.eq_zero_or_pos x with hx0 | hx0
       ·have x0 : (x : Int) = 0 := by omega
        simp (maxSteps := 10000000) (disch := first | assumption | omega) only [go_sem, ↓reduceIte, Nat.reduceEqDiff, reduceCtorEq, Nat.reduceAdd, Nat.reduceMul, Nat.reduceLeDiff, zc, Int.reduceToNat, s0, s1, s2, s7, s8, hy', hy, lX, lr, v1, eq_true x0, eq_true h0]
        exact ⟨i64c (by omega), step⟩
       ·have x0 : ¬ (x : Int) = 0 := by omega
        rcases Nat.eq_zero_or_pos y with hy0 | hy0
        ·have y0 : (y : Int) = 0 := by omega
         simp (maxSteps := 10000000) (disch := first | assumption | omega) only [go_sem, ↓reduceIte, Nat.reduceEqDiff, reduceCtorEq, Nat.reduceAdd, Nat.reduceMul, Nat.reduceLeDiff, zc, Int.reduceToNat, s0, s1, s2, s7, s8, hy', hy, lX, lr, v1, eq_false x0, eq_true y0, eq_true h0]
         exact ⟨i64c (by omega), step⟩
        ·have y0 : ¬ (y : Int) = 0 := by omega
         simp (maxSteps := 10000000) (disch := first | assumption | omega) only [go_sem, ↓reduceIte, Nat.reduceEqDiff, reduceCtorEq, Nat.reduceAdd, Nat.reduceMul, Nat.reduceLeDiff, zc, Int.reduceToNat, s0, s1, s2, s7, s8, hy', hy, lX, lr, v1, eq_false x0, eq_false y0]
         exact ⟨i64c (by omega), step⟩
      ·rcases Nat.eq_zero_or_pos x with hx0 | hx0
       ·have x0 : (x : Int) = 0 := by omega
        simp (maxSteps := 10000000) (disch := first | assumption | omega) only [go_sem, ↓reduceIte, Nat.reduceEqDiff, reduceCtorEq, Nat.reduceAdd, Nat.reduceMul, Nat.reduceLeDiff, zc, Int.reduceToNat, s0, s1, s2, s7, s8, hy', hy, lX, lr, v1, eq_true x0, eq_false h0]
        refine Yab ?_
        exact bool_false ht fun h => h0 (((h.2 x hx).2 y hy).2 (.inl hx0))
       ·have x0 : ¬ (x : Int) = 0 := by omega
        rcases Nat.eq_zero_or_pos y with hy0 | hy0
        ·have y0 : (y : Int) = 0 := by omega
         simp (maxSteps := 10000000) (disch := first | assumption | omega) only [go_sem, ↓reduceIte, Nat.reduceEqDiff, reduceCtorEq, Nat.reduceAdd, Nat.reduceMul, Nat.reduceLeDiff, zc, Int.reduceToNat, s0, s1, s2, s7, s8, hy', hy, lX, lr, v1, eq_false x0, eq_true y0, eq_false h0]
         refine Yab ?_
         exact bool_false ht fun h => h0 (((h.2 x hx).2 y hy).2 (.inr hy0))
        ·have y0 : ¬ (y : Int) = 0 := by omega
         simp (maxSteps := 10000000) (disch := first | assumption | omega) only [go_sem, ↓reduceIte, Nat.reduceEqDiff, reduceCtorEq, Nat.reduceAdd, Nat.reduceMul, Nat.reduceLeDiff, zc, Int.reduceToNat, s0, s1, s2, s7, s8, hy', hy, lX, lr, v1, eq_false x0, eq_false y0]
         refine ⟨i64c (by omega), fun y' h => ?_⟩
         rcases Nat.lt_or_ge y' y with h' | h'
         ·exact qy y' h'
         ·rw [show y' = y by omega]; exact ⟨hb, fun h => by omega⟩
     ·rw [decide_eq_false hb]
      simp (maxSteps := 10000000) (disch := first | assumption | omega) only [go_sem, ↓reduceIte, Nat.reduceEqDiff, reduceCtorEq, Nat.reduceAdd, Nat.reduceMul, Nat.reduceLeDiff, zc, Int.reduceToNat, s0, s1, s2, s7, s8, hy', hy, lX, lr, v1, undef]
      refine Yab ?_
      exact bool_false ht fun h => hb ((h.2 x hx).2 y hy).1
    ·rintro sl ro gn ⟨s0, s1, s2, s7, s8, qy⟩
     dsimp only at s0 s1 s2 s7 s8
     have hy' : ¬ ((k : Nat) : Int) < (k : Nat) := by omega
     simp (maxSteps := 10000000) (disch := first | assumption | omega) only [go_sem, ↓reduceIte, Nat.reduceEqDiff, reduceCtorEq, Nat.reduceAdd, Nat.reduceMul, Nat.reduceLeDiff, zc, Int.reduceToNat, s0, s1, s2, s7, s8, hy']
     refine ⟨i64c (by omega), fun y' h => ?_⟩
     rcases Nat.lt_or_ge y' x with h' | h'
     ·exact q y' h'
     ·rw [show y' = x by omega]; exact ⟨h2, qy⟩
   ·have h2' : ¬ (l : Int) = k := by omega
    simp (maxSteps := 10000000) (disch := first | assumption | omega) only [go_sem, ↓reduceIte, Nat.reduceEqDiff, reduceCtorEq, Nat.reduceAdd, Nat.reduceMul, Nat.reduceLeDiff, zc, Int.reduceToNat, s0, s1, s2, s7, hx', hx, lX, lr, eq_false h2']
    refine Yab ?_
    exact bool_false ht fun h => h2 (h.2 x hx).1
  ·rintro sl ro gn ⟨s0, s1, s2, s7, q⟩
   dsimp only at s0 s1 s2 s7
   have hx' : ¬ ((k : Nat) : Int) < (k : Nat) := by omega
   simp (maxSteps := 10000000) (disch := first | assumption | omega) only [go_sem, ↓reduceIte, Nat.reduceEqDiff, reduceCtorEq, Nat.reduceAdd, Nat.reduceMul, Nat.reduceLeDiff, zc, Int.reduceToNat, s0, s1, s2, s7, hx']
   refine Yab ?_
   exact (ht.2 ⟨rfl, q⟩).symm
 ·have h1' : ¬ (k : Int) = n := by omega
  refine call_of (fn := Tryz.f102) (code := bodyOf Tryz.f102) Tryz.func102 rfl (by kernel_rfl) (rfl) ?_
  intro sl hs
  have s0 : sl 0 = i64 (n : Int) := hs 0
  have s1 : sl 1 = i64 M := hs 1
  have s2 : sl 2 = v := hs 2
  dsimp only [Tryz.f102, bodyOf, Option.getD]
  simp (maxSteps := 10000000) (disch := first | assumption | omega) only [go_sem, ↓reduceIte, Nat.reduceEqDiff, reduceCtorEq, Nat.reduceAdd, Nat.reduceMul, Nat.reduceLeDiff, zc, Int.reduceToNat, s0, s1, s2, lX, eq_false h1']
  refine Yab ?_
  exact bool_false ht fun h => h1 h.1
theorem cNum18 (hv : isLL v (matL G k l)) (h16 : n ≤ 16 ∧ k ≤ 16 ∧ l ≤ 16) (hM : -1048576 ≤ M ∧ M ≤ 1048576) {t : Bool} (ht : t = true ↔ PrP n M G k l) : CallOK Tryz.prog 87 [i64 (n : Int), i64 M, v] (bo t) := by
 refine call_of (fn := Tryz.f87) (code := bodyOf Tryz.f87) Tryz.func87 rfl (by kernel_rfl) (rfl) ?_
 intro sl hs
 have s0 : sl 0 = i64 (n : Int) := hs 0
 have s1 : sl 1 = i64 M := hs 1
 have s2 : sl 2 = v := hs 2
 dsimp only [Tryz.f87, bodyOf, Option.getD]
 refine Yae ?_
 refine CLL_pure _ (cPair17 hv h16 hM ht) PUt rfl rfl ?_
 refine Yae ?_
 exact Yad
end
end Go.Proofs.YtmchdjiigfiabaaGreat
/- What braidings are: the reference. -/
namespace Go.Proofs.YtmchdjiigfiabaaGreat
open Go.RowKit
set_option maxRecDepth 1000000
def b1E (O : List Int) (F : Nat → Nat → Nat → Int) (G : Nat → Nat → Int) (x y z : Nat) : Int := F y z x + G x (adN O y z) + F x y z - G x z - F y x z - G x y
def b2E (O : List Int) (F : Nat → Nat → Nat → Int) (G : Nat → Nat → Int) (x y z : Nat) : Int := G (adN O x y) z - F z x y - F x y z - G x z - G y z + F x z y
def bE (O : List Int) (F : Nat → Nat → Nat → Int) (G : Nat → Nat → Int) (q x y z : Nat) : Int := if q = 0 then b1E O F G x y z else b2E O F G x y z
def ft18 (O : List Int) (M : Int) (F : Nat → Nat → Nat → Int) (G : Nat → Nat → Int) (n : Nat) : Option (List Int) :=
 fnd 2 fun q => fnd n fun x => fnd n fun y => fnd n fun z => if bE O F G q x y z % M = 0 then none else some (l4 (q + 1) x y z)
structure BsP (O : List Int) (M : Int) (F : Nat → Nat → Nat → Int) (n : Nat) (G : Nat → Nat → Int) (k l : Nat) : Prop where
 w : CoP O M F n
 p : PrP n M G k l
structure BrP (O : List Int) (M : Int) (F : Nat → Nat → Nat → Int) (n : Nat) (G : Nat → Nat → Int) (k l : Nat) : Prop where
 s : BsP O M F n G k l
 f : ft18 O M F G n = none
theorem ft18_len {O : List Int} {M : Int} {F : Nat → Nat → Nat → Int} {G : Nat → Nat → Int} {n : Nat} {lst : List Int} (hf : ft18 O M F G n = some lst) : lst.length = 4 := by
 obtain ⟨q, hq, e0⟩ := fnd_ex hf
 obtain ⟨x, hx, e1⟩ := fnd_ex e0
 obtain ⟨y, hy, e2⟩ := fnd_ex e1
 obtain ⟨z, hz, e3⟩ := fnd_ex e2
 split at e3
 ·cases e3
 ·cases e3; rfl
section
variable {o c v : AV} {O : List Int} {M : Int} {F : Nat → Nat → Nat → Int} {n : Nat} {G : Nat → Nat → Int} {k l : Nat}
theorem PrP.rg (h : PrP n M G k l) {x y : Nat} (hx : x < n) (hy : y < n) : 0 ≤ G x y ∧ G x y ≤ M - 1 := ((h.2 x hx).2 y hy).1
theorem BsP.sq (h : BsP O M F n G k l) : k = n ∧ l = n := ⟨h.p.1, (h.p.2 0 h.w.s.pos).1⟩
set_option maxHeartbeats 8000000 in
theorem cOne18 (ho : isL o O) (hO : O.length ≤ 6) (hc : isLLL c (cubeL F n)) (hv : isLL v (matL G n n)) (hs : BsP O M F n G n n) {x y z : Nat} (hx : x < n) (hy : y < n) (hz : z < n) : CallOK Tryz.prog 103 [.agg [o, i64 M, c], v, i64 (x : Int), i64 (y : Int), i64 (z : Int)] (bo (decide (b1E O F G x y z % M = 0))) := by
 have lX : (cubeL F n).length = n := zfe _ _
 have lV := matL_len2 G n n
 have hG := hs.w.s.g hO
 have hm := hs.w.s.m
 have n8 := hs.w.s.n8
 have he := hs.w.s.e
 have hb := hs.w.s.b
 have hm0 : ¬ M = 0 := by omega
 have ha := cL6a hG (x := y) (y := z) (by omega) (by omega)
 rw [(hG.adN y z).1] at ha
 have hyz : adN O y z < n := by have := (hG.adN y z).2; omega
 obtain rfl := isL_ne ho hs.w.s.o.1
 have ix := isLLL_mat hc (k := x) (by omega)
 have iy := isLLL_mat hc (k := y) (by omega)
 have mx := cube_row F hx
 have my := cube_row F hy
 have iyz := isLL_row iy (k := z) (by omega)
 have ixy := isLL_row ix (k := y) (by omega)
 have iyx := isLL_row iy (k := x) (by omega)
 have m1 := cube_rr F hy hz
 have m2 := cube_rr F hx hy
 have m3 := cube_rr F hy hx
 have jx := isLL_row hv (k := x) (by omega)
 have r1 := matL_row2 (G := G) (l := n) hx
 have v1 : atI (row (mat (cubeL F n) y) z) x = F y z x := at3_cube hy hz hx
 have v2 : atI (row (mat (cubeL F n) x) y) z = F x y z := at3_cube hx hy hz
 have v3 : atI (row (mat (cubeL F n) y) x) z = F y x z := at3_cube hy hx hz
 have v4 : atI (row (matL G n n) x) (adN O y z) = G x (adN O y z) := matL_at hx hyz
 have v5 : atI (row (matL G n n) x) z = G x z := matL_at hx hz
 have v6 : atI (row (matL G n n) x) y = G x y := matL_at hx hy
 have b1 := hb y hy z hz x hx
 have b2 := hb x hx y hy z hz
 have b3 := hb y hy x hx z hz
 have b4 := hs.p.rg hx hyz
 have b5 := hs.p.rg hx hz
 have b6 := hs.p.rg hx hy
 refine call_of (fn := Tryz.f103) (code := bodyOf Tryz.f103) Tryz.func103 rfl (by kernel_rfl) (rfl) ?_
 intro sl hs
 have s0 : sl 0 = .agg [immL O, i64 M, c] := hs 0
 have s1 : sl 1 = v := hs 1
 have s2 : sl 2 = i64 (x : Int) := hs 2
 have s3 : sl 3 = i64 (y : Int) := hs 3
 have s4 : sl 4 = i64 (z : Int) := hs 4
 dsimp only [Tryz.f103, bodyOf, Option.getD]
 refine Yas ?_
 refine CLL_pure _ ha PUt rfl rfl ?_
 have et : ((F y z x + G x (adN O y z) + F x y z - G x z - F y x z - G x y).tmod M = 0) = (b1E O F G x y z % M = 0) := propext (tmod0 _ _)
 refine Yba ?_
 refine FIN_of (by kernel_rfl) ?_
 refine Ybu ?_
 exact Yad
set_option maxHeartbeats 8000000 in
theorem cTwo18 (ho : isL o O) (hO : O.length ≤ 6) (hc : isLLL c (cubeL F n)) (hv : isLL v (matL G n n)) (hs : BsP O M F n G n n) {x y z : Nat} (hx : x < n) (hy : y < n) (hz : z < n) : CallOK Tryz.prog 104 [.agg [o, i64 M, c], v, i64 (x : Int), i64 (y : Int), i64 (z : Int)] (bo (decide (b2E O F G x y z % M = 0))) := by
 have lX : (cubeL F n).length = n := zfe _ _
 have lV := matL_len2 G n n
 have hG := hs.w.s.g hO
 have hm := hs.w.s.m
 have n8 := hs.w.s.n8
 have he := hs.w.s.e
 have hb := hs.w.s.b
 have hm0 : ¬ M = 0 := by omega
 have ha := cL6a hG (x := x) (y := y) (by omega) (by omega)
 rw [(hG.adN x y).1] at ha
 have hxy : adN O x y < n := by have := (hG.adN x y).2; omega
 obtain rfl := isL_ne ho hs.w.s.o.1
 have ix := isLLL_mat hc (k := x) (by omega)
 have iz := isLLL_mat hc (k := z) (by omega)
 have mx := cube_row F hx
 have mz := cube_row F hz
 have izx := isLL_row iz (k := x) (by omega)
 have ixy := isLL_row ix (k := y) (by omega)
 have ixz := isLL_row ix (k := z) (by omega)
 have m1 := cube_rr F hz hx
 have m2 := cube_rr F hx hy
 have m3 := cube_rr F hx hz
 have jX := isLL_row hv (k := adN O x y) (by omega)
 have jx := isLL_row hv (k := x) (by omega)
 have jy := isLL_row hv (k := y) (by omega)
 have r1 := matL_row2 (G := G) (l := n) hx
 have r2 := matL_row2 (G := G) (l := n) hy
 have r3 := matL_row2 (G := G) (l := n) hxy
 have v1 : atI (row (mat (cubeL F n) z) x) y = F z x y := at3_cube hz hx hy
 have v2 : atI (row (mat (cubeL F n) x) y) z = F x y z := at3_cube hx hy hz
 have v3 : atI (row (mat (cubeL F n) x) z) y = F x z y := at3_cube hx hz hy
 have v4 : atI (row (matL G n n) (adN O x y)) z = G (adN O x y) z := matL_at hxy hz
 have v5 : atI (row (matL G n n) x) z = G x z := matL_at hx hz
 have v6 : atI (row (matL G n n) y) z = G y z := matL_at hy hz
 have b1 := hb z hz x hx y hy
 have b2 := hb x hx y hy z hz
 have b3 := hb x hx z hz y hy
 have b4 := hs.p.rg hxy hz
 have b5 := hs.p.rg hx hz
 have b6 := hs.p.rg hy hz
 refine call_of (fn := Tryz.f104) (code := bodyOf Tryz.f104) Tryz.func104 rfl (by kernel_rfl) (rfl) ?_
 intro sl hs
 have s0 : sl 0 = .agg [immL O, i64 M, c] := hs 0
 have s1 : sl 1 = v := hs 1
 have s2 : sl 2 = i64 (x : Int) := hs 2
 have s3 : sl 3 = i64 (y : Int) := hs 3
 have s4 : sl 4 = i64 (z : Int) := hs 4
 dsimp only [Tryz.f104, bodyOf, Option.getD]
 refine Yas ?_
 refine CLL_pure _ ha PUt rfl rfl ?_
 have et : ((G (adN O x y) z - F z x y - F x y z - G x z - G y z + F x z y).tmod M = 0) = (b2E O F G x y z % M = 0) := propext (tmod0 _ _)
 refine Yay ?_
 refine FIN_of (by kernel_rfl) ?_
 refine Ybu ?_
 exact Yad
set_option maxHeartbeats 8000000 in
theorem cFault18 (ho : isL o O) (hO : O.length ≤ 6) (hc : isLLL c (cubeL F n)) (hv : isLL v (matL G n n)) (hB : BsP O M F n G n n) : CallOK Tryz.prog 88 [.agg [o, i64 M, c], v] (optL (ft18 O M F G n)) := by
 have lX : (cubeL F n).length = n := zfe _ _
 have lV := matL_len2 G n n
 have n8 := hB.w.s.n8
 refine call_of (fn := Tryz.f88) (code := bodyOf Tryz.f88) Tryz.func88 rfl (by kernel_rfl) (noRef_opt _) ?_
 intro sl hs
 have s0 : sl 0 = .agg [o, i64 M, c] := hs 0
 have s1 : sl 1 = v := hs 1
 dsimp only [Tryz.f88, bodyOf, Option.getD]
 simp (maxSteps := 10000000) (disch := first | assumption | omega) only [go_sem, ↓reduceIte, Nat.reduceEqDiff, reduceCtorEq, Nat.reduceAdd, Nat.reduceMul, Nat.reduceLeDiff, zc, Int.reduceToNat, s0, s1, lV]
 refine WK_for (fun q st => st.sl 2 = .ptr 4096 1 [] 0 ∧ st.ro 4096 1 = some (.bx [o, i64 M, c]) ∧ st.sl 1 = v ∧ st.sl 5 = i64 (n : Int) ∧ st.sl 6 = i64 ((q : Int) + 1) ∧ (∀ q', q' < q → (fnd n fun x => fnd n fun y => fnd n fun z => if bE O F G q' x y z % M = 0 then none else some (l4 (q' + 1) x y z)) = none)) 2 ?_ ?_ ?_
 ·refine Yan ?_
  exact ⟨rfl, fun x' h => absurd h (Nat.not_lt_zero _)⟩
 ·rintro q sl ro gn hq ⟨s2, r4096, s1, s5, s6, p⟩
  dsimp only at s2 r4096 s1 s5 s6
  have hq' : (q : Int) < (2 : Nat) := by omega
  have hk : (q : Int) + 1 ≤ 2 := by omega
  simp (maxSteps := 10000000) (disch := first | assumption | omega) only [go_sem, ↓reduceIte, Nat.reduceEqDiff, reduceCtorEq, Nat.reduceAdd, Nat.reduceMul, Nat.reduceLeDiff, zc, Int.reduceToNat, s2, r4096, s1, s5, s6, hq', hq, eq_true hk]
  refine WK_for (fun x st => st.sl 2 = .ptr 4096 1 [] 0 ∧ st.ro 4096 1 = some (.bx [o, i64 M, c]) ∧ st.sl 1 = v ∧ st.sl 5 = i64 (n : Int) ∧ st.sl 6 = i64 ((q : Int) + 1) ∧ st.sl 7 = i64 (x : Int) ∧ (∀ x', x' < x → (fnd n fun y => fnd n fun z => if bE O F G q x' y z % M = 0 then none else some (l4 (q + 1) x' y z)) = none)) n ?_ ?_ ?_
  ·simp only [↓za, ↓reduceIte, Nat.reduceEqDiff, zb, reduceCtorEq, rws_zero, s2, r4096, s1, s5, s6, hq', hq]
   exact ⟨rfl, fun x' h => absurd h (Nat.not_lt_zero _)⟩
  ·rintro x sl ro gn hx ⟨s2, r4096, s1, s5, s6, s7, px⟩
   dsimp only at s2 r4096 s1 s5 s6 s7
   have hx' : (x : Int) < (n : Nat) := by omega
   simp (maxSteps := 10000000) (disch := first | assumption | omega) only [go_sem, ↓reduceIte, Nat.reduceEqDiff, reduceCtorEq, Nat.reduceAdd, Nat.reduceMul, Nat.reduceLeDiff, zc, Int.reduceToNat, s2, r4096, s1, s5, s6, s7, hx', hx]
   refine WK_for (fun y st => st.sl 2 = .ptr 4096 1 [] 0 ∧ st.ro 4096 1 = some (.bx [o, i64 M, c]) ∧ st.sl 1 = v ∧ st.sl 5 = i64 (n : Int) ∧ st.sl 6 = i64 ((q : Int) + 1) ∧ st.sl 7 = i64 (x : Int) ∧ st.sl 8 = i64 (y : Int) ∧ (∀ y', y' < y → (fnd n fun z => if bE O F G q x y' z % M = 0 then none else some (l4 (q + 1) x y' z)) = none)) n ?_ ?_ ?_
   ·simp only [↓za, ↓reduceIte, Nat.reduceEqDiff, zb, reduceCtorEq, rws_zero, s2, r4096, s1, s5, s6, s7, hx', hx]
    exact ⟨rfl, fun x' h => absurd h (Nat.not_lt_zero _)⟩
   ·rintro y sl ro gn hy ⟨s2, r4096, s1, s5, s6, s7, s8, py⟩
    dsimp only at s2 r4096 s1 s5 s6 s7 s8
    have hy' : (y : Int) < (n : Nat) := by omega
    simp (maxSteps := 10000000) (disch := first | assumption | omega) only [go_sem, ↓reduceIte, Nat.reduceEqDiff, reduceCtorEq, Nat.reduceAdd, Nat.reduceMul, Nat.reduceLeDiff, zc, Int.reduceToNat, s2, r4096, s1, s5, s6, s7, s8, hy', hy]
    refine WK_for (fun z st => st.sl 2 = .ptr 4096 1 [] 0 ∧ st.ro 4096 1 = some (.bx [o, i64 M, c]) ∧ st.sl 1 = v ∧ st.sl 5 = i64 (n : Int) ∧ st.sl 6 = i64 ((q : Int) + 1) ∧ st.sl 7 = i64 (x : Int) ∧ st.sl 8 = i64 (y : Int) ∧ st.sl 9 = i64 (z : Int) ∧ (∀ z', z' < z → (if bE O F G q x y z' % M = 0 then none else some (l4 (q + 1) x y z')) = (none : Option (List Int)))) n ?_ ?_ ?_
    ·simp only [↓za, ↓reduceIte, Nat.reduceEqDiff, zb, reduceCtorEq, rws_zero, s2, r4096, s1, s5, s6, s7, s8, hy', hy]
     exact ⟨rfl, fun x' h => absurd h (Nat.not_lt_zero _)⟩
    ·rintro z sl ro gn hz ⟨s2, r4096, s1, s5, s6, s7, s8, s9, pz⟩
     dsimp only at s2 r4096 s1 s5 s6 s7 s8 s9
     have hz' : (z : Int) < (n : Nat) := by omega
     have step : bE O F G q x y z % M = 0 → ∀ z', z' < z + 1 → (if bE O F G q x y z' % M = 0 then none else some (l4 (q + 1) x y z')) = (none : Option (List Int)) := fun h0 t' h => by
      rcases Nat.lt_or_ge t' z with h' | h'
      ·exact pz t' h'
      ·rw [show t' = z by omega]; exact if_pos h0
     have found : ¬ bE O F G q x y z % M = 0 → ft18 O M F G n = some (l4 (q + 1) x y z) := fun h0 => fnd_some (fnd_some (fnd_some (fnd_some (if_neg h0) pz hz) py hy) px hx) p hq
     rcases (by omega : q = 0 ∨ q = 1) with rfl | rfl
     ·simp (maxSteps := 10000000) (disch := first | assumption | omega) only [go_sem, ↓reduceIte, Nat.reduceEqDiff, reduceCtorEq, Nat.reduceAdd, Nat.reduceMul, Nat.reduceLeDiff, zc, Int.reduceToNat, s2, r4096, s1, s5, s6, s7, s8, s9, hz', hz]
      refine CLL_pure _ (cOne18 ho hO hc hv hB hx hy hz) PUt rfl rfl ?_
      by_cases h0 : b1E O F G x y z % M = 0
      ·rw [decide_eq_true h0]
       simp (maxSteps := 10000000) (disch := first | assumption | omega) only [go_sem, ↓reduceIte, Nat.reduceEqDiff, reduceCtorEq, Nat.reduceAdd, Nat.reduceMul, Nat.reduceLeDiff, zc, Int.reduceToNat, s2, r4096, s1, s5, s6, s7, s8, s9, hz', hz]
       exact ⟨i64c (by omega), step h0⟩
      ·rw [decide_eq_false h0]
       refine Ybl ?_
       refine Yab ?_
       exact optL_some (found h0)
     ·refine Ybl ?_
      refine CLL_pure _ (cTwo18 ho hO hc hv hB hx hy hz) PUt rfl rfl ?_
      by_cases h0 : b2E O F G x y z % M = 0
      ·rw [decide_eq_true h0]
       refine Ybl ?_
       exact ⟨i64c (by omega), step h0⟩
      ·rw [decide_eq_false h0]
       refine Ybl ?_
       refine Yab ?_
       exact optL_some (found h0)
    ·rintro sl ro gn ⟨s2, r4096, s1, s5, s6, s7, s8, s9, pz⟩
     dsimp only at s2 r4096 s1 s5 s6 s7 s8 s9
     have hz' : ¬ ((n : Nat) : Int) < (n : Nat) := by omega
     simp (maxSteps := 10000000) (disch := first | assumption | omega) only [go_sem, ↓reduceIte, Nat.reduceEqDiff, reduceCtorEq, Nat.reduceAdd, Nat.reduceMul, Nat.reduceLeDiff, zc, Int.reduceToNat, s2, r4096, s1, s5, s6, s7, s8, s9, hz']
     refine ⟨i64c (by omega), fun t' h => ?_⟩
     rcases Nat.lt_or_ge t' y with h' | h'
     ·exact py t' h'
     ·rw [show t' = y by omega]; exact fnd_none.2 pz
   ·rintro sl ro gn ⟨s2, r4096, s1, s5, s6, s7, s8, py⟩
    dsimp only at s2 r4096 s1 s5 s6 s7 s8
    have hy' : ¬ ((n : Nat) : Int) < (n : Nat) := by omega
    simp (maxSteps := 10000000) (disch := first | assumption | omega) only [go_sem, ↓reduceIte, Nat.reduceEqDiff, reduceCtorEq, Nat.reduceAdd, Nat.reduceMul, Nat.reduceLeDiff, zc, Int.reduceToNat, s2, r4096, s1, s5, s6, s7, s8, hy']
    refine ⟨i64c (by omega), fun t' h => ?_⟩
    rcases Nat.lt_or_ge t' x with h' | h'
    ·exact px t' h'
    ·rw [show t' = x by omega]; exact fnd_none.2 py
  ·rintro sl ro gn ⟨s2, r4096, s1, s5, s6, s7, px⟩
   dsimp only at s2 r4096 s1 s5 s6 s7
   have hx' : ¬ ((n : Nat) : Int) < (n : Nat) := by omega
   simp (maxSteps := 10000000) (disch := first | assumption | omega) only [go_sem, ↓reduceIte, Nat.reduceEqDiff, reduceCtorEq, Nat.reduceAdd, Nat.reduceMul, Nat.reduceLeDiff, zc, Int.reduceToNat, s2, r4096, s1, s5, s6, s7, hx']
   refine ⟨i64c (by omega), fun t' h => ?_⟩
   rcases Nat.lt_or_ge t' q with h' | h'
   ·exact p t' h'
   ·rw [show t' = q by omega]; exact fnd_none.2 px
 ·rintro sl ro gn ⟨s2, r4096, s1, s5, s6, p⟩
  dsimp only at s2 r4096 s1 s5 s6
  have hq' : ¬ ((2 : Nat) : Int) < (2 : Nat) := by omega
  have hk : ¬ ((2 : Nat) : Int) + 1 ≤ 2 := by omega
  simp (maxSteps := 10000000) (disch := first | assumption | omega) only [go_sem, ↓reduceIte, Nat.reduceEqDiff, reduceCtorEq, Nat.reduceAdd, Nat.reduceMul, Nat.reduceLeDiff, zc, Int.reduceToNat, s2, r4096, s1, s5, s6, hq', eq_false hk]
  refine Yab ?_
  exact optL_none (fnd_none.2 p)
noncomputable def faB (O : List Int) (M : Int) (F : Nat → Nat → Nat → Int) (n : Nat) (G : Nat → Nat → Int) (k l : Nat) : AV × Int :=
 open Classical in if BsP O M F n G k l then (match ft18 O M F G n with | none => (nilA, 4) | some xs => (rowL xs, 0)) else (nilA, 1)
end
end Go.Proofs.YtmchdjiigfiabaaGreat
