/- Texts joined: QU QV QW. -/
import Derived.Test.YthpmddoakefbmaaGreatOi
import Derived.Test.YthpmddoakefbmaaGreatOj
set_option linter.all false
/- Braidings that the program makes. -/
namespace Go.Proofs.YthpmddoakefbmaaGreat
open Go.RowKit
set_option maxRecDepth 1000000
section
variable {o c v o' c' v' : AV} {O O' : List Int} {M M' : Int} {F F' : Nat → Nat → Nat → Int} {n n' : Nat} {G G' : Nat → Nat → Int} {k l k' l' : Nat}
theorem cl54 (ho : isL o O) (hc : isLLL c (cubeL F n)) (hv : isLL v (matL G n n)) (ho' : isL o' O') (hc' : isLLL c' (cubeL F' n)) (hv' : isLL v' (matL G' n n)) {x y : Nat} (hx : x < n) (hy : y < n) (hb : -1048576 ≤ G x y ∧ G x y ≤ 1048576) (hb' : -1048576 ≤ G' x y ∧ G' x y ≤ 1048576) : CallOK Tryz.prog 54 [i64 (x : Int), i64 (y : Int), .iptr [o, i64 M, c, v], .iptr [o', i64 M', c', v']] (i64 (G x y + G' x y)) := by
 have lV := matL_len2 G n n
 have lV' := matL_len2 G' n n
 have j1 := isLL_row hv (k := x) (by omega)
 have j2 := isLL_row hv' (k := x) (by omega)
 have r1 := matL_row2 (G := G) (l := n) hx
 have r2 := matL_row2 (G := G') (l := n) hx
 have v1 : atI (row (matL G n n) x) y = G x y := matL_at hx hy
 have v2 : atI (row (matL G' n n) x) y = G' x y := matL_at hx hy
 refine call_of (fn := Tryz.f54) (code := bodyOf Tryz.f54) Tryz.func54 rfl (by kernel_rfl) (rfl) ?_
 intro sl hs
 have s0 : sl 0 = i64 (x : Int) := hs 0
 have s1 : sl 1 = i64 (y : Int) := hs 1
 have s2 : sl 2 = .iptr [o, i64 M, c, v] := hs 2
 have s3 : sl 3 = .iptr [o', i64 M', c', v'] := hs 3
 dsimp only [Tryz.f54, bodyOf, Option.getD]
 simp (maxSteps := 10000000) (disch := first | assumption | omega) only [go_sem, ↓reduceIte, Nat.reduceEqDiff, reduceCtorEq, Nat.reduceAdd, Nat.reduceMul, Nat.reduceLeDiff, zc, Int.reduceToNat, s0, s1, s2, s3, lV, lV', r1, r2, v1, v2]
 refine FIN_of (by kernel_rfl) ?_
 simp (maxSteps := 10000000) (disch := first | assumption | omega) only [go_sem, ↓reduceIte, Nat.reduceEqDiff, reduceCtorEq, Nat.reduceAdd, Nat.reduceMul, Nat.reduceLeDiff, zc, Int.reduceToNat, s0, s1, s2, s3]
 simp only [zr, zb, retR, resL, outT, outL, zes, zez, oneV, zcp, zed, zfi, Ro.dl, St.ev, zhk, ↓za, ↓reduceIte, Nat.reduceEqDiff, Nat.reduceAdd, Nat.reduceLeDiff]
theorem cl58 (ho : isL o O) (hc : isLLL c (cubeL F n)) (hv : isLL v (matL G n n)) {x y : Nat} (hx : x < n) (hy : y < n) (hb : -1048576 ≤ G y x ∧ G y x ≤ 1048576) : CallOK Tryz.prog 58 [i64 (x : Int), i64 (y : Int), .iptr [o, i64 M, c, v]] (i64 (0 - G y x)) := by
 have lV := matL_len2 G n n
 have j1 := isLL_row hv (k := y) (by omega)
 have r1 := matL_row2 (G := G) (l := n) hy
 have v1 : atI (row (matL G n n) y) x = G y x := matL_at hy hx
 refine call_of (fn := Tryz.f58) (code := bodyOf Tryz.f58) Tryz.func58 rfl (by kernel_rfl) (rfl) ?_
 intro sl hs
 have s0 : sl 0 = i64 (x : Int) := hs 0
 have s1 : sl 1 = i64 (y : Int) := hs 1
 have s2 : sl 2 = .iptr [o, i64 M, c, v] := hs 2
 dsimp only [Tryz.f58, bodyOf, Option.getD]
 simp (maxSteps := 10000000) (disch := first | assumption | omega) only [go_sem, ↓reduceIte, Nat.reduceEqDiff, reduceCtorEq, Nat.reduceAdd, Nat.reduceMul, Nat.reduceLeDiff, zc, Int.reduceToNat, s0, s1, s2, lV, r1, v1]
 simp only [zr, zb, retR, resL, outT, outL, zes, zez, oneV, zcp, zed, zfi, Ro.dl, St.ev, zhk, ↓za, ↓reduceIte, Nat.reduceEqDiff, Nat.reduceAdd, Nat.reduceLeDiff]
theorem cl66 (hv : isLL v (matL G n n)) {x y : Nat} (hx : x < n) (hy : y < n) (hb : -1048576 ≤ G y x ∧ G y x ≤ 1048576) (hb' : -1048576 ≤ G x y ∧ G x y ≤ 1048576) : CallOK Tryz.prog 66 [i64 (x : Int), i64 (y : Int), .iptr [v]] (i64 (G y x - G x y)) := by
 have lV := matL_len2 G n n
 have j1 := isLL_row hv (k := y) (by omega)
 have r1 := matL_row2 (G := G) (l := n) hy
 have v1 : atI (row (matL G n n) y) x = G y x := matL_at hy hx
 have j2 := isLL_row hv (k := x) (by omega)
 have r2 := matL_row2 (G := G) (l := n) hx
 have v2 : atI (row (matL G n n) x) y = G x y := matL_at hx hy
 refine call_of (fn := Tryz.f66) (code := bodyOf Tryz.f66) Tryz.func66 rfl (by kernel_rfl) (rfl) ?_
 intro sl hs
 have s0 : sl 0 = i64 (x : Int) := hs 0
 have s1 : sl 1 = i64 (y : Int) := hs 1
 have s2 : sl 2 = .iptr [v] := hs 2
 dsimp only [Tryz.f66, bodyOf, Option.getD]
 simp (maxSteps := 10000000) (disch := first | assumption | omega) only [go_sem, ↓reduceIte, Nat.reduceEqDiff, reduceCtorEq, Nat.reduceAdd, Nat.reduceMul, Nat.reduceLeDiff, zc, Int.reduceToNat, s0, s1, s2, lV, r1, v1, r2, v2]
 refine FIN_of (by kernel_rfl) ?_
 simp (maxSteps := 10000000) (disch := first | assumption | omega) only [go_sem, ↓reduceIte, Nat.reduceEqDiff, reduceCtorEq, Nat.reduceAdd, Nat.reduceMul, Nat.reduceLeDiff, zc, Int.reduceToNat, s0, s1, s2]
 simp only [zr, zb, retR, resL, outT, outL, zes, zez, oneV, zcp, zed, zfi, Ro.dl, St.ev, zhk, ↓za, ↓reduceIte, Nat.reduceEqDiff, Nat.reduceAdd, Nat.reduceLeDiff]
theorem cl70 (hv : isLL v (matL G n n)) {x y : Nat} (hx : x < n) (hy : y < n) : CallOK Tryz.prog 70 [i64 (x : Int), i64 (y : Int), .iptr [v]] (i64 (G x y)) := by
 have lV := matL_len2 G n n
 have j2 := isLL_row hv (k := x) (by omega)
 have r2 := matL_row2 (G := G) (l := n) hx
 have v2 : atI (row (matL G n n) x) y = G x y := matL_at hx hy
 refine call_of (fn := Tryz.f70) (code := bodyOf Tryz.f70) Tryz.func70 rfl (by kernel_rfl) (rfl) ?_
 intro sl hs
 have s0 : sl 0 = i64 (x : Int) := hs 0
 have s1 : sl 1 = i64 (y : Int) := hs 1
 have s2 : sl 2 = .iptr [v] := hs 2
 dsimp only [Tryz.f70, bodyOf, Option.getD]
 simp (maxSteps := 10000000) (disch := first | assumption | omega) only [go_sem, ↓reduceIte, Nat.reduceEqDiff, reduceCtorEq, Nat.reduceAdd, Nat.reduceMul, Nat.reduceLeDiff, zc, Int.reduceToNat, s0, s1, s2, lV, r2, v2]
 simp only [zr, zb, retR, resL, outT, outL, zes, zez, oneV, zcp, zed, zfi, Ro.dl, St.ev, zhk, ↓za, ↓reduceIte, Nat.reduceEqDiff, Nat.reduceAdd, Nat.reduceLeDiff]
theorem cl69 {x y z : Nat} : CallOK Tryz.prog 69 [i64 (x : Int), i64 (y : Int), i64 (z : Int)] (i64 0) := by
 refine call_of (fn := Tryz.f69) (code := bodyOf Tryz.f69) Tryz.func69 rfl (by kernel_rfl) (rfl) ?_
 intro sl hs
 have s0 : sl 0 = i64 (x : Int) := hs 0
 have s1 : sl 1 = i64 (y : Int) := hs 1
 have s2 : sl 2 = i64 (z : Int) := hs 2
 dsimp only [Tryz.f69, bodyOf, Option.getD]
 simp (maxSteps := 10000000) (disch := first | assumption | omega) only [go_sem, ↓reduceIte, Nat.reduceEqDiff, reduceCtorEq, Nat.reduceAdd, Nat.reduceMul, Nat.reduceLeDiff, zc, Int.reduceToNat, s0, s1, s2]
 simp only [zr, zb, retR, resL, outT, outL, zes, zez, oneV, zcp, zed, zfi, Ro.dl, St.ev, zhk, ↓za, ↓reduceIte, Nat.reduceEqDiff, Nat.reduceAdd, Nat.reduceLeDiff]
theorem cCarry {w : Int} {y z n : Nat} (hy : y ≤ 1048576) (hz : z ≤ 1048576) : CallOK Tryz.prog 79 [i64 w, i64 (y : Int), i64 (z : Int), i64 (n : Int)] (i64 (if n ≤ y + z then w else 0)) := by
 by_cases h : n ≤ y + z
 ·have h' : (n : Int) ≤ (y : Int) + z := by omega
  rw [if_pos h]
  refine call_of (fn := Tryz.f79) (code := bodyOf Tryz.f79) Tryz.func79 rfl (by kernel_rfl) (rfl) ?_
  intro sl hs
  have s0 : sl 0 = i64 w := hs 0
  have s1 : sl 1 = i64 (y : Int) := hs 1
  have s2 : sl 2 = i64 (z : Int) := hs 2
  have s3 : sl 3 = i64 (n : Int) := hs 3
  dsimp only [Tryz.f79, bodyOf, Option.getD]
  simp (maxSteps := 10000000) (disch := first | assumption | omega) only [go_sem, ↓reduceIte, Nat.reduceEqDiff, reduceCtorEq, Nat.reduceAdd, Nat.reduceMul, Nat.reduceLeDiff, zc, Int.reduceToNat, s0, s1, s2, s3, eq_true h']
  simp only [zr, zb, retR, resL, outT, outL, zes, zez, oneV, zcp, zed, zfi, Ro.dl, St.ev, zhk, ↓za, ↓reduceIte, Nat.reduceEqDiff, Nat.reduceAdd, Nat.reduceLeDiff]
 ·have h' : ¬ (n : Int) ≤ (y : Int) + z := by omega
  rw [if_neg h]
  refine call_of (fn := Tryz.f79) (code := bodyOf Tryz.f79) Tryz.func79 rfl (by kernel_rfl) (rfl) ?_
  intro sl hs
  have s0 : sl 0 = i64 w := hs 0
  have s1 : sl 1 = i64 (y : Int) := hs 1
  have s2 : sl 2 = i64 (z : Int) := hs 2
  have s3 : sl 3 = i64 (n : Int) := hs 3
  dsimp only [Tryz.f79, bodyOf, Option.getD]
  simp (maxSteps := 10000000) (disch := first | assumption | omega) only [go_sem, ↓reduceIte, Nat.reduceEqDiff, reduceCtorEq, Nat.reduceAdd, Nat.reduceMul, Nat.reduceLeDiff, zc, Int.reduceToNat, s0, s1, s2, s3, eq_false h']
  simp only [zr, zb, retR, resL, outT, outL, zes, zez, oneV, zcp, zed, zfi, Ro.dl, St.ev, zhk, ↓za, ↓reduceIte, Nat.reduceEqDiff, Nat.reduceAdd, Nat.reduceLeDiff]
theorem cl78 {a : Int} {x y z n : Nat} (ha : 0 ≤ a ∧ a ≤ 64) (hn : n ≤ 16) (hx : x ≤ 16) (hy : y ≤ 16) (hz : z ≤ 16) : CallOK Tryz.prog 78 [i64 (x : Int), i64 (y : Int), i64 (z : Int), .iptr [i64 a], .iptr [i64 (n : Int)]] (i64 (if n ≤ y + z then a * n * x else 0)) := by
 have p0 : 0 ≤ a * (n : Int) := Int.mul_nonneg ha.1 (by omega)
 have p1 : a * (n : Int) ≤ 64 * 16 := Int.mul_le_mul ha.2 (by omega) (by omega) (by omega)
 have p2 : 0 ≤ a * (n : Int) * (x : Int) := Int.mul_nonneg p0 (by omega)
 have p3 : a * (n : Int) * (x : Int) ≤ 64 * 16 * 16 := Int.mul_le_mul p1 (by omega) (by omega) (by omega)
 refine call_of (fn := Tryz.f78) (code := bodyOf Tryz.f78) Tryz.func78 rfl (by kernel_rfl) (rfl) ?_
 intro sl hs
 have s0 : sl 0 = i64 (x : Int) := hs 0
 have s1 : sl 1 = i64 (y : Int) := hs 1
 have s2 : sl 2 = i64 (z : Int) := hs 2
 have s3 : sl 3 = .iptr [i64 a] := hs 3
 have s4 : sl 4 = .iptr [i64 (n : Int)] := hs 4
 dsimp only [Tryz.f78, bodyOf, Option.getD]
 simp (maxSteps := 10000000) (disch := first | assumption | omega) only [go_sem, ↓reduceIte, Nat.reduceEqDiff, reduceCtorEq, Nat.reduceAdd, Nat.reduceMul, Nat.reduceLeDiff, zc, Int.reduceToNat, s0, s1, s2, s3, s4]
 refine CLL_pure _ (cCarry (w := a * n * x) (y := y) (z := z) (n := n) (by omega) (by omega)) rfl rfl rfl ?_
 simp (maxSteps := 10000000) (disch := first | assumption | omega) only [go_sem, ↓reduceIte, Nat.reduceEqDiff, reduceCtorEq, Nat.reduceAdd, Nat.reduceMul, Nat.reduceLeDiff, zc, Int.reduceToNat, s0, s1, s2, s3, s4]
 simp only [zr, zb, retR, resL, outT, outL, zes, zez, oneV, zcp, zed, zfi, Ro.dl, St.ev, zhk, ↓za, ↓reduceIte, Nat.reduceEqDiff, Nat.reduceAdd, Nat.reduceLeDiff]
theorem cl80 {a : Int} {x y : Nat} (ha : 0 ≤ a ∧ a ≤ 64) (hx : x ≤ 16) (hy : y ≤ 16) : CallOK Tryz.prog 80 [i64 (x : Int), i64 (y : Int), .iptr [i64 a]] (i64 (a * x * y)) := by
 have p0 : 0 ≤ a * (x : Int) := Int.mul_nonneg ha.1 (by omega)
 have p1 : a * (x : Int) ≤ 64 * 16 := Int.mul_le_mul ha.2 (by omega) (by omega) (by omega)
 have p2 : 0 ≤ a * (x : Int) * (y : Int) := Int.mul_nonneg p0 (by omega)
 have p3 : a * (x : Int) * (y : Int) ≤ 64 * 16 * 16 := Int.mul_le_mul p1 (by omega) (by omega) (by omega)
 refine call_of (fn := Tryz.f80) (code := bodyOf Tryz.f80) Tryz.func80 rfl (by kernel_rfl) (rfl) ?_
 intro sl hs
 have s0 : sl 0 = i64 (x : Int) := hs 0
 have s1 : sl 1 = i64 (y : Int) := hs 1
 have s2 : sl 2 = .iptr [i64 a] := hs 2
 dsimp only [Tryz.f80, bodyOf, Option.getD]
 simp (maxSteps := 10000000) (disch := first | assumption | omega) only [go_sem, ↓reduceIte, Nat.reduceEqDiff, reduceCtorEq, Nat.reduceAdd, Nat.reduceMul, Nat.reduceLeDiff, zc, Int.reduceToNat, s0, s1, s2]
 simp only [zr, zb, retR, resL, outT, outL, zes, zez, oneV, zcp, zed, zfi, Ro.dl, St.ev, zhk, ↓za, ↓reduceIte, Nat.reduceEqDiff, Nat.reduceAdd, Nat.reduceLeDiff]
theorem cEqu (ho : isL o O) (ho' : isL o' O') (hO : O.length ≤ maxN) (hO' : O'.length ≤ maxN) {t : Bool} (ht : t = true ↔ O = O') : CallOK Tryz.prog 103 [o, o'] (bo t) := by
 have hx2 : O.length ≤ 4294967296 := hO
 by_cases h1 : O.length = O'.length
 ·have h1' : (O.length : Int) = O'.length := by omega
  refine call_of (fn := Tryz.f103) (code := bodyOf Tryz.f103) Tryz.func103 rfl (by kernel_rfl) (rfl) ?_
  intro sl hs
  have s0 : sl 0 = o := hs 0
  have s1 : sl 1 = o' := hs 1
  dsimp only [Tryz.f103, bodyOf, Option.getD]
  simp (maxSteps := 10000000) (disch := first | assumption | omega) only [go_sem, ↓reduceIte, Nat.reduceEqDiff, reduceCtorEq, Nat.reduceAdd, Nat.reduceMul, Nat.reduceLeDiff, zc, Int.reduceToNat, s0, s1, eq_true h1']
  refine WK_for (fun x st => st.sl 0 = o ∧ st.sl 1 = o' ∧ st.sl 12 = i64 (O.length : Int) ∧ st.sl 13 = i64 (x : Int) ∧ (∀ j, j < x → atI O j = atI O' j)) O.length ?_ ?_ ?_
  ·simp only [↓za, ↓reduceIte, Nat.reduceEqDiff, zb, reduceCtorEq, rws_zero, s0, s1]
   exact ⟨rfl, fun x' h => absurd h (Nat.not_lt_zero _)⟩
  ·rintro x sl ro gn hx ⟨s0, s1, s12, s13, q⟩
   dsimp only at s0 s1 s12 s13
   have hx' : (x : Int) < (O.length : Nat) := by omega
   have hx3 : x < O'.length := by omega
   by_cases h2 : atI O x = atI O' x
   ·simp (maxSteps := 10000000) (disch := first | assumption | omega) only [go_sem, ↓reduceIte, Nat.reduceEqDiff, reduceCtorEq, Nat.reduceAdd, Nat.reduceMul, Nat.reduceLeDiff, zc, Int.reduceToNat, s0, s1, s12, s13, hx', hx]
    refine FIN_of (by kernel_rfl) ?_
    simp (maxSteps := 10000000) (disch := first | assumption | omega) only [go_sem, ↓reduceIte, Nat.reduceEqDiff, reduceCtorEq, Nat.reduceAdd, Nat.reduceMul, Nat.reduceLeDiff, zc, Int.reduceToNat, s0, s1, s12, s13, hx', hx, eq_true h2]
    refine ⟨i64c (by omega), fun y' h => ?_⟩
    rcases Nat.lt_or_ge y' x with h' | h'
    ·exact q y' h'
    ·rw [show y' = x by omega]; exact h2
   ·simp (maxSteps := 10000000) (disch := first | assumption | omega) only [go_sem, ↓reduceIte, Nat.reduceEqDiff, reduceCtorEq, Nat.reduceAdd, Nat.reduceMul, Nat.reduceLeDiff, zc, Int.reduceToNat, s0, s1, s12, s13, hx', hx]
    refine FIN_of (by kernel_rfl) ?_
    simp (maxSteps := 10000000) (disch := first | assumption | omega) only [go_sem, ↓reduceIte, Nat.reduceEqDiff, reduceCtorEq, Nat.reduceAdd, Nat.reduceMul, Nat.reduceLeDiff, zc, Int.reduceToNat, s0, s1, s12, s13, hx', hx, eq_false h2]
    simp only [zr, zb, retR, resL, outT, outL, zes, zez, oneV, zcp, zed, zfi, Ro.dl, St.ev, zhk, ↓za, ↓reduceIte, Nat.reduceEqDiff, Nat.reduceAdd, Nat.reduceLeDiff]
    exact bool_false ht fun h => h2 (by rw [h])
  ·rintro sl ro gn ⟨s0, s1, s12, s13, q⟩
   dsimp only at s0 s1 s12 s13
   have hx' : ¬ ((O.length : Nat) : Int) < (O.length : Nat) := by omega
   simp (maxSteps := 10000000) (disch := first | assumption | omega) only [go_sem, ↓reduceIte, Nat.reduceEqDiff, reduceCtorEq, Nat.reduceAdd, Nat.reduceMul, Nat.reduceLeDiff, zc, Int.reduceToNat, s0, s1, s12, s13, hx']
   simp only [zr, zb, retR, resL, outT, outL, zes, zez, oneV, zcp, zed, zfi, Ro.dl, St.ev, zhk, ↓za, ↓reduceIte, Nat.reduceEqDiff, Nat.reduceAdd, Nat.reduceLeDiff]
   exact (ht.2 (list_ext h1 q)).symm
 ·have h1' : ¬ (O.length : Int) = O'.length := by omega
  refine call_of (fn := Tryz.f103) (code := bodyOf Tryz.f103) Tryz.func103 rfl (by kernel_rfl) (rfl) ?_
  intro sl hs
  have s0 : sl 0 = o := hs 0
  have s1 : sl 1 = o' := hs 1
  dsimp only [Tryz.f103, bodyOf, Option.getD]
  simp (maxSteps := 10000000) (disch := first | assumption | omega) only [go_sem, ↓reduceIte, Nat.reduceEqDiff, reduceCtorEq, Nat.reduceAdd, Nat.reduceMul, Nat.reduceLeDiff, zc, Int.reduceToNat, s0, s1, eq_false h1']
  simp only [zr, zb, retR, resL, outT, outL, zes, zez, oneV, zcp, zed, zfi, Ro.dl, St.ev, zhk, ↓za, ↓reduceIte, Nat.reduceEqDiff, Nat.reduceAdd, Nat.reduceLeDiff]
  exact bool_false ht fun h => h1 (by rw [h])
theorem cKind (ho : isL o O) (ho' : isL o' O') (hO : O.length ≤ maxN) (hO' : O'.length ≤ maxN) (hc : isLLL c (cubeL F n)) (hc' : isLLL c' (cubeL F' n')) {t : Bool} (ht : t = true ↔ O = O' ∧ M = M') : CallOK Tryz.prog 51 [.agg [o, i64 M, c], .agg [o', i64 M', c']] (bo t) := by
 by_cases h1 : O = O'
 ·have c1 := cEqu (t := true) ho ho' hO hO' (by simp [h1])
  by_cases h2 : M = M'
  ·refine call_of (fn := Tryz.f51) (code := bodyOf Tryz.f51) Tryz.func51 rfl (by kernel_rfl) (rfl) ?_
   intro sl hs
   have s0 : sl 0 = .agg [o, i64 M, c] := hs 0
   have s1 : sl 1 = .agg [o', i64 M', c'] := hs 1
   dsimp only [Tryz.f51, bodyOf, Option.getD]
   simp (maxSteps := 10000000) (disch := first | assumption | omega) only [go_sem, ↓reduceIte, Nat.reduceEqDiff, reduceCtorEq, Nat.reduceAdd, Nat.reduceMul, Nat.reduceLeDiff, zc, Int.reduceToNat, s0, s1]
   refine CLL_pure _ c1 PUt rfl rfl ?_
   simp (maxSteps := 10000000) (disch := first | assumption | omega) only [go_sem, ↓reduceIte, Nat.reduceEqDiff, reduceCtorEq, Nat.reduceAdd, Nat.reduceMul, Nat.reduceLeDiff, zc, Int.reduceToNat, s0, s1, eq_true h2]
   simp only [zr, zb, retR, resL, outT, outL, zes, zez, oneV, zcp, zed, zfi, Ro.dl, St.ev, zhk, ↓za, ↓reduceIte, Nat.reduceEqDiff, Nat.reduceAdd, Nat.reduceLeDiff]
   exact (ht.2 ⟨h1, h2⟩).symm
  ·refine call_of (fn := Tryz.f51) (code := bodyOf Tryz.f51) Tryz.func51 rfl (by kernel_rfl) (rfl) ?_
   intro sl hs
   have s0 : sl 0 = .agg [o, i64 M, c] := hs 0
   have s1 : sl 1 = .agg [o', i64 M', c'] := hs 1
   dsimp only [Tryz.f51, bodyOf, Option.getD]
   simp (maxSteps := 10000000) (disch := first | assumption | omega) only [go_sem, ↓reduceIte, Nat.reduceEqDiff, reduceCtorEq, Nat.reduceAdd, Nat.reduceMul, Nat.reduceLeDiff, zc, Int.reduceToNat, s0, s1]
   refine CLL_pure _ c1 PUt rfl rfl ?_
   simp (maxSteps := 10000000) (disch := first | assumption | omega) only [go_sem, ↓reduceIte, Nat.reduceEqDiff, reduceCtorEq, Nat.reduceAdd, Nat.reduceMul, Nat.reduceLeDiff, zc, Int.reduceToNat, s0, s1, eq_false h2]
   simp only [zr, zb, retR, resL, outT, outL, zes, zez, oneV, zcp, zed, zfi, Ro.dl, St.ev, zhk, ↓za, ↓reduceIte, Nat.reduceEqDiff, Nat.reduceAdd, Nat.reduceLeDiff]
   exact bool_false ht fun h => h2 h.2
 ·have c1 := cEqu (t := false) ho ho' hO hO' (by simp [h1])
  refine call_of (fn := Tryz.f51) (code := bodyOf Tryz.f51) Tryz.func51 rfl (by kernel_rfl) (rfl) ?_
  intro sl hs
  have s0 : sl 0 = .agg [o, i64 M, c] := hs 0
  have s1 : sl 1 = .agg [o', i64 M', c'] := hs 1
  dsimp only [Tryz.f51, bodyOf, Option.getD]
  simp (maxSteps := 10000000) (disch := first | assumption | omega) only [go_sem, ↓reduceIte, Nat.reduceEqDiff, reduceCtorEq, Nat.reduceAdd, Nat.reduceMul, Nat.reduceLeDiff, zc, Int.reduceToNat, s0, s1]
  refine CLL_pure _ c1 PUt rfl rfl ?_
  simp (maxSteps := 10000000) (disch := first | assumption | omega) only [go_sem, ↓reduceIte, Nat.reduceEqDiff, reduceCtorEq, Nat.reduceAdd, Nat.reduceMul, Nat.reduceLeDiff, zc, Int.reduceToNat, s0, s1, undef]
  simp only [zr, zb, retR, resL, outT, outL, zes, zez, oneV, zcp, zed, zfi, Ro.dl, St.ev, zhk, ↓za, ↓reduceIte, Nat.reduceEqDiff, Nat.reduceAdd, Nat.reduceLeDiff]
  exact bool_false ht fun h => h1 h.1
theorem cOrdC (ho : isL o O) (hO : O.length ≤ maxN) {e : Int} (he1 : ¬ OrdP O → e = 1) (he3 : OrdP O → 8 < pfx O O.length → e = 3) (he0 : OrdP O → ¬ 8 < pfx O O.length → e = 0) : CallOK Tryz.prog 91 [o, i64 8] (i64 e) := by
 have c1 := cGs ho hO
 have hr := gs5_rng (O := O)
 by_cases h1 : OrdP O
 ·have h0 : ¬ gs5 O = 0 := fun h => gs5_0.1 h h1
  by_cases h2 : 8 < pfx O O.length
  ·have h3 : (8 : Int) < gs5 O := by
    rcases (by omega : (8 : Int) < gs5 O ∨ gs5 O ≤ 8) with h | h
    ·exact h
    ·have := (gs5_of (O := O) (by omega) (by omega)).2; omega
   have := he3 h1 h2
   subst this
   refine call_of (fn := Tryz.f91) (code := bodyOf Tryz.f91) Tryz.func91 rfl (by kernel_rfl) (rfl) ?_
   intro sl hs
   have s0 : sl 0 = o := hs 0
   have s1 : sl 1 = i64 8 := hs 1
   dsimp only [Tryz.f91, bodyOf, Option.getD]
   simp (maxSteps := 10000000) (disch := first | assumption | omega) only [go_sem, ↓reduceIte, Nat.reduceEqDiff, reduceCtorEq, Nat.reduceAdd, Nat.reduceMul, Nat.reduceLeDiff, zc, Int.reduceToNat, s0, s1]
   refine CLL_pure _ c1 PUt rfl rfl ?_
   simp (maxSteps := 10000000) (disch := first | assumption | omega) only [go_sem, ↓reduceIte, Nat.reduceEqDiff, reduceCtorEq, Nat.reduceAdd, Nat.reduceMul, Nat.reduceLeDiff, zc, Int.reduceToNat, s0, s1, eq_false h0, eq_true h3]
   simp only [zr, zb, retR, resL, outT, outL, zes, zez, oneV, zcp, zed, zfi, Ro.dl, St.ev, zhk, ↓za, ↓reduceIte, Nat.reduceEqDiff, Nat.reduceAdd, Nat.reduceLeDiff]
  ·have h3 : ¬ (8 : Int) < gs5 O := by rw [gs5_eq h1 (by omega)]; exact h2
   have := he0 h1 h2
   subst this
   refine call_of (fn := Tryz.f91) (code := bodyOf Tryz.f91) Tryz.func91 rfl (by kernel_rfl) (rfl) ?_
   intro sl hs
   have s0 : sl 0 = o := hs 0
   have s1 : sl 1 = i64 8 := hs 1
   dsimp only [Tryz.f91, bodyOf, Option.getD]
   simp (maxSteps := 10000000) (disch := first | assumption | omega) only [go_sem, ↓reduceIte, Nat.reduceEqDiff, reduceCtorEq, Nat.reduceAdd, Nat.reduceMul, Nat.reduceLeDiff, zc, Int.reduceToNat, s0, s1]
   refine CLL_pure _ c1 PUt rfl rfl ?_
   simp (maxSteps := 10000000) (disch := first | assumption | omega) only [go_sem, ↓reduceIte, Nat.reduceEqDiff, reduceCtorEq, Nat.reduceAdd, Nat.reduceMul, Nat.reduceLeDiff, zc, Int.reduceToNat, s0, s1, eq_false h0, eq_false h3]
   simp only [zr, zb, retR, resL, outT, outL, zes, zez, oneV, zcp, zed, zfi, Ro.dl, St.ev, zhk, ↓za, ↓reduceIte, Nat.reduceEqDiff, Nat.reduceAdd, Nat.reduceLeDiff]
 ·have h0 : gs5 O = 0 := gs5_0.2 h1
  have := he1 h1
  subst this
  refine call_of (fn := Tryz.f91) (code := bodyOf Tryz.f91) Tryz.func91 rfl (by kernel_rfl) (rfl) ?_
  intro sl hs
  have s0 : sl 0 = o := hs 0
  have s1 : sl 1 = i64 8 := hs 1
  dsimp only [Tryz.f91, bodyOf, Option.getD]
  simp (maxSteps := 10000000) (disch := first | assumption | omega) only [go_sem, ↓reduceIte, Nat.reduceEqDiff, reduceCtorEq, Nat.reduceAdd, Nat.reduceMul, Nat.reduceLeDiff, zc, Int.reduceToNat, s0, s1]
  refine CLL_pure _ c1 PUt rfl rfl ?_
  simp (maxSteps := 10000000) (disch := first | assumption | omega) only [go_sem, ↓reduceIte, Nat.reduceEqDiff, reduceCtorEq, Nat.reduceAdd, Nat.reduceMul, Nat.reduceLeDiff, zc, Int.reduceToNat, s0, s1, eq_true h0]
  simp only [zr, zb, retR, resL, outT, outL, zes, zez, oneV, zcp, zed, zfi, Ro.dl, St.ev, zhk, ↓za, ↓reduceIte, Nat.reduceEqDiff, Nat.reduceAdd, Nat.reduceLeDiff]
theorem cPairC (ho : isL o O) (hO : O.length ≤ 6) (hv : isLL v (matL G k l)) (h16 : k ≤ 16 ∧ l ≤ 16) (hM : -1048576 ≤ M ∧ M ≤ 1048576) : CallOK Tryz.prog 64 [o, i64 M, v] (i64 (pcode O M G k l)) := by
 have hxO : O.length ≤ maxN := Nat.le_trans hO (by decide)
 by_cases h1 : OrdP O
 ·by_cases h2 : 8 < pfx O O.length
  ·have c1 := cOrdC (e := 3) ho hxO (fun h => absurd h1 h) (fun _ _ => rfl) (fun _ h => absurd h2 h)
   rw [pcode3 h1 h2]
   refine call_of (fn := Tryz.f64) (code := bodyOf Tryz.f64) Tryz.func64 rfl (by kernel_rfl) (rfl) ?_
   intro sl hs
   have s0 : sl 0 = o := hs 0
   have s1 : sl 1 = i64 M := hs 1
   have s2 : sl 2 = v := hs 2
   dsimp only [Tryz.f64, bodyOf, Option.getD]
   simp (maxSteps := 10000000) (disch := first | assumption | omega) only [go_sem, ↓reduceIte, Nat.reduceEqDiff, reduceCtorEq, Nat.reduceAdd, Nat.reduceMul, Nat.reduceLeDiff, zc, Int.reduceToNat, s0, s1, s2]
   refine CLL_pure _ c1 PUt rfl rfl ?_
   simp (maxSteps := 10000000) (disch := first | assumption | omega) only [go_sem, ↓reduceIte, Nat.reduceEqDiff, reduceCtorEq, Nat.reduceAdd, Nat.reduceMul, Nat.reduceLeDiff, zc, Int.reduceToNat, s0, s1, s2]
   simp only [zr, zb, retR, resL, outT, outL, zes, zez, oneV, zcp, zed, zfi, Ro.dl, St.ev, zhk, ↓za, ↓reduceIte, Nat.reduceEqDiff, Nat.reduceAdd, Nat.reduceLeDiff]
  ·have c1 := cOrdC (e := 0) ho hxO (fun h => absurd h1 h) (fun _ h => absurd h h2) (fun _ _ => rfl)
   have c2 := cGs ho hxO
   have hp := pfx_pos1 h1.2
   obtain ⟨N, hN⟩ := Int.eq_ofNat_of_zero_le (show 0 ≤ pfx O O.length by omega)
   rw [gs5_eq h1 (by omega), hN] at c2
   have eN : (pfx O O.length).toNat = N := by rw [hN]; exact Int.toNat_natCast N
   have c3 : CallOK Tryz.prog _ [i64 M] (bo (decide (1 ≤ M ∧ M ≤ 1000))) := cIsM
   by_cases h3 : 1 ≤ M ∧ M ≤ 1000
   ·rw [decide_eq_true h3] at c3
    by_cases h4 : PrP N M G k l
    ·have c4 := cPairI (n := N) (t := true) hv (by omega) hM (by simp [h4])
     rw [pcode0 h1 h2 ⟨h3, by rw [eN]; exact h4⟩]
     refine call_of (fn := Tryz.f64) (code := bodyOf Tryz.f64) Tryz.func64 rfl (by kernel_rfl) (rfl) ?_
     intro sl hs
     have s0 : sl 0 = o := hs 0
     have s1 : sl 1 = i64 M := hs 1
     have s2 : sl 2 = v := hs 2
     dsimp only [Tryz.f64, bodyOf, Option.getD]
     simp (maxSteps := 10000000) (disch := first | assumption | omega) only [go_sem, ↓reduceIte, Nat.reduceEqDiff, reduceCtorEq, Nat.reduceAdd, Nat.reduceMul, Nat.reduceLeDiff, zc, Int.reduceToNat, s0, s1, s2]
     refine CLL_pure _ c1 PUt rfl rfl ?_
     simp (maxSteps := 10000000) (disch := first | assumption | omega) only [go_sem, ↓reduceIte, Nat.reduceEqDiff, reduceCtorEq, Nat.reduceAdd, Nat.reduceMul, Nat.reduceLeDiff, zc, Int.reduceToNat, s0, s1, s2]
     refine CLL_pure _ c3 rfl rfl rfl ?_
     simp (maxSteps := 10000000) (disch := first | assumption | omega) only [go_sem, ↓reduceIte, Nat.reduceEqDiff, reduceCtorEq, Nat.reduceAdd, Nat.reduceMul, Nat.reduceLeDiff, zc, Int.reduceToNat, s0, s1, s2]
     refine CLL_pure _ c2 PUt rfl rfl ?_
     simp (maxSteps := 10000000) (disch := first | assumption | omega) only [go_sem, ↓reduceIte, Nat.reduceEqDiff, reduceCtorEq, Nat.reduceAdd, Nat.reduceMul, Nat.reduceLeDiff, zc, Int.reduceToNat, s0, s1, s2]
     refine CLL_pure _ c4 PUt rfl rfl ?_
     simp (maxSteps := 10000000) (disch := first | assumption | omega) only [go_sem, ↓reduceIte, Nat.reduceEqDiff, reduceCtorEq, Nat.reduceAdd, Nat.reduceMul, Nat.reduceLeDiff, zc, Int.reduceToNat, s0, s1, s2]
     simp only [zr, zb, retR, resL, outT, outL, zes, zez, oneV, zcp, zed, zfi, Ro.dl, St.ev, zhk, ↓za, ↓reduceIte, Nat.reduceEqDiff, Nat.reduceAdd, Nat.reduceLeDiff]
    ·have c4 := cPairI (n := N) (t := false) hv (by omega) hM (by simp [h4])
     rw [pcode2 h1 h2 (by rw [eN]; exact fun h => h4 h.2)]
     refine call_of (fn := Tryz.f64) (code := bodyOf Tryz.f64) Tryz.func64 rfl (by kernel_rfl) (rfl) ?_
     intro sl hs
     have s0 : sl 0 = o := hs 0
     have s1 : sl 1 = i64 M := hs 1
     have s2 : sl 2 = v := hs 2
     dsimp only [Tryz.f64, bodyOf, Option.getD]
     simp (maxSteps := 10000000) (disch := first | assumption | omega) only [go_sem, ↓reduceIte, Nat.reduceEqDiff, reduceCtorEq, Nat.reduceAdd, Nat.reduceMul, Nat.reduceLeDiff, zc, Int.reduceToNat, s0, s1, s2]
     refine CLL_pure _ c1 PUt rfl rfl ?_
     simp (maxSteps := 10000000) (disch := first | assumption | omega) only [go_sem, ↓reduceIte, Nat.reduceEqDiff, reduceCtorEq, Nat.reduceAdd, Nat.reduceMul, Nat.reduceLeDiff, zc, Int.reduceToNat, s0, s1, s2]
     refine CLL_pure _ c3 rfl rfl rfl ?_
     simp (maxSteps := 10000000) (disch := first | assumption | omega) only [go_sem, ↓reduceIte, Nat.reduceEqDiff, reduceCtorEq, Nat.reduceAdd, Nat.reduceMul, Nat.reduceLeDiff, zc, Int.reduceToNat, s0, s1, s2]
     refine CLL_pure _ c2 PUt rfl rfl ?_
     simp (maxSteps := 10000000) (disch := first | assumption | omega) only [go_sem, ↓reduceIte, Nat.reduceEqDiff, reduceCtorEq, Nat.reduceAdd, Nat.reduceMul, Nat.reduceLeDiff, zc, Int.reduceToNat, s0, s1, s2]
     refine CLL_pure _ c4 PUt rfl rfl ?_
     simp (maxSteps := 10000000) (disch := first | assumption | omega) only [go_sem, ↓reduceIte, Nat.reduceEqDiff, reduceCtorEq, Nat.reduceAdd, Nat.reduceMul, Nat.reduceLeDiff, zc, Int.reduceToNat, s0, s1, s2]
     simp only [zr, zb, retR, resL, outT, outL, zes, zez, oneV, zcp, zed, zfi, Ro.dl, St.ev, zhk, ↓za, ↓reduceIte, Nat.reduceEqDiff, Nat.reduceAdd, Nat.reduceLeDiff]
   ·rw [decide_eq_false h3] at c3
    rw [pcode2 h1 h2 (fun h => h3 h.1)]
    refine call_of (fn := Tryz.f64) (code := bodyOf Tryz.f64) Tryz.func64 rfl (by kernel_rfl) (rfl) ?_
    intro sl hs
    have s0 : sl 0 = o := hs 0
    have s1 : sl 1 = i64 M := hs 1
    have s2 : sl 2 = v := hs 2
    dsimp only [Tryz.f64, bodyOf, Option.getD]
    simp (maxSteps := 10000000) (disch := first | assumption | omega) only [go_sem, ↓reduceIte, Nat.reduceEqDiff, reduceCtorEq, Nat.reduceAdd, Nat.reduceMul, Nat.reduceLeDiff, zc, Int.reduceToNat, s0, s1, s2]
    refine CLL_pure _ c1 PUt rfl rfl ?_
    simp (maxSteps := 10000000) (disch := first | assumption | omega) only [go_sem, ↓reduceIte, Nat.reduceEqDiff, reduceCtorEq, Nat.reduceAdd, Nat.reduceMul, Nat.reduceLeDiff, zc, Int.reduceToNat, s0, s1, s2]
    refine CLL_pure _ c3 rfl rfl rfl ?_
    simp (maxSteps := 10000000) (disch := first | assumption | omega) only [go_sem, ↓reduceIte, Nat.reduceEqDiff, reduceCtorEq, Nat.reduceAdd, Nat.reduceMul, Nat.reduceLeDiff, zc, Int.reduceToNat, s0, s1, s2, undef]
    simp only [zr, zb, retR, resL, outT, outL, zes, zez, oneV, zcp, zed, zfi, Ro.dl, St.ev, zhk, ↓za, ↓reduceIte, Nat.reduceEqDiff, Nat.reduceAdd, Nat.reduceLeDiff]
 ·have c1 := cOrdC (e := 1) ho hxO (fun _ => rfl) (fun h => absurd h h1) (fun h => absurd h h1)
  rw [pcode1 h1]
  refine call_of (fn := Tryz.f64) (code := bodyOf Tryz.f64) Tryz.func64 rfl (by kernel_rfl) (rfl) ?_
  intro sl hs
  have s0 : sl 0 = o := hs 0
  have s1 : sl 1 = i64 M := hs 1
  have s2 : sl 2 = v := hs 2
  dsimp only [Tryz.f64, bodyOf, Option.getD]
  simp (maxSteps := 10000000) (disch := first | assumption | omega) only [go_sem, ↓reduceIte, Nat.reduceEqDiff, reduceCtorEq, Nat.reduceAdd, Nat.reduceMul, Nat.reduceLeDiff, zc, Int.reduceToNat, s0, s1, s2]
  refine CLL_pure _ c1 PUt rfl rfl ?_
  simp (maxSteps := 10000000) (disch := first | assumption | omega) only [go_sem, ↓reduceIte, Nat.reduceEqDiff, reduceCtorEq, Nat.reduceAdd, Nat.reduceMul, Nat.reduceLeDiff, zc, Int.reduceToNat, s0, s1, s2]
  simp only [zr, zb, retR, resL, outT, outL, zes, zez, oneV, zcp, zed, zfi, Ro.dl, St.ev, zhk, ↓za, ↓reduceIte, Nat.reduceEqDiff, Nat.reduceAdd, Nat.reduceLeDiff]
end
end Go.Proofs.YthpmddoakefbmaaGreat
/- Braidings that the program makes, II. -/
namespace Go.Proofs.YthpmddoakefbmaaGreat
open Go.RowKit
set_option maxRecDepth 1000000
theorem nrl_4 {o c v : AV} {O : List Int} {M : Int} {C : List (List (List Int))} {S : List (List Int)} (ho : isL o O) (hc : isLLL c C) (hv : isLL v S) : noRefL [o, i64 M, c, v] = true := by
 simp only [noRefL, noRef, noRef_isL ho, noRef_isLLL hc, noRef_isLL hv, Bool.and_self]
theorem exq_4 {o c v : AV} {O : List Int} {M : Int} {C : List (List (List Int))} {S : List (List Int)} (ho : isL o O) (hc : isLLL c C) (hv : isLL v S) (ro : Ro) : exqL 5 ro [o, i64 M, c, v] [o, i64 M, c, v] :=
 .cons (exq_L ho (by decide)) (.cons (exq_sc _ _ _ (by decide)) (.cons (exq_LLL hc (by decide)) (.cons (exq_LL hv (by decide)) .nil)))
section
variable {o c v o' c' v' : AV} {O O' : List Int} {M M' : Int} {F F' : Nat → Nat → Nat → Int} {n n' : Nat} {G G' : Nat → Nat → Int} {k l k' l' : Nat}
set_option maxHeartbeats 8000000 in
theorem cRevI (ho : isL o O) (hO : O.length ≤ 6) (hc : isLLL c (cubeL F n)) (hv : isLL v (matL G k l)) (h16 : n ≤ 16 ∧ k ≤ 16 ∧ l ≤ 16) (hM : -1048576 ≤ M ∧ M ≤ 1048576) : CallOK Tryz.prog 17 [.agg [o, i64 M, c, v]] (revR O M F n G k l) := by
 by_cases h1 : BrP O M F n G k l
 ·have c1 := cIsBI (t := true) ho hO hc hv h16 hM (by simp [h1])
  have e : revR O M F n G k l = okB O M F (rvG M G) n := by unfold revR; rw [if_pos h1]
  rw [e]
  obtain ⟨e1, e2⟩ := h1.s.sq
  subst e1
  subst e2
  have hm := h1.s.w.s.m
  have n8 := h1.s.w.s.n8
  have c2 := cCopyC ho hO hc h1.s.w.s
  have eK : (fun x y => (0 - G y x) % M) = rvG M G := by funext x y; unfold rvG; rw [Int.zero_sub]
  refine call_of (fn := Tryz.f17) (code := bodyOf Tryz.f17) Tryz.func17 rfl (by kernel_rfl) (noRef_okB _ _ _ _ _) ?_
  intro sl hs
  have s0 : sl 0 = .agg [o, i64 M, c, v] := hs 0
  dsimp only [Tryz.f17, bodyOf, Option.getD]
  simp (maxSteps := 10000000) (disch := first | assumption | omega) only [go_sem, ↓reduceIte, Nat.reduceEqDiff, reduceCtorEq, Nat.reduceAdd, Nat.reduceMul, Nat.reduceLeDiff, zc, Int.reduceToNat, s0]
  refine CLL_pure _ c1 PUt rfl rfl ?_
  simp (maxSteps := 10000000) (disch := first | assumption | omega) only [go_sem, ↓reduceIte, Nat.reduceEqDiff, reduceCtorEq, Nat.reduceAdd, Nat.reduceMul, Nat.reduceLeDiff, zc, Int.reduceToNat, s0]
  refine CLL_pure _ c2 PUt rfl rfl ?_
  simp (maxSteps := 10000000) (disch := first | assumption | omega) only [go_sem, ↓reduceIte, Nat.reduceEqDiff, reduceCtorEq, Nat.reduceAdd, Nat.reduceMul, Nat.reduceLeDiff, zc, Int.reduceToNat, s0]
  refine CLL_inS rfl (sByRev (O := O) (F := F) (K := fun x y => 0 - G y x) (csa := [o, i64 M, c, v]) Ur Ur Ur Ur Ur Ur (exq_4 ho hc hv) (nrl_4 ho hc hv) (by omega) (by omega) (fun x hx y hy => cl58 ho hc hv hx hy (by have := h1.s.p.rg hy hx; omega)) (fun x hx y hy => by have := h1.s.p.rg hy hx; omega)) ?_
  rintro _ ro2 gn2 ⟨hF, hg, rfl, hm2⟩
  dsimp only at hF hg hm2
  have f1 := (hF.kp 4112 1 Ur (by rintro ⟨h, _⟩; exact absurd h (by decide))).trans Ur
  have f2 := (hF.kp 16416 1 Ur (by rintro ⟨h, _⟩; exact absurd h (by decide))).trans Ur
  have f3 := (hF.kp 16417 1 Ur (by rintro ⟨h, _⟩; exact absurd h (by decide))).trans Ur
  simp only [↓za, ↓reduceIte, Nat.reduceEqDiff, zb, reduceCtorEq, Nat.zero_add] at hm2
  rw [eK] at hm2
  simp (maxSteps := 10000000) (disch := first | assumption | omega) only [go_sem, ↓reduceIte, Nat.reduceEqDiff, reduceCtorEq, Nat.reduceAdd, Nat.reduceMul, Nat.reduceLeDiff, zc, Int.reduceToNat, s0, f1, f2, f3, hm2]
  simp only [zr, zb, retR, resL, outT, outL, zes, zez, oneV, zcp, zed, zfi, Ro.dl, St.ev, zhk, ↓za, ↓reduceIte, Nat.reduceEqDiff, Nat.reduceAdd, Nat.reduceLeDiff, tiD, f1, f2, f3, hm2]
 ·have c1 := cIsBI (t := false) ho hO hc hv h16 hM (by simp [h1])
  have e : revR O M F n G k l = noB 1 := by unfold revR; rw [if_neg h1]
  rw [e]
  refine call_of (fn := Tryz.f17) (code := bodyOf Tryz.f17) Tryz.func17 rfl (by kernel_rfl) (rfl) ?_
  intro sl hs
  have s0 : sl 0 = .agg [o, i64 M, c, v] := hs 0
  dsimp only [Tryz.f17, bodyOf, Option.getD]
  simp (maxSteps := 10000000) (disch := first | assumption | omega) only [go_sem, ↓reduceIte, Nat.reduceEqDiff, reduceCtorEq, Nat.reduceAdd, Nat.reduceMul, Nat.reduceLeDiff, zc, Int.reduceToNat, s0]
  refine CLL_pure _ c1 PUt rfl rfl ?_
  simp (maxSteps := 10000000) (disch := first | assumption | omega) only [go_sem, ↓reduceIte, Nat.reduceEqDiff, reduceCtorEq, Nat.reduceAdd, Nat.reduceMul, Nat.reduceLeDiff, zc, Int.reduceToNat, s0]
  simp only [zr, zb, retR, resL, outT, outL, zes, zez, oneV, zcp, zed, zfi, Ro.dl, St.ev, zhk, ↓za, ↓reduceIte, Nat.reduceEqDiff, Nat.reduceAdd, Nat.reduceLeDiff, tiD]
set_option maxHeartbeats 8000000 in
theorem cAddI2 (ho : isL o O) (hO : O.length ≤ 6) (hc : isLLL c (cubeL F n)) (hv : isLL v (matL G k l)) (h16 : n ≤ 16 ∧ k ≤ 16 ∧ l ≤ 16) (hM : -1048576 ≤ M ∧ M ≤ 1048576)
  (ho' : isL o' O') (hO' : O'.length ≤ 6) (hc' : isLLL c' (cubeL F' n')) (hv' : isLL v' (matL G' k' l')) (h16' : n' ≤ 16 ∧ k' ≤ 16 ∧ l' ≤ 16) (hM' : -1048576 ≤ M' ∧ M' ≤ 1048576) :
  CallOK Tryz.prog 13 [.agg [o, i64 M, c, v], .agg [o', i64 M', c', v']] (addR O M F n G k l O' M' F' n' G' k' l') := by
 have hxO : O.length ≤ maxN := Nat.le_trans hO (by decide)
 have hxO' : O'.length ≤ maxN := Nat.le_trans hO' (by decide)
 by_cases h1 : BrP O M F n G k l
 ·have c1 := cIsBI (t := true) ho hO hc hv h16 hM (by simp [h1])
  by_cases h2 : BrP O' M' F' n' G' k' l'
  ·have c2 := cIsBI (t := true) ho' hO' hc' hv' h16' hM' (by simp [h2])
   by_cases h3 : O = O' ∧ M = M'
   ·have c3 := cKind (t := true) (M := M) (M' := M') ho ho' hxO hxO' hc hc' (by simp [h3])
    obtain ⟨h3, h4⟩ := h3
    subst h3
    subst h4
    rw [addR0 ⟨h1, h2⟩ ⟨rfl, rfl⟩]
    obtain ⟨e1, e2⟩ := h1.s.sq
    obtain ⟨e3, e4⟩ := h2.s.sq
    have e5 : n' = n := by have := h1.s.w.s.e; have := h2.s.w.s.e; omega
    subst e1 e2 e5
    subst e3 e4
    have hm := h1.s.w.s.m
    have c4 := cAddC (M' := M) ho hO hc h1.s.w.s ho' hc' h2.s.w.s.b
    have eK : (fun x y => (G x y + G' x y) % M) = sm2 G G' M := rfl
    refine call_of (fn := Tryz.f13) (code := bodyOf Tryz.f13) Tryz.func13 rfl (by kernel_rfl) (noRef_okB _ _ _ _ _) ?_
    intro sl hs
    have s0 : sl 0 = .agg [o, i64 M, c, v] := hs 0
    have s1 : sl 1 = .agg [o', i64 M, c', v'] := hs 1
    dsimp only [Tryz.f13, bodyOf, Option.getD]
    simp (maxSteps := 10000000) (disch := first | assumption | omega) only [go_sem, ↓reduceIte, Nat.reduceEqDiff, reduceCtorEq, Nat.reduceAdd, Nat.reduceMul, Nat.reduceLeDiff, zc, Int.reduceToNat, s0, s1]
    refine CLL_pure _ c1 PUt rfl rfl ?_
    simp (maxSteps := 10000000) (disch := first | assumption | omega) only [go_sem, ↓reduceIte, Nat.reduceEqDiff, reduceCtorEq, Nat.reduceAdd, Nat.reduceMul, Nat.reduceLeDiff, zc, Int.reduceToNat, s0, s1]
    refine CLL_pure _ c2 PUt rfl rfl ?_
    simp (maxSteps := 10000000) (disch := first | assumption | omega) only [go_sem, ↓reduceIte, Nat.reduceEqDiff, reduceCtorEq, Nat.reduceAdd, Nat.reduceMul, Nat.reduceLeDiff, zc, Int.reduceToNat, s0, s1]
    refine CLL_pure _ c3 PUt rfl rfl ?_
    simp (maxSteps := 10000000) (disch := first | assumption | omega) only [go_sem, ↓reduceIte, Nat.reduceEqDiff, reduceCtorEq, Nat.reduceAdd, Nat.reduceMul, Nat.reduceLeDiff, zc, Int.reduceToNat, s0, s1]
    refine CLL_pure _ c4 PUt rfl rfl ?_
    simp (maxSteps := 10000000) (disch := first | assumption | omega) only [go_sem, ↓reduceIte, Nat.reduceEqDiff, reduceCtorEq, Nat.reduceAdd, Nat.reduceMul, Nat.reduceLeDiff, zc, Int.reduceToNat, s0, s1]
    refine CLL_inS rfl (sByAdd (O := O) (F := smF F F' M) (K := fun x y => G x y + G' x y) (csa := [o, i64 M, c, v]) (csb := [o', i64 M, c', v']) Ur Ur Ur Ur Ur Ur (exq_4 ho hc hv) (nrl_4 ho hc hv) Ur Ur (exq_4 ho' hc' hv') (nrl_4 ho' hc' hv') (by omega) (by omega) (fun x hx y hy => cl54 ho hc hv ho' hc' hv' hx hy (by have := h1.s.p.rg hx hy; omega) (by have := h2.s.p.rg hx hy; omega)) (fun x hx y hy => by have := h1.s.p.rg hx hy; have := h2.s.p.rg hx hy; omega)) ?_
    rintro _ ro2 gn2 ⟨hF, hg, rfl, hm2⟩
    dsimp only at hF hg hm2
    have f1 := (hF.kp 4128 1 Ur (by rintro ⟨h, _⟩; exact absurd h (by decide))).trans Ur
    have f2 := (hF.kp 24640 1 Ur (by rintro ⟨h, _⟩; exact absurd h (by decide))).trans Ur
    have f3 := (hF.kp 24641 1 Ur (by rintro ⟨h, _⟩; exact absurd h (by decide))).trans Ur
    simp only [↓za, ↓reduceIte, Nat.reduceEqDiff, zb, reduceCtorEq, Nat.zero_add] at hm2
    rw [eK] at hm2
    simp (maxSteps := 10000000) (disch := first | assumption | omega) only [go_sem, ↓reduceIte, Nat.reduceEqDiff, reduceCtorEq, Nat.reduceAdd, Nat.reduceMul, Nat.reduceLeDiff, zc, Int.reduceToNat, s0, s1, f1, f2, f3, hm2]
    simp only [zr, zb, retR, resL, outT, outL, zes, zez, oneV, zcp, zed, zfi, Ro.dl, St.ev, zhk, ↓za, ↓reduceIte, Nat.reduceEqDiff, Nat.reduceAdd, Nat.reduceLeDiff, tiD, f1, f2, f3, hm2]
   ·have c3 := cKind (t := false) (M := M) (M' := M') ho ho' hxO hxO' hc hc' (by simp only [Bool.false_eq_true, false_iff]; exact h3)
    rw [addR2 ⟨h1, h2⟩ h3]
    refine call_of (fn := Tryz.f13) (code := bodyOf Tryz.f13) Tryz.func13 rfl (by kernel_rfl) (rfl) ?_
    intro sl hs
    have s0 : sl 0 = .agg [o, i64 M, c, v] := hs 0
    have s1 : sl 1 = .agg [o', i64 M', c', v'] := hs 1
    dsimp only [Tryz.f13, bodyOf, Option.getD]
    simp (maxSteps := 10000000) (disch := first | assumption | omega) only [go_sem, ↓reduceIte, Nat.reduceEqDiff, reduceCtorEq, Nat.reduceAdd, Nat.reduceMul, Nat.reduceLeDiff, zc, Int.reduceToNat, s0, s1]
    refine CLL_pure _ c1 PUt rfl rfl ?_
    simp (maxSteps := 10000000) (disch := first | assumption | omega) only [go_sem, ↓reduceIte, Nat.reduceEqDiff, reduceCtorEq, Nat.reduceAdd, Nat.reduceMul, Nat.reduceLeDiff, zc, Int.reduceToNat, s0, s1]
    refine CLL_pure _ c2 PUt rfl rfl ?_
    simp (maxSteps := 10000000) (disch := first | assumption | omega) only [go_sem, ↓reduceIte, Nat.reduceEqDiff, reduceCtorEq, Nat.reduceAdd, Nat.reduceMul, Nat.reduceLeDiff, zc, Int.reduceToNat, s0, s1]
    refine CLL_pure _ c3 PUt rfl rfl ?_
    simp (maxSteps := 10000000) (disch := first | assumption | omega) only [go_sem, ↓reduceIte, Nat.reduceEqDiff, reduceCtorEq, Nat.reduceAdd, Nat.reduceMul, Nat.reduceLeDiff, zc, Int.reduceToNat, s0, s1]
    simp only [zr, zb, retR, resL, outT, outL, zes, zez, oneV, zcp, zed, zfi, Ro.dl, St.ev, zhk, ↓za, ↓reduceIte, Nat.reduceEqDiff, Nat.reduceAdd, Nat.reduceLeDiff, tiD]
  ·have c2 := cIsBI (t := false) ho' hO' hc' hv' h16' hM' (by simp [h2])
   rw [addR1 (fun h => h2 h.2)]
   refine call_of (fn := Tryz.f13) (code := bodyOf Tryz.f13) Tryz.func13 rfl (by kernel_rfl) (rfl) ?_
   intro sl hs
   have s0 : sl 0 = .agg [o, i64 M, c, v] := hs 0
   have s1 : sl 1 = .agg [o', i64 M', c', v'] := hs 1
   dsimp only [Tryz.f13, bodyOf, Option.getD]
   simp (maxSteps := 10000000) (disch := first | assumption | omega) only [go_sem, ↓reduceIte, Nat.reduceEqDiff, reduceCtorEq, Nat.reduceAdd, Nat.reduceMul, Nat.reduceLeDiff, zc, Int.reduceToNat, s0, s1]
   refine CLL_pure _ c1 PUt rfl rfl ?_
   simp (maxSteps := 10000000) (disch := first | assumption | omega) only [go_sem, ↓reduceIte, Nat.reduceEqDiff, reduceCtorEq, Nat.reduceAdd, Nat.reduceMul, Nat.reduceLeDiff, zc, Int.reduceToNat, s0, s1]
   refine CLL_pure _ c2 PUt rfl rfl ?_
   simp (maxSteps := 10000000) (disch := first | assumption | omega) only [go_sem, ↓reduceIte, Nat.reduceEqDiff, reduceCtorEq, Nat.reduceAdd, Nat.reduceMul, Nat.reduceLeDiff, zc, Int.reduceToNat, s0, s1]
   simp only [zr, zb, retR, resL, outT, outL, zes, zez, oneV, zcp, zed, zfi, Ro.dl, St.ev, zhk, ↓za, ↓reduceIte, Nat.reduceEqDiff, Nat.reduceAdd, Nat.reduceLeDiff, tiD]
 ·have c1 := cIsBI (t := false) ho hO hc hv h16 hM (by simp [h1])
  rw [addR1 (fun h => h1 h.1)]
  refine call_of (fn := Tryz.f13) (code := bodyOf Tryz.f13) Tryz.func13 rfl (by kernel_rfl) (rfl) ?_
  intro sl hs
  have s0 : sl 0 = .agg [o, i64 M, c, v] := hs 0
  have s1 : sl 1 = .agg [o', i64 M', c', v'] := hs 1
  dsimp only [Tryz.f13, bodyOf, Option.getD]
  simp (maxSteps := 10000000) (disch := first | assumption | omega) only [go_sem, ↓reduceIte, Nat.reduceEqDiff, reduceCtorEq, Nat.reduceAdd, Nat.reduceMul, Nat.reduceLeDiff, zc, Int.reduceToNat, s0, s1]
  refine CLL_pure _ c1 PUt rfl rfl ?_
  simp (maxSteps := 10000000) (disch := first | assumption | omega) only [go_sem, ↓reduceIte, Nat.reduceEqDiff, reduceCtorEq, Nat.reduceAdd, Nat.reduceMul, Nat.reduceLeDiff, zc, Int.reduceToNat, s0, s1, undef]
  simp only [zr, zb, retR, resL, outT, outL, zes, zez, oneV, zcp, zed, zfi, Ro.dl, St.ev, zhk, ↓za, ↓reduceIte, Nat.reduceEqDiff, Nat.reduceAdd, Nat.reduceLeDiff, tiD]
set_option maxHeartbeats 8000000 in
theorem cCobB (ho : isL o O) (hO : O.length ≤ 6) (hv : isLL v (matL G k l)) (h16 : k ≤ 16 ∧ l ≤ 16) (hM : -1048576 ≤ M ∧ M ≤ 1048576) : CallOK Tryz.prog 20 [o, i64 M, v] (cobR O M G k l) := by
 have c1 := cPairC ho hO hv h16 hM
 by_cases h1 : pcode O M G k l = 0
 ·have e2 : cobR O M G k l = okB O M (cobF O M (matL G k k)) (tuF M (matL G k k)) k := by unfold cobR; rw [if_pos h1]
  rw [h1] at c1
  rw [e2]
  obtain ⟨hP, h8, hm, hp⟩ := pcode_0 h1
  have hpp := pfx_pos1 hP.2
  obtain ⟨hk, hl⟩ := sq_of hp (by omega)
  have hkl : l = k := by omega
  subst hkl
  have hb : ∀ x, x < l → ∀ y, y < l → 0 ≤ G x y ∧ G x y ≤ M - 1 := fun x hx y hy => ((hp.2 x (by omega)).2 y (by omega)).1
  have c2 := cCobI ho hO hP (by omega) (by omega) hv hm hb
  have eK : matA (fun x y => (G y x - G x y) % M) l l = matA (tuF M (matL G l l)) l l := mat_congr fun x y hx hy => by unfold tuF; rw [matL_at hy hx, matL_at hx hy]
  obtain ⟨cs, rfl⟩ := isLL_ne hv (by rw [matL_len2]; omega)
  have hpv : pureL cs = true := by simpa only [pureA] using isLL_pure hv
  refine call_of (fn := Tryz.f20) (code := bodyOf Tryz.f20) Tryz.func20 rfl (by kernel_rfl) (noRef_okB _ _ _ _ _) ?_
  intro sl hs
  have s0 : sl 0 = o := hs 0
  have s1 : sl 1 = i64 M := hs 1
  have s2 : sl 2 = .imm cs := hs 2
  dsimp only [Tryz.f20, bodyOf, Option.getD]
  simp (maxSteps := 10000000) (disch := first | assumption | omega) only [go_sem, ↓reduceIte, Nat.reduceEqDiff, reduceCtorEq, Nat.reduceAdd, Nat.reduceMul, Nat.reduceLeDiff, zc, Int.reduceToNat, s0, s1, s2]
  refine CLL_pure _ c1 (by simp only [pureL, pureA, isL_pure ho, hpv, Bool.and_self, Bool.and_true]) rfl rfl ?_
  simp (maxSteps := 10000000) (disch := first | assumption | omega) only [go_sem, ↓reduceIte, Nat.reduceEqDiff, reduceCtorEq, Nat.reduceAdd, Nat.reduceMul, Nat.reduceLeDiff, zc, Int.reduceToNat, s0, s1, s2]
  refine CLL_pure _ c2 (by simp only [pureL, pureA, isL_pure ho, hpv, Bool.and_self, Bool.and_true]) rfl rfl ?_
  simp (maxSteps := 10000000) (disch := first | assumption | omega) only [go_sem, ↓reduceIte, Nat.reduceEqDiff, reduceCtorEq, Nat.reduceAdd, Nat.reduceMul, Nat.reduceLeDiff, zc, Int.reduceToNat, s0, s1, s2]
  refine CLL_inS rfl (sByCob (O := O) (F := cobF O M (matL G l l)) (K := fun x y => G y x - G x y) (csa := [.imm cs]) Ur Ur Ur Ur Ur Ur (fun ro => .cons (exq_LL hv (by decide)) .nil) (by simp only [noRefL, noRef_isLL hv, Bool.and_self]) (by omega) (by omega) (fun x hx y hy => cl66 hv hx hy (by have := hb y hy x hx; omega) (by have := hb x hx y hy; omega)) (fun x hx y hy => by have := hb y hy x hx; have := hb x hx y hy; omega)) ?_
  rintro _ ro2 gn2 ⟨hF, hg, rfl, hm2⟩
  dsimp only at hF hg hm2
  have f1 := (hF.kp 4112 1 Ur (by rintro ⟨h, _⟩; exact absurd h (by decide))).trans Ur
  have f2 := (hF.kp 20528 1 Ur (by rintro ⟨h, _⟩; exact absurd h (by decide))).trans Ur
  have f3 := (hF.kp 20529 1 Ur (by rintro ⟨h, _⟩; exact absurd h (by decide))).trans Ur
  simp only [↓za, ↓reduceIte, Nat.reduceEqDiff, zb, reduceCtorEq, Nat.zero_add] at hm2
  rw [eK] at hm2
  simp (maxSteps := 10000000) (disch := first | assumption | omega) only [go_sem, ↓reduceIte, Nat.reduceEqDiff, reduceCtorEq, Nat.reduceAdd, Nat.reduceMul, Nat.reduceLeDiff, zc, Int.reduceToNat, s0, s1, s2, f1, f2, f3, hm2]
  simp only [zr, zb, retR, resL, outT, outL, zes, zez, oneV, zcp, zed, zfi, Ro.dl, St.ev, zhk, ↓za, ↓reduceIte, Nat.reduceEqDiff, Nat.reduceAdd, Nat.reduceLeDiff, tiD, f1, f2, f3, hm2]
 ·have e2 : cobR O M G k l = noB (pcode O M G k l) := by unfold cobR; rw [if_neg h1]
  rw [e2]
  generalize pcode O M G k l = e at h1 c1
  have hv0 := hv
  rcases hv0 with ⟨cs, rfl, -⟩ | ⟨-, rfl⟩
  ·have hpv : pureL cs = true := by simpa only [pureA] using isLL_pure hv
   refine call_of (fn := Tryz.f20) (code := bodyOf Tryz.f20) Tryz.func20 rfl (by kernel_rfl) (rfl) ?_
   intro sl hs
   have s0 : sl 0 = o := hs 0
   have s1 : sl 1 = i64 M := hs 1
   have s2 : sl 2 = .imm cs := hs 2
   dsimp only [Tryz.f20, bodyOf, Option.getD]
   simp (maxSteps := 10000000) (disch := first | assumption | omega) only [go_sem, ↓reduceIte, Nat.reduceEqDiff, reduceCtorEq, Nat.reduceAdd, Nat.reduceMul, Nat.reduceLeDiff, zc, Int.reduceToNat, s0, s1, s2]
   refine CLL_pure _ c1 (by simp only [pureL, pureA, isL_pure ho, hpv, Bool.and_self, Bool.and_true]) rfl rfl ?_
   simp (maxSteps := 10000000) (disch := first | assumption | omega) only [go_sem, ↓reduceIte, Nat.reduceEqDiff, reduceCtorEq, Nat.reduceAdd, Nat.reduceMul, Nat.reduceLeDiff, zc, Int.reduceToNat, s0, s1, s2, eq_false h1]
   simp only [zr, zb, retR, resL, outT, outL, zes, zez, oneV, zcp, zed, zfi, Ro.dl, St.ev, zhk, ↓za, ↓reduceIte, Nat.reduceEqDiff, Nat.reduceAdd, Nat.reduceLeDiff, tiD]
  ·refine call_of (fn := Tryz.f20) (code := bodyOf Tryz.f20) Tryz.func20 rfl (by kernel_rfl) (rfl) ?_
   intro sl hs
   have s0 : sl 0 = o := hs 0
   have s1 : sl 1 = i64 M := hs 1
   have s2 : sl 2 = nilA := hs 2
   dsimp only [Tryz.f20, bodyOf, Option.getD]
   simp (maxSteps := 10000000) (disch := first | assumption | omega) only [go_sem, ↓reduceIte, Nat.reduceEqDiff, reduceCtorEq, Nat.reduceAdd, Nat.reduceMul, Nat.reduceLeDiff, zc, Int.reduceToNat, s0, s1, s2]
   refine CLL_pure _ c1 PUt rfl rfl ?_
   simp (maxSteps := 10000000) (disch := first | assumption | omega) only [go_sem, ↓reduceIte, Nat.reduceEqDiff, reduceCtorEq, Nat.reduceAdd, Nat.reduceMul, Nat.reduceLeDiff, zc, Int.reduceToNat, s0, s1, s2, eq_false h1]
   simp only [zr, zb, retR, resL, outT, outL, zes, zez, oneV, zcp, zed, zfi, Ro.dl, St.ev, zhk, ↓za, ↓reduceIte, Nat.reduceEqDiff, Nat.reduceAdd, Nat.reduceLeDiff, tiD]
end
end Go.Proofs.YthpmddoakefbmaaGreat
/- Braidings that the program makes, III. -/
namespace Go.Proofs.YthpmddoakefbmaaGreat
open Go.RowKit
set_option maxRecDepth 1000000
theorem exq_br {ro : Ro} {so uo sp up sq uq n k l off j : Nat} {O : List Int} {M : Int} {F : Nat → Nat → Nat → Int} {G : Nat → Nat → Int} (h1 : ro so uo = some (rowL O)) (h2 : ro sp up = some (cubeA F n)) (h3 : ro sq uq = some (matA G (off + k) l)) (hj : 6 ≤ j) :
  exq j ro (.agg [.ref so uo [] 0 O.length, i64 M, .ref sp up [] 0 n, .ref sq uq [] off k]) (.agg [immL O, i64 M, immC F n, immLL (matL (shG G off) k l)]) := by
 obtain ⟨j, rfl⟩ : ∃ i, j = i + 1 := ⟨j - 1, by omega⟩
 exact exq_agg (.cons (exq_refL h1 rfl (by omega)) (.cons (exq_sc _ _ _ (by omega)) (.cons (exq_cube h2 (by omega)) (.cons (exq_mato h3 (by omega)) .nil))))
theorem exq_br0 {ro : Ro} {so uo sp up sq uq n k l j : Nat} {O : List Int} {M : Int} {F : Nat → Nat → Nat → Int} {G : Nat → Nat → Int} (h1 : ro so uo = some (rowL O)) (h2 : ro sp up = some (cubeA F n)) (h3 : ro sq uq = some (matA G k l)) (hj : 6 ≤ j) :
  exq j ro (.agg [.ref so uo [] 0 O.length, i64 M, .ref sp up [] 0 n, .ref sq uq [] 0 k]) (.agg [immL O, i64 M, immC F n, immLL (matL G k l)]) := by
 obtain ⟨j, rfl⟩ : ∃ i, j = i + 1 := ⟨j - 1, by omega⟩
 exact exq_agg (.cons (exq_refL h1 rfl (by omega)) (.cons (exq_sc _ _ _ (by omega)) (.cons (exq_cube h2 (by omega)) (.cons (exq_mat h3 (by omega)) .nil))))
section
variable {o c v : AV} {O : List Int} {M : Int} {F : Nat → Nat → Nat → Int} {n : Nat} {G : Nat → Nat → Int} {k l : Nat}
set_option maxHeartbeats 8000000 in
theorem cBicI (ho : isL o O) (hO : O.length ≤ 6) (hv : isLL v (matL G k l)) (h16 : k ≤ 16 ∧ l ≤ 16) (hM : -1048576 ≤ M ∧ M ≤ 1048576) : CallOK Tryz.prog 23 [o, i64 M, v] (bicR O M G k l) := by
 have c1 := cPairC ho hO hv h16 hM
 by_cases h1 : pcode O M G k l = 0
 ·rw [h1] at c1
  obtain ⟨hP, h8, hm, hp⟩ := pcode_0 h1
  have hpp := pfx_pos1 hP.2
  obtain ⟨hk, hl⟩ := sq_of hp (by omega)
  have hkl : l = k := by omega
  subst hkl
  have hgs : gs5 O = (l : Int) := by rw [gs5_eq hP (by omega)]; omega
  have hb : ∀ x, x < l → ∀ y, y < l → 0 ≤ G x y ∧ G x y ≤ M - 1 := fun x hx y hy => ((hp.2 x (by omega)).2 y (by omega)).1
  have c2 := cCocBy (M := M) (caps := []) (H := fun _ _ _ => 0) ho (Nat.le_trans hO (by decide)) hgs (by omega) (by omega) (by omega) rfl rfl (fun x _ y _ z _ => cl69) (fun _ _ _ _ _ _ => by omega)
  have hB : BsP O M (fun _ _ _ => 0) l G l l := ⟨zero_co hP h8 hm (by omega), rfl, fun x hx => ⟨rfl, fun y hy => (hp.2 x (by omega)).2 y (by omega)⟩⟩
  have c3 := cFaultB (M := M) (isL_imm O) hO (isLLL_immC (fun _ _ _ => (0 : Int)) l) (isLL_imm (matL G l l)) hB
  have eF : cubeA (fun _ _ _ => 0 % M) l = cubeA (fun _ _ _ => (0 : Int)) l := by simp only [Int.zero_emod]
  have eK : matA (fun x y => G x y % M) l l = matA G l l := mat_congr fun x y hx hy => Int.emod_eq_of_lt (hb x hx y hy).1 (by have := (hb x hx y hy).2; omega)
  rw [eF] at c2
  obtain ⟨cs, rfl⟩ := isLL_ne hv (by rw [matL_len2]; omega)
  have hpv : pureL cs = true := by simpa only [pureA] using isLL_pure hv
  by_cases hf : ft18 O M (fun _ _ _ => 0) G l = none
  ·have e2 : bicR O M G l l = okB O M (fun _ _ _ => 0) G l := by unfold bicR; rw [if_pos h1, if_pos hf]
   rw [e2]
   rw [← optL_none hf] at c3
   refine call_of (fn := Tryz.f23) (code := bodyOf Tryz.f23) Tryz.func23 rfl (by kernel_rfl) (noRef_okB _ _ _ _ _) ?_
   intro sl hs
   have s0 : sl 0 = o := hs 0
   have s1 : sl 1 = i64 M := hs 1
   have s2 : sl 2 = .imm cs := hs 2
   dsimp only [Tryz.f23, bodyOf, Option.getD]
   simp (maxSteps := 10000000) (disch := first | assumption | omega) only [go_sem, ↓reduceIte, Nat.reduceEqDiff, reduceCtorEq, Nat.reduceAdd, Nat.reduceMul, Nat.reduceLeDiff, zc, Int.reduceToNat, s0, s1, s2]
   refine CLL_pure _ c1 (by simp only [pureL, pureA, isL_pure ho, hpv, Bool.and_self, Bool.and_true]) rfl rfl ?_
   simp (maxSteps := 10000000) (disch := first | assumption | omega) only [go_sem, ↓reduceIte, Nat.reduceEqDiff, reduceCtorEq, Nat.reduceAdd, Nat.reduceMul, Nat.reduceLeDiff, zc, Int.reduceToNat, s0, s1, s2]
   refine CLL_pure _ c2 PUt rfl rfl ?_
   simp (maxSteps := 10000000) (disch := first | assumption | omega) only [go_sem, ↓reduceIte, Nat.reduceEqDiff, reduceCtorEq, Nat.reduceAdd, Nat.reduceMul, Nat.reduceLeDiff, zc, Int.reduceToNat, s0, s1, s2]
   refine CLL_inS rfl (sByBic (O := O) (F := fun _ _ _ => 0) (K := G) (csa := [.imm cs]) Ur Ur Ur Ur Ur Ur (fun ro => .cons (exq_LL hv (by decide)) .nil) (by simp only [noRefL, noRef_isLL hv, Bool.and_self]) (by omega) (by omega) (fun x hx y hy => cl70 hv hx hy) (fun x hx y hy => by have := hb x hx y hy; omega)) ?_
   rintro _ ro2 gn2 ⟨hF, hg, rfl, hm2⟩
   dsimp only at hF hg hm2
   have f1 := (hF.kp 4112 1 Ur (by rintro ⟨h, _⟩; exact absurd h (by decide))).trans Ur
   have f2 := (hF.kp 20512 1 Ur (by rintro ⟨h, _⟩; exact absurd h (by decide))).trans Ur
   have f3 := (hF.kp 20513 1 Ur (by rintro ⟨h, _⟩; exact absurd h (by decide))).trans Ur
   simp only [↓za, ↓reduceIte, Nat.reduceEqDiff, zb, reduceCtorEq, Nat.zero_add] at hm2
   rw [eK] at hm2
   simp (maxSteps := 10000000) (disch := first | assumption | omega) only [go_sem, ↓reduceIte, Nat.reduceEqDiff, reduceCtorEq, Nat.reduceAdd, Nat.reduceMul, Nat.reduceLeDiff, zc, Int.reduceToNat, s0, s1, s2, f1, f2, f3, hm2]
   refine CLL_q _ c3 (.cons (exq_br0 (Ue f2) (Ue f3) (Ue hm2) (by decide)) .nil) rfl rfl rfl ?_
   simp (maxSteps := 10000000) (disch := first | assumption | omega) only [go_sem, ↓reduceIte, Nat.reduceEqDiff, reduceCtorEq, Nat.reduceAdd, Nat.reduceMul, Nat.reduceLeDiff, zc, Int.reduceToNat, s0, s1, s2, f1, f2, f3, hm2]
   simp only [zr, zb, retR, resL, outT, outL, zes, zez, oneV, zcp, zed, zfi, Ro.dl, St.ev, zhk, ↓za, ↓reduceIte, Nat.reduceEqDiff, Nat.reduceAdd, Nat.reduceLeDiff, tiD, f1, f2, f3, hm2]
  ·have e2 : bicR O M G l l = noB 5 := by unfold bicR; rw [if_pos h1, if_neg hf]
   rw [e2]
   obtain ⟨lst, hfs⟩ := Option.ne_none_iff_exists'.1 hf
   rw [← optL_some hfs] at c3
   refine call_of (fn := Tryz.f23) (code := bodyOf Tryz.f23) Tryz.func23 rfl (by kernel_rfl) (rfl) ?_
   intro sl hs
   have s0 : sl 0 = o := hs 0
   have s1 : sl 1 = i64 M := hs 1
   have s2 : sl 2 = .imm cs := hs 2
   dsimp only [Tryz.f23, bodyOf, Option.getD]
   simp (maxSteps := 10000000) (disch := first | assumption | omega) only [go_sem, ↓reduceIte, Nat.reduceEqDiff, reduceCtorEq, Nat.reduceAdd, Nat.reduceMul, Nat.reduceLeDiff, zc, Int.reduceToNat, s0, s1, s2]
   refine CLL_pure _ c1 (by simp only [pureL, pureA, isL_pure ho, hpv, Bool.and_self, Bool.and_true]) rfl rfl ?_
   simp (maxSteps := 10000000) (disch := first | assumption | omega) only [go_sem, ↓reduceIte, Nat.reduceEqDiff, reduceCtorEq, Nat.reduceAdd, Nat.reduceMul, Nat.reduceLeDiff, zc, Int.reduceToNat, s0, s1, s2]
   refine CLL_pure _ c2 PUt rfl rfl ?_
   simp (maxSteps := 10000000) (disch := first | assumption | omega) only [go_sem, ↓reduceIte, Nat.reduceEqDiff, reduceCtorEq, Nat.reduceAdd, Nat.reduceMul, Nat.reduceLeDiff, zc, Int.reduceToNat, s0, s1, s2]
   refine CLL_inS rfl (sByBic (O := O) (F := fun _ _ _ => 0) (K := G) (csa := [.imm cs]) Ur Ur Ur Ur Ur Ur (fun ro => .cons (exq_LL hv (by decide)) .nil) (by simp only [noRefL, noRef_isLL hv, Bool.and_self]) (by omega) (by omega) (fun x hx y hy => cl70 hv hx hy) (fun x hx y hy => by have := hb x hx y hy; omega)) ?_
   rintro _ ro2 gn2 ⟨hF, hg, rfl, hm2⟩
   dsimp only at hF hg hm2
   have f1 := (hF.kp 4112 1 Ur (by rintro ⟨h, _⟩; exact absurd h (by decide))).trans Ur
   have f2 := (hF.kp 20512 1 Ur (by rintro ⟨h, _⟩; exact absurd h (by decide))).trans Ur
   have f3 := (hF.kp 20513 1 Ur (by rintro ⟨h, _⟩; exact absurd h (by decide))).trans Ur
   simp only [↓za, ↓reduceIte, Nat.reduceEqDiff, zb, reduceCtorEq, Nat.zero_add] at hm2
   rw [eK] at hm2
   simp (maxSteps := 10000000) (disch := first | assumption | omega) only [go_sem, ↓reduceIte, Nat.reduceEqDiff, reduceCtorEq, Nat.reduceAdd, Nat.reduceMul, Nat.reduceLeDiff, zc, Int.reduceToNat, s0, s1, s2, f1, f2, f3, hm2]
   refine CLL_q _ c3 (.cons (exq_br0 (Ue f2) (Ue f3) (Ue hm2) (by decide)) .nil) rfl rfl (noI_rowL _) ?_
   simp (maxSteps := 10000000) (disch := first | assumption | omega) only [go_sem, ↓reduceIte, Nat.reduceEqDiff, reduceCtorEq, Nat.reduceAdd, Nat.reduceMul, Nat.reduceLeDiff, zc, Int.reduceToNat, s0, s1, s2, f1, f2, f3, hm2]
   simp only [zr, zb, retR, resL, outT, outL, zes, zez, oneV, zcp, zed, zfi, Ro.dl, St.ev, zhk, ↓za, ↓reduceIte, Nat.reduceEqDiff, Nat.reduceAdd, Nat.reduceLeDiff, tiD, f1, f2, f3, hm2]
 ·have e2 : bicR O M G k l = noB (pcode O M G k l) := by unfold bicR; rw [if_neg h1]
  rw [e2]
  generalize pcode O M G k l = e at h1 c1
  have hv0 := hv
  rcases hv0 with ⟨cs, rfl, -⟩ | ⟨-, rfl⟩
  ·have hpv : pureL cs = true := by simpa only [pureA] using isLL_pure hv
   refine call_of (fn := Tryz.f23) (code := bodyOf Tryz.f23) Tryz.func23 rfl (by kernel_rfl) (rfl) ?_
   intro sl hs
   have s0 : sl 0 = o := hs 0
   have s1 : sl 1 = i64 M := hs 1
   have s2 : sl 2 = .imm cs := hs 2
   dsimp only [Tryz.f23, bodyOf, Option.getD]
   simp (maxSteps := 10000000) (disch := first | assumption | omega) only [go_sem, ↓reduceIte, Nat.reduceEqDiff, reduceCtorEq, Nat.reduceAdd, Nat.reduceMul, Nat.reduceLeDiff, zc, Int.reduceToNat, s0, s1, s2]
   refine CLL_pure _ c1 (by simp only [pureL, pureA, isL_pure ho, hpv, Bool.and_self, Bool.and_true]) rfl rfl ?_
   simp (maxSteps := 10000000) (disch := first | assumption | omega) only [go_sem, ↓reduceIte, Nat.reduceEqDiff, reduceCtorEq, Nat.reduceAdd, Nat.reduceMul, Nat.reduceLeDiff, zc, Int.reduceToNat, s0, s1, s2, eq_false h1]
   simp only [zr, zb, retR, resL, outT, outL, zes, zez, oneV, zcp, zed, zfi, Ro.dl, St.ev, zhk, ↓za, ↓reduceIte, Nat.reduceEqDiff, Nat.reduceAdd, Nat.reduceLeDiff, tiD]
  ·refine call_of (fn := Tryz.f23) (code := bodyOf Tryz.f23) Tryz.func23 rfl (by kernel_rfl) (rfl) ?_
   intro sl hs
   have s0 : sl 0 = o := hs 0
   have s1 : sl 1 = i64 M := hs 1
   have s2 : sl 2 = nilA := hs 2
   dsimp only [Tryz.f23, bodyOf, Option.getD]
   simp (maxSteps := 10000000) (disch := first | assumption | omega) only [go_sem, ↓reduceIte, Nat.reduceEqDiff, reduceCtorEq, Nat.reduceAdd, Nat.reduceMul, Nat.reduceLeDiff, zc, Int.reduceToNat, s0, s1, s2]
   refine CLL_pure _ c1 PUt rfl rfl ?_
   simp (maxSteps := 10000000) (disch := first | assumption | omega) only [go_sem, ↓reduceIte, Nat.reduceEqDiff, reduceCtorEq, Nat.reduceAdd, Nat.reduceMul, Nat.reduceLeDiff, zc, Int.reduceToNat, s0, s1, s2, eq_false h1]
   simp only [zr, zb, retR, resL, outT, outL, zes, zez, oneV, zcp, zed, zfi, Ro.dl, St.ev, zhk, ↓za, ↓reduceIte, Nat.reduceEqDiff, Nat.reduceAdd, Nat.reduceLeDiff, tiD]
set_option maxHeartbeats 8000000 in
theorem cStdI {n a : Int} (hn : 0 ≤ n ∧ n ≤ 9) : CallOK Tryz.prog 26 [i64 n, i64 a] (stdR n a) := by
 have c1 : CallOK Tryz.prog _ [i64 n, i64 1, i64 8] (bo (decide (1 ≤ n ∧ n ≤ 8))) := c40
 have c2 : CallOK Tryz.prog _ [i64 a, i64 0, i64 (2 * n - 1)] (bo (decide (0 ≤ a ∧ a ≤ 2 * n - 1))) := c40
 by_cases h1 : 1 ≤ n ∧ n ≤ 8
 ·rw [decide_eq_true h1] at c1
  by_cases h2 : 0 ≤ a ∧ a ≤ 2 * n - 1
  ·rw [decide_eq_true h2] at c2
   have p0 : 0 ≤ a * n := Int.mul_nonneg h2.1 hn.1
   have p1 : a * n ≤ 17 * 9 := Int.mul_le_mul (by omega) hn.2 hn.1 (by omega)
   by_cases h3 : (a * n).tmod 2 = 1
   ·have e : stdR n a = noB 5 := by unfold stdR; rw [if_neg (by intro h; rcases h with h | h <;> exact h (by assumption)), if_pos h3]
    rw [e]
    refine call_of (fn := Tryz.f26) (code := bodyOf Tryz.f26) Tryz.func26 rfl (by kernel_rfl) (rfl) ?_
    intro sl hs
    have s0 : sl 0 = i64 n := hs 0
    have s1 : sl 1 = i64 a := hs 1
    dsimp only [Tryz.f26, bodyOf, Option.getD]
    simp (maxSteps := 10000000) (disch := first | assumption | omega) only [go_sem, ↓reduceIte, Nat.reduceEqDiff, reduceCtorEq, Nat.reduceAdd, Nat.reduceMul, Nat.reduceLeDiff, zc, Int.reduceToNat, s0, s1]
    refine CLL_pure _ c1 rfl rfl rfl ?_
    simp (maxSteps := 10000000) (disch := first | assumption | omega) only [go_sem, ↓reduceIte, Nat.reduceEqDiff, reduceCtorEq, Nat.reduceAdd, Nat.reduceMul, Nat.reduceLeDiff, zc, Int.reduceToNat, s0, s1]
    refine CLL_pure _ c2 rfl rfl rfl ?_
    simp (maxSteps := 10000000) (disch := first | assumption | omega) only [go_sem, ↓reduceIte, Nat.reduceEqDiff, reduceCtorEq, Nat.reduceAdd, Nat.reduceMul, Nat.reduceLeDiff, zc, Int.reduceToNat, s0, s1, eq_true h3]
    simp only [zr, zb, retR, resL, outT, outL, zes, zez, oneV, zcp, zed, zfi, Ro.dl, St.ev, zhk, ↓za, ↓reduceIte, Nat.reduceEqDiff, Nat.reduceAdd, Nat.reduceLeDiff, tiD]
   ·obtain ⟨m, rfl⟩ := Int.eq_ofNat_of_zero_le hn.1
    have e : stdR (m : Int) a = okB [(m : Int)] (2 * m) (stW m a) (stC m a) m := by unfold stdR; rw [if_neg (by intro h; rcases h with h | h <;> exact h (by assumption)), if_neg h3, Int.toNat_natCast]
    rw [e]
    have hP : OrdP [(m : Int)] := by
     refine ⟨Nat.zero_lt_succ 0, fun i hi => ?_⟩
     have : i = 0 := Nat.lt_one_iff.1 hi
     subst this
     show (1 : Int) ≤ m
     omega
    have hpf : pfx [(m : Int)] [(m : Int)].length = m := Int.one_mul _
    have hgs : gs5 [(m : Int)] = (m : Int) := by rw [gs5_eq hP (by omega)]; exact hpf
    have c3 := cCocBy (M := 2 * m) (caps := [.iptr [i64 a], .iptr [i64 (m : Int)]]) (H := fun x y z => if m ≤ y + z then a * m * x else 0) (isL_imm [(m : Int)]) (by show 1 ≤ maxN; decide) hgs (by omega) (by omega) (by omega) rfl rfl (fun x hx y hy z hz => cl78 (by omega) (by omega) (by omega) (by omega) (by omega)) (fun x hx y hy z hz => by
     have q0 : 0 ≤ a * (m : Int) * (x : Int) := Int.mul_nonneg p0 (by omega)
     have q1 : a * (m : Int) * (x : Int) ≤ 17 * 9 * 16 := Int.mul_le_mul p1 (by omega) (by omega) (by omega)
     split <;> omega)
    have eW : cubeA (fun x y z => (if m ≤ y + z then a * (m : Int) * (x : Int) else 0) % (2 * (m : Int))) m = cubeA (stW m a) m := by
     refine congrArg (fun f => cubeA f m) ?_
     funext x y z
     unfold stW
     by_cases h : m ≤ y + z
     ·rw [if_pos h, if_pos h]
     ·rw [if_neg h, if_neg h, Int.zero_emod]
    rw [eW] at c3
    refine call_of (fn := Tryz.f26) (code := bodyOf Tryz.f26) Tryz.func26 rfl (by kernel_rfl) (noRef_okB _ _ _ _ _) ?_
    intro sl hs
    have s0 : sl 0 = i64 (m : Int) := hs 0
    have s1 : sl 1 = i64 a := hs 1
    dsimp only [Tryz.f26, bodyOf, Option.getD]
    simp (maxSteps := 10000000) (disch := first | assumption | omega) only [go_sem, ↓reduceIte, Nat.reduceEqDiff, reduceCtorEq, Nat.reduceAdd, Nat.reduceMul, Nat.reduceLeDiff, zc, Int.reduceToNat, s0, s1]
    refine CLL_pure _ c1 rfl rfl rfl ?_
    simp (maxSteps := 10000000) (disch := first | assumption | omega) only [go_sem, ↓reduceIte, Nat.reduceEqDiff, reduceCtorEq, Nat.reduceAdd, Nat.reduceMul, Nat.reduceLeDiff, zc, Int.reduceToNat, s0, s1]
    refine CLL_pure _ c2 rfl rfl rfl ?_
    simp (maxSteps := 10000000) (disch := first | assumption | omega) only [go_sem, ↓reduceIte, Nat.reduceEqDiff, reduceCtorEq, Nat.reduceAdd, Nat.reduceMul, Nat.reduceLeDiff, zc, Int.reduceToNat, s0, s1, eq_false h3]
    refine CLL_q _ c3 (.cons (exq_refL (xs := [(m : Int)]) Ur rfl (by decide)) (.cons (exq_sc _ _ _ (by decide)) (.cons (exq_fn (.cons (exq_ptr Ur (by decide)) (.cons (exq_ptr Ur (by decide)) .nil))) .nil))) rfl rfl (by rw [noI_cc]) ?_
    simp (maxSteps := 10000000) (disch := first | assumption | omega) only [go_sem, ↓reduceIte, Nat.reduceEqDiff, reduceCtorEq, Nat.reduceAdd, Nat.reduceMul, Nat.reduceLeDiff, zc, Int.reduceToNat, s0, s1]
    refine CLL_inS rfl (sByStd (O := [(m : Int)]) (F := stW m a) (K := fun x y => a * x * y) (csa := [i64 a]) Ur Ur Ur Ur Ur Ur (fun ro => .cons (exq_sc _ _ _ (by decide)) .nil) rfl (by omega) (by omega) (fun x hx y hy => cl80 (by omega) (by omega) (by omega)) (fun x hx y hy => by
     have q0 : 0 ≤ a * (x : Int) := Int.mul_nonneg h2.1 (by omega)
     have q1 : a * (x : Int) ≤ 17 * 9 := Int.mul_le_mul (by omega) (by omega) (by omega) (by omega)
     have q2 : 0 ≤ a * (x : Int) * (y : Int) := Int.mul_nonneg q0 (by omega)
     have q3 : a * (x : Int) * (y : Int) ≤ 17 * 9 * 9 := Int.mul_le_mul q1 (by omega) (by omega) (by omega)
     omega)) ?_
    rintro _ ro2 gn2 ⟨hF, hg, rfl, hm2⟩
    dsimp only at hF hg hm2
    have f1 := (hF.kp 4128 1 Ur (by rintro ⟨h, _⟩; exact absurd h (by decide))).trans Ur
    have f2 := (hF.kp 24656 1 Ur (by rintro ⟨h, _⟩; exact absurd h (by decide))).trans Ur
    have f3 := (hF.kp 24657 1 Ur (by rintro ⟨h, _⟩; exact absurd h (by decide))).trans Ur
    simp only [↓za, ↓reduceIte, Nat.reduceEqDiff, zb, reduceCtorEq, Nat.zero_add] at hm2
    simp (maxSteps := 10000000) (disch := first | assumption | omega) only [go_sem, ↓reduceIte, Nat.reduceEqDiff, reduceCtorEq, Nat.reduceAdd, Nat.reduceMul, Nat.reduceLeDiff, zc, Int.reduceToNat, s0, s1, f1, f2, f3, hm2]
    simp only [zr, zb, retR, resL, outT, outL, zes, zez, oneV, zcp, zed, zfi, Ro.dl, St.ev, zhk, ↓za, ↓reduceIte, Nat.reduceEqDiff, Nat.reduceAdd, Nat.reduceLeDiff, tiD, f1, f2, f3, hm2]
    rfl
  ·rw [decide_eq_false h2] at c2
   have e : stdR n a = noB 2 := by unfold stdR; rw [if_pos (.inr h2)]
   rw [e]
   refine call_of (fn := Tryz.f26) (code := bodyOf Tryz.f26) Tryz.func26 rfl (by kernel_rfl) (rfl) ?_
   intro sl hs
   have s0 : sl 0 = i64 n := hs 0
   have s1 : sl 1 = i64 a := hs 1
   dsimp only [Tryz.f26, bodyOf, Option.getD]
   simp (maxSteps := 10000000) (disch := first | assumption | omega) only [go_sem, ↓reduceIte, Nat.reduceEqDiff, reduceCtorEq, Nat.reduceAdd, Nat.reduceMul, Nat.reduceLeDiff, zc, Int.reduceToNat, s0, s1]
   refine CLL_pure _ c1 rfl rfl rfl ?_
   simp (maxSteps := 10000000) (disch := first | assumption | omega) only [go_sem, ↓reduceIte, Nat.reduceEqDiff, reduceCtorEq, Nat.reduceAdd, Nat.reduceMul, Nat.reduceLeDiff, zc, Int.reduceToNat, s0, s1]
   refine CLL_pure _ c2 rfl rfl rfl ?_
   simp (maxSteps := 10000000) (disch := first | assumption | omega) only [go_sem, ↓reduceIte, Nat.reduceEqDiff, reduceCtorEq, Nat.reduceAdd, Nat.reduceMul, Nat.reduceLeDiff, zc, Int.reduceToNat, s0, s1]
   simp only [zr, zb, retR, resL, outT, outL, zes, zez, oneV, zcp, zed, zfi, Ro.dl, St.ev, zhk, ↓za, ↓reduceIte, Nat.reduceEqDiff, Nat.reduceAdd, Nat.reduceLeDiff, tiD]
 ·rw [decide_eq_false h1] at c1
  have e : stdR n a = noB 2 := by unfold stdR; rw [if_pos (.inl h1)]
  rw [e]
  refine call_of (fn := Tryz.f26) (code := bodyOf Tryz.f26) Tryz.func26 rfl (by kernel_rfl) (rfl) ?_
  intro sl hs
  have s0 : sl 0 = i64 n := hs 0
  have s1 : sl 1 = i64 a := hs 1
  dsimp only [Tryz.f26, bodyOf, Option.getD]
  simp (maxSteps := 10000000) (disch := first | assumption | omega) only [go_sem, ↓reduceIte, Nat.reduceEqDiff, reduceCtorEq, Nat.reduceAdd, Nat.reduceMul, Nat.reduceLeDiff, zc, Int.reduceToNat, s0, s1]
  refine CLL_pure _ c1 rfl rfl rfl ?_
  simp (maxSteps := 10000000) (disch := first | assumption | omega) only [go_sem, ↓reduceIte, Nat.reduceEqDiff, reduceCtorEq, Nat.reduceAdd, Nat.reduceMul, Nat.reduceLeDiff, zc, Int.reduceToNat, s0, s1, undef]
  simp only [zr, zb, retR, resL, outT, outL, zes, zez, oneV, zcp, zed, zfi, Ro.dl, St.ev, zhk, ↓za, ↓reduceIte, Nat.reduceEqDiff, Nat.reduceAdd, Nat.reduceLeDiff, tiD]
end
end Go.Proofs.YthpmddoakefbmaaGreat
