/- Texts joined: Ac3 Ac4. -/
import Derived.Test.YtdpinkgkmcbckaaGreatCp
set_option linter.all false
/- Actions by the program. -/
namespace Go.Proofs.YtdpinkgkmcbckaaGreat
open Go.RowKit
set_option maxRecDepth 1000000
theorem tiAc : ti0 34 = some ⟨1, true, [Value.slice none 0 0], none, [(0, 22)], none, false, false⟩ := by kernel_rfl
attribute [go_sem] tiAc
theorem cFamC {a : AV} {xs : List Int} {n : Nat} (ha : isL a xs) (hx : xs.length ≤ maxN) : CallOK Tryz.prog 83 [a, .iptr [i64 n]] (bo (!(decide (xs.length = n) && allW xs 0 1000))) := by
 refine call_of (fn := Tryz.f83) (code := bodyOf Tryz.f83) Tryz.func83 rfl (by kernel_rfl) (rfl) ?_
 intro sl hs
 have s0 : sl 0 = a := hs 0
 have s1 : sl 1 = .iptr [i64 n] := hs 1
 by_cases h : xs.length = n
 ·have h' : (xs.length : Int) = n := by omega
  dsimp only [Tryz.f83, bodyOf, Option.getD]
  simp (maxSteps := 10000000) (disch := first | assumption | omega) only [go_sem, ↓reduceIte, Nat.reduceEqDiff, reduceCtorEq, Nat.reduceAdd, Nat.reduceMul, Nat.reduceLeDiff, zc, Int.reduceToNat, s0, s1, isL_len ha, eq_true h']
  refine CLL_pure _ (c129 ha hx) PUt rfl rfl ?_
  refine Yaa ?_
  simp only [zr, zb, retR, resL, outT, outL, zes, zez, oneV, zcp, zed, zfi, Ro.dl, St.ev, zhk, ↓za, ↓reduceIte, Nat.reduceEqDiff, Nat.reduceAdd, Nat.reduceLeDiff, decide_eq_true h, Bool.true_and]
 ·have h' : ¬ (xs.length : Int) = n := by omega
  dsimp only [Tryz.f83, bodyOf, Option.getD]
  simp (maxSteps := 10000000) (disch := first | assumption | omega) only [go_sem, ↓reduceIte, Nat.reduceEqDiff, reduceCtorEq, Nat.reduceAdd, Nat.reduceMul, Nat.reduceLeDiff, zc, Int.reduceToNat, s0, s1, isL_len ha, eq_false h', undef]
  simp only [zr, zb, retR, resL, outT, outL, zes, zez, oneV, zcp, zed, zfi, Ro.dl, St.ev, zhk, ↓za, ↓reduceIte, Nat.reduceEqDiff, Nat.reduceAdd, Nat.reduceLeDiff, decide_eq_false h, Bool.false_and, Bool.not_false]
theorem cFamI {c a : AV} {T A : List (List (List Int))} (hc : isLLL c T) (ha : isLLL a A) (hT : 0 < T.length) (hz : SzP A) {t : Bool} (ht : t = true ↔ FamP T.length A) : CallOK Tryz.prog 45 [.agg [c], .agg [a]] (bo t) := by
 obtain ⟨z1, z2⟩ := hz
 have z1' : A.length ≤ 4294967296 := z1
 refine call_of (fn := Tryz.f45) (code := bodyOf Tryz.f45) Tryz.func45 rfl (by kernel_rfl) (rfl) ?_
 intro sl hs
 have s0 : sl 0 = .agg [c] := hs 0
 have s1 : sl 1 = .agg [a] := hs 1
 by_cases hA : A.length = T.length
 ·have hA' : (A.length : Int) = T.length := by omega
  have hA0 : 0 < A.length := by omega
  have hm0 := isLLL_mat ha hA0
  dsimp only [Tryz.f45, bodyOf, Option.getD]
  simp (maxSteps := 10000000) (disch := first | assumption | omega) only [go_sem, ↓reduceIte, Nat.reduceEqDiff, reduceCtorEq, Nat.reduceAdd, Nat.reduceMul, Nat.reduceLeDiff, zc, Int.reduceToNat, s0, s1, ti33, ti31, tiAc, isLLL_len ha, isLLL_len hc, eq_true hA', isLL_len hm0]
  refine WK_for (fun i st => st.sl 2 = .ptr 4096 1 [] 0 ∧ st.ro 4096 1 = some (.bx [c]) ∧ st.sl 3 = .ptr 4112 1 [] 0 ∧ st.ro 4112 1 = some (.bx [a]) ∧ st.sl 5 = .ptr 16464 1 [] 0 ∧ st.ro 16464 1 = some (.bx [i64 ((mat A 0).length : Nat)]) ∧ st.sl 21 = a ∧ st.sl 22 = i64 (A.length : Nat) ∧ st.sl 23 = i64 (i : Int) ∧ (∀ j, j < i → PlA (mat A 0).length A j)) A.length ?_ ?_ ?_
  ·refine Yak ?_
   repeat' first | exact lt0 | rfl | apply And.intro
  ·rintro i sl ro gn hi ⟨s2, r4096, s3, r4112, s5, r16464, s21, s22, s23, q⟩
   dsimp only at s2 r4096 s3 r4112 s5 r16464 s21 s22 s23
   have hi' : (i : Int) < (A.length : Nat) := by omega
   have hm := isLLL_mat ha hi
   by_cases hl : (mat A i).length = (mat A 0).length
   ·have hl' : ((mat A i).length : Int) = (mat A 0).length := by omega
    have cc : ∀ {t : Bool}, (t = true ↔ ∃ y, y < (mat A i).length ∧ (!(decide ((row (mat A i) y).length = (mat A 0).length) && allW (row (mat A i) y) 0 1000)) = true) → CallOK Tryz.prog 82 [atA a i, .fn 83 [.iptr [i64 ((mat A 0).length : Nat)]]] (bo t) := fun {t} ht =>
     c127 (t := t) (p := fun y => !(decide ((row (mat A i) y).length = (mat A 0).length) && allW (row (mat A i) y) 0 1000)) hm ((z2 i hi).1) rfl rfl (fun y hy => cFamC (isLL_row hm hy) ((z2 i hi).2 y hy)) ht
    by_cases hb : PlA (mat A 0).length A i
    ·have c1 := cc (t := false) (by
      refine ⟨fun h => (nomatch h), ?_⟩
      rintro ⟨y, hy, h⟩
      obtain ⟨h1, h2⟩ := hb.2 y (by omega)
      rw [decide_eq_true h1, allW_iff.2 fun k hk => h2 k (by omega)] at h
      simp at h)
     refine Ycj ?_
     refine CLL_q _ c1 (.cons (exq_LL hm (by decide)) (.cons (exq_fn (.cons (exq_ptrc r16464 (.cons (exq_sc _ _ _ (by decide)) .nil)) .nil)) .nil)) rfl rfl rfl ?_
     simp (maxSteps := 10000000) (disch := first | assumption | omega) only [go_sem, ↓reduceIte, Nat.reduceEqDiff, reduceCtorEq, Nat.reduceAdd, Nat.reduceMul, Nat.reduceLeDiff, zc, Int.reduceToNat, s2, r4096, s3, r4112, s5, r16464, s21, s22, s23, hi', hi]
     exact ⟨i64c (by omega), ltS q hb⟩
    ·have c1 := cc (t := true) (by
      refine ⟨fun _ => Classical.byContradiction fun hne => hb ⟨hl, fun j hj => ?_⟩, fun _ => rfl⟩
      have h3 : (!(decide ((row (mat A i) j).length = (mat A 0).length) && allW (row (mat A i) j) 0 1000)) ≠ true := fun h => hne ⟨j, by omega, h⟩
      have h4 : (decide ((row (mat A i) j).length = (mat A 0).length) && allW (row (mat A i) j) 0 1000) = true := by
       cases h : (decide ((row (mat A i) j).length = (mat A 0).length) && allW (row (mat A i) j) 0 1000) with
       | true => rfl
       | false => rw [h] at h3; exact absurd rfl h3
      rw [Bool.and_eq_true] at h4
      have h5 := of_decide_eq_true h4.1
      exact ⟨h5, fun k hk => allW_iff.1 h4.2 k (by omega)⟩)
     have ht' : t = false := by
      cases t with
      | false => rfl
      | true => exact absurd ((ht.1 rfl).2.2.2 i (by omega)) hb
     refine Ycj ?_
     refine CLL_q _ c1 (.cons (exq_LL hm (by decide)) (.cons (exq_fn (.cons (exq_ptrc r16464 (.cons (exq_sc _ _ _ (by decide)) .nil)) .nil)) .nil)) rfl rfl rfl ?_
     simp (maxSteps := 10000000) (disch := first | assumption | omega) only [go_sem, ↓reduceIte, Nat.reduceEqDiff, reduceCtorEq, Nat.reduceAdd, Nat.reduceMul, Nat.reduceLeDiff, zc, Int.reduceToNat, s2, r4096, s3, r4112, s5, r16464, s21, s22, s23, hi', hi]
     exact Yae
   ·have hl' : ¬ ((mat A i).length : Int) = (mat A 0).length := by omega
    have ht' : t = false := by
     cases t with
     | false => rfl
     | true => exact absurd ((ht.1 rfl).2.2.2 i (by omega)).1 hl
    simp (maxSteps := 10000000) (disch := first | assumption | omega) only [go_sem, ↓reduceIte, Nat.reduceEqDiff, reduceCtorEq, Nat.reduceAdd, Nat.reduceMul, Nat.reduceLeDiff, zc, Int.reduceToNat, s2, r4096, s3, r4112, s5, r16464, s21, s22, s23, hi', hi, eq_false hl', undef]
    exact Yae
  ·rintro sl ro gn ⟨s2, r4096, s3, r4112, s5, r16464, s21, s22, s23, q⟩
   dsimp only at s2 r4096 s3 r4112 s5 r16464 s21 s22 s23
   have hi' : ¬ ((A.length : Nat) : Int) < (A.length : Nat) := by omega
   by_cases h1 : 1 ≤ (mat A 0).length
   ·have h1' : (1 : Int) ≤ (mat A 0).length := by omega
    by_cases h16 : (mat A 0).length ≤ 16
    ·have h16' : ((mat A 0).length : Int) ≤ 16 := by omega
     simp (maxSteps := 10000000) (disch := first | assumption | omega) only [go_sem, ↓reduceIte, Nat.reduceEqDiff, reduceCtorEq, Nat.reduceAdd, Nat.reduceMul, Nat.reduceLeDiff, zc, Int.reduceToNat, s2, r4096, s3, r4112, s5, r16464, s21, s22, s23, hi', eq_true h1', eq_true h16']
     refine Yab ?_
     exact (ht.2 ⟨hA, h1, h16, by rw [← hA]; exact q⟩).symm
    ·have h16' : ¬ ((mat A 0).length : Int) ≤ 16 := by omega
     have ht' : t = false := by
      cases t with
      | false => rfl
      | true => exact absurd (ht.1 rfl).2.2.1 h16
     simp (maxSteps := 10000000) (disch := first | assumption | omega) only [go_sem, ↓reduceIte, Nat.reduceEqDiff, reduceCtorEq, Nat.reduceAdd, Nat.reduceMul, Nat.reduceLeDiff, zc, Int.reduceToNat, s2, r4096, s3, r4112, s5, r16464, s21, s22, s23, hi', eq_true h1', eq_false h16']
     exact Yae
   ·have h1' : ¬ (1 : Int) ≤ (mat A 0).length := by omega
    have ht' : t = false := by
     cases t with
     | false => rfl
     | true => exact absurd (ht.1 rfl).2.1 h1
    simp (maxSteps := 10000000) (disch := first | assumption | omega) only [go_sem, ↓reduceIte, Nat.reduceEqDiff, reduceCtorEq, Nat.reduceAdd, Nat.reduceMul, Nat.reduceLeDiff, zc, Int.reduceToNat, s2, r4096, s3, r4112, s5, r16464, s21, s22, s23, hi', eq_false h1', undef]
    exact Yae
 ·have hA' : ¬ (A.length : Int) = T.length := by omega
  have ht' : t = false := by
   cases t with
   | false => rfl
   | true => exact absurd (ht.1 rfl).1 hA
  dsimp only [Tryz.f45, bodyOf, Option.getD]
  simp (maxSteps := 10000000) (disch := first | assumption | omega) only [go_sem, ↓reduceIte, Nat.reduceEqDiff, reduceCtorEq, Nat.reduceAdd, Nat.reduceMul, Nat.reduceLeDiff, zc, Int.reduceToNat, s0, s1, ti33, ti31, tiAc, isLLL_len ha, isLLL_len hc, eq_false hA']
  exact Yae
def whS (X Y : Nat → Nat → Int) (x y : Nat) (k : Nat) : Int := sm (fun z => X x z * Y z y) k
def whM (X Y : Nat → Nat → Int) (m i k j x y : Nat) : Int := if x < i then whS X Y x y m else if x = i then (if y < j then whS X Y x y (k + 1) else whS X Y x y k) else 0
theorem whS_bnd {X Y : Nat → Nat → Int} (hX : ∀ x y, 0 ≤ X x y ∧ X x y ≤ 1000) (hY : ∀ x y, 0 ≤ Y x y ∧ Y x y ≤ 1000) (x y k : Nat) : 0 ≤ whS X Y x y k ∧ whS X Y x y k ≤ k * 1000000 :=
 sm_bnd (fun z => mulB (hX x z).1 (hX x z).2 (hY z y).1 (hY z y).2) k
theorem whM_step (X Y : Nat → Nat → Int) (m i k j x y : Nat) : (if x = i ∧ y = j then whS X Y i j k + X i k * Y k j else whM X Y m i k j x y) = whM X Y m i k (j + 1) x y := by
 unfold whM
 by_cases hx : x = i
 ·subst hx
  rw [if_neg (Nat.lt_irrefl _), if_pos rfl, if_neg (Nat.lt_irrefl _), if_pos rfl]
  by_cases hy : y = j
  ·subst hy
   rw [if_pos ⟨rfl, rfl⟩, if_pos (Nat.lt_succ_self _)]
   rfl
  ·rw [if_neg fun h => hy h.2]
   by_cases h1 : y < j
   ·rw [if_pos h1, if_pos (by omega)]
   ·rw [if_neg h1, if_neg (by omega)]
 ·rw [if_neg fun h => hx h.1, if_neg hx, if_neg hx]
theorem whM_row (X Y : Nat → Nat → Int) {m : Nat} (i k x : Nat) {y : Nat} (hy : y < m) : whM X Y m i k m x y = whM X Y m i (k + 1) 0 x y := by
 unfold whM
 rw [if_pos hy, if_neg (Nat.not_lt_zero _)]
theorem whM_all (X Y : Nat → Nat → Int) (m i x y : Nat) : whM X Y m i m 0 x y = whM X Y m (i + 1) 0 0 x y := by
 unfold whM
 rw [if_neg (Nat.not_lt_zero _), if_neg (Nat.not_lt_zero _)]
 by_cases h1 : x < i
 ·rw [if_pos h1, if_pos (by omega)]
 ·rw [if_neg h1]
  by_cases h2 : x = i
  ·rw [if_pos h2, if_pos (by omega)]
  ·rw [if_neg h2, if_neg (by omega)]
   split <;> rfl
theorem cWhole {a b : AV} {X Y : Nat → Nat → Int} {m : Nat} (ha : isLL a (matL X m m)) (hb : isLL b (matL Y m m)) (h0 : 0 < m) (hm : m ≤ 16) (hX : ∀ x y, 0 ≤ X x y ∧ X x y ≤ 1000) (hY : ∀ x y, 0 ≤ Y x y ∧ Y x y ≤ 1000) :
  CallOK Tryz.prog 88 [a, b] (matA (fun x y => whS X Y x y m) m m) := by
 have la : (matL X m m).length = m := matL_len2 _ _ _
 have lb : (matL Y m m).length = m := matL_len2 _ _ _
 have lr : ∀ {x}, x < m → (row (matL X m m) x).length = m := fun h => matL_row2 h
 have ls : ∀ {x}, x < m → (row (matL Y m m) x).length = m := fun h => matL_row2 h
 have hb0 := isLL_row hb (k := 0) (by omega)
 have l0 := ls h0
 refine call_of (fn := Tryz.f88) (code := bodyOf Tryz.f88) Tryz.func88 rfl (by kernel_rfl) (noRef_mat _ _ _) ?_
 intro sl hs
 have s0 : sl 0 = a := hs 0
 have s1 : sl 1 = b := hs 1
 dsimp only [Tryz.f88, bodyOf, Option.getD]
 simp (maxSteps := 10000000) (disch := first | assumption | omega) only [go_sem, ↓reduceIte, Nat.reduceEqDiff, reduceCtorEq, Nat.reduceAdd, Nat.reduceMul, Nat.reduceLeDiff, zc, Int.reduceToNat, s0, s1, isLL_len ha, isLL_len hb, la, lb, isL_len hb0, l0]
 refine CLL_pure _ (c126m (n := m) (m := m) (by unfold maxN; omega) (by unfold maxN; omega)) PUt rfl rfl ?_
 refine Yas ?_
 refine WK_for (fun i st => st.sl 0 = a ∧ st.sl 1 = b ∧ st.sl 5 = .ref 8288 1 [] 0 m ∧ st.sl 19 = a ∧ st.sl 20 = i64 (m : Nat) ∧ st.sl 21 = i64 (i : Int) ∧ st.ro 8288 1 = some (matA (whM X Y m i 0 0) m m)) m ?_ ?_ ?_
 ·refine Yak ?_
  refine ⟨by rw [la], rfl, congrArg some (mat_congr fun x y _ _ => ?_)⟩
  unfold whM
  rw [if_neg (Nat.not_lt_zero _), if_neg (Nat.not_lt_zero _)]
  split <;> rfl
 ·rintro i sl ro gn hi ⟨s0, s1, s5, s19, s20, s21, r8288⟩
  dsimp only at s0 s1 s5 s19 s20 s21 r8288
  have hi' : (i : Int) < (m : Nat) := by omega
  have hi1 : i < (matL X m m).length := by omega
  have hra := isLL_row ha hi1
  have li := lr hi
  simp (maxSteps := 10000000) (disch := first | assumption | omega) only [go_sem, ↓reduceIte, Nat.reduceEqDiff, reduceCtorEq, Nat.reduceAdd, Nat.reduceMul, Nat.reduceLeDiff, zc, Int.reduceToNat, s0, s1, s5, s19, s20, s21, r8288, hi', hi, la, isL_len hra, li]
  refine WK_for (fun k st => st.sl 0 = a ∧ st.sl 1 = b ∧ st.sl 5 = .ref 8288 1 [] 0 m ∧ st.sl 19 = a ∧ st.sl 20 = i64 (m : Nat) ∧ st.sl 21 = i64 (i : Int) ∧ st.sl 6 = i64 (i : Int) ∧ st.sl 26 = atA a i ∧ st.sl 27 = i64 (m : Nat) ∧ st.sl 28 = i64 (k : Int) ∧ st.ro 8288 1 = some (matA (whM X Y m i k 0) m m)) m ?_ ?_ ?_
  ·simp only [↓za, ↓reduceIte, Nat.reduceEqDiff, zb, reduceCtorEq, rws_zero, s0, s1, s5, s19, s20, s21, r8288, hi', hi]
   exact rfl
  ·rintro k sl ro gn hk ⟨s0, s1, s5, s19, s20, s21, s6, s26, s27, s28, r8288⟩
   dsimp only at s0 s1 s5 s19 s20 s21 s6 s26 s27 s28 r8288
   have hk' : (k : Int) < (m : Nat) := by omega
   have hk1 : k < (matL Y m m).length := by omega
   have hrb := isLL_row hb hk1
   have lk := ls hk
   have ex : atI (row (matL X m m) i) k = X i k := matL_at hi hk
   simp (maxSteps := 10000000) (disch := first | assumption | omega) only [go_sem, ↓reduceIte, Nat.reduceEqDiff, reduceCtorEq, Nat.reduceAdd, Nat.reduceMul, Nat.reduceLeDiff, zc, Int.reduceToNat, s0, s1, s5, s19, s20, s21, s6, s26, s27, s28, r8288, hk', hk, lb, li, ex, isL_len hrb, lk]
   refine WK_for (fun j st => st.sl 0 = a ∧ st.sl 1 = b ∧ st.sl 5 = .ref 8288 1 [] 0 m ∧ st.sl 19 = a ∧ st.sl 20 = i64 (m : Nat) ∧ st.sl 21 = i64 (i : Int) ∧ st.sl 6 = i64 (i : Int) ∧ st.sl 26 = atA a i ∧ st.sl 27 = i64 (m : Nat) ∧ st.sl 28 = i64 (k : Int) ∧ st.sl 8 = i64 (k : Int) ∧ st.sl 9 = i64 (X i k) ∧ st.sl 36 = atA b k ∧ st.sl 37 = i64 (m : Nat) ∧ st.sl 38 = i64 (j : Int) ∧ st.ro 8288 1 = some (matA (whM X Y m i k j) m m)) m ?_ ?_ ?_
   ·simp only [↓za, ↓reduceIte, Nat.reduceEqDiff, zb, reduceCtorEq, rws_zero, s0, s1, s5, s19, s20, s21, s6, s26, s27, s28, r8288, hk', hk]
    exact rfl
   ·rintro j sl ro gn hj ⟨s0, s1, s5, s19, s20, s21, s6, s26, s27, s28, s8, s9, s36, s37, s38, r8288⟩
    dsimp only at s0 s1 s5 s19 s20 s21 s6 s26 s27 s28 s8 s9 s36 s37 s38 r8288
    have hj' : (j : Int) < (m : Nat) := by omega
    have ey : atI (row (matL Y m m) k) j = Y k j := matL_at hk hj
    have ev : whM X Y m i k j i j = whS X Y i j k := by
     unfold whM
     rw [if_neg (Nat.lt_irrefl _), if_pos rfl, if_neg (Nat.lt_irrefl _)]
    have b1 := whS_bnd hX hY i j k
    have b2 := mulB (hX i k).1 (hX i k).2 (hY k j).1 (hY k j).2
    simp (maxSteps := 10000000) (disch := first | assumption | omega) only [go_sem, ↓reduceIte, Nat.reduceEqDiff, reduceCtorEq, Nat.reduceAdd, Nat.reduceMul, Nat.reduceLeDiff, zc, Int.reduceToNat, s0, s1, s5, s19, s20, s21, s6, s26, s27, s28, s8, s9, s36, s37, s38, r8288, hj', hj, lk, ey, rws_get, hi, hj, ev]
    exact ⟨i64c (by omega), congrArg some (mat_congr fun x y _ _ => whM_step X Y m i k j x y)⟩
   ·rintro sl ro gn ⟨s0, s1, s5, s19, s20, s21, s6, s26, s27, s28, s8, s9, s36, s37, s38, r8288⟩
    dsimp only at s0 s1 s5 s19 s20 s21 s6 s26 s27 s28 s8 s9 s36 s37 s38 r8288
    have hj' : ¬ ((m : Nat) : Int) < (m : Nat) := by omega
    simp (maxSteps := 10000000) (disch := first | assumption | omega) only [go_sem, ↓reduceIte, Nat.reduceEqDiff, reduceCtorEq, Nat.reduceAdd, Nat.reduceMul, Nat.reduceLeDiff, zc, Int.reduceToNat, s0, s1, s5, s19, s20, s21, s6, s26, s27, s28, s8, s9, s36, s37, s38, r8288, hj', lk]
    exact ⟨i64c (by omega), congrArg some (mat_congr fun x y _ hy => whM_row X Y i k x hy)⟩
  ·rintro sl ro gn ⟨s0, s1, s5, s19, s20, s21, s6, s26, s27, s28, r8288⟩
   dsimp only at s0 s1 s5 s19 s20 s21 s6 s26 s27 s28 r8288
   have hk' : ¬ ((m : Nat) : Int) < (m : Nat) := by omega
   simp (maxSteps := 10000000) (disch := first | assumption | omega) only [go_sem, ↓reduceIte, Nat.reduceEqDiff, reduceCtorEq, Nat.reduceAdd, Nat.reduceMul, Nat.reduceLeDiff, zc, Int.reduceToNat, s0, s1, s5, s19, s20, s21, s6, s26, s27, s28, r8288, hk', li]
   exact ⟨i64c (by omega), congrArg some (mat_congr fun x y _ _ => whM_all X Y m i x y)⟩
 ·rintro sl ro gn ⟨s0, s1, s5, s19, s20, s21, r8288⟩
  dsimp only at s0 s1 s5 s19 s20 s21 r8288
  have hi' : ¬ ((m : Nat) : Int) < (m : Nat) := by omega
  simp (maxSteps := 10000000) (disch := first | assumption | omega) only [go_sem, ↓reduceIte, Nat.reduceEqDiff, reduceCtorEq, Nat.reduceAdd, Nat.reduceMul, Nat.reduceLeDiff, zc, Int.reduceToNat, s0, s1, s5, s19, s20, s21, r8288, hi', la]
  simp only [zr, zb, retR, resL, outT, outL, zes, zez, oneV, zcp, zed, zfi, Ro.dl, St.ev, zhk, ↓za, ↓reduceIte, Nat.reduceEqDiff, Nat.reduceAdd, Nat.reduceLeDiff, r8288]
  exact mat_congr fun x y hx _ => if_pos hx
theorem cUnitA {n : Nat} (hn : n ≤ maxN) : CallOK Tryz.prog 86 [i64 n, i64 1] (matA unM n n) := by
 refine call_of (fn := Tryz.f86) (code := bodyOf Tryz.f86) Tryz.func86 rfl (by kernel_rfl) (noRef_mat _ _ _) ?_
 intro sl hs
 have s0 : sl 0 = i64 n := hs 0
 have s1 : sl 1 = i64 1 := hs 1
 dsimp only [Tryz.f86, bodyOf, Option.getD]
 refine Yaa ?_
 refine CLL_pure _ (c126m hn hn) PUt rfl rfl ?_
 simp (maxSteps := 10000000) (disch := first | assumption | omega) only [go_sem, ↓reduceIte, Nat.reduceEqDiff, reduceCtorEq, Nat.reduceAdd, Nat.reduceMul, Nat.reduceLeDiff, zc, Int.reduceToNat, s0, s1, impE_row]
 refine WK_for (fun x st => st.sl 1 = i64 1 ∧ st.sl 5 = .ref 8224 (st.gn 8224) [] 0 n ∧ st.sl 10 = i64 (n : Nat) ∧ st.sl 11 = i64 (x : Int) ∧ st.ro 8224 (st.gn 8224) = some (.row (rws (fun i => .row (rws (fun j => i64 (if i < x then unM i j else 0)) n)) n))) n ?_ ?_ ?_
 ·refine Yak ?_
  exact ⟨rfl, by simp only [Nat.not_lt_zero, if_false]⟩
 ·rintro x sl ro gn hx ⟨s1, s5, s10, s11, r8224⟩
  dsimp only at s1 s5 s10 s11 r8224
  have hx' : (x : Int) < (n : Nat) := by omega
  have hn' : n ≤ 4294967296 := hn
  simp (maxSteps := 10000000) (disch := first | assumption | omega) only [go_sem, ↓reduceIte, Nat.reduceEqDiff, reduceCtorEq, Nat.reduceAdd, Nat.reduceMul, Nat.reduceLeDiff, zc, Int.reduceToNat, s1, s5, s10, s11, r8224, hx', hx, rws_get, hx]
  refine ⟨i64c (by omega), congrArg some (mat_congr fun i j hi hj => ?_)⟩
  show (if i = x ∧ j = x then (1 : Int) else if i < x then (if j = i then 1 else 0) else 0) = if i < x + 1 then (if j = i then 1 else 0) else 0
  split <;> split <;> (try split) <;> (try split) <;> first | rfl | omega
 ·rintro sl ro gn ⟨s1, s5, s10, s11, r8224⟩
  dsimp only at s1 s5 s10 s11 r8224
  have hx' : ¬ ((n : Nat) : Int) < (n : Nat) := by omega
  simp (maxSteps := 10000000) (disch := first | assumption | omega) only [go_sem, ↓reduceIte, Nat.reduceEqDiff, reduceCtorEq, Nat.reduceAdd, Nat.reduceMul, Nat.reduceLeDiff, zc, Int.reduceToNat, s1, s5, s10, s11, r8224, hx']
  simp only [zr, zb, retR, resL, outT, outL, zes, zez, oneV, zcp, zed, zfi, Ro.dl, St.ev, zhk, ↓za, ↓reduceIte, Nat.reduceEqDiff, Nat.reduceAdd, Nat.reduceLeDiff, r8224]
  exact mat_congr fun i j hi hj => if_pos hi
def afM (T A : List (List (List Int))) (i j k x y u v : Nat) : Int := if u < x ∨ (u = x ∧ v < y) then sm (rgA T A i j u v) (k + 1) else sm (rgA T A i j u v) k
theorem afM_step (T A : List (List (List Int))) (i j k x y u v : Nat) : (if u = x ∧ v = y then sm (rgA T A i j x y) k + at3 T i j k * at3 A k x y else afM T A i j k x y u v) = afM T A i j k x (y + 1) u v := by
 unfold afM
 by_cases h : u = x ∧ v = y
 ·rw [if_pos h, if_pos (.inr ⟨h.1, by omega⟩), h.1, h.2]
  rfl
 ·rw [if_neg h]
  have e : (u < x ∨ (u = x ∧ v < y)) ↔ (u < x ∨ (u = x ∧ v < y + 1)) := by omega
  simp only [e]
theorem rgA_bnd {T A : List (List (List Int))} (hT : CubeP T) {n : Nat} (hA : FamP n A) {i j : Nat} (hi : i < T.length) (hj : j < T.length) (x y k : Nat) : 0 ≤ rgA T A i j x y k ∧ rgA T A i j x y k ≤ 1000000 := by
 have b1 : 0 ≤ at3 T i j k ∧ at3 T i j k ≤ 1000 := by
  by_cases hk : k < T.length
  ·exact ((hT.2.2 i hi).2 j hj).2 k hk
  ·have e : at3 T i j k = 0 := by
    unfold at3 atI
    rw [List.getD_eq_getElem?_getD, List.getElem?_eq_none (by rw [((hT.2.2 i hi).2 j hj).1]; omega)]
    rfl
   omega
 have b2 := fam_bnd hA k x y
 exact mulB b1.1 b1.2 b2.1 b2.2
theorem cActFI {c a : AV} {T A : List (List (List Int))} (hc : isLLL c T) (ha : isLLL a A) (hR : RngP T) (hF : FamP T.length A) : CallOK Tryz.prog 46 [.agg [c], .agg [a]] (optA (AF T A)) := by
 obtain ⟨t1, t16, hcu⟩ := id hR.1
 obtain ⟨f1, f2, f3, f4⟩ := id hF
 obtain ⟨m, hm⟩ : ∃ m, m = (mat A 0).length := ⟨_, rfl⟩
 have hT0 : 0 < T.length := by omega
 have hA0 : 0 < A.length := by omega
 have hm0 := isLLL_mat ha hA0
 have l0 : (mat A 0).length = m := hm.symm
 have lA : ∀ {i}, i < T.length → (mat A i).length = m := fun h => (f4 _ h).1.trans hm.symm
 have lR : ∀ {i x}, i < T.length → x < m → (row (mat A i) x).length = m := fun h hx => ((f4 _ h).2 _ (by omega)).1.trans hm.symm
 have hmN : m ≤ maxN := by unfold maxN; omega
 have cU := cUnitA hmN
 have cE0 := c141 hm0 (isLL_imm (matL unM m m)) (by omega) (fun x hx => by rw [lR hT0 (by omega)]; exact hmN)
 refine call_of (fn := Tryz.f46) (code := bodyOf Tryz.f46) Tryz.func46 rfl (by kernel_rfl) (noRef_optA _) ?_
 intro sl hs
 have s0 : sl 0 = .agg [c] := hs 0
 have s1 : sl 1 = .agg [a] := hs 1
 dsimp only [Tryz.f46, bodyOf, Option.getD]
 refine Ybm ?_
 refine CLLD_pure _ cU PUt rfl ?_
 refine Yas ?_
 refine CLLD_q _ cE0 (.cons (exq_LL hm0 (by decide)) (.cons (exq_mat Ur (by decide)) .nil)) rfl rfl ?_
 by_cases hU : mat A 0 = matL unM m m
 ·have hU' : mat A 0 = matL unM (mat A 0).length (mat A 0).length := by rw [← hm]; exact hU
  rw [decide_eq_true hU]
  refine Yaa ?_
  refine FIN_of (by kernel_rfl) ?_
  simp (maxSteps := 10000000) (disch := first | assumption | omega) only [go_sem, ↓reduceIte, Nat.reduceEqDiff, reduceCtorEq, Nat.reduceAdd, Nat.reduceMul, Nat.reduceLeDiff, zc, Int.reduceToNat, s0, s1, isLLL_len ha, f1]
  refine WK_for (fun i st => st.sl 2 = .ptr 4096 1 [] 0 ∧ st.ro 4096 1 = some (.bx [c]) ∧ st.sl 3 = .ptr 4112 1 [] 0 ∧ st.ro 4112 1 = some (.bx [a]) ∧ st.sl 5 = i64 (m : Nat) ∧ st.sl 34 = a ∧ st.sl 35 = i64 (T.length : Nat) ∧ st.sl 36 = i64 (i : Int) ∧ (∀ x, x < i → (fnd T.length fun k => a1 T A x k) = none)) T.length ?_ ?_ ?_
  ·refine Yak ?_
   exact ⟨rfl, lt0⟩
  ·rintro i sl ro gn hi ⟨s2, r4096, s3, r4112, s5, s34, s35, s36, q⟩
   dsimp only at s2 r4096 s3 r4112 s5 s34 s35 s36
   have hi' : (i : Int) < (T.length : Nat) := by omega
   have hiA : i < A.length := by omega
   have hmi := isLLL_mat ha hiA
   have hci := isLLL_mat hc hi
   simp (maxSteps := 10000000) (disch := first | assumption | omega) only [go_sem, ↓reduceIte, Nat.reduceEqDiff, reduceCtorEq, Nat.reduceAdd, Nat.reduceMul, Nat.reduceLeDiff, zc, Int.reduceToNat, s2, r4096, s3, r4112, s5, s34, s35, s36, hi', hi, isLLL_len ha, f1]
   refine WK_for (fun j st => st.sl 2 = .ptr 4096 1 [] 0 ∧ st.ro 4096 1 = some (.bx [c]) ∧ st.sl 3 = .ptr 4112 1 [] 0 ∧ st.ro 4112 1 = some (.bx [a]) ∧ st.sl 5 = i64 (m : Nat) ∧ st.sl 34 = a ∧ st.sl 35 = i64 (T.length : Nat) ∧ st.sl 36 = i64 (i : Int) ∧ st.sl 6 = i64 (i : Int) ∧ st.sl 7 = atA a i ∧ st.sl 42 = a ∧ st.sl 43 = i64 (T.length : Nat) ∧ st.sl 44 = i64 (j : Int) ∧ (∀ x, x < j → a1 T A i x = none)) T.length ?_ ?_ ?_
   ·simp only [↓za, ↓reduceIte, Nat.reduceEqDiff, zb, reduceCtorEq, rws_zero, s2, r4096, s3, r4112, s5, s34, s35, s36, hi', hi]
    exact ⟨rfl, lt0⟩
   ·rintro j sl ro gn hj ⟨s2, r4096, s3, r4112, s5, s34, s35, s36, s6, s7, s42, s43, s44, qq⟩
    dsimp only at s2 r4096 s3 r4112 s5 s34 s35 s36 s6 s7 s42 s43 s44
    have hj' : (j : Int) < (T.length : Nat) := by omega
    have hjA : j < A.length := by omega
    have hmj := isLLL_mat ha hjA
    have hjc : j < (mat T i).length := by rw [(hcu i hi).1]; exact hj
    have hcj := isLL_row hci hjc
    have lcj : (row (mat T i) j).length = T.length := ((hcu i hi).2 j hj).1
    simp (maxSteps := 10000000) (disch := first | assumption | omega) only [go_sem, ↓reduceIte, Nat.reduceEqDiff, reduceCtorEq, Nat.reduceAdd, Nat.reduceMul, Nat.reduceLeDiff, zc, Int.reduceToNat, s2, r4096, s3, r4112, s5, s34, s35, s36, s6, s7, s42, s43, s44, hj', hj, isLLL_len ha, f1]
    refine CLL_pure _ (c126m hmN hmN) PUt rfl rfl ?_
    simp (maxSteps := 10000000) (disch := first | assumption | omega) only [go_sem, ↓reduceIte, Nat.reduceEqDiff, reduceCtorEq, Nat.reduceAdd, Nat.reduceMul, Nat.reduceLeDiff, zc, Int.reduceToNat, s2, r4096, s3, r4112, s5, s34, s35, s36, s6, s7, s42, s43, s44, hj', hj, impE_row, zfe, isLLL_len hc, isL_len hcj, lcj]
    refine WK_for (fun k st => st.sl 2 = .ptr 4096 1 [] 0 ∧ st.ro 4096 1 = some (.bx [c]) ∧ st.sl 3 = .ptr 4112 1 [] 0 ∧ st.ro 4112 1 = some (.bx [a]) ∧ st.sl 5 = i64 (m : Nat) ∧ st.sl 34 = a ∧ st.sl 35 = i64 (T.length : Nat) ∧ st.sl 36 = i64 (i : Int) ∧ st.sl 6 = i64 (i : Int) ∧ st.sl 7 = atA a i ∧ st.sl 42 = a ∧ st.sl 43 = i64 (T.length : Nat) ∧ st.sl 44 = i64 (j : Int) ∧ st.sl 8 = i64 (j : Int) ∧ st.sl 9 = atA a j ∧ st.sl 10 = .ref 45088 (st.gn 45088) [] 0 m ∧ st.sl 59 = atA (atA c i) j ∧ st.sl 60 = i64 (T.length : Nat) ∧ st.sl 61 = i64 (k : Int) ∧ st.ro 45088 (st.gn 45088) = some (matA (afM T A i j k 0 0) m m)) T.length ?_ ?_ ?_
    ·simp only [↓za, ↓reduceIte, Nat.reduceEqDiff, zb, reduceCtorEq, rws_zero, s2, r4096, s3, r4112, s5, s34, s35, s36, s6, s7, s42, s43, s44, hj', hj]
     refine ⟨rfl, congrArg some (mat_congr fun u v _ _ => ?_)⟩
     unfold afM
     rw [if_neg (by omega)]
     rfl
    ·rintro k sl ro gn hk ⟨s2, r4096, s3, r4112, s5, s34, s35, s36, s6, s7, s42, s43, s44, s8, s9, s10, s59, s60, s61, r45088⟩
     dsimp only at s2 r4096 s3 r4112 s5 s34 s35 s36 s6 s7 s42 s43 s44 s8 s9 s10 s59 s60 s61 r45088
     have hk' : (k : Int) < (T.length : Nat) := by omega
     have hkA : k < A.length := by omega
     have hmk := isLLL_mat ha hkA
     have lk := lA hk
     simp (maxSteps := 10000000) (disch := first | assumption | omega) only [go_sem, ↓reduceIte, Nat.reduceEqDiff, reduceCtorEq, Nat.reduceAdd, Nat.reduceMul, Nat.reduceLeDiff, zc, Int.reduceToNat, s2, r4096, s3, r4112, s5, s34, s35, s36, s6, s7, s42, s43, s44, s8, s9, s10, s59, s60, s61, r45088, hk', hk, isLLL_len ha, f1, lcj, isLL_len hmk, lk]
     refine WK_for (fun x st => st.sl 2 = .ptr 4096 1 [] 0 ∧ st.ro 4096 1 = some (.bx [c]) ∧ st.sl 3 = .ptr 4112 1 [] 0 ∧ st.ro 4112 1 = some (.bx [a]) ∧ st.sl 5 = i64 (m : Nat) ∧ st.sl 34 = a ∧ st.sl 35 = i64 (T.length : Nat) ∧ st.sl 36 = i64 (i : Int) ∧ st.sl 6 = i64 (i : Int) ∧ st.sl 7 = atA a i ∧ st.sl 42 = a ∧ st.sl 43 = i64 (T.length : Nat) ∧ st.sl 44 = i64 (j : Int) ∧ st.sl 8 = i64 (j : Int) ∧ st.sl 9 = atA a j ∧ st.sl 10 = .ref 45088 (st.gn 45088) [] 0 m ∧ st.sl 59 = atA (atA c i) j ∧ st.sl 60 = i64 (T.length : Nat) ∧ st.sl 61 = i64 (k : Int) ∧ st.sl 11 = i64 (k : Int) ∧ st.sl 12 = i64 (at3 T i j k) ∧ st.sl 70 = atA a k ∧ st.sl 71 = i64 (m : Nat) ∧ st.sl 72 = i64 (x : Int) ∧ st.ro 45088 (st.gn 45088) = some (matA (afM T A i j k x 0) m m)) m ?_ ?_ ?_
     ·simp only [↓za, ↓reduceIte, Nat.reduceEqDiff, zb, reduceCtorEq, rws_zero, s2, r4096, s3, r4112, s5, s34, s35, s36, s6, s7, s42, s43, s44, s8, s9, s10, s59, s60, s61, r45088, hk', hk]
      exact rfl
     ·rintro x sl ro gn hx ⟨s2, r4096, s3, r4112, s5, s34, s35, s36, s6, s7, s42, s43, s44, s8, s9, s10, s59, s60, s61, s11, s12, s70, s71, s72, r45088⟩
      dsimp only at s2 r4096 s3 r4112 s5 s34 s35 s36 s6 s7 s42 s43 s44 s8 s9 s10 s59 s60 s61 s11 s12 s70 s71 s72 r45088
      have hx' : (x : Int) < (m : Nat) := by omega
      have hxk : x < (mat A k).length := by omega
      have hrx := isLL_row hmk hxk
      have lx := lR hk hx
      simp (maxSteps := 10000000) (disch := first | assumption | omega) only [go_sem, ↓reduceIte, Nat.reduceEqDiff, reduceCtorEq, Nat.reduceAdd, Nat.reduceMul, Nat.reduceLeDiff, zc, Int.reduceToNat, s2, r4096, s3, r4112, s5, s34, s35, s36, s6, s7, s42, s43, s44, s8, s9, s10, s59, s60, s61, s11, s12, s70, s71, s72, r45088, hx', hx, lk, isL_len hrx, lx]
      refine WK_for (fun y st => st.sl 2 = .ptr 4096 1 [] 0 ∧ st.ro 4096 1 = some (.bx [c]) ∧ st.sl 3 = .ptr 4112 1 [] 0 ∧ st.ro 4112 1 = some (.bx [a]) ∧ st.sl 5 = i64 (m : Nat) ∧ st.sl 34 = a ∧ st.sl 35 = i64 (T.length : Nat) ∧ st.sl 36 = i64 (i : Int) ∧ st.sl 6 = i64 (i : Int) ∧ st.sl 7 = atA a i ∧ st.sl 42 = a ∧ st.sl 43 = i64 (T.length : Nat) ∧ st.sl 44 = i64 (j : Int) ∧ st.sl 8 = i64 (j : Int) ∧ st.sl 9 = atA a j ∧ st.sl 10 = .ref 45088 (st.gn 45088) [] 0 m ∧ st.sl 59 = atA (atA c i) j ∧ st.sl 60 = i64 (T.length : Nat) ∧ st.sl 61 = i64 (k : Int) ∧ st.sl 11 = i64 (k : Int) ∧ st.sl 12 = i64 (at3 T i j k) ∧ st.sl 70 = atA a k ∧ st.sl 71 = i64 (m : Nat) ∧ st.sl 72 = i64 (x : Int) ∧ st.sl 13 = i64 (x : Int) ∧ st.sl 77 = atA (atA a k) x ∧ st.sl 78 = i64 (m : Nat) ∧ st.sl 79 = i64 (y : Int) ∧ st.ro 45088 (st.gn 45088) = some (matA (afM T A i j k x y) m m)) m ?_ ?_ ?_
      ·simp only [↓za, ↓reduceIte, Nat.reduceEqDiff, zb, reduceCtorEq, rws_zero, s2, r4096, s3, r4112, s5, s34, s35, s36, s6, s7, s42, s43, s44, s8, s9, s10, s59, s60, s61, s11, s12, s70, s71, s72, r45088, hx', hx]
       exact rfl
      ·rintro y sl ro gn hy ⟨s2, r4096, s3, r4112, s5, s34, s35, s36, s6, s7, s42, s43, s44, s8, s9, s10, s59, s60, s61, s11, s12, s70, s71, s72, s13, s77, s78, s79, r45088⟩
       dsimp only at s2 r4096 s3 r4112 s5 s34 s35 s36 s6 s7 s42 s43 s44 s8 s9 s10 s59 s60 s61 s11 s12 s70 s71 s72 s13 s77 s78 s79 r45088
       have hy' : (y : Int) < (m : Nat) := by omega
       have ev : afM T A i j k x y x y = sm (rgA T A i j x y) k := by
        unfold afM
        rw [if_neg (by omega)]
       have b1 := sm_bnd (rgA_bnd hR.1 hF hi hj x y) k
       have b2 := rgA_bnd hR.1 hF hi hj x y k
       have eA : atI (row (mat A k) x) y = at3 A k x y := rfl
       have eP : at3 T i j k * at3 A k x y = rgA T A i j x y k := rfl
       simp (maxSteps := 10000000) (disch := first | assumption | omega) only [go_sem, ↓reduceIte, Nat.reduceEqDiff, reduceCtorEq, Nat.reduceAdd, Nat.reduceMul, Nat.reduceLeDiff, zc, Int.reduceToNat, s2, r4096, s3, r4112, s5, s34, s35, s36, s6, s7, s42, s43, s44, s8, s9, s10, s59, s60, s61, s11, s12, s70, s71, s72, s13, s77, s78, s79, r45088, hy', hy, lx, eA, rws_get, hx, hy, ev, eP]
       exact ⟨i64c (by omega), congrArg some (mat_congr fun u v _ _ => afM_step T A i j k x y u v)⟩
      ·rintro sl ro gn ⟨s2, r4096, s3, r4112, s5, s34, s35, s36, s6, s7, s42, s43, s44, s8, s9, s10, s59, s60, s61, s11, s12, s70, s71, s72, s13, s77, s78, s79, r45088⟩
       dsimp only at s2 r4096 s3 r4112 s5 s34 s35 s36 s6 s7 s42 s43 s44 s8 s9 s10 s59 s60 s61 s11 s12 s70 s71 s72 s13 s77 s78 s79 r45088
       have hy' : ¬ ((m : Nat) : Int) < (m : Nat) := by omega
       simp (maxSteps := 10000000) (disch := first | assumption | omega) only [go_sem, ↓reduceIte, Nat.reduceEqDiff, reduceCtorEq, Nat.reduceAdd, Nat.reduceMul, Nat.reduceLeDiff, zc, Int.reduceToNat, s2, r4096, s3, r4112, s5, s34, s35, s36, s6, s7, s42, s43, s44, s8, s9, s10, s59, s60, s61, s11, s12, s70, s71, s72, s13, s77, s78, s79, r45088, hy', lx]
       refine ⟨i64c (by omega), congrArg some (mat_congr fun u v _ hv => ?_)⟩
       unfold afM
       have e : (u < x ∨ (u = x ∧ v < m)) ↔ (u < x + 1 ∨ (u = x + 1 ∧ v < 0)) := by omega
       simp only [e]
     ·rintro sl ro gn ⟨s2, r4096, s3, r4112, s5, s34, s35, s36, s6, s7, s42, s43, s44, s8, s9, s10, s59, s60, s61, s11, s12, s70, s71, s72, r45088⟩
      dsimp only at s2 r4096 s3 r4112 s5 s34 s35 s36 s6 s7 s42 s43 s44 s8 s9 s10 s59 s60 s61 s11 s12 s70 s71 s72 r45088
      have hx' : ¬ ((m : Nat) : Int) < (m : Nat) := by omega
      simp (maxSteps := 10000000) (disch := first | assumption | omega) only [go_sem, ↓reduceIte, Nat.reduceEqDiff, reduceCtorEq, Nat.reduceAdd, Nat.reduceMul, Nat.reduceLeDiff, zc, Int.reduceToNat, s2, r4096, s3, r4112, s5, s34, s35, s36, s6, s7, s42, s43, s44, s8, s9, s10, s59, s60, s61, s11, s12, s70, s71, s72, r45088, hx', lk]
      refine ⟨i64c (by omega), congrArg some (mat_congr fun u v hu _ => ?_)⟩
      unfold afM
      rw [if_pos (.inl hu), if_neg (by omega)]
    ·rintro sl ro gn ⟨s2, r4096, s3, r4112, s5, s34, s35, s36, s6, s7, s42, s43, s44, s8, s9, s10, s59, s60, s61, r45088⟩
     dsimp only at s2 r4096 s3 r4112 s5 s34 s35 s36 s6 s7 s42 s43 s44 s8 s9 s10 s59 s60 s61 r45088
     have hk' : ¬ ((T.length : Nat) : Int) < (T.length : Nat) := by omega
     have wi : isLL (atA a i) (matL (at3 A i) m m) := by
      have h := hmi
      rw [fam_mat hF hi, ← hm] at h
      exact h
     have wj : isLL (atA a j) (matL (at3 A j) m m) := by
      have h := hmj
      rw [fam_mat hF hj, ← hm] at h
      exact h
     have cW := cWhole wi wj (by omega) (by omega) (fam_bnd hF i) (fam_bnd hF j)
     have e : matA (afM T A i j T.length 0 0) m m = matA (fun u v => sm (rgA T A i j u v) T.length) m m := mat_congr fun u v _ _ => if_neg (by omega)
     rw [e] at r45088
     have cE := c141 (isLL_imm (matL (fun u v => sm (rgA T A i j u v) T.length) m m)) (isLL_imm (matL (fun u v => whS (at3 A i) (at3 A j) u v m) m m)) (by rw [matL_len2]; exact hmN) (fun x hx => by rw [matL_len2] at hx; rw [matL_row2 hx]; exact hmN)
     have ip : PrA T A i j ↔ matL (fun u v => sm (rgA T A i j u v) T.length) m m = matL (fun u v => whS (at3 A i) (at3 A j) u v m) m m := by rw [hm]; exact pr_iff
     simp (maxSteps := 10000000) (disch := first | assumption | omega) only [go_sem, ↓reduceIte, Nat.reduceEqDiff, reduceCtorEq, Nat.reduceAdd, Nat.reduceMul, Nat.reduceLeDiff, zc, Int.reduceToNat, s2, r4096, s3, r4112, s5, s34, s35, s36, s6, s7, s42, s43, s44, s8, s9, s10, s59, s60, s61, r45088, hk', lcj]
     refine CLL_pure _ cW PUt rfl rfl ?_
     simp (maxSteps := 10000000) (disch := first | assumption | omega) only [go_sem, ↓reduceIte, Nat.reduceEqDiff, reduceCtorEq, Nat.reduceAdd, Nat.reduceMul, Nat.reduceLeDiff, zc, Int.reduceToNat, s2, r4096, s3, r4112, s5, s34, s35, s36, s6, s7, s42, s43, s44, s8, s9, s10, s59, s60, s61, r45088, hk', impE_row, zfe]
     by_cases hP : PrA T A i j
     ·rw [decide_eq_true (ip.1 hP)] at cE
      refine CLL_q _ cE (.cons (exq_mat (Ue r45088) (by decide)) (.cons (exq_mat Ur (by decide)) .nil)) rfl rfl rfl ?_
      refine Ybz ?_
      exact ⟨i64c (by omega), ltS qq (if_pos hP)⟩
     ·rw [decide_eq_false fun h => hP (ip.2 h)] at cE
      refine CLL_q _ cE (.cons (exq_mat (Ue r45088) (by decide)) (.cons (exq_mat Ur (by decide)) .nil)) rfl rfl rfl ?_
      refine Ybz ?_
      simp only [zr, zb, retR, resL, outT, outL, zes, zez, oneV, zcp, zed, zfi, Ro.dl, St.ev, zhk, ↓za, ↓reduceIte, Nat.reduceEqDiff, Nat.reduceAdd, Nat.reduceLeDiff, AF1 hU' (fnd_some (k := i) (fnd_some (k := j) (if_neg hP) qq hj) q hi)]
      rfl
   ·rintro sl ro gn ⟨s2, r4096, s3, r4112, s5, s34, s35, s36, s6, s7, s42, s43, s44, qq⟩
    dsimp only at s2 r4096 s3 r4112 s5 s34 s35 s36 s6 s7 s42 s43 s44
    have hj' : ¬ ((T.length : Nat) : Int) < (T.length : Nat) := by omega
    simp (maxSteps := 10000000) (disch := first | assumption | omega) only [go_sem, ↓reduceIte, Nat.reduceEqDiff, reduceCtorEq, Nat.reduceAdd, Nat.reduceMul, Nat.reduceLeDiff, zc, Int.reduceToNat, s2, r4096, s3, r4112, s5, s34, s35, s36, s6, s7, s42, s43, s44, hj', isLLL_len ha, f1]
    exact ⟨i64c (by omega), ltS q (fnd_none.2 qq)⟩
  ·rintro sl ro gn ⟨s2, r4096, s3, r4112, s5, s34, s35, s36, q⟩
   dsimp only at s2 r4096 s3 r4112 s5 s34 s35 s36
   have hi' : ¬ ((T.length : Nat) : Int) < (T.length : Nat) := by omega
   have e1 : A1 T A = none := fnd_none.2 q
   rw [AF2 hU' e1]
   simp (maxSteps := 10000000) (disch := first | assumption | omega) only [go_sem, ↓reduceIte, Nat.reduceEqDiff, reduceCtorEq, Nat.reduceAdd, Nat.reduceMul, Nat.reduceLeDiff, zc, Int.reduceToNat, s2, r4096, s3, r4112, s5, s34, s35, s36, hi']
   refine CLL_pure _ (cDualsI hc hR.1) PUt rfl rfl ?_
   simp (maxSteps := 10000000) (disch := first | assumption | omega) only [go_sem, ↓reduceIte, Nat.reduceEqDiff, reduceCtorEq, Nat.reduceAdd, Nat.reduceMul, Nat.reduceLeDiff, zc, Int.reduceToNat, s2, r4096, s3, r4112, s5, s34, s35, s36, hi', impE_row, zfe]
   refine WK_for (fun i st => st.sl 2 = .ptr 4096 1 [] 0 ∧ st.ro 4096 1 = some (.bx [c]) ∧ st.sl 3 = .ptr 4112 1 [] 0 ∧ st.ro 4112 1 = some (.bx [a]) ∧ st.sl 111 = .ref 118800 (st.gn 118800) [] 0 T.length ∧ st.ro 118800 (st.gn 118800) = some (.row (rws (fun i => i64 (dlT T i)) T.length)) ∧ st.sl 112 = i64 (T.length : Nat) ∧ st.sl 113 = i64 (i : Int) ∧ (∀ x, x < i → a2 T A x = none)) T.length ?_ ?_ ?_
   ·simp only [↓za, ↓reduceIte, Nat.reduceEqDiff, zb, reduceCtorEq, rws_zero, s2, r4096, s3, r4112, s5, s34, s35, s36, hi']
    repeat' first | exact lt0 | rfl | apply And.intro
   ·rintro i sl ro gn hi ⟨s2, r4096, s3, r4112, s111, r118800, s112, s113, q2⟩
    dsimp only at s2 r4096 s3 r4112 s111 r118800 s112 s113
    have hi' : (i : Int) < (T.length : Nat) := by omega
    obtain ⟨d1, d2⟩ := dd_ok hR hi
    have hdA : dd T i < A.length := by omega
    have hiA : i < A.length := by omega
    have hmd := isLLL_mat ha hdA
    have hmi := isLLL_mat ha hiA
    have ct := c120 hmi (by rw [lA hi]; omega) (by rw [lA hi]; exact hmN) (by rw [lR hi (by omega)]; exact hmN) (fun x hx => by rw [lA hi] at hx; rw [lR hi hx, lR hi (by omega)])
    have cE := c141 hmd (isLL_imm (trp (mat A i))) (by rw [lA d2]; exact hmN) (fun x hx => by rw [lA d2] at hx; rw [lR d2 hx]; exact hmN)
    simp (maxSteps := 10000000) (disch := first | assumption | omega) only [go_sem, ↓reduceIte, Nat.reduceEqDiff, reduceCtorEq, Nat.reduceAdd, Nat.reduceMul, Nat.reduceLeDiff, zc, Int.reduceToNat, s2, r4096, s3, r4112, s111, r118800, s112, s113, hi', hi, rws_get, hi, d1, isLLL_idx ha hdA]
    refine CLLD_pure _ ct PUt rfl ?_
    simp (maxSteps := 10000000) (disch := first | assumption | omega) only [go_sem, ↓reduceIte, Nat.reduceEqDiff, reduceCtorEq, Nat.reduceAdd, Nat.reduceMul, Nat.reduceLeDiff, zc, Int.reduceToNat, s2, r4096, s3, r4112, s111, r118800, s112, s113, hi', hi, rowLL, impE_row, List.length_map]
    by_cases hQ : mat A (dd T i) = trp (mat A i)
    ·rw [decide_eq_true hQ] at cE
     refine CLLD_q _ cE (.cons (exq_LL hmd (by decide)) (.cons (exq_refLL Ur rfl (by decide)) .nil)) rfl rfl ?_
     refine Yat ?_
     refine FIN_of (by kernel_rfl) ?_
     refine Yat ?_
     exact ⟨i64c (by omega), ltS q2 (if_pos hQ)⟩
    ·rw [decide_eq_false hQ] at cE
     refine CLLD_q _ cE (.cons (exq_LL hmd (by decide)) (.cons (exq_refLL Ur rfl (by decide)) .nil)) rfl rfl ?_
     refine Yat ?_
     refine FIN_of (by kernel_rfl) ?_
     refine Yat ?_
     have e2 : A2 T A = some [2, (i : Int)] := fnd_some (k := i) (if_neg hQ) q2 hi
     simp only [zr, zb, retR, resL, outT, outL, zes, zez, oneV, zcp, zed, zfi, Ro.dl, St.ev, zhk, ↓za, ↓reduceIte, Nat.reduceEqDiff, Nat.reduceAdd, Nat.reduceLeDiff, e2]
     rfl
   ·rintro sl ro gn ⟨s2, r4096, s3, r4112, s111, r118800, s112, s113, q2⟩
    dsimp only at s2 r4096 s3 r4112 s111 r118800 s112 s113
    have hi' : ¬ ((T.length : Nat) : Int) < (T.length : Nat) := by omega
    have e2 : A2 T A = none := fnd_none.2 q2
    rw [e2]
    simp (maxSteps := 10000000) (disch := first | assumption | omega) only [go_sem, ↓reduceIte, Nat.reduceEqDiff, reduceCtorEq, Nat.reduceAdd, Nat.reduceMul, Nat.reduceLeDiff, zc, Int.reduceToNat, s2, r4096, s3, r4112, s111, r118800, s112, s113, hi']
    refine Yab ?_
    rfl
 ·have hU' : mat A 0 ≠ matL unM (mat A 0).length (mat A 0).length := by rw [← hm]; exact hU
  rw [decide_eq_false hU]
  refine Yaa ?_
  refine FIN_of (by kernel_rfl) ?_
  refine Yaa ?_
  simp only [zr, zb, retR, resL, outT, outL, zes, zez, oneV, zcp, zed, zfi, Ro.dl, St.ev, zhk, ↓za, ↓reduceIte, Nat.reduceEqDiff, Nat.reduceAdd, Nat.reduceLeDiff, AF0 hU']
  rfl
theorem cIsActI {c a : AV} {T A : List (List (List Int))} (hc : isLLL c T) (ha : isLLL a A) (hz : SzP T) (hzA : SzP A) {t : Bool} (ht : t = true ↔ ActP T A) : CallOK Tryz.prog 23 [.agg [c], .agg [a]] (bo t) := by
 refine call_of (fn := Tryz.f23) (code := bodyOf Tryz.f23) Tryz.func23 rfl (by kernel_rfl) (rfl) ?_
 intro sl hs
 have s0 : sl 0 = .agg [c] := hs 0
 have s1 : sl 1 = .agg [a] := hs 1
 by_cases hR : RngP T
 ·have cR := cIsRing hc hz (t := true) ⟨fun _ => hR, fun _ => rfl⟩
  have hT0 : 0 < T.length := by have := hR.1.1; omega
  by_cases hF : FamP T.length A
  ·have cF := cFamI hc ha hT0 hzA (t := true) ⟨fun _ => hF, fun _ => rfl⟩
   have cA := cActFI hc ha hR hF
   cases hr : AF T A with
   | none =>
    rw [hr] at cA
    have ht' : t = true := ht.2 ⟨hR, hF, hr⟩
    dsimp only [Tryz.f23, bodyOf, Option.getD]
    refine Yah ?_
    refine CLL_pure _ cR PUt rfl rfl ?_
    refine Yaa ?_
    refine CLL_pure _ cF PUt rfl rfl ?_
    refine Yaa ?_
    refine CLL_pure _ cA PUt rfl rfl ?_
    simp (maxSteps := 10000000) (disch := first | assumption | omega) only [go_sem, ↓reduceIte, Nat.reduceEqDiff, reduceCtorEq, Nat.reduceAdd, Nat.reduceMul, Nat.reduceLeDiff, zc, Int.reduceToNat, s0, s1, optA]
    exact Yae
   | some l =>
    have ht' : t = false := by
     cases t with
     | false => rfl
     | true => have := (ht.1 rfl).2.2; rw [hr] at this; cases this
    rw [hr] at cA
    dsimp only [Tryz.f23, bodyOf, Option.getD]
    refine Yah ?_
    refine CLL_pure _ cR PUt rfl rfl ?_
    refine Yaa ?_
    refine CLL_pure _ cF PUt rfl rfl ?_
    refine Yaa ?_
    refine CLL_pure _ cA PUt rfl rfl ?_
    simp (maxSteps := 10000000) (disch := first | assumption | omega) only [go_sem, ↓reduceIte, Nat.reduceEqDiff, reduceCtorEq, Nat.reduceAdd, Nat.reduceMul, Nat.reduceLeDiff, zc, Int.reduceToNat, s0, s1, optA, rowL, impE_row, List.length_map]
    exact Yae
  ·have cF := cFamI hc ha hT0 hzA (t := false) ⟨fun h => (nomatch h), fun h => absurd h hF⟩
   have ht' : t = false := by
    cases t with
    | false => rfl
    | true => exact absurd (ht.1 rfl).2.1 hF
   dsimp only [Tryz.f23, bodyOf, Option.getD]
   refine Yah ?_
   refine CLL_pure _ cR PUt rfl rfl ?_
   refine Yaa ?_
   refine CLL_pure _ cF PUt rfl rfl ?_
   refine Ybj ?_
   exact Yae
 ·have cR := cIsRing hc hz (t := false) ⟨fun h => (nomatch h), fun h => absurd h hR⟩
  have ht' : t = false := by
   cases t with
   | false => rfl
   | true => exact absurd (ht.1 rfl).1 hR
  dsimp only [Tryz.f23, bodyOf, Option.getD]
  refine Yah ?_
  refine CLL_pure _ cR PUt rfl rfl ?_
  refine Ybj ?_
  exact Yae
end Go.Proofs.YtdpinkgkmcbckaaGreat
/- Actions by the reference. -/
namespace Go.Proofs.YtdpinkgkmcbckaaGreat
open Go.RowKit
set_option maxRecDepth 1000000
theorem cSame2 {a b : AV} {X Y : List (List Int)} (ha : isLL a X) (hb : isLL b Y) (hX : X.length ≤ maxN) (h1 : ∀ i, i < X.length → (row X i).length ≤ maxN) (h2 : ∀ i, i < Y.length → (row Y i).length ≤ maxN) {t : Bool} (ht : t = true ↔ X = Y) : CallOK Tryz.prog 65 [a, b] (bo t) := by
 have hX' : X.length ≤ 4294967296 := hX
 refine call_of (fn := Tryz.f65) (code := bodyOf Tryz.f65) Tryz.func65 rfl (by kernel_rfl) (rfl) ?_
 intro sl hs
 have s0 : sl 0 = a := hs 0
 have s1 : sl 1 = b := hs 1
 by_cases hl : X.length = Y.length
 ·have hl' : (X.length : Int) = Y.length := by omega
  dsimp only [Tryz.f65, bodyOf, Option.getD]
  simp (maxSteps := 10000000) (disch := first | assumption | omega) only [go_sem, ↓reduceIte, Nat.reduceEqDiff, reduceCtorEq, Nat.reduceAdd, Nat.reduceMul, Nat.reduceLeDiff, zc, Int.reduceToNat, s0, s1, isLL_len ha, isLL_len hb, eq_true hl']
  refine WK_for (fun i st => st.sl 0 = a ∧ st.sl 1 = b ∧ st.sl 5 = i64 (i : Int) ∧ (∀ x, x < i → row X x = row Y x)) X.length ?_ ?_ ?_
  ·refine Yak ?_
   exact ⟨rfl, lt0⟩
  ·rintro i sl ro gn hi ⟨s0, s1, s5, q⟩
   dsimp only at s0 s1 s5
   have hi' : (i : Int) < (X.length : Nat) := by omega
   have hiY : i < Y.length := by omega
   have r1 := isLL_row ha hi
   have r2 := isLL_row hb hiY
   by_cases h : row X i = row Y i
   ·have cs := cSameC r1 r2 (h1 i hi) (h2 i hiY) (t := true) ⟨fun _ => h, fun _ => rfl⟩
    simp (maxSteps := 10000000) (disch := first | assumption | omega) only [go_sem, ↓reduceIte, Nat.reduceEqDiff, reduceCtorEq, Nat.reduceAdd, Nat.reduceMul, Nat.reduceLeDiff, zc, Int.reduceToNat, s0, s1, s5, hi', hi, isLL_len ha]
    refine CLLD_pure _ cs PUt rfl ?_
    refine Yai ?_
    refine FIN_of (by kernel_rfl) ?_
    refine Yai ?_
    exact ⟨i64c (by omega), ltS q h⟩
   ·have cs := cSameC r1 r2 (h1 i hi) (h2 i hiY) (t := false) ⟨fun h => (nomatch h), fun e => absurd e h⟩
    simp (maxSteps := 10000000) (disch := first | assumption | omega) only [go_sem, ↓reduceIte, Nat.reduceEqDiff, reduceCtorEq, Nat.reduceAdd, Nat.reduceMul, Nat.reduceLeDiff, zc, Int.reduceToNat, s0, s1, s5, hi', hi, isLL_len ha]
    refine CLLD_pure _ cs PUt rfl ?_
    refine Yai ?_
    refine FIN_of (by kernel_rfl) ?_
    refine Yai ?_
    refine Yab ?_
    exact bool_false ht fun e => h (by rw [e])
  ·rintro sl ro gn ⟨s0, s1, s5, q⟩
   dsimp only at s0 s1 s5
   have hi' : ¬ ((X.length : Nat) : Int) < (X.length : Nat) := by omega
   simp (maxSteps := 10000000) (disch := first | assumption | omega) only [go_sem, ↓reduceIte, Nat.reduceEqDiff, reduceCtorEq, Nat.reduceAdd, Nat.reduceMul, Nat.reduceLeDiff, zc, Int.reduceToNat, s0, s1, s5, hi', isLL_len ha]
   refine Yab ?_
   exact (ht.2 (isLs_inj hl q)).symm
 ·have hl' : ¬ (X.length : Int) = Y.length := by omega
  dsimp only [Tryz.f65, bodyOf, Option.getD]
  simp (maxSteps := 10000000) (disch := first | assumption | omega) only [go_sem, ↓reduceIte, Nat.reduceEqDiff, reduceCtorEq, Nat.reduceAdd, Nat.reduceMul, Nat.reduceLeDiff, zc, Int.reduceToNat, s0, s1, isLL_len ha, isLL_len hb, eq_false hl']
  refine Yab ?_
  exact bool_false ht fun e => hl (by rw [e])
theorem cTurnM {a : AV} {X : List (List Int)} (ha : isLL a X) (h0 : 0 < X.length) (hX : X.length ≤ 65536) (hl : ∀ i, i < X.length → (row X i).length = (row X 0).length) (hw : (row X 0).length ≤ 65536) : CallOK Tryz.prog 68 [a] (rowLL (trp X)) := by
 have h00 := isLL_row ha h0
 refine call_of (fn := Tryz.f68) (code := bodyOf Tryz.f68) Tryz.func68 rfl (by kernel_rfl) (noRef_rowLL _) ?_
 intro sl hs
 have s0 : sl 0 = a := hs 0
 dsimp only [Tryz.f68, bodyOf, Option.getD]
 refine Yad ?_
 refine WK_for (fun k st => st.sl 0 = a ∧ st.sl 3 = .ref 8192 (st.gn 8192) [] 0 k ∧ st.ro 8192 (st.gn 8192) = some (.row (rws (fun y => .row (rws (fun x => i64 (atI (row X x) y)) X.length)) k)) ∧ st.sl 4 = i64 (k : Int)) ((row X 0).length) ?_ ?_ ?_
 ·refine Yaj ?_
  repeat' first | rfl | apply And.intro
 ·rintro k sl ro gn hk ⟨s0, s3, r8192, s4⟩
  dsimp only at s0 s3 r8192 s4
  have hk' : (k : Int) < ((row X 0).length : Nat) := by omega
  have hk2 : k + 1 ≤ 4294967296 := by omega
  simp (maxSteps := 10000000) (disch := first | assumption | omega) only [go_sem, ↓reduceIte, Nat.reduceEqDiff, reduceCtorEq, Nat.reduceAdd, Nat.reduceMul, Nat.reduceLeDiff, zc, Int.reduceToNat, s0, s3, r8192, s4, hk', hk, isLL_len ha, isL_len h00]
  refine WK_for (fun i st => st.sl 0 = a ∧ st.sl 3 = .ref 8192 (st.gn 8192) [] 0 k ∧ st.ro 8192 (st.gn 8192) = some (.row (rws (fun y => .row (rws (fun x => i64 (atI (row X x) y)) X.length)) k)) ∧ st.sl 4 = i64 (k : Int) ∧ st.sl 5 = .ref 24576 (st.gn 24576) [] 0 i ∧ st.ro 24576 (st.gn 24576) = some (.row (rws (fun x => i64 (atI (row X x) k)) i)) ∧ st.sl 6 = i64 (i : Int)) X.length ?_ ?_ ?_
  ·simp only [↓za, ↓reduceIte, Nat.reduceEqDiff, zb, reduceCtorEq, rws_zero, s0, s3, r8192, s4, hk', hk]
   repeat' first | rfl | apply And.intro
  ·rintro i sl ro gn hi ⟨s0, s3, r8192, s4, s5, r24576, s6⟩
   dsimp only at s0 s3 r8192 s4 s5 r24576 s6
   have hi' : (i : Int) < (X.length : Nat) := by omega
   have hi2 : i + 1 ≤ 4294967296 := by omega
   have hr := isLL_row ha hi
   have hki : k < (row X i).length := by rw [hl i hi]; exact hk
   simp (maxSteps := 10000000) (disch := first | assumption | omega) only [go_sem, ↓reduceIte, Nat.reduceEqDiff, reduceCtorEq, Nat.reduceAdd, Nat.reduceMul, Nat.reduceLeDiff, zc, Int.reduceToNat, s0, s3, r8192, s4, s5, r24576, s6, hi', hi, isLL_len ha, isL_idx hr hki, hi2]
   exact i64c (by omega)
  ·rintro sl ro gn ⟨s0, s3, r8192, s4, s5, r24576, s6⟩
   dsimp only at s0 s3 r8192 s4 s5 r24576 s6
   have hi' : ¬ ((X.length : Nat) : Int) < (X.length : Nat) := by omega
   simp (maxSteps := 10000000) (disch := first | assumption | omega) only [go_sem, ↓reduceIte, Nat.reduceEqDiff, reduceCtorEq, Nat.reduceAdd, Nat.reduceMul, Nat.reduceLeDiff, zc, Int.reduceToNat, s0, s3, r8192, s4, s5, r24576, s6, hi', isLL_len ha, hk2]
   exact i64c (by omega)
 ·rintro sl ro gn ⟨s0, s3, r8192, s4⟩
  dsimp only at s0 s3 r8192 s4
  have hk' : ¬ (((row X 0).length : Nat) : Int) < ((row X 0).length : Nat) := by omega
  simp (maxSteps := 10000000) (disch := first | assumption | omega) only [go_sem, ↓reduceIte, Nat.reduceEqDiff, reduceCtorEq, Nat.reduceAdd, Nat.reduceMul, Nat.reduceLeDiff, zc, Int.reduceToNat, s0, s3, r8192, s4, hk', isLL_len ha, isL_len h00]
  simp only [zr, zb, retR, resL, outT, outL, zes, zez, oneV, zcp, zed, zfi, Ro.dl, St.ev, zhk, ↓za, ↓reduceIte, Nat.reduceEqDiff, Nat.reduceAdd, Nat.reduceLeDiff, r8192, rowLL, rowL, trp, rws_map]
theorem cFamS {c a : AV} {T A : List (List (List Int))} (hc : isLLL c T) (ha : isLLL a A) (hT : 0 < T.length) (hT2 : T.length ≤ 16) {t : Bool} (ht : t = true ↔ FamP T.length A) : CallOK Tryz.prog 34 [.agg [c], .agg [a]] (bo t) := by
 refine call_of (fn := Tryz.f34) (code := bodyOf Tryz.f34) Tryz.func34 rfl (by kernel_rfl) (rfl) ?_
 intro sl hs
 have s0 : sl 0 = .agg [c] := hs 0
 have s1 : sl 1 = .agg [a] := hs 1
 by_cases hA : A.length = T.length
 ·have hA' : (A.length : Int) = T.length := by omega
  have hA0 : 0 < A.length := by omega
  have hA1 : ¬ (A.length : Int) = 0 := by omega
  have hm0 := isLLL_mat ha hA0
  obtain ⟨m, hm⟩ : ∃ m, m = (mat A 0).length := ⟨_, rfl⟩
  have l0 : (mat A 0).length = m := hm.symm
  by_cases h1 : m < 1
  ·have h1' : (m : Int) < 1 := by omega
   dsimp only [Tryz.f34, bodyOf, Option.getD]
   simp (maxSteps := 10000000) (disch := first | assumption | omega) only [go_sem, ↓reduceIte, Nat.reduceEqDiff, reduceCtorEq, Nat.reduceAdd, Nat.reduceMul, Nat.reduceLeDiff, zc, Int.reduceToNat, s0, s1, ti33, ti31, tiAc, isLLL_len ha, isLLL_len hc, eq_true hA', eq_false hA1, isLL_len hm0, l0, eq_true h1', undef]
   refine Yab ?_
   exact bool_false ht fun h => by have := h.2.1; omega
  have h1' : ¬ (m : Int) < 1 := by omega
  by_cases h2 : 16 < m
  ·have h2' : (16 : Int) < m := by omega
   dsimp only [Tryz.f34, bodyOf, Option.getD]
   simp (maxSteps := 10000000) (disch := first | assumption | omega) only [go_sem, ↓reduceIte, Nat.reduceEqDiff, reduceCtorEq, Nat.reduceAdd, Nat.reduceMul, Nat.reduceLeDiff, zc, Int.reduceToNat, s0, s1, ti33, ti31, tiAc, isLLL_len ha, isLLL_len hc, eq_true hA', eq_false hA1, isLL_len hm0, l0, eq_false h1', eq_true h2']
   refine Yab ?_
   exact bool_false ht fun h => by have := h.2.2.1; omega
  have h2' : ¬ (16 : Int) < m := by omega
  dsimp only [Tryz.f34, bodyOf, Option.getD]
  simp (maxSteps := 10000000) (disch := first | assumption | omega) only [go_sem, ↓reduceIte, Nat.reduceEqDiff, reduceCtorEq, Nat.reduceAdd, Nat.reduceMul, Nat.reduceLeDiff, zc, Int.reduceToNat, s0, s1, ti33, ti31, tiAc, isLLL_len ha, isLLL_len hc, eq_true hA', eq_false hA1, isLL_len hm0, l0, eq_false h1', eq_false h2']
  refine WK_for (fun i st => st.sl 2 = .ptr 4096 1 [] 0 ∧ st.ro 4096 1 = some (.bx [c]) ∧ st.sl 3 = .ptr 4112 1 [] 0 ∧ st.ro 4112 1 = some (.bx [a]) ∧ st.sl 5 = i64 (m : Nat) ∧ st.sl 6 = i64 (i : Int) ∧ (∀ j, j < i → PlA m A j)) T.length ?_ ?_ ?_
  ·refine Yak ?_
   repeat' first | exact lt0 | rfl | apply And.intro
  ·rintro i sl ro gn hi ⟨s2, r4096, s3, r4112, s5, s6, q⟩
   dsimp only at s2 r4096 s3 r4112 s5 s6
   have hi' : (i : Int) < (T.length : Nat) := by omega
   have hiA : i < A.length := by omega
   have hmi := isLLL_mat ha hiA
   by_cases hl : (mat A i).length = m
   ·have hl' : ((mat A i).length : Int) = m := by omega
    simp (maxSteps := 10000000) (disch := first | assumption | omega) only [go_sem, ↓reduceIte, Nat.reduceEqDiff, reduceCtorEq, Nat.reduceAdd, Nat.reduceMul, Nat.reduceLeDiff, zc, Int.reduceToNat, s2, r4096, s3, r4112, s5, s6, hi', hi, isLLL_len ha, hA, isLL_len hmi, eq_true hl']
    refine WK_for (fun x st => st.sl 2 = .ptr 4096 1 [] 0 ∧ st.ro 4096 1 = some (.bx [c]) ∧ st.sl 3 = .ptr 4112 1 [] 0 ∧ st.ro 4112 1 = some (.bx [a]) ∧ st.sl 5 = i64 (m : Nat) ∧ st.sl 6 = i64 (i : Int) ∧ st.sl 7 = i64 (x : Int) ∧ (∀ u, u < x → (row (mat A i) u).length = m ∧ ∀ y, y < m → 0 ≤ at3 A i u y ∧ at3 A i u y ≤ 1000)) m ?_ ?_ ?_
    ·simp only [↓za, ↓reduceIte, Nat.reduceEqDiff, zb, reduceCtorEq, rws_zero, s2, r4096, s3, r4112, s5, s6, hi', hi]
     repeat' first | exact lt0 | rfl | apply And.intro
    ·rintro x sl ro gn hx ⟨s2, r4096, s3, r4112, s5, s6, s7, q2⟩
     dsimp only at s2 r4096 s3 r4112 s5 s6 s7
     have hx' : (x : Int) < (m : Nat) := by omega
     have hx1 : x < (mat A i).length := by omega
     have hr := isLL_row hmi hx1
     by_cases hl2 : (row (mat A i) x).length = m
     ·have hl2' : ((row (mat A i) x).length : Int) = m := by omega
      simp (maxSteps := 10000000) (disch := first | assumption | omega) only [go_sem, ↓reduceIte, Nat.reduceEqDiff, reduceCtorEq, Nat.reduceAdd, Nat.reduceMul, Nat.reduceLeDiff, zc, Int.reduceToNat, s2, r4096, s3, r4112, s5, s6, s7, hx', hx, isLL_len hmi, isL_len hr, eq_true hl2']
      refine WK_for (fun y st => st.sl 2 = .ptr 4096 1 [] 0 ∧ st.ro 4096 1 = some (.bx [c]) ∧ st.sl 3 = .ptr 4112 1 [] 0 ∧ st.ro 4112 1 = some (.bx [a]) ∧ st.sl 5 = i64 (m : Nat) ∧ st.sl 6 = i64 (i : Int) ∧ st.sl 7 = i64 (x : Int) ∧ st.sl 8 = i64 (y : Int) ∧ (∀ v, v < y → 0 ≤ at3 A i x v ∧ at3 A i x v ≤ 1000)) m ?_ ?_ ?_
      ·simp only [↓za, ↓reduceIte, Nat.reduceEqDiff, zb, reduceCtorEq, rws_zero, s2, r4096, s3, r4112, s5, s6, s7, hx', hx]
       repeat' first | exact lt0 | rfl | apply And.intro
      ·rintro y sl ro gn hy ⟨s2, r4096, s3, r4112, s5, s6, s7, s8, q3⟩
       dsimp only at s2 r4096 s3 r4112 s5 s6 s7 s8
       have hy' : (y : Int) < (m : Nat) := by omega
       have hy1 : y < (row (mat A i) x).length := by omega
       by_cases hv : 0 ≤ atI (row (mat A i) x) y ∧ atI (row (mat A i) x) y ≤ 1000
       ·have cv := c38t hv
        simp (maxSteps := 10000000) (disch := first | assumption | omega) only [go_sem, ↓reduceIte, Nat.reduceEqDiff, reduceCtorEq, Nat.reduceAdd, Nat.reduceMul, Nat.reduceLeDiff, zc, Int.reduceToNat, s2, r4096, s3, r4112, s5, s6, s7, s8, hy', hy, isL_idx hr hy1]
        refine CLL_pure _ cv PUt rfl rfl ?_
        simp (maxSteps := 10000000) (disch := first | assumption | omega) only [go_sem, ↓reduceIte, Nat.reduceEqDiff, reduceCtorEq, Nat.reduceAdd, Nat.reduceMul, Nat.reduceLeDiff, zc, Int.reduceToNat, s2, r4096, s3, r4112, s5, s6, s7, s8, hy', hy]
        exact ⟨i64c (by omega), ltS q3 hv⟩
       ·have cv := c38f hv
        simp (maxSteps := 10000000) (disch := first | assumption | omega) only [go_sem, ↓reduceIte, Nat.reduceEqDiff, reduceCtorEq, Nat.reduceAdd, Nat.reduceMul, Nat.reduceLeDiff, zc, Int.reduceToNat, s2, r4096, s3, r4112, s5, s6, s7, s8, hy', hy, isL_idx hr hy1]
        refine CLL_pure _ cv PUt rfl rfl ?_
        simp (maxSteps := 10000000) (disch := first | assumption | omega) only [go_sem, ↓reduceIte, Nat.reduceEqDiff, reduceCtorEq, Nat.reduceAdd, Nat.reduceMul, Nat.reduceLeDiff, zc, Int.reduceToNat, s2, r4096, s3, r4112, s5, s6, s7, s8, hy', hy]
        refine Yab ?_
        exact bool_false ht fun h => hv (((h.2.2.2 i hi).2 x (by omega)).2 y (by omega))
      ·rintro sl ro gn ⟨s2, r4096, s3, r4112, s5, s6, s7, s8, q3⟩
       dsimp only at s2 r4096 s3 r4112 s5 s6 s7 s8
       have hy' : ¬ ((m : Nat) : Int) < (m : Nat) := by omega
       simp (maxSteps := 10000000) (disch := first | assumption | omega) only [go_sem, ↓reduceIte, Nat.reduceEqDiff, reduceCtorEq, Nat.reduceAdd, Nat.reduceMul, Nat.reduceLeDiff, zc, Int.reduceToNat, s2, r4096, s3, r4112, s5, s6, s7, s8, hy']
       exact ⟨i64c (by omega), ltS q2 ⟨hl2, q3⟩⟩
     ·have hl2' : ¬ ((row (mat A i) x).length : Int) = m := by omega
      simp (maxSteps := 10000000) (disch := first | assumption | omega) only [go_sem, ↓reduceIte, Nat.reduceEqDiff, reduceCtorEq, Nat.reduceAdd, Nat.reduceMul, Nat.reduceLeDiff, zc, Int.reduceToNat, s2, r4096, s3, r4112, s5, s6, s7, hx', hx, isLL_len hmi, isL_len hr, eq_false hl2']
      refine Yab ?_
      exact bool_false ht fun h => hl2 (((h.2.2.2 i hi).2 x (by omega)).1.trans hm.symm)
    ·rintro sl ro gn ⟨s2, r4096, s3, r4112, s5, s6, s7, q2⟩
     dsimp only at s2 r4096 s3 r4112 s5 s6 s7
     have hx' : ¬ ((m : Nat) : Int) < (m : Nat) := by omega
     simp (maxSteps := 10000000) (disch := first | assumption | omega) only [go_sem, ↓reduceIte, Nat.reduceEqDiff, reduceCtorEq, Nat.reduceAdd, Nat.reduceMul, Nat.reduceLeDiff, zc, Int.reduceToNat, s2, r4096, s3, r4112, s5, s6, s7, hx']
     exact ⟨i64c (by omega), ltS q ⟨hl, q2⟩⟩
   ·have hl' : ¬ ((mat A i).length : Int) = m := by omega
    simp (maxSteps := 10000000) (disch := first | assumption | omega) only [go_sem, ↓reduceIte, Nat.reduceEqDiff, reduceCtorEq, Nat.reduceAdd, Nat.reduceMul, Nat.reduceLeDiff, zc, Int.reduceToNat, s2, r4096, s3, r4112, s5, s6, hi', hi, isLLL_len ha, hA, isLL_len hmi, eq_false hl']
    refine Yab ?_
    exact bool_false ht fun h => hl ((h.2.2.2 i hi).1.trans hm.symm)
  ·rintro sl ro gn ⟨s2, r4096, s3, r4112, s5, s6, q⟩
   dsimp only at s2 r4096 s3 r4112 s5 s6
   have hi' : ¬ ((T.length : Nat) : Int) < (T.length : Nat) := by omega
   simp (maxSteps := 10000000) (disch := first | assumption | omega) only [go_sem, ↓reduceIte, Nat.reduceEqDiff, reduceCtorEq, Nat.reduceAdd, Nat.reduceMul, Nat.reduceLeDiff, zc, Int.reduceToNat, s2, r4096, s3, r4112, s5, s6, hi', isLLL_len ha, hA]
   refine Yab ?_
   exact (ht.2 ⟨hA, by omega, by omega, by rw [← hm]; exact q⟩).symm
 ·have hA' : ¬ (A.length : Int) = T.length := by omega
  dsimp only [Tryz.f34, bodyOf, Option.getD]
  simp (maxSteps := 10000000) (disch := first | assumption | omega) only [go_sem, ↓reduceIte, Nat.reduceEqDiff, reduceCtorEq, Nat.reduceAdd, Nat.reduceMul, Nat.reduceLeDiff, zc, Int.reduceToNat, s0, s1, ti33, ti31, tiAc, isLLL_len ha, isLLL_len hc, eq_false hA', undef]
  refine Yab ?_
  exact bool_false ht fun h => hA h.1
theorem cPrdS {c a : AV} {T A : List (List (List Int))} (hc : isLLL c T) (ha : isLLL a A) (hT : CubeP T) (hF : FamP T.length A) {i j : Nat} (hi : i < T.length) (hj : j < T.length) {t : Bool} (ht : t = true ↔ PrA T A i j) : CallOK Tryz.prog 66 [.agg [c], .agg [a], i64 i, i64 j] (bo t) := by
 obtain ⟨t1, t16, hcu⟩ := id hT
 obtain ⟨f1, f2, f3, f4⟩ := id hF
 obtain ⟨m, hm⟩ : ∃ m, m = (mat A 0).length := ⟨_, rfl⟩
 have hA0 : 0 < A.length := by omega
 have hm0 := isLLL_mat ha hA0
 have l0 : (mat A 0).length = m := hm.symm
 have hiA : i < A.length := by omega
 have hjA : j < A.length := by omega
 have hmi := isLLL_mat ha hiA
 have hmj := isLLL_mat ha hjA
 have hci := isLLL_mat hc hi
 have hjc : j < (mat T i).length := by rw [(hcu i hi).1]; exact hj
 have hcj := isLL_row hci hjc
 have lcj : (row (mat T i) j).length = T.length := ((hcu i hi).2 j hj).1
 have lA : ∀ {i}, i < T.length → (mat A i).length = m := fun h => (f4 _ h).1.trans hm.symm
 have lR : ∀ {i x}, i < T.length → x < m → (row (mat A i) x).length = m := fun h hx => ((f4 _ h).2 _ (by omega)).1.trans hm.symm
 have lf : ∀ x y z, 0 ≤ lfA A i j x y z ∧ lfA A i j x y z ≤ 1000000 := fun x y z => mulB (fam_bnd hF i x z).1 (fam_bnd hF i x z).2 (fam_bnd hF j z y).1 (fam_bnd hF j z y).2
 have rg := rgA_bnd hT hF hi hj
 have ht2 : t = true ↔ ∀ x, x < m → ∀ y, y < m → sm (lfA A i j x y) m = sm (rgA T A i j x y) T.length := by rw [ht, hm]; exact Iff.rfl
 refine call_of (fn := Tryz.f66) (code := bodyOf Tryz.f66) Tryz.func66 rfl (by kernel_rfl) (rfl) ?_
 intro sl hs
 have s0 : sl 0 = .agg [c] := hs 0
 have s1 : sl 1 = .agg [a] := hs 1
 have s2 : sl 2 = i64 i := hs 2
 have s3 : sl 3 = i64 j := hs 3
 dsimp only [Tryz.f66, bodyOf, Option.getD]
 simp (maxSteps := 10000000) (disch := first | assumption | omega) only [go_sem, ↓reduceIte, Nat.reduceEqDiff, reduceCtorEq, Nat.reduceAdd, Nat.reduceMul, Nat.reduceLeDiff, zc, Int.reduceToNat, s0, s1, s2, s3, ti33, ti31, tiAc, isLLL_len ha, isLLL_len hc, isLL_len hm0, l0]
 refine WK_for (fun x st => st.sl 2 = i64 i ∧ st.sl 3 = i64 j ∧ st.sl 4 = .ptr 4096 1 [] 0 ∧ st.ro 4096 1 = some (.bx [c]) ∧ st.sl 5 = .ptr 4112 1 [] 0 ∧ st.ro 4112 1 = some (.bx [a]) ∧ st.sl 9 = i64 (m : Nat) ∧ st.sl 10 = i64 (x : Int) ∧ (∀ u, u < x → ∀ v, v < m → sm (lfA A i j u v) m = sm (rgA T A i j u v) T.length)) m ?_ ?_ ?_
 ·simp only [↓za, ↓reduceIte, Nat.reduceEqDiff, zb, reduceCtorEq, rws_zero, s0, s1, s2, s3]
  repeat' first | exact lt0 | rfl | apply And.intro
 ·rintro x sl ro gn hx ⟨s2, s3, s4, r4096, s5, r4112, s9, s10, q⟩
  dsimp only at s2 s3 s4 r4096 s5 r4112 s9 s10
  have hx' : (x : Int) < (m : Nat) := by omega
  have hxi : x < (mat A i).length := by rw [lA hi]; exact hx
  have hrx := isLL_row hmi hxi
  simp (maxSteps := 10000000) (disch := first | assumption | omega) only [go_sem, ↓reduceIte, Nat.reduceEqDiff, reduceCtorEq, Nat.reduceAdd, Nat.reduceMul, Nat.reduceLeDiff, zc, Int.reduceToNat, s2, s3, s4, r4096, s5, r4112, s9, s10, hx', hx]
  refine WK_for (fun y st => st.sl 2 = i64 i ∧ st.sl 3 = i64 j ∧ st.sl 4 = .ptr 4096 1 [] 0 ∧ st.ro 4096 1 = some (.bx [c]) ∧ st.sl 5 = .ptr 4112 1 [] 0 ∧ st.ro 4112 1 = some (.bx [a]) ∧ st.sl 9 = i64 (m : Nat) ∧ st.sl 10 = i64 (x : Int) ∧ st.sl 11 = i64 (y : Int) ∧ (∀ v, v < y → sm (lfA A i j x v) m = sm (rgA T A i j x v) T.length)) m ?_ ?_ ?_
  ·simp only [↓za, ↓reduceIte, Nat.reduceEqDiff, zb, reduceCtorEq, rws_zero, s2, s3, s4, r4096, s5, r4112, s9, s10, hx', hx]
   repeat' first | exact lt0 | rfl | apply And.intro
  ·rintro y sl ro gn hy ⟨s2, s3, s4, r4096, s5, r4112, s9, s10, s11, q2⟩
   dsimp only at s2 s3 s4 r4096 s5 r4112 s9 s10 s11
   have hy' : (y : Int) < (m : Nat) := by omega
   simp (maxSteps := 10000000) (disch := first | assumption | omega) only [go_sem, ↓reduceIte, Nat.reduceEqDiff, reduceCtorEq, Nat.reduceAdd, Nat.reduceMul, Nat.reduceLeDiff, zc, Int.reduceToNat, s2, s3, s4, r4096, s5, r4112, s9, s10, s11, hy', hy]
   refine WK_for (fun z st => st.sl 2 = i64 i ∧ st.sl 3 = i64 j ∧ st.sl 4 = .ptr 4096 1 [] 0 ∧ st.ro 4096 1 = some (.bx [c]) ∧ st.sl 5 = .ptr 4112 1 [] 0 ∧ st.ro 4112 1 = some (.bx [a]) ∧ st.sl 9 = i64 (m : Nat) ∧ st.sl 10 = i64 (x : Int) ∧ st.sl 11 = i64 (y : Int) ∧ st.sl 12 = i64 (sm (lfA A i j x y) z) ∧ st.sl 13 = i64 0 ∧ st.sl 14 = i64 (z : Int)) m ?_ ?_ ?_
   ·simp only [↓za, ↓reduceIte, Nat.reduceEqDiff, zb, reduceCtorEq, rws_zero, s2, s3, s4, r4096, s5, r4112, s9, s10, s11, hy', hy]
    repeat' first | exact lt0 | rfl | apply And.intro
   ·rintro z sl ro gn hz ⟨s2, s3, s4, r4096, s5, r4112, s9, s10, s11, s12, s13, s14⟩
    dsimp only at s2 s3 s4 r4096 s5 r4112 s9 s10 s11 s12 s13 s14
    have hz' : (z : Int) < (m : Nat) := by omega
    have hz1 : z < (row (mat A i) x).length := by rw [lR hi hx]; exact hz
    have hz2 : z < (mat A j).length := by rw [lA hj]; exact hz
    have hrz := isLL_row hmj hz2
    have hy1 : y < (row (mat A j) z).length := by rw [lR hj hz]; exact hy
    have b1 := sm_bnd (lf x y) z
    have b2 := lf x y z
    have eP : atI (row (mat A i) x) z * atI (row (mat A j) z) y = lfA A i j x y z := rfl
    simp (maxSteps := 10000000) (disch := first | assumption | omega) only [go_sem, ↓reduceIte, Nat.reduceEqDiff, reduceCtorEq, Nat.reduceAdd, Nat.reduceMul, Nat.reduceLeDiff, zc, Int.reduceToNat, s2, s3, s4, r4096, s5, r4112, s9, s10, s11, s12, s13, s14, hz', hz, isLL_idx hmi hxi, isL_idx hrx hz1, isLL_idx hmj hz2, isL_idx hrz hy1, eP]
    refine FIN_of (by kernel_rfl) ?_
    simp (maxSteps := 10000000) (disch := first | assumption | omega) only [go_sem, ↓reduceIte, Nat.reduceEqDiff, reduceCtorEq, Nat.reduceAdd, Nat.reduceMul, Nat.reduceLeDiff, zc, Int.reduceToNat, s2, s3, s4, r4096, s5, r4112, s9, s10, s11, s12, s13, s14, hz', hz]
    exact ⟨i64c rfl, i64c (by omega)⟩
   ·rintro sl ro gn ⟨s2, s3, s4, r4096, s5, r4112, s9, s10, s11, s12, s13, s14⟩
    dsimp only at s2 s3 s4 r4096 s5 r4112 s9 s10 s11 s12 s13 s14
    have hz' : ¬ ((m : Nat) : Int) < (m : Nat) := by omega
    simp (maxSteps := 10000000) (disch := first | assumption | omega) only [go_sem, ↓reduceIte, Nat.reduceEqDiff, reduceCtorEq, Nat.reduceAdd, Nat.reduceMul, Nat.reduceLeDiff, zc, Int.reduceToNat, s2, s3, s4, r4096, s5, r4112, s9, s10, s11, s12, s13, s14, hz']
    refine WK_for (fun k st => st.sl 2 = i64 i ∧ st.sl 3 = i64 j ∧ st.sl 4 = .ptr 4096 1 [] 0 ∧ st.ro 4096 1 = some (.bx [c]) ∧ st.sl 5 = .ptr 4112 1 [] 0 ∧ st.ro 4112 1 = some (.bx [a]) ∧ st.sl 9 = i64 (m : Nat) ∧ st.sl 10 = i64 (x : Int) ∧ st.sl 11 = i64 (y : Int) ∧ st.sl 14 = i64 (m : Int) ∧ st.sl 12 = i64 (sm (lfA A i j x y) m) ∧ st.sl 13 = i64 (sm (rgA T A i j x y) k) ∧ st.sl 15 = i64 (k : Int)) T.length ?_ ?_ ?_
    ·simp only [↓za, ↓reduceIte, Nat.reduceEqDiff, zb, reduceCtorEq, rws_zero, s2, s3, s4, r4096, s5, r4112, s9, s10, s11, s12, s13, s14, hz']
     repeat' first | exact lt0 | rfl | apply And.intro
    ·rintro k sl ro gn hk ⟨s2, s3, s4, r4096, s5, r4112, s9, s10, s11, s14, s12, s13, s15⟩
     dsimp only at s2 s3 s4 r4096 s5 r4112 s9 s10 s11 s14 s12 s13 s15
     have hk' : (k : Int) < (T.length : Nat) := by omega
     have hkA : k < A.length := by omega
     have hmk := isLLL_mat ha hkA
     have hxk : x < (mat A k).length := by rw [lA hk]; exact hx
     have hrk := isLL_row hmk hxk
     have hyk : y < (row (mat A k) x).length := by rw [lR hk hx]; exact hy
     have hkc : k < (row (mat T i) j).length := by rw [lcj]; exact hk
     have b1 := sm_bnd (rg x y) k
     have b2 := rg x y k
     have eP : atI (row (mat T i) j) k * atI (row (mat A k) x) y = rgA T A i j x y k := rfl
     simp (maxSteps := 10000000) (disch := first | assumption | omega) only [go_sem, ↓reduceIte, Nat.reduceEqDiff, reduceCtorEq, Nat.reduceAdd, Nat.reduceMul, Nat.reduceLeDiff, zc, Int.reduceToNat, s2, s3, s4, r4096, s5, r4112, s9, s10, s11, s14, s12, s13, s15, hk', hk, isLLL_len hc, isLL_idx hci hjc, isL_idx hcj hkc, isLL_idx hmk hxk, isL_idx hrk hyk, eP]
     refine FIN_of (by kernel_rfl) ?_
     simp (maxSteps := 10000000) (disch := first | assumption | omega) only [go_sem, ↓reduceIte, Nat.reduceEqDiff, reduceCtorEq, Nat.reduceAdd, Nat.reduceMul, Nat.reduceLeDiff, zc, Int.reduceToNat, s2, s3, s4, r4096, s5, r4112, s9, s10, s11, s14, s12, s13, s15, hk', hk]
     exact ⟨i64c rfl, i64c (by omega)⟩
    ·rintro sl ro gn ⟨s2, s3, s4, r4096, s5, r4112, s9, s10, s11, s14, s12, s13, s15⟩
     dsimp only at s2 s3 s4 r4096 s5 r4112 s9 s10 s11 s14 s12 s13 s15
     have hk' : ¬ ((T.length : Nat) : Int) < (T.length : Nat) := by omega
     by_cases he : sm (lfA A i j x y) m = sm (rgA T A i j x y) T.length
     ·simp (maxSteps := 10000000) (disch := first | assumption | omega) only [go_sem, ↓reduceIte, Nat.reduceEqDiff, reduceCtorEq, Nat.reduceAdd, Nat.reduceMul, Nat.reduceLeDiff, zc, Int.reduceToNat, s2, s3, s4, r4096, s5, r4112, s9, s10, s11, s14, s12, s13, s15, hk', isLLL_len hc, eq_true he]
      exact ⟨i64c (by omega), ltS q2 he⟩
     ·simp (maxSteps := 10000000) (disch := first | assumption | omega) only [go_sem, ↓reduceIte, Nat.reduceEqDiff, reduceCtorEq, Nat.reduceAdd, Nat.reduceMul, Nat.reduceLeDiff, zc, Int.reduceToNat, s2, s3, s4, r4096, s5, r4112, s9, s10, s11, s14, s12, s13, s15, hk', isLLL_len hc, eq_false he]
      refine Yab ?_
      exact bool_false ht2 fun h => he (h x hx y hy)
  ·rintro sl ro gn ⟨s2, s3, s4, r4096, s5, r4112, s9, s10, s11, q2⟩
   dsimp only at s2 s3 s4 r4096 s5 r4112 s9 s10 s11
   have hy' : ¬ ((m : Nat) : Int) < (m : Nat) := by omega
   simp (maxSteps := 10000000) (disch := first | assumption | omega) only [go_sem, ↓reduceIte, Nat.reduceEqDiff, reduceCtorEq, Nat.reduceAdd, Nat.reduceMul, Nat.reduceLeDiff, zc, Int.reduceToNat, s2, s3, s4, r4096, s5, r4112, s9, s10, s11, hy']
   exact ⟨i64c (by omega), ltS q q2⟩
 ·rintro sl ro gn ⟨s2, s3, s4, r4096, s5, r4112, s9, s10, q⟩
  dsimp only at s2 s3 s4 r4096 s5 r4112 s9 s10
  have hx' : ¬ ((m : Nat) : Int) < (m : Nat) := by omega
  simp (maxSteps := 10000000) (disch := first | assumption | omega) only [go_sem, ↓reduceIte, Nat.reduceEqDiff, reduceCtorEq, Nat.reduceAdd, Nat.reduceMul, Nat.reduceLeDiff, zc, Int.reduceToNat, s2, s3, s4, r4096, s5, r4112, s9, s10, hx']
  refine Yab ?_
  exact (ht2.2 q).symm
theorem cActFS {c a : AV} {T A : List (List (List Int))} (hc : isLLL c T) (ha : isLLL a A) (hR : RngP T) (hF : FamP T.length A) : CallOK Tryz.prog 35 [.agg [c], .agg [a]] (optA (AF T A)) := by
 obtain ⟨t1, t16, hcu⟩ := id hR.1
 obtain ⟨f1, f2, f3, f4⟩ := id hF
 obtain ⟨m, hm⟩ : ∃ m, m = (mat A 0).length := ⟨_, rfl⟩
 have hT0 : 0 < T.length := by omega
 have hA0 : 0 < A.length := by omega
 have hm0 := isLLL_mat ha hA0
 have l0 : (mat A 0).length = m := hm.symm
 have lA : ∀ {i}, i < T.length → (mat A i).length = m := fun h => (f4 _ h).1.trans hm.symm
 have lR : ∀ {i x}, i < T.length → x < m → (row (mat A i) x).length = m := fun h hx => ((f4 _ h).2 _ (by omega)).1.trans hm.symm
 have hmN : m ≤ maxN := by unfold maxN; omega
 have cU := cUnit hmN
 have rU : ∀ i, i < (matL unM m m).length → (row (matL unM m m) i).length ≤ maxN := fun x hx => by rw [matL_len2] at hx; rw [matL_row2 hx]; exact hmN
 have rA : ∀ {k}, k < T.length → ∀ x, x < (mat A k).length → (row (mat A k) x).length ≤ maxN := fun hk x hx => by rw [lA hk] at hx; rw [lR hk hx]; exact hmN
 have cE0 : ∀ {t : Bool}, (t = true ↔ mat A 0 = matL unM m m) → _ := fun {t} ht => cSame2 (t := t) hm0 (isLL_imm (matL unM m m)) (by omega) (rA hT0) rU ht
 refine call_of (fn := Tryz.f35) (code := bodyOf Tryz.f35) Tryz.func35 rfl (by kernel_rfl) (noRef_optA _) ?_
 intro sl hs
 have s0 : sl 0 = .agg [c] := hs 0
 have s1 : sl 1 = .agg [a] := hs 1
 by_cases hU : mat A 0 = matL unM m m
 ·have hU' : mat A 0 = matL unM (mat A 0).length (mat A 0).length := by rw [← hm]; exact hU
  have cE := cE0 (t := true) ⟨fun _ => hU, fun _ => rfl⟩
  dsimp only [Tryz.f35, bodyOf, Option.getD]
  refine Ybm ?_
  refine CLLD_pure _ cU PUt rfl ?_
  refine Yas ?_
  refine CLLD_q _ cE (.cons (exq_LL hm0 (by decide)) (.cons (exq_mat Ur (by decide)) .nil)) rfl rfl ?_
  refine Yaa ?_
  refine FIN_of (by kernel_rfl) ?_
  refine Yaa ?_
  refine WK_for (fun i st => st.sl 2 = .ptr 4096 1 [] 0 ∧ st.ro 4096 1 = some (.bx [c]) ∧ st.sl 3 = .ptr 4112 1 [] 0 ∧ st.ro 4112 1 = some (.bx [a]) ∧ st.sl 5 = i64 (T.length : Nat) ∧ st.sl 6 = i64 (i : Int) ∧ (∀ x, x < i → (fnd T.length fun k => a1 T A x k) = none)) T.length ?_ ?_ ?_
  ·refine Yak ?_
   repeat' first | exact lt0 | rfl | apply And.intro
  ·rintro i sl ro gn hi ⟨s2, r4096, s3, r4112, s5, s6, q⟩
   dsimp only at s2 r4096 s3 r4112 s5 s6
   have hi' : (i : Int) < (T.length : Nat) := by omega
   simp (maxSteps := 10000000) (disch := first | assumption | omega) only [go_sem, ↓reduceIte, Nat.reduceEqDiff, reduceCtorEq, Nat.reduceAdd, Nat.reduceMul, Nat.reduceLeDiff, zc, Int.reduceToNat, s2, r4096, s3, r4112, s5, s6, hi', hi]
   refine WK_for (fun j st => st.sl 2 = .ptr 4096 1 [] 0 ∧ st.ro 4096 1 = some (.bx [c]) ∧ st.sl 3 = .ptr 4112 1 [] 0 ∧ st.ro 4112 1 = some (.bx [a]) ∧ st.sl 5 = i64 (T.length : Nat) ∧ st.sl 6 = i64 (i : Int) ∧ st.sl 7 = i64 (j : Int) ∧ (∀ x, x < j → a1 T A i x = none)) T.length ?_ ?_ ?_
   ·simp only [↓za, ↓reduceIte, Nat.reduceEqDiff, zb, reduceCtorEq, rws_zero, s2, r4096, s3, r4112, s5, s6, hi', hi]
    repeat' first | exact lt0 | rfl | apply And.intro
   ·rintro j sl ro gn hj ⟨s2, r4096, s3, r4112, s5, s6, s7, qq⟩
    dsimp only at s2 r4096 s3 r4112 s5 s6 s7
    have hj' : (j : Int) < (T.length : Nat) := by omega
    by_cases hP : PrA T A i j
    ·have cP := cPrdS hc ha hR.1 hF hi hj (t := true) ⟨fun _ => hP, fun _ => rfl⟩
     refine Ybb ?_
     refine CLL_pure _ cP PUt rfl rfl ?_
     refine Ybb ?_
     exact ⟨i64c (by omega), ltS qq (if_pos hP)⟩
    ·have cP := cPrdS hc ha hR.1 hF hi hj (t := false) ⟨fun h => (nomatch h), fun h => absurd h hP⟩
     refine Ybb ?_
     refine CLL_pure _ cP PUt rfl rfl ?_
     refine Ybb ?_
     simp only [zr, zb, retR, resL, outT, outL, zes, zez, oneV, zcp, zed, zfi, Ro.dl, St.ev, zhk, ↓za, ↓reduceIte, Nat.reduceEqDiff, Nat.reduceAdd, Nat.reduceLeDiff, AF1 hU' (fnd_some (k := i) (fnd_some (k := j) (if_neg hP) qq hj) q hi)]
     rfl
   ·rintro sl ro gn ⟨s2, r4096, s3, r4112, s5, s6, s7, qq⟩
    dsimp only at s2 r4096 s3 r4112 s5 s6 s7
    have hj' : ¬ ((T.length : Nat) : Int) < (T.length : Nat) := by omega
    simp (maxSteps := 10000000) (disch := first | assumption | omega) only [go_sem, ↓reduceIte, Nat.reduceEqDiff, reduceCtorEq, Nat.reduceAdd, Nat.reduceMul, Nat.reduceLeDiff, zc, Int.reduceToNat, s2, r4096, s3, r4112, s5, s6, s7, hj']
    exact ⟨i64c (by omega), ltS q (fnd_none.2 qq)⟩
  ·rintro sl ro gn ⟨s2, r4096, s3, r4112, s5, s6, q⟩
   dsimp only at s2 r4096 s3 r4112 s5 s6
   have hi' : ¬ ((T.length : Nat) : Int) < (T.length : Nat) := by omega
   have e1 : A1 T A = none := fnd_none.2 q
   rw [AF2 hU' e1]
   simp (maxSteps := 10000000) (disch := first | assumption | omega) only [go_sem, ↓reduceIte, Nat.reduceEqDiff, reduceCtorEq, Nat.reduceAdd, Nat.reduceMul, Nat.reduceLeDiff, zc, Int.reduceToNat, s2, r4096, s3, r4112, s5, s6, hi']
   refine CLL_pure _ (cDualsS hc hR.1) PUt rfl rfl ?_
   simp (maxSteps := 10000000) (disch := first | assumption | omega) only [go_sem, ↓reduceIte, Nat.reduceEqDiff, reduceCtorEq, Nat.reduceAdd, Nat.reduceMul, Nat.reduceLeDiff, zc, Int.reduceToNat, s2, r4096, s3, r4112, s5, s6, hi', impE_row, zfe]
   refine WK_for (fun i st => st.sl 2 = .ptr 4096 1 [] 0 ∧ st.ro 4096 1 = some (.bx [c]) ∧ st.sl 3 = .ptr 4112 1 [] 0 ∧ st.ro 4112 1 = some (.bx [a]) ∧ st.sl 5 = i64 (T.length : Nat) ∧ st.sl 8 = .ref 53264 (st.gn 53264) [] 0 T.length ∧ st.ro 53264 (st.gn 53264) = some (.row (rws (fun i => i64 (dlT T i)) T.length)) ∧ st.sl 9 = i64 (i : Int) ∧ (∀ x, x < i → a2 T A x = none)) T.length ?_ ?_ ?_
   ·simp only [↓za, ↓reduceIte, Nat.reduceEqDiff, zb, reduceCtorEq, rws_zero, s2, r4096, s3, r4112, s5, s6, hi']
    repeat' first | exact lt0 | rfl | apply And.intro
   ·rintro i sl ro gn hi ⟨s2, r4096, s3, r4112, s5, s8, r53264, s9, q2⟩
    dsimp only at s2 r4096 s3 r4112 s5 s8 r53264 s9
    have hi' : (i : Int) < (T.length : Nat) := by omega
    obtain ⟨d1, d2⟩ := dd_ok hR hi
    have hdA : dd T i < A.length := by omega
    have hiA : i < A.length := by omega
    have hmd := isLLL_mat ha hdA
    have hmi := isLLL_mat ha hiA
    have ct := cTurnM hmi (by rw [lA hi]; omega) (by rw [lA hi]; omega) (fun x hx => by rw [lA hi] at hx; rw [lR hi hx, lR hi (by omega)]) (by rw [lR hi (by omega)]; omega)
    have lt : (trp (mat A i)).length = m := by unfold trp; rw [zfe, lR hi (by omega)]
    have rt : ∀ x, x < (trp (mat A i)).length → (row (trp (mat A i)) x).length ≤ maxN := fun x hx => by
     rw [lt] at hx
     unfold trp
     rw [row_rws _ (by rw [lR hi (by omega)]; exact hx), zfe, lA hi]
     exact hmN
    have cE1 : ∀ {t : Bool}, (t = true ↔ mat A (dd T i) = trp (mat A i)) → _ := fun {t} ht => cSame2 (t := t) hmd (isLL_imm (trp (mat A i))) (by rw [lA d2]; exact hmN) (rA d2) rt ht
    by_cases hQ : mat A (dd T i) = trp (mat A i)
    ·have cE := cE1 (t := true) ⟨fun _ => hQ, fun _ => rfl⟩
     refine Ycg ?_
     refine CLLD_pure _ ct PUt rfl ?_
     refine Ych ?_
     refine CLLD_q _ cE (.cons (exq_LL hmd (by decide)) (.cons (exq_refLL Ur rfl (by decide)) .nil)) rfl rfl ?_
     refine Yaw ?_
     refine FIN_of (by kernel_rfl) ?_
     refine Yaw ?_
     exact ⟨i64c (by omega), ltS q2 (if_pos hQ)⟩
    ·have cE := cE1 (t := false) ⟨fun h => (nomatch h), fun h => absurd h hQ⟩
     refine Ycg ?_
     refine CLLD_pure _ ct PUt rfl ?_
     refine Ych ?_
     refine CLLD_q _ cE (.cons (exq_LL hmd (by decide)) (.cons (exq_refLL Ur rfl (by decide)) .nil)) rfl rfl ?_
     refine Yaw ?_
     refine FIN_of (by kernel_rfl) ?_
     refine Yaw ?_
     have e2 : A2 T A = some [2, (i : Int)] := fnd_some (k := i) (if_neg hQ) q2 hi
     simp only [zr, zb, retR, resL, outT, outL, zes, zez, oneV, zcp, zed, zfi, Ro.dl, St.ev, zhk, ↓za, ↓reduceIte, Nat.reduceEqDiff, Nat.reduceAdd, Nat.reduceLeDiff, e2]
     rfl
   ·rintro sl ro gn ⟨s2, r4096, s3, r4112, s5, s8, r53264, s9, q2⟩
    dsimp only at s2 r4096 s3 r4112 s5 s8 r53264 s9
    have hi' : ¬ ((T.length : Nat) : Int) < (T.length : Nat) := by omega
    have e2 : A2 T A = none := fnd_none.2 q2
    rw [e2]
    simp (maxSteps := 10000000) (disch := first | assumption | omega) only [go_sem, ↓reduceIte, Nat.reduceEqDiff, reduceCtorEq, Nat.reduceAdd, Nat.reduceMul, Nat.reduceLeDiff, zc, Int.reduceToNat, s2, r4096, s3, r4112, s5, s8, r53264, s9, hi']
    refine Yab ?_
    rfl
 ·have hU' : mat A 0 ≠ matL unM (mat A 0).length (mat A 0).length := by rw [← hm]; exact hU
  have cE := cE0 (t := false) ⟨fun h => (nomatch h), fun h => absurd h hU⟩
  dsimp only [Tryz.f35, bodyOf, Option.getD]
  refine Ybm ?_
  refine CLLD_pure _ cU PUt rfl ?_
  refine Yas ?_
  refine CLLD_q _ cE (.cons (exq_LL hm0 (by decide)) (.cons (exq_mat Ur (by decide)) .nil)) rfl rfl ?_
  refine Yaa ?_
  refine FIN_of (by kernel_rfl) ?_
  refine Yaa ?_
  simp only [zr, zb, retR, resL, outT, outL, zes, zez, oneV, zcp, zed, zfi, Ro.dl, St.ev, zhk, ↓za, ↓reduceIte, Nat.reduceEqDiff, Nat.reduceAdd, Nat.reduceLeDiff, AF0 hU']
  rfl
theorem AF_len {T A : List (List (List Int))} {l : List Int} (h : AF T A = some l) : 0 < l.length := by
 have k1 : ∀ {v}, A1 T A = some v → 0 < v.length := fun h => by
  obtain ⟨i, -, h⟩ := fnd_ex h
  obtain ⟨k, -, h⟩ := fnd_ex h
  unfold a1 at h
  split at h
  ·cases h
  ·obtain rfl := Option.some.inj h; simp
 have k2 : ∀ {v}, A2 T A = some v → 0 < v.length := fun h => by
  obtain ⟨i, -, h⟩ := fnd_ex h
  unfold a2 at h
  split at h
  ·cases h
  ·obtain rfl := Option.some.inj h; simp
 unfold AF at h
 split at h
 ·split at h
  ·rename_i v hv; obtain rfl := Option.some.inj h; exact k1 hv
  ·exact k2 h
 ·obtain rfl := Option.some.inj h; simp
theorem cIsActS {c a : AV} {T A : List (List (List Int))} (hc : isLLL c T) (ha : isLLL a A) {t : Bool} (ht : t = true ↔ ActP T A) : CallOK Tryz.prog 18 [.agg [c], .agg [a]] (bo t) := by
 refine call_of (fn := Tryz.f18) (code := bodyOf Tryz.f18) Tryz.func18 rfl (by kernel_rfl) (rfl) ?_
 intro sl hs
 have s0 : sl 0 = .agg [c] := hs 0
 have s1 : sl 1 = .agg [a] := hs 1
 by_cases hR : RngP T
 ·have cR := cIsS hc (t := true) ⟨fun _ => hR, fun _ => rfl⟩
  have hT0 : 0 < T.length := by have := hR.1.1; omega
  have hT6 : T.length ≤ 16 := hR.1.2.1
  by_cases hF : FamP T.length A
  ·have cF := cFamS hc ha hT0 hT6 (t := true) ⟨fun _ => hF, fun _ => rfl⟩
   have cA := cActFS hc ha hR hF
   cases hr : AF T A with
   | none =>
    rw [hr] at cA
    have ht' : t = true := ht.2 ⟨hR, hF, hr⟩
    dsimp only [Tryz.f18, bodyOf, Option.getD]
    refine Yah ?_
    refine CLL_pure _ cR PUt rfl rfl ?_
    refine Yaa ?_
    refine CLL_pure _ cF PUt rfl rfl ?_
    refine Yaa ?_
    refine CLL_pure _ cA PUt rfl rfl ?_
    simp (maxSteps := 10000000) (disch := first | assumption | omega) only [go_sem, ↓reduceIte, Nat.reduceEqDiff, reduceCtorEq, Nat.reduceAdd, Nat.reduceMul, Nat.reduceLeDiff, zc, Int.reduceToNat, s0, s1, optA, kLen_nil]
    exact Yae
   | some l =>
    have ht' : t = false := by
     cases t with
     | false => rfl
     | true => have := (ht.1 rfl).2.2; rw [hr] at this; cases this
    have hl : 0 < l.length := AF_len hr
    rw [hr] at cA
    have hl' : ¬ (l.length : Int) = 0 := by omega
    dsimp only [Tryz.f18, bodyOf, Option.getD]
    refine Yah ?_
    refine CLL_pure _ cR PUt rfl rfl ?_
    refine Yaa ?_
    refine CLL_pure _ cF PUt rfl rfl ?_
    refine Yaa ?_
    refine CLL_pure _ cA PUt rfl rfl ?_
    simp (maxSteps := 10000000) (disch := first | assumption | omega) only [go_sem, ↓reduceIte, Nat.reduceEqDiff, reduceCtorEq, Nat.reduceAdd, Nat.reduceMul, Nat.reduceLeDiff, zc, Int.reduceToNat, s0, s1, optA, rowL, impE_row, List.length_map, eq_false hl']
    exact Yae
  ·have cF := cFamS hc ha hT0 hT6 (t := false) ⟨fun h => (nomatch h), fun h => absurd h hF⟩
   have ht' : t = false := by
    cases t with
    | false => rfl
    | true => exact absurd (ht.1 rfl).2.1 hF
   dsimp only [Tryz.f18, bodyOf, Option.getD]
   refine Yah ?_
   refine CLL_pure _ cR PUt rfl rfl ?_
   refine Yaa ?_
   refine CLL_pure _ cF PUt rfl rfl ?_
   refine Ybj ?_
   exact Yae
 ·have cR := cIsS hc (t := false) ⟨fun h => (nomatch h), fun h => absurd h hR⟩
  have ht' : t = false := by
   cases t with
   | false => rfl
   | true => exact absurd (ht.1 rfl).1 hR
  dsimp only [Tryz.f18, bodyOf, Option.getD]
  refine Yah ?_
  refine CLL_pure _ cR PUt rfl rfl ?_
  refine Ybj ?_
  exact Yae
end Go.Proofs.YtdpinkgkmcbckaaGreat
