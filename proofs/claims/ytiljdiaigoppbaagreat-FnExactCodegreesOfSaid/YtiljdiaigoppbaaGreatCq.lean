/- Texts joined: Cl1 Cl2. -/
import Derived.Test.YtiljdiaigoppbaaGreatCp
set_option linter.all false
/- Rings as a statement hands them in: sizes, copies, equality, marks. -/
namespace Go.Proofs.YtiljdiaigoppbaaGreat
open Go.RowKit
set_option maxRecDepth 1000000
theorem tiRg : ti0 24 = some ⟨1, true, [Value.slice none 0 0], none, [(0, 22)], none, false, false⟩ := by kernel_rfl
attribute [go_sem] tiRg isLLLw_lift isLLLw_cellB
section
variable {T : List (List (List Int))} {a : AV}
theorem cSzRC {left : Int} (ha : isLLLw a T) (hx : T.length < 2^63) (hr : ∀ i, (mat T i).length < 2^63) (hr2 : ∀ i j, (row (mat T i) j).length < 2^63) (h1 : 0 ≤ left) (h2 : left ≤ 1048576) : CallOK Tryz.prog 6 [.agg [a], i64 left] (i64 (szV (szT T (left - T.length) T.length))) := by
 refine call_of (fn := Tryz.f6) (code := bodyOf Tryz.f6) Tryz.func6 rfl (by kernel_rfl) (rfl) ?_
 intro sl hs
 have s0 : sl 0 = .agg [a] := hs 0
 have s1 : sl 1 = i64 left := hs 1
 dsimp only [Tryz.f6, bodyOf, Option.getD]
 simp (maxSteps := 10000000) (disch := first | assumption | omega) only [go_sem, ↓reduceIte, Nat.reduceEqDiff, reduceCtorEq, Nat.reduceAdd, Nat.reduceMul, Nat.reduceLeDiff, zc, Int.reduceToNat, s0, s1, tiRg, ti31]
 refine CLL_pure _ (cSzT ha hx hr hr2 h1 h2) (by simp (disch := assumption) only [pureL, pureA, isLw_pure, isLLw_pure, isLLLw_pure, pureL_map, Bool.and_self, Bool.and_true]) rfl rfl ?_
 by_cases h : szT T (left - T.length) T.length < 0
 ·have e : szV (szT T (left - T.length) T.length) = -1 := if_pos h
  rw [e]
  simp (maxSteps := 10000000) (disch := first | assumption | omega) only [go_sem, ↓reduceIte, Nat.reduceEqDiff, reduceCtorEq, Nat.reduceAdd, Nat.reduceMul, Nat.reduceLeDiff, zc, Int.reduceToNat, s0, s1]
  simp only [zr, zb, retR, resL, outT, outL, zes, zez, oneV, zcp, zed, zfi, Ro.dl, St.ev, zhk, ↓za, ↓reduceIte, Nat.reduceEqDiff, Nat.reduceAdd, Nat.reduceLeDiff]
 ·have e : szV (szT T (left - T.length) T.length) = szT T (left - T.length) T.length := if_neg h
  rw [e]
  simp (maxSteps := 10000000) (disch := first | assumption | omega) only [go_sem, ↓reduceIte, Nat.reduceEqDiff, reduceCtorEq, Nat.reduceAdd, Nat.reduceMul, Nat.reduceLeDiff, zc, Int.reduceToNat, s0, s1, h]
  simp only [zr, zb, retR, resL, outT, outL, zes, zez, oneV, zcp, zed, zfi, Ro.dl, St.ev, zhk, ↓za, ↓reduceIte, Nat.reduceEqDiff, Nat.reduceAdd, Nat.reduceLeDiff]
theorem cToRC (ha : isLLLw a T) (hT : SzP T) : CallOK Tryz.prog 8 [.agg [a]] (.agg [rowLLL T]) := by
 refine call_of (fn := Tryz.f8) (code := bodyOf Tryz.f8) Tryz.func8 rfl (by kernel_rfl) (by have h := noRef_rowLLL T; simp only [noRef, noRefL, Bool.and_true] at h ⊢; exact h) ?_
 intro sl hs
 have s0 : sl 0 = .agg [a] := hs 0
 dsimp only [Tryz.f8, bodyOf, Option.getD]
 simp (maxSteps := 10000000) (disch := first | assumption | omega) only [go_sem, ↓reduceIte, Nat.reduceEqDiff, reduceCtorEq, Nat.reduceAdd, Nat.reduceMul, Nat.reduceLeDiff, zc, Int.reduceToNat, s0, tiRg, ti31, ti33]
 refine CLL_pure _ (cToT ha hT.1 hT.2) (by simp (disch := assumption) only [pureL, pureA, isLw_pure, isLLw_pure, isLLLw_pure, pureL_map, Bool.and_self, Bool.and_true]) rfl rfl ?_
 simp (maxSteps := 10000000) (disch := first | assumption | omega) only [go_sem, ↓reduceIte, Nat.reduceEqDiff, reduceCtorEq, Nat.reduceAdd, Nat.reduceMul, Nat.reduceLeDiff, zc, Int.reduceToNat, s0]
 simp only [zr, zb, retR, resL, outT, outL, zes, zez, oneV, zcp, zed, zfi, Ro.dl, St.ev, zhk, ↓za, ↓reduceIte, Nat.reduceEqDiff, Nat.reduceAdd, Nat.reduceLeDiff, outL, zfi, zfh, zev, zex, List.all_cons, List.all_nil, zep, Option.isSome_some, ti33, List.length_cons, List.length_nil]
theorem cEqRC (hT : SzP T) : CallOK Tryz.prog 11 [.agg [immLLL T], .agg [immLLL T]] (bo true) := by
 have h1 := isLLL_imm T
 refine call_of (fn := Tryz.f11) (code := bodyOf Tryz.f11) Tryz.func11 rfl (by kernel_rfl) (rfl) ?_
 intro sl hs
 have s0 : sl 0 = .agg [immLLL T] := hs 0
 have s1 : sl 1 = .agg [immLLL T] := hs 1
 dsimp only [Tryz.f11, bodyOf, Option.getD]
 simp (maxSteps := 10000000) (disch := first | assumption | omega) only [go_sem, ↓reduceIte, Nat.reduceEqDiff, reduceCtorEq, Nat.reduceAdd, Nat.reduceMul, Nat.reduceLeDiff, zc, Int.reduceToNat, s0, s1]
 refine CLL_pure _ (cEqT h1 h1 hT.1 hT.2) (by simp only [pureL, show pureA (immLLL T) = true from isLLL_pure h1, Bool.and_self]) rfl rfl ?_
 simp (maxSteps := 10000000) (disch := first | assumption | omega) only [go_sem, ↓reduceIte, Nat.reduceEqDiff, reduceCtorEq, Nat.reduceAdd, Nat.reduceMul, Nat.reduceLeDiff, zc, Int.reduceToNat, s0, s1]
 simp only [zr, zb, retR, resL, outT, outL, zes, zez, oneV, zcp, zed, zfi, Ro.dl, St.ev, zhk, ↓za, ↓reduceIte, Nat.reduceEqDiff, Nat.reduceAdd, Nat.reduceLeDiff]
end
theorem plc_twoC (s g i j : Nat) (rs ts : List AV) (hi : i < rs.length) (hj : j < ts.length) : Plc s g [i, j] (fun cs => .row (rs.set i (.row (ts.set j (.row cs))))) := by
 refine ⟨fun ro cs h => ?_, fun ro cs h => ?_, fun f cs => ?_⟩
 ·simp [Ro.cells, Ro.at, h, ath, hi, hj]
 ·simp [isBxAt, Ro.at, h, ath, hi, hj]
 ·simp [putR, hi, hj]
theorem in43q {s g i : Nat} {rs : List AV} {css : List (List AV)} {ro : Ro} {gn : Nat → Nat} {k : Int} (hi : i < rs.length) (hro : ro s g = some (.row (rs.set i (.row (rowsOf css))))) (hn : css.length ≤ maxN) (hn2 : ∀ j, (css.getD j []).length ≤ maxN) (hk : 0 ≤ k) (hk2 : k + sumN (css.map List.length) ≤ 2^62) :
  InOK Tryz.prog 13 [.ref s g [i] 0 css.length, i64 k] ro gn (i64 (k + sumN (css.map List.length))) (upr ro s g (.row (rs.set i (.row (labsA k (css.map List.length)))))) gn := by
 refine in_of (fn := Tryz.f13) (code := bodyOf Tryz.f13) Tryz.func13 rfl (by kernel_rfl) ?_
 intro sl hs
 have s0 : sl 0 = .ref s g [i] 0 css.length := hs 0
 have s1 : sl 1 = i64 k := hs 1
 have hn' : css.length ≤ 4294967296 := hn
 have hsg : ∀ X, (rs.set i X)[i]? = some X := fun X => by simp [hi]
 simp only [Tryz.f13, bodyOf, Option.getD, go_sem, ↓reduceIte, Nat.reduceEqDiff, reduceCtorEq, Nat.reduceAdd, Nat.reduceMul, Nat.reduceLeDiff, ti2, ti3, ti4, ti22, s0, s1]
 refine WK_for (fun j st => st.sl 0 = .ref s g [i] 0 css.length ∧ st.sl 1 = i64 (k + sumN ((css.map List.length).take j)) ∧ st.sl 5 = i64 (j : Int) ∧ st.ro = upr ro s g (.row (rs.set i (.row (mkr k j css)))) ∧ st.gn = gn) css.length ?_ ?_ ?_
 ·simp only [↓za, ↓reduceIte, Nat.reduceEqDiff, zb, reduceCtorEq, s0, s1, Int.natCast_zero, Int.add_zero, List.take_zero, sumN]
  exact (upr_id _ _ _ _ hro).symm
 ·rintro j sl ro' gn' hj ⟨s0, s1, s5, rfl, rfl⟩
  dsimp only at s0 s1 s5
  have hj' : (j : Int) < css.length := by omega
  simp (maxSteps := 10000000) (disch := first | omega | assumption) only [go_sem, ↓reduceIte, Nat.reduceEqDiff, reduceCtorEq, Nat.reduceAdd, Nat.reduceMul, Nat.reduceLeDiff, zc, ti2, ti3, ti4, ti22, ti23, s0, s1, s5, kLen1, hj', hj, hsg, inO_row, rowO_row, mkr_at k j css hj, lift]
  have hle := sumN_take_le (css.map List.length) (j + 1)
  have hst := sumN_take (css.map List.length) j (by simpa using hj)
  have hgl : (css.map List.length).getD j 0 = (css.getD j []).length := by simp [hj]
  rw [hgl] at hst
  have hset : (mkr k j css).set j (.row (css.getD j [])) = mkr k j css := by
   have h1 : j < (mkr k j css).length := by rw [mkr_len _ _ _ (Nat.le_of_lt hj)]; exact hj
   have h2 := mkr_at k j css hj
   rw [List.getElem?_eq_getElem h1, Option.some.injEq] at h2
   rw [← h2, List.set_getElem_self]
  refine CLL_in rfl _ _ _ (in32 (plc_twoC s g i j rs (mkr k j css) hi (by rw [mkr_len _ _ _ (Nat.le_of_lt hj)]; exact hj)) (cs := css.getD j []) (by rw [hset]; exact upr_same _ _ _ _) (hn2 j) (by omega) (by omega)) ?_
  simp (maxSteps := 10000000) (disch := first | omega | assumption) only [go_sem, ↓reduceIte, Nat.reduceEqDiff, reduceCtorEq, Nat.reduceAdd, Nat.reduceMul, Nat.reduceLeDiff, zc, ti2, ti3, ti4, ti22, ti23, s0, s1, s5]
  exact ⟨i64c (by omega), i64c (by omega), by rw [upr_upr, mkr_succ k j css hj]⟩
 ·rintro sl ro' gn' ⟨s0, s1, s5, rfl, rfl⟩
  dsimp only at s0 s1 s5
  have hj' : ¬ (css.length : Int) < css.length := by omega
  simp (maxSteps := 10000000) (disch := first | omega | assumption) only [go_sem, ↓reduceIte, Nat.reduceEqDiff, reduceCtorEq, Nat.reduceAdd, Nat.reduceMul, Nat.reduceLeDiff, zc, ti2, ti3, ti4, ti22, ti23, s0, s1, s5, kLen1, hj', hsg, inO_row, rowO_row]
  refine ⟨.inr rfl, ⟨_, rfl, ?_⟩, ?_, rfl⟩
  ·simp only [↓za, ↓reduceIte, Nat.reduceEqDiff, zb, reduceCtorEq, oneOrA]
   rw [List.take_of_length_le (by simp)]
  ·simp [mkr]
   rw [List.take_of_length_le (by simp)]
def tot (T : List (List (List Int))) : Nat → Nat
 | 0 => 0
 | i + 1 => tot T i + sumN ((mat T i).map List.length)
theorem szA_sumsC (S : List (List Int)) (l : Int) : ∀ i, i ≤ S.length → szA S l i = l - (sumN ((S.map List.length).take i) : Nat)
 | 0, _ => by simp [szA, sumN]
 | i + 1, h => by
  have hi : i < (S.map List.length).length := by rw [List.length_map]; omega
  have e : (S.map List.length).getD i 0 = (row S i).length := by
   unfold row
   simp only [List.getD_eq_getElem?_getD, List.getElem?_map]
   cases S[i]? <;> rfl
  simp only [szA]
  rw [szA_sumsC S l i (by omega), sumN_take _ i hi, e]
  omega
theorem szT_tot (T : List (List (List Int))) (l : Int) : ∀ i, szT T l i ≤ l - (tot T i : Nat)
 | 0 => by show l ≤ l - ((0 : Nat) : Int); omega
 | i + 1 => by
  have ih := szT_tot T l i
  have h2 := szA_sumsC (mat T i) (szT T l i - (mat T i).length) (mat T i).length (Nat.le_refl _)
  rw [List.take_of_length_le (by simp)] at h2
  show szA _ _ _ ≤ l - ((tot T i + sumN ((mat T i).map List.length) : Nat) : Int)
  omega
theorem tot_mono (T : List (List (List Int))) : ∀ {i j : Nat}, i ≤ j → tot T i ≤ tot T j
 | i, 0, h => by
  obtain rfl : i = 0 := by omega
  exact Nat.le_refl _
 | i, j + 1, h => by
  by_cases e : i = j + 1
  ·rw [e]; exact Nat.le_refl _
  ·have := tot_mono T (i := i) (j := j) (by omega)
   show tot T i ≤ tot T j + _
   omega
theorem labs_lens : ∀ (ns : List Nat) (k : Int), (labs k ns).map List.length = ns
 | [], _ => rfl
 | n :: ns, k => by
  show (iota k n).length :: (labs (k + n) ns).map List.length = n :: ns
  rw [labs_lens ns, iota_len]
theorem in48q {s g : Nat} {T : List (List (List Int))} {ro0 : Ro} {gn0 : Nat → Nat} {k : Int} (hro : ro0 s g = some (rowLLL T)) (hz : SzP T) (hk : 0 ≤ k) (hk2 : k + tot T T.length ≤ 2^62) :
  InS Tryz.prog 29 [.ref s g [] 0 T.length, i64 k] ro0 gn0 (fun r ro' gn' => r = i64 (k + tot T T.length) ∧ (∃ b, ro' = upr ro0 s g b) ∧ gn' = gn0) := by
 obtain ⟨z1, z2⟩ := hz
 have z1' : T.length ≤ 4294967296 := z1
 refine in_ofS (fn := Tryz.f29) (code := bodyOf Tryz.f29) Tryz.func29 rfl (by kernel_rfl) ?_
 intro sl hs
 have s0 : sl 0 = .ref s g [] 0 T.length := hs 0
 have s1 : sl 1 = i64 k := hs 1
 have hT0 : (T.map fun S => AV.row (rowsOf (S.map fun xs => xs.map i64))) = T.map rowLL := List.map_congr_left fun S _ => by
  show AV.row ((S.map fun xs => xs.map i64).map .row) = AV.row (S.map rowL)
  rw [List.map_map]
  rfl
 dsimp only [Tryz.f29, bodyOf, Option.getD]
 simp (maxSteps := 10000000) (disch := first | assumption | omega) only [go_sem, ↓reduceIte, Nat.reduceEqDiff, reduceCtorEq, Nat.reduceAdd, Nat.reduceMul, Nat.reduceLeDiff, zc, Int.reduceToNat, s0, s1, hro, List.length_map]
 refine WK_for (fun i st => st.sl 0 = .ref s g [] 0 T.length ∧ st.sl 1 = i64 (k + tot T i) ∧ st.sl 5 = i64 (i : Int) ∧ (∃ R : List (List (List AV)), R.length = T.length ∧ (∀ j, (R.getD j []).map List.length = (mat T j).map List.length) ∧ st.ro = upr ro0 s g (.row (R.map fun css => AV.row (rowsOf css))) ∧ st.gn = gn0)) T.length ?_ ?_ ?_
 ·simp only [↓za, ↓reduceIte, Nat.reduceEqDiff, zb, reduceCtorEq, rws_zero, s0, s1]
  refine ⟨i64c (by show k = k + ((0 : Nat) : Int); omega), rfl, T.map fun S => S.map fun xs => xs.map i64, by rw [List.length_map], fun j => ?_, ?_⟩
  ·unfold mat
   simp only [List.getD_eq_getElem?_getD, List.getElem?_map]
   cases T[j]? with
   | none => rfl
   | some S => simp [Function.comp_def]
  ·rw [List.map_map]
   have e : (T.map ((fun css => AV.row (rowsOf css)) ∘ fun S => S.map fun xs => xs.map i64)) = T.map rowLL := hT0
   rw [e]
   exact (upr_id _ _ _ _ hro).symm
 ·rintro i sl ro gn hi ⟨s0, s1, s5, q⟩
  dsimp only at s0 s1 s5
  have hi' : (i : Int) < (T.length : Nat) := by omega
  obtain ⟨R, hRl, hRs, rfl, rfl⟩ := q
  have hiR : i < R.length := by omega
  have htm := tot_mono T (show i + 1 ≤ T.length by omega)
  have hts : tot T (i + 1) = tot T i + sumN ((mat T i).map List.length) := rfl
  obtain ⟨z3, z4⟩ := z2 i hi
  obtain ⟨css, hcs⟩ : ∃ css, css = R.getD i [] := ⟨_, rfl⟩
  have hcl : css.map List.length = (mat T i).map List.length := by rw [hcs]; exact hRs i
  have hcn : css.length = (mat T i).length := by have := congrArg List.length hcl; simpa using this
  have hRg : (R.map fun css => AV.row (rowsOf css))[i]? = some (.row (rowsOf css)) := by
   rw [List.getElem?_map, hcs, List.getD_eq_getElem?_getD, List.getElem?_eq_getElem hiR]
   rfl
  have hrl : (rowsOf css).length = css.length := by unfold rowsOf; rw [List.length_map]
  have hset : (R.map fun css => AV.row (rowsOf css)).set i (.row (rowsOf css)) = R.map fun css => AV.row (rowsOf css) := by
   have h1 : i < (R.map fun css => AV.row (rowsOf css)).length := by rw [List.length_map]; exact hiR
   rw [List.getElem?_eq_getElem h1, Option.some.injEq] at hRg
   rw [← hRg, List.set_getElem_self]
  simp (maxSteps := 10000000) (disch := first | assumption | omega) only [go_sem, ↓reduceIte, Nat.reduceEqDiff, reduceCtorEq, Nat.reduceAdd, Nat.reduceMul, Nat.reduceLeDiff, zc, Int.reduceToNat, s0, s1, s5, hi', hi, List.length_map, hRl, hRg, hrl, zfp]
  refine CLL_in rfl _ _ _ (in43q (i := i) (rs := R.map fun css => AV.row (rowsOf css)) (css := css) (by rw [List.length_map]; exact hiR) (by rw [hset]; exact upr_same _ _ _ _) (by rw [hcn]; exact z3) (fun j => ?_) (by omega) (by rw [hcl]; omega)) ?_
  ·have e : (css.getD j []).length = (row (mat T i) j).length := by
    have h1 := congrArg (fun l => l.getD j 0) hcl
    simp only [List.getD_eq_getElem?_getD, List.getElem?_map] at h1
    unfold row
    simp only [List.getD_eq_getElem?_getD]
    cases h2 : css[j]? <;> cases h3 : (mat T i)[j]? <;> simp [h2, h3] at h1 ⊢ <;> omega
   rw [e]
   by_cases hj : j < (mat T i).length
   ·exact z4 j hj
   ·rw [row_out (by omega)]; simp
  simp (maxSteps := 10000000) (disch := first | assumption | omega) only [go_sem, ↓reduceIte, Nat.reduceEqDiff, reduceCtorEq, Nat.reduceAdd, Nat.reduceMul, Nat.reduceLeDiff, zc, Int.reduceToNat, s0, s1, s5, hi', hi]
  rw [hcl]
  refine ⟨i64c (by omega), i64c (by omega), R.set i ((labs (k + tot T i) ((mat T i).map List.length)).map fun xs => xs.map i64), by rw [List.length_set]; exact hRl, fun j => ?_, ?_⟩
  ·by_cases e : j = i
   ·subst e
    rw [List.getD_eq_getElem?_getD, List.getElem?_set_self hiR]
    simp only [Option.getD_some, List.map_map]
    refine Eq.trans (List.map_congr_left fun xs _ => ?_) (labs_lens ((mat T j).map List.length) _)
    exact List.length_map _
   ·rw [List.getD_eq_getElem?_getD, List.getElem?_set_ne (fun h => e h.symm), ← List.getD_eq_getElem?_getD]
    exact hRs j
  ·rw [upr_upr, List.map_set]
   simp only [rowsOf, labsA, List.map_map]
   rfl
 ·rintro sl ro gn ⟨s0, s1, s5, q⟩
  dsimp only at s0 s1 s5
  have hi' : ¬ ((T.length : Nat) : Int) < (T.length : Nat) := by omega
  obtain ⟨R, hRl, hRs, rfl, rfl⟩ := q
  simp (maxSteps := 10000000) (disch := first | assumption | omega) only [go_sem, ↓reduceIte, Nat.reduceEqDiff, reduceCtorEq, Nat.reduceAdd, Nat.reduceMul, Nat.reduceLeDiff, zc, Int.reduceToNat, s0, s1, s5, hi', List.length_map, hRl]
  refine RETS_1 (i64 (k + tot T T.length)) Ur ⟨rfl, ⟨_, rfl⟩, rfl⟩
theorem in18q {s g : Nat} {T : List (List (List Int))} {ro0 : Ro} {gn0 : Nat → Nat} {k : Int} (hro : ro0 s g = some (rowLLL T)) (hf : s ≠ 4096) (hz : SzP T) (hk : 0 ≤ k) (hk2 : k + tot T T.length ≤ 2^62) :
  InS Tryz.prog 12 [.agg [.ref s g [] 0 T.length], i64 k] ro0 gn0 (fun r ro' gn' => r = i64 (k + tot T T.length) ∧ (∃ b, ro' = upr (upr ro0 4096 (gn0 4096 + 1) (.bx [.ref s g [] 0 T.length])) s g b) ∧ gn' = upg gn0 4096 (gn0 4096 + 1)) := by
 refine in_ofS (fn := Tryz.f12) (code := bodyOf Tryz.f12) Tryz.func12 rfl (by kernel_rfl) ?_
 intro sl hs
 have s0 : sl 0 = .agg [.ref s g [] 0 T.length] := hs 0
 have s1 : sl 1 = i64 k := hs 1
 dsimp only [Tryz.f12, bodyOf, Option.getD]
 simp (maxSteps := 10000000) (disch := first | assumption | omega) only [go_sem, ↓reduceIte, Nat.reduceEqDiff, reduceCtorEq, Nat.reduceAdd, Nat.reduceMul, Nat.reduceLeDiff, zc, Int.reduceToNat, s0, s1, ti33, ti31, hro]
 refine CLL_inS rfl (in48q (ro0 := upr ro0 4096 (gn0 4096 + 1) (.bx [.ref s g [] 0 T.length])) (by rw [upr_ne hf]; exact hro) hz hk hk2) ?_
 rintro r ro' gn' ⟨rfl, ⟨b, rfl⟩, rfl⟩
 simp (maxSteps := 10000000) (disch := first | assumption | omega) only [go_sem, ↓reduceIte, Nat.reduceEqDiff, reduceCtorEq, Nat.reduceAdd, Nat.reduceMul, Nat.reduceLeDiff, zc, Int.reduceToNat, s0, s1]
 refine RETS_1 (i64 (k + tot T T.length)) Ur ⟨rfl, ⟨b, rfl⟩, rfl⟩
end Go.Proofs.YtiljdiaigoppbaaGreat
/- The laws of CharactersOf and MatrixOfCharacters. -/
namespace Go.Proofs.YtiljdiaigoppbaaGreat
open Go.RowKit
set_option maxRecDepth 1000000
theorem szP_of {T : List (List (List Int))} (h : ¬ szT T ((1048576 : Int) - T.length) T.length < 0) : SzP T ∧ (1 : Int) + (tot T T.length : Nat) ≤ 2^62 := by
 obtain ⟨z1, z2⟩ := szT_ok h
 have h3 := szT_tot T ((1048576 : Int) - T.length) T.length
 refine ⟨⟨by unfold maxN; omega, fun i hi => ⟨by have := (z2 i hi).1; unfold maxN; omega, fun j hj => by have := (z2 i hi).2 j hj; unfold maxN; omega⟩⟩, by omega⟩
theorem cod_ex (T : List (List (List Int))) : (RngP T ∧ CmP T) ∨ ∃ z : Int, CodP T z ∧ z ≠ 0 := by
 by_cases h1 : RngP T
 ·by_cases h2 : CmP T
  ·exact .inl ⟨h1, h2⟩
  ·exact .inr ⟨5, .inr (.inl ⟨h1, h2, rfl⟩), by decide⟩
 ·exact .inr ⟨1, .inr (.inr ⟨h1, rfl⟩), by decide⟩
theorem chX {T : List (List (List Int))} (hT : CubeP T) : (chsI T).length ≤ 16 ∧ ∀ j, ((chsI T).getD j []).length ≤ 16 := by
 refine ⟨Nat.le_trans (chs_few hT) hT.2.1, fun j => ?_⟩
 by_cases hj : j < (chsI T).length
 ·rw [((chsI_iff hT).1 (getD_mem hj)).1]; exact hT.2.1
 ·rw [List.getD_eq_getElem?_getD, List.getElem?_eq_none (by omega)]; simp
section
variable {T : List (List (List Int))}
end
theorem nrL3 (T : List (List (List Int))) : noRefL (List.map rowLL T) = true := by
 have h := noRef_rowLLL T
 simpa only [noRef] using h
end Go.Proofs.YtiljdiaigoppbaaGreat
