/- Texts joined: Ee1 Ee2 Ee3. -/
import Derived.Test.YtcleikmfomddhaaGreatMj
import Derived.Test.YtcleikmfomddhaaGreatPa
set_option linter.all false
/- Places of rings: what the law wants of sizes, copies and equality of rings. -/
namespace Go.Proofs.YtcleikmfomddhaaGreat
open Go.RowKit
set_option maxRecDepth 1000000
theorem exq_ptrc {n s g : Nat} {ro : Ro} {cs cs' : List AV} (h : ro s g = some (.bx cs)) (hc : exqL n ro cs cs') : exq (n + 1) ro (.ptr s g [] 0) (.iptr cs') := by
 refine ⟨fun j hj => ?_, fun hp => by simp [pureA] at hp⟩
 obtain ⟨j, rfl⟩ : ∃ i, j = i + 1 := ⟨j - 1, by omega⟩
 show (match ro.cells s g [] with | some cs => AV.iptr ((cs.drop 0).map (ex ro j)) | none => .dead) = _
 rw [zef, h]
 simp only [zei, List.drop_zero]
 rw [hc.mapE j (by omega)]
def SzP (T : List (List (List Int))) : Prop := T.length ≤ maxN ∧ ∀ i, i < T.length → (mat T i).length ≤ maxN ∧ ∀ j, j < (mat T i).length → (row (mat T i) j).length ≤ maxN
theorem CubeP.sz {T : List (List (List Int))} (h : CubeP T) : SzP T := by
 obtain ⟨h1, h2, h3⟩ := h
 refine ⟨by unfold maxN; omega, fun i hi => ⟨by rw [(h3 i hi).1]; unfold maxN; omega, fun j hj => ?_⟩⟩
 rw [((h3 i hi).2 j (by rw [← (h3 i hi).1]; exact hj)).1]; unfold maxN; omega
theorem eqL3 {xs ys : List (List (List Int))} (hl : xs.length = ys.length) (h : ∀ i, i < xs.length → mat xs i = mat ys i) : xs = ys := by
 apply List.ext_getElem?
 intro i
 by_cases hi : i < xs.length
 ·have := h i hi
  unfold mat at this
  rw [List.getD_eq_getElem?_getD, List.getD_eq_getElem?_getD, List.getElem?_eq_getElem hi, List.getElem?_eq_getElem (show i < ys.length by omega)] at this
  rw [List.getElem?_eq_getElem hi, List.getElem?_eq_getElem (show i < ys.length by omega)]
  exact congrArg some this
 ·rw [List.getElem?_eq_none (by omega), List.getElem?_eq_none (by omega)]
theorem tiRg : ti0 24 = some ⟨1, true, [Value.slice none 0 0], none, [(0, 22)], none, false, false, none, none⟩ := by kernel_rfl
attribute [go_sem] tiRg isLLLw_lift isLLLw_cellB
section
variable {T : List (List (List Int))} {a : AV}
theorem cSzRC {left : Int} (ha : isLLLw a T) (hx : T.length < 2^63) (hr : ∀ i, (mat T i).length < 2^63) (hr2 : ∀ i j, (row (mat T i) j).length < 2^63) (h1 : 0 ≤ left) (h2 : left ≤ 1048576) : CallOK Tryz.prog 4 [.agg [a], i64 left] (i64 (szV (szT T (left - T.length) T.length))) := by
 refine call_of (fn := Tryz.f4) (code := bodyOf Tryz.f4) Tryz.func4 rfl (by kernel_rfl) (rfl) ?_
 intro sl hs
 have s0 : sl 0 = .agg [a] := hs 0
 have s1 : sl 1 = i64 left := hs 1
 dsimp only [Tryz.f4, bodyOf, Option.getD]
 simp (maxSteps := 10000000) (disch := first | assumption | omega) only [go_sem, ↓reduceIte, Nat.reduceEqDiff, reduceCtorEq, Nat.reduceAdd, Nat.reduceMul, Nat.reduceLeDiff, zc, Int.reduceToNat, s0, s1, tiRg, ti31]
 refine CLL_pure _ (cSzT ha hx hr hr2 h1 h2) (by simp (disch := assumption) only [pureL, pureA, isLw_pure, isLLw_pure, isLLLw_pure, pureL_map, Bool.and_self, Bool.and_true]) rfl rfl ?_
 by_cases h : szT T (left - T.length) T.length < 0
 ·have e : szV (szT T (left - T.length) T.length) = -1 := if_pos h
  rw [e]
  refine Yab ?_
  exact Yac
 ·have e : szV (szT T (left - T.length) T.length) = szT T (left - T.length) T.length := if_neg h
  rw [e]
  simp (maxSteps := 10000000) (disch := first | assumption | omega) only [go_sem, ↓reduceIte, Nat.reduceEqDiff, reduceCtorEq, Nat.reduceAdd, Nat.reduceMul, Nat.reduceLeDiff, zc, Int.reduceToNat, s0, s1, h]
  exact Yac
theorem cToRC (ha : isLLLw a T) (hT : SzP T) : CallOK Tryz.prog 6 [.agg [a]] (.agg [rowLLL T]) := by
 refine call_of (fn := Tryz.f6) (code := bodyOf Tryz.f6) Tryz.func6 rfl (by kernel_rfl) (by have h := noRef_rowLLL T; simp only [noRef, noRefL, Bool.and_true] at h ⊢; exact h) ?_
 intro sl hs
 have s0 : sl 0 = .agg [a] := hs 0
 dsimp only [Tryz.f6, bodyOf, Option.getD]
 simp (maxSteps := 10000000) (disch := first | assumption | omega) only [go_sem, ↓reduceIte, Nat.reduceEqDiff, reduceCtorEq, Nat.reduceAdd, Nat.reduceMul, Nat.reduceLeDiff, zc, Int.reduceToNat, s0, tiRg, ti31, ti33]
 refine CLL_pure _ (cToT ha hT.1 hT.2) (by simp (disch := assumption) only [pureL, pureA, isLw_pure, isLLw_pure, isLLLw_pure, pureL_map, Bool.and_self, Bool.and_true]) rfl rfl ?_
 refine Yad ?_
 simp only [zr, zb, retR, resL, outT, outL, zes, zez, oneV, zcp, zed, zfi, Ro.dl, St.ev, zhk, ↓za, ↓reduceIte, Nat.reduceEqDiff, Nat.reduceAdd, Nat.reduceLeDiff, outL, zfi, zfh, zev, zex, List.all_cons, List.all_nil, zep, Option.isSome_some, ti33, List.length_cons, List.length_nil]
theorem cEqRC (hT : SzP T) : CallOK Tryz.prog 8 [.agg [immLLL T], .agg [immLLL T]] (bo true) := by
 have h1 := isLLL_imm T
 refine call_of (fn := Tryz.f8) (code := bodyOf Tryz.f8) Tryz.func8 rfl (by kernel_rfl) (rfl) ?_
 intro sl hs
 have s0 : sl 0 = .agg [immLLL T] := hs 0
 have s1 : sl 1 = .agg [immLLL T] := hs 1
 dsimp only [Tryz.f8, bodyOf, Option.getD]
 refine Yab ?_
 refine CLL_pure _ (cEqT h1 h1 hT.1 hT.2) (by simp only [pureL, show pureA (immLLL T) = true from isLLL_pure h1, Bool.and_self]) rfl rfl ?_
 refine Yab ?_
 exact Yac
end
theorem szP_of {T : List (List (List Int))} (h : ¬ szT T ((1048576 : Int) - T.length) T.length < 0) : SzP T := by
 obtain ⟨z1, z2⟩ := szT_ok h
 exact ⟨by unfold maxN; omega, fun i hi => ⟨by have := (z2 i hi).1; unfold maxN; omega, fun j hj => by have := (z2 i hi).2 j hj; unfold maxN; omega⟩⟩
theorem nrL3 (T : List (List (List Int))) : noRefL (List.map rowLL T) = true := by
 have h := noRef_rowLLL T
 simpa only [noRef] using h
theorem cube_self {T : List (List (List Int))} (hc : CubeP T) : T = cubeL (at3 T) T.length := by
 obtain ⟨h1, h2, h3⟩ := hc
 have lr : ∀ {i j}, i < T.length → j < T.length → (row (mat T i) j).length = T.length := fun hi hj => ((h3 _ hi).2 _ hj).1
 have hl : (cubeL (at3 T) T.length).length = T.length := zfe _ _
 refine eqL3 hl.symm fun i hi => ?_
 rw [mat_cube hi]
 refine isLs_inj (by rw [zfe]; exact (h3 i hi).1) fun j hj => ?_
 rw [(h3 i hi).1] at hj
 have er : row (rws (fun j => rws (fun k => at3 T i j k) T.length) T.length) j = rws (fun k => at3 T i j k) T.length := row_rws _ hj
 show row (mat T i) j = row _ j
 rw [er]
 have hs := rws_self (row (mat T i) j)
 rw [lr hi hj] at hs
 exact hs.symm
end Go.Proofs.YtcleikmfomddhaaGreat
/- Places of rings, the reference: the least form. -/
namespace Go.Proofs.YtcleikmfomddhaaGreat
open Go.RowKit
set_option maxRecDepth 1000000
section
variable {n : Nat} {F : C3} {a : AV}
theorem bst_take {Os : List (List Nat)} {i : Nat} (hi : i < Os.length) (B : C3) : bstB F n (Os.take (i + 1)) B = nxB F n (bstB F n (Os.take i) B) (Os.getD i []) := by
 rw [List.take_add_one, bst_app, List.getElem?_eq_getElem hi, List.getD_eq_getElem?_getD, List.getElem?_eq_getElem hi]
 rfl
set_option maxHeartbeats 16000000 in
theorem cLeastS (ha : isLLL a (cubeL F n)) (h1 : 1 ≤ n) (h3 : n ≤ 3) : CallOK Tryz.prog 13 [a] (cubeA (leastF F n) n) := by
 have hv := vis_ok n h1 h3
 obtain ⟨hv1, hv2, hv3⟩ := vis_2 n h1 h3
 have hn' : n ≤ maxN := by unfold maxN; omega
 have lX : (cubeL F n).length = n := lenC F n
 have hpw : (n + 1) ^ (n - 1) ≤ 1000 := by
  obtain rfl | rfl | rfl : n = 1 ∨ n = 2 ∨ n = 3 := by omega
  all_goals decide
 have hpa : pureA a = true := isLLL_pure ha
 refine call_of (fn := Tryz.f13) (code := bodyOf Tryz.f13) Tryz.func13 rfl (by kernel_rfl) (noRef_cube _ _) ?_
 intro sl hs
 have s0 : sl 0 = a := hs 0
 dsimp only [Tryz.f13, bodyOf, Option.getD]
 refine Yad ?_
 refine CLL_pure _ (cOwnC ha hn') PUt rfl rfl ?_
 simp (maxSteps := 10000000) (disch := first | assumption | omega) only [go_sem, ↓reduceIte, Nat.reduceEqDiff, reduceCtorEq, Nat.reduceAdd, Nat.reduceMul, Nat.reduceLeDiff, zc, Int.reduceToNat, s0, impE_row, zfe, lX, ti3]
 refine CLL_inS rfl (ordA (n := n) (by omega) (n - 1) _ _ [0] [] 8256 1 0 nilA (.inl rfl) (by show 1 + (n - 1) = n; omega) (by simp) (by simp only [↓za, ↓reduceIte, Nat.reduceEqDiff, zb, reduceCtorEq]; rfl) Ur (.nil 0 rfl) (by show 0 + _ ≤ _; omega)) ?_
 rintro r ro1 gn1 ⟨fr1, gl1, hL1, -⟩
 rw [List.nil_append] at hL1
 have r8 : ro1 8208 1 = some (cubeA F n) := (fr1.kp 8208 1 Ur (by omega)).trans Ur
 have u8 := fr1.up 8208
 simp only [↓za, ↓reduceIte, Nat.reduceEqDiff, zb, reduceCtorEq] at u8
 unfold leastF
 generalize vis n (n - 1) [0] = Os at hv hv1 hv2 hv3 hL1
 cases hL1 with
 | nil _ e => subst e; simp at hv1
 | ref _ rO lO =>
  simp (maxSteps := 10000000) (disch := first | assumption | omega) only [go_sem, ↓reduceIte, Nat.reduceEqDiff, reduceCtorEq, Nat.reduceAdd, Nat.reduceMul, Nat.reduceLeDiff, zc, Int.reduceToNat, s0, ti3]
  obtain ⟨ol, hol⟩ : ∃ ol, ol = immLL (Os.map zl) := ⟨_, rfl⟩
  have hao : isLL ol (Os.map zl) := by rw [hol]; exact isLL_imm _
  have lOs : (Os.map zl).length = Os.length := List.length_map _
  refine WK_forG (fun i st => st.sl 0 = a ∧ st.sl 4 = ol ∧ st.sl 5 = i64 (i : Int) ∧ (∃ sk gk, (sk = 8208 ∨ sk = 24656) ∧ st.sl 3 = .ref sk gk [] 0 n ∧ st.ro sk gk = some (cubeA (bstB F n (Os.take i) F) n) ∧ gk ≤ st.gn sk)) Os.length (.frzR 12336 gl1 ((Os.map zl).map rowL) (Ue rO) (noIL_rowLs _)) ?_ ?_ ?_
  ·simp only [frzS, ↓za, ↓reduceIte, Nat.reduceEqDiff, zb, reduceCtorEq, s0, frzB]
   rw [if_pos (by rw [List.length_map, List.length_map]), frz_rowLs]
   exact ⟨by rcases ha with ⟨cs, rfl, -⟩ | ⟨-, rfl⟩ <;> rfl, hol.symm, rfl, 8208, 1, .inl rfl, rfl, r8, u8⟩
  ·rintro i sl ro gn hi ⟨s0, s4, s5, pb⟩
   dsimp only at s0 s4 s5
   have hi' : (i : Int) < (Os.length : Nat) := by omega
   dsimp only at pb
   obtain ⟨sk, gk, hsk, s3, rk, lk⟩ := pb
   obtain ⟨l, hl⟩ : ∃ l, l = Os.getD i [] := ⟨_, rfl⟩
   have hlm : l ∈ Os := by
    rw [hl, List.getD_eq_getElem?_getD, List.getElem?_eq_getElem hi]
    exact List.getElem_mem hi
   have hp : isL (atA ol i) (zl l) := by
    have := isLL_row hao (k := i) (by omega)
    have e : row (Os.map zl) i = zl l := by
     unfold row
     rw [hl, List.getD_eq_getElem?_getD, List.getElem?_map, List.getD_eq_getElem?_getD, List.getElem?_eq_getElem hi]
     rfl
    rwa [e] at this
   have P := hv l hlm
   rw [bst_take hi, ← hl]
   generalize bstB F n (Os.take i) F = B at rk
   rcases hsk with rfl | rfl
   ·simp (maxSteps := 10000000) (disch := first | assumption | omega) only [go_sem, ↓reduceIte, Nat.reduceEqDiff, reduceCtorEq, Nat.reduceAdd, Nat.reduceMul, Nat.reduceLeDiff, zc, Int.reduceToNat, s0, s4, s5, hi', hi, ti3, lOs, s3]
    refine CLL_pure _ (cImage ha hp P hn') (by simp only [pureL, hpa, isL_pure hp, Bool.and_self]) rfl rfl ?_
    simp (maxSteps := 10000000) (disch := first | assumption | omega) only [go_sem, ↓reduceIte, Nat.reduceEqDiff, reduceCtorEq, Nat.reduceAdd, Nat.reduceMul, Nat.reduceLeDiff, zc, Int.reduceToNat, s0, s4, s5, hi', hi, impE_row, zfe, s3]
    refine CLL_q _ (cBefore (isLLL_immC (imgF (zl l) F) n) (isLLL_immC B n) hn') (.cons (exq_cube Ur (by decide)) (.cons (exq_cube (by simpa only [↓za, ↓reduceIte, Nat.reduceEqDiff, zb, reduceCtorEq] using rk) (by decide)) .nil)) rfl rfl rfl ?_
    unfold nxB
    by_cases hc : cmp3 (cubeL (imgF (zl l) F) n) (cubeL B n) < 0
    ·rw [if_pos hc]
     simp (maxSteps := 10000000) (disch := first | assumption | omega) only [go_sem, ↓reduceIte, Nat.reduceEqDiff, reduceCtorEq, Nat.reduceAdd, Nat.reduceMul, Nat.reduceLeDiff, zc, Int.reduceToNat, s0, s4, s5, hi', hi, eq_true hc, s3]
     exact ⟨i64c (by omega), 24656, gn 24656 + 1, .inr rfl, rfl, by simp only [↓za, ↓reduceIte, Nat.reduceEqDiff, zb, reduceCtorEq], by simp only [↓za, ↓reduceIte, Nat.reduceEqDiff, zb, reduceCtorEq]; exact Nat.le_refl _⟩
    ·rw [if_neg hc]
     simp (maxSteps := 10000000) (disch := first | assumption | omega) only [go_sem, ↓reduceIte, Nat.reduceEqDiff, reduceCtorEq, Nat.reduceAdd, Nat.reduceMul, Nat.reduceLeDiff, zc, Int.reduceToNat, s0, s4, s5, hi', hi, eq_false hc, s3]
     exact ⟨i64c (by omega), 8208, gk, by decide, rfl, by simpa only [↓za, ↓reduceIte, Nat.reduceEqDiff, zb, reduceCtorEq] using rk, by simpa only [↓za, ↓reduceIte, Nat.reduceEqDiff, zb, reduceCtorEq] using lk⟩
   ·have hne : ¬ gk = gn 24656 + 1 := by omega
    simp (maxSteps := 10000000) (disch := first | assumption | omega) only [go_sem, ↓reduceIte, Nat.reduceEqDiff, reduceCtorEq, Nat.reduceAdd, Nat.reduceMul, Nat.reduceLeDiff, zc, Int.reduceToNat, s0, s4, s5, hi', hi, ti3, lOs, s3]
    refine CLL_pure _ (cImage ha hp P hn') (by simp only [pureL, hpa, isL_pure hp, Bool.and_self]) rfl rfl ?_
    simp (maxSteps := 10000000) (disch := first | assumption | omega) only [go_sem, ↓reduceIte, Nat.reduceEqDiff, reduceCtorEq, Nat.reduceAdd, Nat.reduceMul, Nat.reduceLeDiff, zc, Int.reduceToNat, s0, s4, s5, hi', hi, impE_row, zfe, s3]
    refine CLL_q _ (cBefore (isLLL_immC (imgF (zl l) F) n) (isLLL_immC B n) hn') (.cons (exq_cube Ur (by decide)) (.cons (exq_cube (by simpa only [↓za, ↓reduceIte, Nat.reduceEqDiff, zb, reduceCtorEq, eq_false hne] using rk) (by decide)) .nil)) rfl rfl rfl ?_
    unfold nxB
    by_cases hc : cmp3 (cubeL (imgF (zl l) F) n) (cubeL B n) < 0
    ·rw [if_pos hc]
     simp (maxSteps := 10000000) (disch := first | assumption | omega) only [go_sem, ↓reduceIte, Nat.reduceEqDiff, reduceCtorEq, Nat.reduceAdd, Nat.reduceMul, Nat.reduceLeDiff, zc, Int.reduceToNat, s0, s4, s5, hi', hi, eq_true hc, s3]
     exact ⟨i64c (by omega), 24656, gn 24656 + 1, .inr rfl, rfl, by simp only [↓za, ↓reduceIte, Nat.reduceEqDiff, zb, reduceCtorEq], by simp only [↓za, ↓reduceIte, Nat.reduceEqDiff, zb, reduceCtorEq]; exact Nat.le_refl _⟩
    ·rw [if_neg hc]
     simp (maxSteps := 10000000) (disch := first | assumption | omega) only [go_sem, ↓reduceIte, Nat.reduceEqDiff, reduceCtorEq, Nat.reduceAdd, Nat.reduceMul, Nat.reduceLeDiff, zc, Int.reduceToNat, s0, s4, s5, hi', hi, eq_false hc, s3]
     exact ⟨i64c (by omega), 24656, gk, by decide, rfl, by simpa only [↓za, ↓reduceIte, Nat.reduceEqDiff, zb, reduceCtorEq, eq_false hne] using rk, by ((simp only [↓za, ↓reduceIte, Nat.reduceEqDiff, zb, reduceCtorEq]) <;> omega)⟩
  ·rintro sl ro gn ⟨s0, s4, s5, pb⟩
   dsimp only at s0 s4 s5
   have hi' : ¬ ((Os.length : Nat) : Int) < (Os.length : Nat) := by omega
   dsimp only at pb
   obtain ⟨sk, gk, hsk, s3, rk, lk⟩ := pb
   rw [List.take_length] at rk
   simp (maxSteps := 10000000) (disch := first | assumption | omega) only [go_sem, ↓reduceIte, Nat.reduceEqDiff, reduceCtorEq, Nat.reduceAdd, Nat.reduceMul, Nat.reduceLeDiff, zc, Int.reduceToNat, s0, s4, s5, hi', s3]
   simp only [zr, zb, retR, resL, outT, outL, zes, zez, oneV, zcp, zed, zfi, Ro.dl, St.ev, zhk, ↓za, ↓reduceIte, Nat.reduceEqDiff, Nat.reduceAdd, Nat.reduceLeDiff, rk]
end
end Go.Proofs.YtcleikmfomddhaaGreat
/- Places of rings, the reference: the function. -/
namespace Go.Proofs.YtcleikmfomddhaaGreat
open Go.RowKit
set_option maxRecDepth 1000000
def PxP (Xs : List (List (List (List Int)))) (X : List (List (List Int))) (w : Int) : Prop :=
 (∃ k, k < Xs.length ∧ Xs.getD k [] = X ∧ (∀ j, j < k → Xs.getD j [] ≠ X) ∧ w = (k : Int)) ∨ ((∀ j, j < Xs.length → Xs.getD j [] ≠ X) ∧ w = -1)
theorem PxP_ex (Xs : List (List (List (List Int)))) (X : List (List (List Int))) : ∃ w, PxP Xs X w := by
 by_cases h : ∃ k, k < Xs.length ∧ Xs.getD k [] = X
 ·obtain ⟨k, ⟨h1, h2⟩, h3⟩ := Nat.find_ex h
  exact ⟨k, .inl ⟨k, h1, h2, fun j hj e => h3 j hj ⟨by omega, e⟩, rfl⟩⟩
 ·exact ⟨-1, .inr ⟨fun j hj e => h ⟨j, hj, e⟩, rfl⟩⟩
theorem PxP.at {Xs : List (List (List (List Int)))} {X : List (List (List Int))} {w : Int} (h : PxP Xs X w) {i : Nat} (hi : i < Xs.length) (q : ∀ j, j < i → Xs.getD j [] ≠ X) (e : Xs.getD i [] = X) : w = (i : Int) := by
 rcases h with ⟨k, h1, h2, h3, h4⟩ | ⟨h1, h2⟩
 ·rcases Nat.lt_trichotomy k i with h | h | h
  ·exact absurd h2 (q k h)
  ·omega
  ·exact absurd e (h3 i h)
 ·exact absurd e (h1 i hi)
theorem PxP.no {Xs : List (List (List (List Int)))} {X : List (List (List Int))} {w : Int} (h : PxP Xs X w) (q : ∀ j, j < Xs.length → Xs.getD j [] ≠ X) : w = -1 := by
 rcases h with ⟨k, h1, h2, h3, h4⟩ | ⟨h1, h2⟩
 ·exact absurd h2 (q k h1)
 ·exact h2
theorem getD_cubes (Ls : List C3) (n : Nat) {i : Nat} (hi : i < Ls.length) : (Ls.map fun F => cubeL F n).getD i [] = cubeL (Ls.getD i c0) n := by
 rw [List.getD_eq_getElem?_getD, List.getElem?_map, List.getD_eq_getElem?_getD, List.getElem?_eq_getElem hi]
 rfl
abbrev resP (w : Int) : AV := .tup [i64 (if w < 0 then 0 else w), i64 (if w < 0 then 4 else 0)]
theorem resP_at (i : Nat) : resP (i : Int) = .tup [i64 (i : Int), i64 0] := by
 show AV.tup [i64 (if (i : Int) < 0 then 0 else (i : Int)), i64 (if (i : Int) < 0 then 4 else 0)] = _
 rw [if_neg (by omega), if_neg (by omega)]
theorem resP_no : resP (-1) = .tup [i64 0, i64 4] := rfl
section
variable {c : AV} {T : List (List (List Int))} {m : Int}
theorem cPlS1 (ha : isLLL c T) (h : ¬ RingP T) : CallOK Tryz.prog 5 [.agg [c], i64 m] (.tup [i64 0, i64 1]) := by
 refine call_of (fn := Tryz.f5) (code := bodyOf Tryz.f5) Tryz.func5 rfl (by kernel_rfl) (rfl) ?_
 intro sl hs
 have s0 : sl 0 = .agg [c] := hs 0
 have s1 : sl 1 = i64 m := hs 1
 dsimp only [Tryz.f5, bodyOf, Option.getD]
 refine Yaj ?_
 refine CLL_pure _ (c108 (t := false) ha ⟨fun e => (nomatch e), fun e => absurd e h⟩) PUt rfl rfl ?_
 refine Yak ?_
 exact Yac
theorem cPlS2 (ha : isLLL c T) (h : RingP T) (h2 : ¬ ((1 ≤ (T.length : Int) ∧ (T.length : Int) ≤ 3) ∧ 0 ≤ m ∧ m ≤ 4)) : CallOK Tryz.prog 5 [.agg [c], i64 m] (.tup [i64 0, i64 2]) := by
 have hl : 1 ≤ T.length := h.1.1
 by_cases d : 0 ≤ m ∧ m ≤ 4
 ·have d3 : (3 : Int) < (T.length : Nat) := by omega
  refine call_of (fn := Tryz.f5) (code := bodyOf Tryz.f5) Tryz.func5 rfl (by kernel_rfl) (rfl) ?_
  intro sl hs
  have s0 : sl 0 = .agg [c] := hs 0
  have s1 : sl 1 = i64 m := hs 1
  dsimp only [Tryz.f5, bodyOf, Option.getD]
  refine Yaj ?_
  refine CLL_pure _ (c108 (t := true) ha ⟨fun _ => h, fun _ => rfl⟩) PUt rfl rfl ?_
  refine Yak ?_
  refine CLL_pure _ (c38 (a := m) (b := 0) (c := 4)) rfl rfl rfl ?_
  simp (maxSteps := 10000000) (disch := first | assumption | omega) only [go_sem, ↓reduceIte, Nat.reduceEqDiff, reduceCtorEq, Nat.reduceAdd, Nat.reduceMul, Nat.reduceLeDiff, zc, Int.reduceToNat, s0, s1, ti2, ti4, eq_true d, isLLL_len ha, eq_true d3]
  exact Yac
 ·refine call_of (fn := Tryz.f5) (code := bodyOf Tryz.f5) Tryz.func5 rfl (by kernel_rfl) (rfl) ?_
  intro sl hs
  have s0 : sl 0 = .agg [c] := hs 0
  have s1 : sl 1 = i64 m := hs 1
  dsimp only [Tryz.f5, bodyOf, Option.getD]
  refine Yaj ?_
  refine CLL_pure _ (c108 (t := true) ha ⟨fun _ => h, fun _ => rfl⟩) PUt rfl rfl ?_
  refine Yak ?_
  refine CLL_pure _ (c38 (a := m) (b := 0) (c := 4)) rfl rfl rfl ?_
  simp (maxSteps := 10000000) (disch := first | assumption | omega) only [go_sem, ↓reduceIte, Nat.reduceEqDiff, reduceCtorEq, Nat.reduceAdd, Nat.reduceMul, Nat.reduceLeDiff, zc, Int.reduceToNat, s0, s1, ti2, ti4, eq_false d, undef]
  exact Yac
end
section
variable {c : AV} {T : List (List (List Int))} {m : Nat}
set_option maxHeartbeats 8000000 in
theorem cPlS3 (ha : isLLL c T) (h : RingP T) (h3 : T.length ≤ 3) (hm : m ≤ 4) {w : Int} (hw : PxP ((tabsS T.length m).map fun F => cubeL F T.length) (cubeL (leastF (at3 T) T.length) T.length) w) : CallOK Tryz.prog 5 [.agg [c], i64 (m : Int)] (resP w) := by
 have h1 : 1 ≤ T.length := h.1.1
 have d1 : 0 ≤ (m : Int) ∧ (m : Int) ≤ 4 := by omega
 have d3 : ¬ (3 : Int) < (T.length : Nat) := by omega
 have hn' : T.length ≤ maxN := by unfold maxN; omega
 have hpc : pureA c = true := isLLL_pure ha
 have ha' : isLLL c (cubeL (at3 T) T.length) := by rw [← cube_self h.1]; exact ha
 have cL := cListS (n := T.length) (m := m) h1 h3 hm
 rw [show kepS T.length (vis T.length (T.length - 1) [0]) (allS T.length m (vis T.length (T.length - 1) [0]) (vis T.length (T.length - 1) [0]).length) (allS T.length m (vis T.length (T.length - 1) [0]) (vis T.length (T.length - 1) [0]).length).length = tabsS T.length m from rfl] at cL
 have cB := cLeastS ha' h1 h3
 have hSn : (tabsS T.length m).length ≤ 1000000 := by
  have := congrArg List.length (plainLaw (m := m) h1 h3)
  rw [List.length_map, List.length_map, srt_len] at this
  have := tabs_len h1 h3 hm
  omega
 generalize tabsS T.length m = S at cL hw hSn
 generalize leastF (at3 T) T.length = B at cB hw
 have lS : (S.map fun F => immC F T.length).length = S.length := List.length_map _
 have lC : (S.map fun F => cubeL F T.length).length = S.length := List.length_map _
 have hnl : noRefL (S.map fun F => immC F T.length) = true := pure_noRefL _ (immC_pure S T.length)
 refine call_of (fn := Tryz.f5) (code := bodyOf Tryz.f5) Tryz.func5 rfl (by kernel_rfl) (rfl) ?_
 intro sl hs
 have s0 : sl 0 = .agg [c] := hs 0
 have s1 : sl 1 = i64 (m : Int) := hs 1
 dsimp only [Tryz.f5, bodyOf, Option.getD]
 refine Yaj ?_
 refine CLL_pure _ (c108 (t := true) ha ⟨fun _ => h, fun _ => rfl⟩) PUt rfl rfl ?_
 refine Yak ?_
 refine CLL_pure _ (c38 (a := (m : Int)) (b := 0) (c := 4)) rfl rfl rfl ?_
 simp (maxSteps := 10000000) (disch := first | assumption | omega) only [go_sem, ↓reduceIte, Nat.reduceEqDiff, reduceCtorEq, Nat.reduceAdd, Nat.reduceMul, Nat.reduceLeDiff, zc, Int.reduceToNat, s0, s1, ti2, ti4, eq_true d1, isLLL_len ha, eq_false d3]
 refine CLLD_pure _ cL rfl rfl ?_
 simp (maxSteps := 10000000) (disch := first | assumption | omega) only [go_sem, ↓reduceIte, Nat.reduceEqDiff, reduceCtorEq, Nat.reduceAdd, Nat.reduceMul, Nat.reduceLeDiff, zc, Int.reduceToNat, s0, s1, impE_row, listI, lS, hnl]
 refine CLLD_pure _ cB PUt rfl ?_
 simp (maxSteps := 10000000) (disch := first | assumption | omega) only [go_sem, ↓reduceIte, Nat.reduceEqDiff, reduceCtorEq, Nat.reduceAdd, Nat.reduceMul, Nat.reduceLeDiff, zc, Int.reduceToNat, s0, s1, impE_row, zfe]
 refine FIN_of (by kernel_rfl) ?_
 refine Yai ?_
 refine WK_for (fun i st => st.sl 6 = .ref 24640 1 [] 0 S.length ∧ st.sl 7 = .ref 24688 1 [] 0 T.length ∧ st.sl 8 = i64 (i : Int) ∧ st.ro 24640 1 = some (.row (S.map fun F => immC F T.length)) ∧ st.ro 24688 1 = some (cubeA B T.length) ∧ (∀ j, j < i → (S.map fun F => cubeL F T.length).getD j [] ≠ cubeL B T.length)) S.length ?_ ?_ ?_
 ·refine Yao ?_
  exact ⟨rfl, lt0⟩
 ·rintro i sl ro gn hi ⟨s6, s7, s8, r24640, r24688, q⟩
  dsimp only at s6 s7 s8 r24640 r24688
  have hi' : (i : Int) < (S.length : Nat) := by omega
  obtain ⟨G, hG⟩ : ∃ G, G = S.getD i c0 := ⟨_, rfl⟩
  have hgC := getD_cubes S T.length hi
  rw [← hG] at hgC
  have hgG : (S.map fun F => immC F T.length)[i]? = some (immC G T.length) := by rw [List.getElem?_map, List.getElem?_eq_getElem hi, hG, List.getD_eq_getElem?_getD, List.getElem?_eq_getElem hi]; rfl
  have hpG : pureA (immC G T.length) = true := isLLL_pure (isLLL_immC G T.length)
  simp (maxSteps := 10000000) (disch := first | assumption | omega) only [go_sem, ↓reduceIte, Nat.reduceEqDiff, reduceCtorEq, Nat.reduceAdd, Nat.reduceMul, Nat.reduceLeDiff, zc, Int.reduceToNat, s6, s7, s8, r24640, r24688, hi', hi, ti3, ti4, ti33, lS, hgG, hi]
  refine CLL_q _ (cBefore (isLLL_immC G T.length) (isLLL_immC B T.length) hn') (.cons (exq_mono (exq_LLL (isLLL_immC G T.length) (Nat.le_refl 4)) (by decide)) (.cons (exq_cube r24688 (by decide)) .nil)) rfl rfl rfl ?_
  have an := cmp3_O.anti (cubeL G T.length) (cubeL B T.length)
  have an2 := cmp3_O.anti (cubeL B T.length) (cubeL G T.length)
  have e0 := cmp3_O.eq0 (cubeL G T.length) (cubeL B T.length)
  by_cases hc : cmp3 (cubeL G T.length) (cubeL B T.length) < 0
  ·have hne : (S.map fun F => cubeL F T.length).getD i [] ≠ cubeL B T.length := fun e => by rw [hgC] at e; have := e0.2 e; omega
   simp (maxSteps := 10000000) (disch := first | assumption | omega) only [go_sem, ↓reduceIte, Nat.reduceEqDiff, reduceCtorEq, Nat.reduceAdd, Nat.reduceMul, Nat.reduceLeDiff, zc, Int.reduceToNat, s6, s7, s8, r24640, r24688, hi', hi, ti4, eq_true hc, undef]
   exact ⟨i64c (by omega), ltS q hne⟩
  ·simp (maxSteps := 10000000) (disch := first | assumption | omega) only [go_sem, ↓reduceIte, Nat.reduceEqDiff, reduceCtorEq, Nat.reduceAdd, Nat.reduceMul, Nat.reduceLeDiff, zc, Int.reduceToNat, s6, s7, s8, r24640, r24688, hi', hi, ti3, ti4, ti33, eq_false hc, lS, hgG, hi]
   refine CLL_q _ (cBefore (isLLL_immC B T.length) (isLLL_immC G T.length) hn') (.cons (exq_cube r24688 (by decide)) (.cons (exq_mono (exq_LLL (isLLL_immC G T.length) (Nat.le_refl 4)) (by decide)) .nil)) rfl rfl rfl ?_
   by_cases hd : cmp3 (cubeL B T.length) (cubeL G T.length) < 0
   ·have hne : (S.map fun F => cubeL F T.length).getD i [] ≠ cubeL B T.length := fun e => by rw [hgC] at e; have := e0.2 e; omega
    simp (maxSteps := 10000000) (disch := first | assumption | omega) only [go_sem, ↓reduceIte, Nat.reduceEqDiff, reduceCtorEq, Nat.reduceAdd, Nat.reduceMul, Nat.reduceLeDiff, zc, Int.reduceToNat, s6, s7, s8, r24640, r24688, hi', hi, ti4, eq_true hd]
    exact ⟨i64c (by omega), ltS q hne⟩
   ·have he : (S.map fun F => cubeL F T.length).getD i [] = cubeL B T.length := by rw [hgC]; exact e0.1 (by omega)
    have hwi := hw.at (by omega) q he
    rw [hwi, resP_at]
    simp (maxSteps := 10000000) (disch := first | assumption | omega) only [go_sem, ↓reduceIte, Nat.reduceEqDiff, reduceCtorEq, Nat.reduceAdd, Nat.reduceMul, Nat.reduceLeDiff, zc, Int.reduceToNat, s6, s7, s8, r24640, r24688, hi', hi, ti4, eq_false hd]
    exact Yac
 ·rintro sl ro gn ⟨s6, s7, s8, r24640, r24688, q⟩
  dsimp only at s6 s7 s8 r24640 r24688
  have hi' : ¬ ((S.length : Nat) : Int) < (S.length : Nat) := by omega
  have hwi := hw.no (fun j hj => q j (by omega))
  rw [hwi, resP_no]
  simp (maxSteps := 10000000) (disch := first | assumption | omega) only [go_sem, ↓reduceIte, Nat.reduceEqDiff, reduceCtorEq, Nat.reduceAdd, Nat.reduceMul, Nat.reduceLeDiff, zc, Int.reduceToNat, s6, s7, s8, r24640, r24688, hi', ti3, lS]
  exact Yac
end
end Go.Proofs.YtcleikmfomddhaaGreat
