/- Texts joined: F6 G1 G2 G3 G4 G5 O1. -/
import Derived.ChangeOld
import Derived.Below
import Derived.Carry
import Derived.Deep.Slices
import Derived.ChangeSlices
import Derived.Lib.SmallJoins
import Derived.Test.YteaaangdibabnaaGreatDoorMh
set_option linter.all false
/- The reference's and the program's data. -/
namespace Go.Proofs.YteaaangdibabnaaGreatDoor
open Go.RowKit
set_option maxRecDepth 1000000
theorem Shp_of {S : List (List Int)} {T : List Int} (h : ShpP S T) : Shp S T := by
 obtain ⟨h1, h2, h3, h4, h5⟩ := h
 refine ⟨by omega, Nat.le_trans h2 (by decide), h3, fun i hi => (h5 i hi).1, fun i => ?_, NL_numL h4⟩
 rcases Nat.lt_or_ge i S.length with hi | hi
 ·exact NL_numL (h5 i (by omega)).2
 ·rw [row_out hi]
  intro j
  rw [atI_out (by simp)]
  exact ⟨Int.le_refl _, by omega⟩
def Sta2 (S : List (List Int)) (T : List Int) (i j : Nat) : Prop := atI (row S i) j = atI (row S j) i ∧ atI (row S 0) i ≠ 0 ∧ atI T i ≠ 0 ∧ atI (row S 0) 0 = 1 ∧ atI T 0 = 1
theorem Sta_iff {S : List (List Int)} {T : List Int} (hs : Shp S T) : StaP S T ↔ ∀ i, i < T.length → ∀ j, j < T.length → Sta2 S T i j := by
 obtain ⟨hpos, hmax, hlS, hlR, hnS, hnT⟩ := hs
 constructor
 ·rintro ⟨h1, h2, h3, h4, h5⟩ i hi j hj
  refine ⟨?_, h4 i hi, h5 i hi, h2, h3⟩
  have e : row S i = row (trp S) i := congrArg (fun X => row X i) h1
  rw [e, trp_row (by rw [hlR 0 hpos]; exact hi), atI_rws _ (by omega)]
 ·intro h
  have h0 := h 0 hpos 0 hpos
  refine ⟨?_, h0.2.2.2.1, h0.2.2.2.2, fun i hi => (h i hi 0 hpos).2.1, fun i hi => (h i hi 0 hpos).2.2.1⟩
  refine isLs_inj (by rw [trp_len, hlR 0 hpos, hlS]) fun i hi => ?_
  have hi' : i < T.length := by omega
  show row S i = row (trp S) i
  rw [trp_row (by rw [hlR 0 hpos]; exact hi')]
  refine eq_of_atI (by rw [zfe, hlR i hi', hlS]) fun j hj => ?_
  rw [hlR i hi'] at hj
  rw [atI_rws _ (by omega)]
  exact (h i hi' j hj).1
theorem Tur_iff {S : List (List Int)} {T : List Int} (hs : Shp S T) : TurP S T ↔ ∀ i, i < T.length → ∀ j, j < T.length → tmE (tms (uM S T) (uM S T)) (uM S T) i j = gsV S T * tmE S S i j % 55441 := by
 obtain ⟨hpos, hmax, hlS, hlR, hnS, hnT⟩ := hs
 have ul : (uM S T).length = T.length := zfe _ _
 have e1 : tms (tms (uM S T) (uM S T)) (uM S T) = matL (tmE (tms (uM S T) (uM S T)) (uM S T)) T.length T.length := by
  show rws _ _ = rws _ _
  rw [tms_len, ul]
 have e2 : sclL (tms S S) (gsV S T) = matL (fun i j => gsV S T * tmE S S i j % 55441) T.length T.length := by
  unfold sclL matL
  rw [tms_len, hlS]
  refine rws_congr fun i hi => ?_
  rw [tms_row (by omega), zfe, hlS]
  refine rws_congr fun j hj => ?_
  rw [atI_rws _ hj, Int.mul_comm]
 unfold TurP
 rw [e1, e2]
 constructor
 ·intro h i hi j hj
  have := congrArg (fun X => atI (row X i) j) h
  simp only [matL_at hi hj] at this
  exact this
 ·intro h
  exact rws_congr fun i hi => rws_congr fun j hj => h i hi j hj
open Classical in
noncomputable def DF (S : List (List Int)) (T : List Int) : Int :=
 if ¬ StaP S T then 0 else if whl S T.length = 0 then 1 else if ¬ CjP S T then 2 else if ¬ TurP S T then 3 else if ¬ RingP (cubeL (nmE S T.length (cjL S T)) T.length) then 4 else -1
def DataP (S : List (List Int)) (T : List Int) : Prop := ShpP S T ∧ DF S T = -1
theorem DF0 {S : List (List Int)} {T : List Int} (h : ¬ StaP S T) : DF S T = 0 := by unfold DF; rw [if_pos h]
theorem DF1 {S : List (List Int)} {T : List Int} (h : StaP S T) (h1 : whl S T.length = 0) : DF S T = 1 := by unfold DF; rw [if_neg (fun x => x h), if_pos h1]
theorem DF2 {S : List (List Int)} {T : List Int} (h : StaP S T) (h1 : ¬ whl S T.length = 0) (h2 : ¬ CjP S T) : DF S T = 2 := by unfold DF; rw [if_neg (fun x => x h), if_neg h1, if_pos h2]
theorem DF3 {S : List (List Int)} {T : List Int} (h : StaP S T) (h1 : ¬ whl S T.length = 0) (h2 : CjP S T) (h3 : ¬ TurP S T) : DF S T = 3 := by unfold DF; rw [if_neg (fun x => x h), if_neg h1, if_neg (fun x => x h2), if_pos h3]
theorem DF4 {S : List (List Int)} {T : List Int} (h : StaP S T) (h1 : ¬ whl S T.length = 0) (h2 : CjP S T) (h3 : TurP S T) (h4 : ¬ RingP (cubeL (nmE S T.length (cjL S T)) T.length)) : DF S T = 4 := by unfold DF; rw [if_neg (fun x => x h), if_neg h1, if_neg (fun x => x h2), if_neg (fun x => x h3), if_pos h4]
theorem DF5 {S : List (List Int)} {T : List Int} (h : StaP S T) (h1 : ¬ whl S T.length = 0) (h2 : CjP S T) (h3 : TurP S T) (h4 : RingP (cubeL (nmE S T.length (cjL S T)) T.length)) : DF S T = -1 := by unfold DF; rw [if_neg (fun x => x h), if_neg h1, if_neg (fun x => x h2), if_neg (fun x => x h3), if_neg (fun x => x h4)]
theorem DF_inv {S : List (List Int)} {T : List Int} (h : DF S T = -1) : StaP S T ∧ ¬ whl S T.length = 0 ∧ CjP S T ∧ TurP S T ∧ RingP (cubeL (nmE S T.length (cjL S T)) T.length) := by
 by_cases h0 : StaP S T
 ·by_cases h1 : whl S T.length = 0
  ·rw [DF1 h0 h1] at h; omega
  ·by_cases h2 : CjP S T
   ·by_cases h3 : TurP S T
    ·by_cases h4 : RingP (cubeL (nmE S T.length (cjL S T)) T.length)
     ·exact ⟨h0, h1, h2, h3, h4⟩
     ·rw [DF4 h0 h1 h2 h3 h4] at h; omega
    ·rw [DF3 h0 h1 h2 h3] at h; omega
   ·rw [DF2 h0 h1 h2] at h; omega
 ·rw [DF0 h0] at h; omega
theorem DF_cases (S : List (List Int)) (T : List Int) : DF S T = -1 ∨ 0 ≤ DF S T := by
 unfold DF
 repeat' split
 all_goals omega
attribute [go_sem] rowLL_get rowL_get
set_option maxHeartbeats 4000000 in
theorem c99 {a b : AV} {S : List (List Int)} {T : List Int} (ha : isLL a S) (hb : isL b T) (hP : ShpP S T) : CallOK Tryz.prog 34 [.agg [a, b]] (i64 (DF S T)) := by
 have hs := Shp_of hP
 have hs0 := hs
 have h16 := hP.2.1
 obtain ⟨hpos, hmax, hlS, hlR, hnS, hnT⟩ := hs
 have hmax' : T.length ≤ 4294967296 := hmax
 have hlR0 := hlR 0 hpos
 have h0 := isLL_row ha (k := 0) (by omega)
 refine call_of (fn := Tryz.f34) (code := bodyOf Tryz.f34) Tryz.func34 rfl (by kernel_rfl) (rfl) ?_
 intro sl hs
 have s0 : sl 0 = .agg [a, b] := hs 0
 dsimp only [Tryz.f34, bodyOf, Option.getD]
 simp (maxSteps := 10000000) (disch := first | assumption | omega) only [go_sem, ↓reduceIte, Nat.reduceEqDiff, reduceCtorEq, Nat.reduceAdd, Nat.reduceMul, Nat.reduceLeDiff, zc, Int.reduceToNat, s0]
 refine WK_for (fun i st => st.sl 1 = .ptr 4096 1 [] 0 ∧ st.ro 4096 1 = some (.bx [a, b]) ∧ st.sl 3 = i64 (T.length : Int) ∧ st.sl 4 = i64 (i : Int) ∧ (∀ x, x < i → ∀ y, y < T.length → Sta2 S T x y)) T.length ?_ ?_ ?_
 ·simp only [↓za, ↓reduceIte, Nat.reduceEqDiff, zb, reduceCtorEq, rws_zero, s0]
  exact ⟨rfl, lt0⟩
 ·rintro i sl ro gn hi ⟨s1, r4096, s3, s4, q⟩
  dsimp only at s1 r4096 s3 s4
  have hi' : (i : Int) < (T.length : Nat) := by omega
  have h1 := isLL_row ha (k := i) (by omega)
  have hl1 := hlR i hi
  simp (maxSteps := 10000000) (disch := first | assumption | omega) only [go_sem, ↓reduceIte, Nat.reduceEqDiff, reduceCtorEq, Nat.reduceAdd, Nat.reduceMul, Nat.reduceLeDiff, zc, Int.reduceToNat, s1, r4096, s3, s4, hi', hi]
  refine WK_for (fun j st => st.sl 1 = .ptr 4096 1 [] 0 ∧ st.ro 4096 1 = some (.bx [a, b]) ∧ st.sl 3 = i64 (T.length : Int) ∧ st.sl 4 = i64 (i : Int) ∧ st.sl 5 = i64 (j : Int) ∧ (∀ y, y < j → Sta2 S T i y)) T.length ?_ ?_ ?_
  ·simp only [↓za, ↓reduceIte, Nat.reduceEqDiff, zb, reduceCtorEq, rws_zero, s1, r4096, s3, s4, hi', hi]
   exact ⟨rfl, lt0⟩
  ·rintro j sl ro gn hj ⟨s1, r4096, s3, s4, s5, qq⟩
   dsimp only at s1 r4096 s3 s4 s5
   have hj' : (j : Int) < (T.length : Nat) := by omega
   have h2 := isLL_row ha (k := j) (by omega)
   have hl2 := hlR j hj
   have hbad : ¬ Sta2 S T i j → DF S T = 0 := fun h => DF0 fun h' => h ((Sta_iff hs0).1 h' i hi j hj)
   by_cases e1 : atI (row S i) j = atI (row S j) i
   ·have e1' := eq_true e1
    by_cases e2 : atI (row S 0) i = 0
    ·simp (maxSteps := 10000000) (disch := first | assumption | omega) only [go_sem, ↓reduceIte, Nat.reduceEqDiff, reduceCtorEq, Nat.reduceAdd, Nat.reduceMul, Nat.reduceLeDiff, zc, Int.reduceToNat, s1, r4096, s3, s4, s5, hj', hj, e1', e2]
     refine FIN_of (by kernel_rfl) ?_
     simp (maxSteps := 10000000) (disch := first | assumption | omega) only [go_sem, ↓reduceIte, Nat.reduceEqDiff, reduceCtorEq, Nat.reduceAdd, Nat.reduceMul, Nat.reduceLeDiff, zc, Int.reduceToNat, s1, r4096, s3, s4, s5, hj', hj]
     simp only [zr, zb, retR, resL, outT, outL, zes, zez, oneV, zcp, zed, zfi, Ro.dl, St.ev, zhk, ↓za, ↓reduceIte, Nat.reduceEqDiff, Nat.reduceAdd, Nat.reduceLeDiff, hbad fun h => h.2.1 e2]
    ·by_cases e3 : atI T i = 0
     ·simp (maxSteps := 10000000) (disch := first | assumption | omega) only [go_sem, ↓reduceIte, Nat.reduceEqDiff, reduceCtorEq, Nat.reduceAdd, Nat.reduceMul, Nat.reduceLeDiff, zc, Int.reduceToNat, s1, r4096, s3, s4, s5, hj', hj, e1', e2, e3]
      refine FIN_of (by kernel_rfl) ?_
      simp (maxSteps := 10000000) (disch := first | assumption | omega) only [go_sem, ↓reduceIte, Nat.reduceEqDiff, reduceCtorEq, Nat.reduceAdd, Nat.reduceMul, Nat.reduceLeDiff, zc, Int.reduceToNat, s1, r4096, s3, s4, s5, hj', hj]
      simp only [zr, zb, retR, resL, outT, outL, zes, zez, oneV, zcp, zed, zfi, Ro.dl, St.ev, zhk, ↓za, ↓reduceIte, Nat.reduceEqDiff, Nat.reduceAdd, Nat.reduceLeDiff, hbad fun h => h.2.2.1 e3]
     ·by_cases e4 : atI (row S 0) 0 = 1
      ·by_cases e5 : atI T 0 = 1
       ·simp (maxSteps := 10000000) (disch := first | assumption | omega) only [go_sem, ↓reduceIte, Nat.reduceEqDiff, reduceCtorEq, Nat.reduceAdd, Nat.reduceMul, Nat.reduceLeDiff, zc, Int.reduceToNat, s1, r4096, s3, s4, s5, hj', hj, e1', e2, e3, e4, e5]
        refine FIN_of (by kernel_rfl) ?_
        simp (maxSteps := 10000000) (disch := first | assumption | omega) only [go_sem, ↓reduceIte, Nat.reduceEqDiff, reduceCtorEq, Nat.reduceAdd, Nat.reduceMul, Nat.reduceLeDiff, zc, Int.reduceToNat, s1, r4096, s3, s4, s5, hj', hj]
        exact ⟨i64c (by omega), ltS qq ⟨e1, e2, e3, e4, e5⟩⟩
       ·simp (maxSteps := 10000000) (disch := first | assumption | omega) only [go_sem, ↓reduceIte, Nat.reduceEqDiff, reduceCtorEq, Nat.reduceAdd, Nat.reduceMul, Nat.reduceLeDiff, zc, Int.reduceToNat, s1, r4096, s3, s4, s5, hj', hj, e1', e2, e3, e4, e5]
        refine FIN_of (by kernel_rfl) ?_
        simp (maxSteps := 10000000) (disch := first | assumption | omega) only [go_sem, ↓reduceIte, Nat.reduceEqDiff, reduceCtorEq, Nat.reduceAdd, Nat.reduceMul, Nat.reduceLeDiff, zc, Int.reduceToNat, s1, r4096, s3, s4, s5, hj', hj]
        simp only [zr, zb, retR, resL, outT, outL, zes, zez, oneV, zcp, zed, zfi, Ro.dl, St.ev, zhk, ↓za, ↓reduceIte, Nat.reduceEqDiff, Nat.reduceAdd, Nat.reduceLeDiff, hbad fun h => e5 h.2.2.2.2]
      ·simp (maxSteps := 10000000) (disch := first | assumption | omega) only [go_sem, ↓reduceIte, Nat.reduceEqDiff, reduceCtorEq, Nat.reduceAdd, Nat.reduceMul, Nat.reduceLeDiff, zc, Int.reduceToNat, s1, r4096, s3, s4, s5, hj', hj, e1', e2, e3, e4]
       refine FIN_of (by kernel_rfl) ?_
       simp (maxSteps := 10000000) (disch := first | assumption | omega) only [go_sem, ↓reduceIte, Nat.reduceEqDiff, reduceCtorEq, Nat.reduceAdd, Nat.reduceMul, Nat.reduceLeDiff, zc, Int.reduceToNat, s1, r4096, s3, s4, s5, hj', hj]
       simp only [zr, zb, retR, resL, outT, outL, zes, zez, oneV, zcp, zed, zfi, Ro.dl, St.ev, zhk, ↓za, ↓reduceIte, Nat.reduceEqDiff, Nat.reduceAdd, Nat.reduceLeDiff, hbad fun h => e4 h.2.2.2.1]
   ·simp (maxSteps := 10000000) (disch := first | assumption | omega) only [go_sem, ↓reduceIte, Nat.reduceEqDiff, reduceCtorEq, Nat.reduceAdd, Nat.reduceMul, Nat.reduceLeDiff, zc, Int.reduceToNat, s1, r4096, s3, s4, s5, hj', hj, e1]
    refine FIN_of (by kernel_rfl) ?_
    simp (maxSteps := 10000000) (disch := first | assumption | omega) only [go_sem, ↓reduceIte, Nat.reduceEqDiff, reduceCtorEq, Nat.reduceAdd, Nat.reduceMul, Nat.reduceLeDiff, zc, Int.reduceToNat, s1, r4096, s3, s4, s5, hj', hj]
    simp only [zr, zb, retR, resL, outT, outL, zes, zez, oneV, zcp, zed, zfi, Ro.dl, St.ev, zhk, ↓za, ↓reduceIte, Nat.reduceEqDiff, Nat.reduceAdd, Nat.reduceLeDiff, hbad fun h => e1 h.1]
  ·rintro sl ro gn ⟨s1, r4096, s3, s4, s5, qq⟩
   dsimp only at s1 r4096 s3 s4 s5
   have hj' : ¬ ((T.length : Nat) : Int) < (T.length : Nat) := by omega
   simp (maxSteps := 10000000) (disch := first | assumption | omega) only [go_sem, ↓reduceIte, Nat.reduceEqDiff, reduceCtorEq, Nat.reduceAdd, Nat.reduceMul, Nat.reduceLeDiff, zc, Int.reduceToNat, s1, r4096, s3, s4, s5, hj']
   exact ⟨i64c (by omega), ltS q qq⟩
 ·rintro sl ro gn ⟨s1, r4096, s3, s4, q⟩
  dsimp only at s1 r4096 s3 s4
  have hi' : ¬ ((T.length : Nat) : Int) < (T.length : Nat) := by omega
  have hS : StaP S T := (Sta_iff hs0).2 q
  clear q
  simp (maxSteps := 10000000) (disch := first | assumption | omega) only [go_sem, ↓reduceIte, Nat.reduceEqDiff, reduceCtorEq, Nat.reduceAdd, Nat.reduceMul, Nat.reduceLeDiff, zc, Int.reduceToNat, s1, r4096, s3, s4, hi']
  have c67' := c67 ha hb (by omega) (by omega) (by omega) hnS
  by_cases hw : whl S T.length = 0
  ·rw [hw] at c67'
   refine CLL_pure _ c67' PUt rfl rfl ?_
   simp (maxSteps := 10000000) (disch := first | assumption | omega) only [go_sem, ↓reduceIte, Nat.reduceEqDiff, reduceCtorEq, Nat.reduceAdd, Nat.reduceMul, Nat.reduceLeDiff, zc, Int.reduceToNat, s1, r4096, s3, s4, hi']
   simp only [zr, zb, retR, resL, outT, outL, zes, zez, oneV, zcp, zed, zfi, Ro.dl, St.ev, zhk, ↓za, ↓reduceIte, Nat.reduceEqDiff, Nat.reduceAdd, Nat.reduceLeDiff, DF1 hS hw]
  refine CLL_pure _ c67' PUt rfl rfl ?_
  simp (maxSteps := 10000000) (disch := first | assumption | omega) only [go_sem, ↓reduceIte, Nat.reduceEqDiff, reduceCtorEq, Nat.reduceAdd, Nat.reduceMul, Nat.reduceLeDiff, zc, Int.reduceToNat, s1, r4096, s3, s4, hi', hw]
  by_cases hc : CjP S T
  ·refine CLL_pure _ (c58 (r := rowL (cjL S T)) hb ha hs0 (noRef_rowL _) (fun _ => rfl) (fun h => absurd hc h)) PUt rfl rfl ?_
   have hcl := cjL_len S T
   simp (maxSteps := 10000000) (disch := first | assumption | omega) only [go_sem, ↓reduceIte, Nat.reduceEqDiff, reduceCtorEq, Nat.reduceAdd, Nat.reduceMul, Nat.reduceLeDiff, zc, Int.reduceToNat, s1, r4096, s3, s4, hi', hcl]
   refine WK_for (fun i st => st.sl 1 = .ptr 4096 1 [] 0 ∧ st.ro 4096 1 = some (.bx [a, b]) ∧ st.sl 3 = i64 (T.length : Int) ∧ st.sl 6 = .ref 53264 (st.gn 53264) [] 0 T.length ∧ st.ro 53264 (st.gn 53264) = some (rowL (cjL S T)) ∧ st.sl 8 = i64 (i : Int) ∧ st.sl 7 = .ref 65536 (st.gn 65536) [] 0 i ∧ st.ro 65536 (st.gn 65536) = some (.row (rws (fun x => .row (rws (fun y => i64 (uE S T x y)) T.length)) i))) T.length ?_ ?_ ?_
   ·simp only [↓za, ↓reduceIte, Nat.reduceEqDiff, zb, reduceCtorEq, rws_zero, s1, r4096, s3, s4, hi']
    rfl
   ·rintro i sl ro gn hi ⟨s1, r4096, s3, s6, r53264, s8, s7, r65536⟩
    dsimp only at s1 r4096 s3 s6 r53264 s8 s7 r65536
    have hi' : (i : Int) < (T.length : Nat) := by omega
    have h1 := isLL_row ha (k := i) (by omega)
    have hl1 := hlR i hi
    simp (maxSteps := 10000000) (disch := first | assumption | omega) only [go_sem, ↓reduceIte, Nat.reduceEqDiff, reduceCtorEq, Nat.reduceAdd, Nat.reduceMul, Nat.reduceLeDiff, zc, Int.reduceToNat, s1, r4096, s3, s6, r53264, s8, s7, r65536, hi', hi]
    refine WK_for (fun j st => st.sl 1 = .ptr 4096 1 [] 0 ∧ st.ro 4096 1 = some (.bx [a, b]) ∧ st.sl 3 = i64 (T.length : Int) ∧ st.sl 6 = .ref 53264 (st.gn 53264) [] 0 T.length ∧ st.ro 53264 (st.gn 53264) = some (rowL (cjL S T)) ∧ st.sl 8 = i64 (i : Int) ∧ st.sl 7 = .ref 65536 (st.gn 65536) [] 0 i ∧ st.ro 65536 (st.gn 65536) = some (.row (rws (fun x => .row (rws (fun y => i64 (uE S T x y)) T.length)) i)) ∧ st.sl 10 = i64 (j : Int) ∧ st.sl 9 = .ref 81920 (st.gn 81920) [] 0 j ∧ st.ro 81920 (st.gn 81920) = some (.row (rws (fun y => i64 (uE S T i y)) j))) T.length ?_ ?_ ?_
    ·simp only [↓za, ↓reduceIte, Nat.reduceEqDiff, zb, reduceCtorEq, rws_zero, s1, r4096, s3, s6, r53264, s8, s7, r65536, hi', hi]
     rfl
    ·rintro j sl ro gn hj ⟨s1, r4096, s3, s6, r53264, s8, s7, r65536, s10, s9, r81920⟩
     dsimp only at s1 r4096 s3 s6 r53264 s8 s7 r65536 s10 s9 r81920
     have hj' : (j : Int) < (T.length : Nat) := by omega
     have b1 := num_mul (hnS i j) (hnT j)
     have e1 : atI (row S i) j * atI T j % 55441 = uE S T i j := rfl
     simp (maxSteps := 10000000) (disch := first | assumption | omega) only [go_sem, ↓reduceIte, Nat.reduceEqDiff, reduceCtorEq, Nat.reduceAdd, Nat.reduceMul, Nat.reduceLeDiff, zc, Int.reduceToNat, s1, r4096, s3, s6, r53264, s8, s7, r65536, s10, s9, r81920, hj', hj, Int.tmod_eq_emod_of_nonneg, e1, zfm]
     refine FIN_of (by kernel_rfl) ?_
     simp (maxSteps := 10000000) (disch := first | assumption | omega) only [go_sem, ↓reduceIte, Nat.reduceEqDiff, reduceCtorEq, Nat.reduceAdd, Nat.reduceMul, Nat.reduceLeDiff, zc, Int.reduceToNat, s1, r4096, s3, s6, r53264, s8, s7, r65536, s10, s9, r81920, hj', hj]
     exact i64c (by omega)
    ·rintro sl ro gn ⟨s1, r4096, s3, s6, r53264, s8, s7, r65536, s10, s9, r81920⟩
     dsimp only at s1 r4096 s3 s6 r53264 s8 s7 r65536 s10 s9 r81920
     have hj' : ¬ ((T.length : Nat) : Int) < (T.length : Nat) := by omega
     simp (maxSteps := 10000000) (disch := first | assumption | omega) only [go_sem, ↓reduceIte, Nat.reduceEqDiff, reduceCtorEq, Nat.reduceAdd, Nat.reduceMul, Nat.reduceLeDiff, zc, Int.reduceToNat, s1, r4096, s3, s6, r53264, s8, s7, r65536, s10, s9, r81920, hj', zfm]
     exact i64c (by omega)
   ·rintro sl ro gn ⟨s1, r4096, s3, s6, r53264, s8, s7, r65536⟩
    dsimp only at s1 r4096 s3 s6 r53264 s8 s7 r65536
    have hi' : ¬ ((T.length : Nat) : Int) < (T.length : Nat) := by omega
    have ul : (uM S T).length = T.length := zfe _ _
    have ur : ∀ i, i < T.length → (row (uM S T) i).length = T.length := fun i hi => by unfold uM; rw [matL_row hi, zfe]
    have un : numLL (uM S T) := numLL_mat fun _ _ _ _ => num_mod _
    have iu := isLL_imm (uM S T)
    have ru : ro 65536 (gn 65536) = some (rowLL (uM S T)) := by rw [r65536]; exact congrArg some (rowLL_mat (uE S T) T.length T.length).symm
    have ul2 : (tms (uM S T) (uM S T)).length = T.length := by rw [tms_len, ul]
    have ur2 : ∀ i, i < T.length → (row (tms (uM S T) (uM S T)) i).length = T.length := fun i hi => by rw [tms_row (by omega), zfe, ul]
    have cC := c86 iu iu (by omega) (by omega) (fun i hi => by rw [ul] at hi ⊢; rw [ur i hi]; omega) (fun i hi => by rw [ul] at hi ⊢; rw [ur i hi]; omega) un un
    have cD := c86 (isLL_imm (tms (uM S T) (uM S T))) iu (by omega) (by omega) (fun i hi => by rw [ul2] at hi; rw [ul, ur2 i hi]; omega) (fun i hi => by rw [ul] at hi ⊢; rw [ur i hi]; omega) (numLL_tms _ _) un
    have cE := c86 ha ha (by omega) (by omega) (fun i hi => by rw [hlR i (by omega)]; omega) (fun i hi => by rw [hlR i (by omega)]; omega) hnS hnS
    have cF := c124 hb ha hb (by omega) (by omega) (by omega) hnS hnT
    have sl2 : (tms S S).length = T.length := by rw [tms_len, hlS]
    have sr2 : ∀ i, i < T.length → (row (tms S S) i).length = T.length := fun i hi => by rw [tms_row (by omega), zfe, hlS]
    have ul3 : (tms (tms (uM S T) (uM S T)) (uM S T)).length = T.length := by rw [tms_len, ul2]
    have ur3 : ∀ i, i < T.length → (row (tms (tms (uM S T) (uM S T)) (uM S T)) i).length = T.length := fun i hi => by rw [tms_row (by omega), zfe, ul]
    simp (maxSteps := 10000000) (disch := first | assumption | omega) only [go_sem, ↓reduceIte, Nat.reduceEqDiff, reduceCtorEq, Nat.reduceAdd, Nat.reduceMul, Nat.reduceLeDiff, zc, Int.reduceToNat, s1, r4096, s3, s6, r53264, s8, s7, r65536, hi']
    refine CLLD_q _ cC (.cons (exq_refLL ru (by omega) (by decide)) (.cons (exq_refLL ru (by omega) (by decide)) .nil)) rfl (noI_rowLL _) ?_
    simp (maxSteps := 10000000) (disch := first | assumption | omega) only [go_sem, ↓reduceIte, Nat.reduceEqDiff, reduceCtorEq, Nat.reduceAdd, Nat.reduceMul, Nat.reduceLeDiff, zc, Int.reduceToNat, s1, r4096, s3, s6, r53264, s8, s7, r65536, hi', ru, ul]
    refine CLLD_q _ cD (.cons (exq_refLL Ur (by omega) (by decide)) (.cons (exq_refLL (Ue ru) (by omega) (by decide)) .nil)) rfl (noI_rowLL _) ?_
    simp (maxSteps := 10000000) (disch := first | assumption | omega) only [go_sem, ↓reduceIte, Nat.reduceEqDiff, reduceCtorEq, Nat.reduceAdd, Nat.reduceMul, Nat.reduceLeDiff, zc, Int.reduceToNat, s1, r4096, s3, s6, r53264, s8, s7, r65536, hi', ru, ul, ul2]
    refine CLLD_pure _ cE PUt rfl ?_
    simp (maxSteps := 10000000) (disch := first | assumption | omega) only [go_sem, ↓reduceIte, Nat.reduceEqDiff, reduceCtorEq, Nat.reduceAdd, Nat.reduceMul, Nat.reduceLeDiff, zc, Int.reduceToNat, s1, r4096, s3, s6, r53264, s8, s7, r65536, hi', ru, sl2, hlS]
    refine CLLD_pure _ cF PUt rfl ?_
    simp (maxSteps := 10000000) (disch := first | assumption | omega) only [go_sem, ↓reduceIte, Nat.reduceEqDiff, reduceCtorEq, Nat.reduceAdd, Nat.reduceMul, Nat.reduceLeDiff, zc, Int.reduceToNat, s1, r4096, s3, s6, r53264, s8, s7, r65536, hi']
    refine FIN_of (by kernel_rfl) ?_
    simp (maxSteps := 10000000) (disch := first | assumption | omega) only [go_sem, ↓reduceIte, Nat.reduceEqDiff, reduceCtorEq, Nat.reduceAdd, Nat.reduceMul, Nat.reduceLeDiff, zc, Int.reduceToNat, s1, r4096, s3, s6, r53264, s8, s7, r65536, hi']
    have eg : sm (gsT S T) T.length % 55441 = gsV S T := rfl
    simp only [eg]
    refine WK_for (fun i st => st.sl 1 = .ptr 4096 1 [] 0 ∧ st.ro 4096 1 = some (.bx [a, b]) ∧ st.sl 3 = i64 (T.length : Int) ∧ st.sl 6 = .ref 53264 (st.gn 53264) [] 0 T.length ∧ st.ro 53264 (st.gn 53264) = some (rowL (cjL S T)) ∧ st.sl 11 = .ref 106560 (st.gn 106560) [] 0 T.length ∧ st.ro 106560 (st.gn 106560) = some (rowLL (tms (tms (uM S T) (uM S T)) (uM S T))) ∧ st.sl 12 = .ref 106640 (st.gn 106640) [] 0 T.length ∧ st.ro 106640 (st.gn 106640) = some (rowLL (tms S S)) ∧ st.sl 13 = i64 (gsV S T) ∧ st.sl 14 = i64 (i : Int) ∧ (∀ x, x < i → ∀ y, y < T.length → tmE (tms (uM S T) (uM S T)) (uM S T) x y = gsV S T * tmE S S x y % 55441)) T.length ?_ ?_ ?_
    ·simp only [↓za, ↓reduceIte, Nat.reduceEqDiff, zb, reduceCtorEq, rws_zero, s1, r4096, s3, s6, r53264, s8, s7, r65536, hi']
     exact ⟨rfl, lt0⟩
    ·rintro i sl ro gn hi ⟨s1, r4096, s3, s6, r53264, s11, r106560, s12, r106640, s13, s14, q⟩
     dsimp only at s1 r4096 s3 s6 r53264 s11 r106560 s12 r106640 s13 s14
     have hi' : (i : Int) < (T.length : Nat) := by omega
     simp (maxSteps := 10000000) (disch := first | assumption | omega) only [go_sem, ↓reduceIte, Nat.reduceEqDiff, reduceCtorEq, Nat.reduceAdd, Nat.reduceMul, Nat.reduceLeDiff, zc, Int.reduceToNat, s1, r4096, s3, s6, r53264, s11, r106560, s12, r106640, s13, s14, hi', hi]
     have ur3i := ur3 i hi
     have sr2i := sr2 i hi
     refine WK_for (fun j st => st.sl 1 = .ptr 4096 1 [] 0 ∧ st.ro 4096 1 = some (.bx [a, b]) ∧ st.sl 3 = i64 (T.length : Int) ∧ st.sl 6 = .ref 53264 (st.gn 53264) [] 0 T.length ∧ st.ro 53264 (st.gn 53264) = some (rowL (cjL S T)) ∧ st.sl 11 = .ref 106560 (st.gn 106560) [] 0 T.length ∧ st.ro 106560 (st.gn 106560) = some (rowLL (tms (tms (uM S T) (uM S T)) (uM S T))) ∧ st.sl 12 = .ref 106640 (st.gn 106640) [] 0 T.length ∧ st.ro 106640 (st.gn 106640) = some (rowLL (tms S S)) ∧ st.sl 13 = i64 (gsV S T) ∧ st.sl 14 = i64 (i : Int) ∧ st.sl 15 = i64 (j : Int) ∧ (∀ y, y < j → tmE (tms (uM S T) (uM S T)) (uM S T) i y = gsV S T * tmE S S i y % 55441)) T.length ?_ ?_ ?_
     ·simp only [↓za, ↓reduceIte, Nat.reduceEqDiff, zb, reduceCtorEq, rws_zero, s1, r4096, s3, s6, r53264, s11, r106560, s12, r106640, s13, s14, hi', hi]
      exact ⟨rfl, lt0⟩
     ·rintro j sl ro gn hj ⟨s1, r4096, s3, s6, r53264, s11, r106560, s12, r106640, s13, s14, s15, qq⟩
      dsimp only at s1 r4096 s3 s6 r53264 s11 r106560 s12 r106640 s13 s14 s15
      have hj' : (j : Int) < (T.length : Nat) := by omega
      have e1 : atI (row (tms (tms (uM S T) (uM S T)) (uM S T)) i) j = tmE (tms (uM S T) (uM S T)) (uM S T) i j := by rw [tms_row (by omega), atI_rws _ (by omega)]
      have e2 : atI (row (tms S S) i) j = tmE S S i j := by rw [tms_row (by omega), atI_rws _ (by omega)]
      have b1 := num_mul (num_mod (sm (gsT S T) T.length)) (num_mod (sm (fun k => atI (row S i) k * atI (row S k) j) S.length))
      have b2 : 0 ≤ gsV S T * tmE S S i j ∧ gsV S T * tmE S S i j ≤ 55440 * 55440 := b1
      simp (maxSteps := 10000000) (disch := first | assumption | omega) only [go_sem, ↓reduceIte, Nat.reduceEqDiff, reduceCtorEq, Nat.reduceAdd, Nat.reduceMul, Nat.reduceLeDiff, zc, Int.reduceToNat, s1, r4096, s3, s6, r53264, s11, r106560, s12, r106640, s13, s14, s15, hj', hj, e1, e2, Int.tmod_eq_emod_of_nonneg]
      refine FIN_of (by kernel_rfl) ?_
      simp (maxSteps := 10000000) (disch := first | assumption | omega) only [go_sem, ↓reduceIte, Nat.reduceEqDiff, reduceCtorEq, Nat.reduceAdd, Nat.reduceMul, Nat.reduceLeDiff, zc, Int.reduceToNat, s1, r4096, s3, s6, r53264, s11, r106560, s12, r106640, s13, s14, s15, hj', hj]
      refine ⟨fun h => ⟨i64c (by omega), ltS qq h⟩, fun h => ?_⟩
      simp only [zr, zb, retR, resL, outT, outL, zes, zez, oneV, zcp, zed, zfi, Ro.dl, St.ev, zhk, ↓za, ↓reduceIte, Nat.reduceEqDiff, Nat.reduceAdd, Nat.reduceLeDiff, DF3 hS hw hc fun h' => h ((Tur_iff hs0).1 h' i hi j hj)]
     ·rintro sl ro gn ⟨s1, r4096, s3, s6, r53264, s11, r106560, s12, r106640, s13, s14, s15, qq⟩
      dsimp only at s1 r4096 s3 s6 r53264 s11 r106560 s12 r106640 s13 s14 s15
      have hj' : ¬ ((T.length : Nat) : Int) < (T.length : Nat) := by omega
      simp (maxSteps := 10000000) (disch := first | assumption | omega) only [go_sem, ↓reduceIte, Nat.reduceEqDiff, reduceCtorEq, Nat.reduceAdd, Nat.reduceMul, Nat.reduceLeDiff, zc, Int.reduceToNat, s1, r4096, s3, s6, r53264, s11, r106560, s12, r106640, s13, s14, s15, hj']
      exact ⟨i64c (by omega), ltS q qq⟩
    ·rintro sl ro gn ⟨s1, r4096, s3, s6, r53264, s11, r106560, s12, r106640, s13, s14, q⟩
     dsimp only at s1 r4096 s3 s6 r53264 s11 r106560 s12 r106640 s13 s14
     have hi' : ¬ ((T.length : Nat) : Int) < (T.length : Nat) := by omega
     have hTu : TurP S T := (Tur_iff hs0).2 q
     clear q
     simp (maxSteps := 10000000) (disch := first | assumption | omega) only [go_sem, ↓reduceIte, Nat.reduceEqDiff, reduceCtorEq, Nat.reduceAdd, Nat.reduceMul, Nat.reduceLeDiff, zc, Int.reduceToNat, s1, r4096, s3, s6, r53264, s11, r106560, s12, r106640, s13, s14, hi']
     refine CLL_q _ (c78 hb ha (isL_imm (cjL S T)) hs0 hcl (cj_rng hs0 hc)) (.cons (exq_agg (.cons (exq_LL ha (by decide)) (.cons (exq_L hb (by decide)) .nil))) (.cons (exq_refL r53264 hcl.symm (by decide)) .nil)) rfl rfl (noI_cube _ _) ?_
     simp (maxSteps := 10000000) (disch := first | assumption | omega) only [go_sem, ↓reduceIte, Nat.reduceEqDiff, reduceCtorEq, Nat.reduceAdd, Nat.reduceMul, Nat.reduceLeDiff, zc, Int.reduceToNat, s1, r4096, s3, s6, r53264, s11, r106560, s12, r106640, s13, s14, hi']
     by_cases hR : RingP (cubeL (nmE S T.length (cjL S T)) T.length)
     ·refine CLL_q _ (c108 (t := true) (isLLL_immC (nmE S T.length (cjL S T)) T.length) (by simp [hR])) (by repeat' first | exact exqL.nil | refine exqL.cons ?_ ?_ | exact exq_sc _ _ _ (by decide) | exact exq_L (by first | assumption | exact isL_imm _) (by decide) | exact exq_LL (by assumption) (by decide) | exact exq_LLL (by assumption) (by decide) | exact exq_refL (by first | assumption | (simp only [↓za, ↓reduceIte, Nat.reduceEqDiff, zb, reduceCtorEq]; done) | (simp only [↓za, ↓reduceIte, Nat.reduceEqDiff, zb, reduceCtorEq]; first | rfl | assumption)) (by first | rfl | (simp only [zfe, List.length_map, tms_len]; done)) (by decide) | exact exq_refLL (by first | assumption | (simp only [↓za, ↓reduceIte, Nat.reduceEqDiff, zb, reduceCtorEq]; done) | (simp only [↓za, ↓reduceIte, Nat.reduceEqDiff, zb, reduceCtorEq]; first | rfl | assumption)) (by first | rfl | (simp only [zfe, List.length_map, tms_len]; done)) (by decide) | exact exq_cube (by first | assumption | (simp only [↓za, ↓reduceIte, Nat.reduceEqDiff, zb, reduceCtorEq]; done) | (simp only [↓za, ↓reduceIte, Nat.reduceEqDiff, zb, reduceCtorEq]; first | rfl | assumption)) (by decide) | exact exq_mat (by first | assumption | (simp only [↓za, ↓reduceIte, Nat.reduceEqDiff, zb, reduceCtorEq]; done) | (simp only [↓za, ↓reduceIte, Nat.reduceEqDiff, zb, reduceCtorEq]; first | rfl | assumption)) (by decide) | refine exq_agg ?_) rfl rfl rfl ?_
      simp (maxSteps := 10000000) (disch := first | assumption | omega) only [go_sem, ↓reduceIte, Nat.reduceEqDiff, reduceCtorEq, Nat.reduceAdd, Nat.reduceMul, Nat.reduceLeDiff, zc, Int.reduceToNat, s1, r4096, s3, s6, r53264, s11, r106560, s12, r106640, s13, s14, hi']
      simp only [zr, zb, retR, resL, outT, outL, zes, zez, oneV, zcp, zed, zfi, Ro.dl, St.ev, zhk, ↓za, ↓reduceIte, Nat.reduceEqDiff, Nat.reduceAdd, Nat.reduceLeDiff, DF5 hS hw hc hTu hR]
     ·refine CLL_q _ (c108 (t := false) (isLLL_immC (nmE S T.length (cjL S T)) T.length) (by simp [hR])) (by repeat' first | exact exqL.nil | refine exqL.cons ?_ ?_ | exact exq_sc _ _ _ (by decide) | exact exq_L (by first | assumption | exact isL_imm _) (by decide) | exact exq_LL (by assumption) (by decide) | exact exq_LLL (by assumption) (by decide) | exact exq_refL (by first | assumption | (simp only [↓za, ↓reduceIte, Nat.reduceEqDiff, zb, reduceCtorEq]; done) | (simp only [↓za, ↓reduceIte, Nat.reduceEqDiff, zb, reduceCtorEq]; first | rfl | assumption)) (by first | rfl | (simp only [zfe, List.length_map, tms_len]; done)) (by decide) | exact exq_refLL (by first | assumption | (simp only [↓za, ↓reduceIte, Nat.reduceEqDiff, zb, reduceCtorEq]; done) | (simp only [↓za, ↓reduceIte, Nat.reduceEqDiff, zb, reduceCtorEq]; first | rfl | assumption)) (by first | rfl | (simp only [zfe, List.length_map, tms_len]; done)) (by decide) | exact exq_cube (by first | assumption | (simp only [↓za, ↓reduceIte, Nat.reduceEqDiff, zb, reduceCtorEq]; done) | (simp only [↓za, ↓reduceIte, Nat.reduceEqDiff, zb, reduceCtorEq]; first | rfl | assumption)) (by decide) | exact exq_mat (by first | assumption | (simp only [↓za, ↓reduceIte, Nat.reduceEqDiff, zb, reduceCtorEq]; done) | (simp only [↓za, ↓reduceIte, Nat.reduceEqDiff, zb, reduceCtorEq]; first | rfl | assumption)) (by decide) | refine exq_agg ?_) rfl rfl rfl ?_
      simp (maxSteps := 10000000) (disch := first | assumption | omega) only [go_sem, ↓reduceIte, Nat.reduceEqDiff, reduceCtorEq, Nat.reduceAdd, Nat.reduceMul, Nat.reduceLeDiff, zc, Int.reduceToNat, s1, r4096, s3, s6, r53264, s11, r106560, s12, r106640, s13, s14, hi']
      simp only [zr, zb, retR, resL, outT, outL, zes, zez, oneV, zcp, zed, zfi, Ro.dl, St.ev, zhk, ↓za, ↓reduceIte, Nat.reduceEqDiff, Nat.reduceAdd, Nat.reduceLeDiff, DF4 hS hw hc hTu hR]
  ·refine CLL_pure _ (c58 (r := nilA) hb ha hs0 rfl (fun h => absurd h hc) (fun _ => rfl)) PUt rfl rfl ?_
   simp (maxSteps := 10000000) (disch := first | assumption | omega) only [go_sem, ↓reduceIte, Nat.reduceEqDiff, reduceCtorEq, Nat.reduceAdd, Nat.reduceMul, Nat.reduceLeDiff, zc, Int.reduceToNat, s1, r4096, s3, s4, hi']
   simp only [zr, zb, retR, resL, outT, outL, zes, zez, oneV, zcp, zed, zfi, Ro.dl, St.ev, zhk, ↓za, ↓reduceIte, Nat.reduceEqDiff, Nat.reduceAdd, Nat.reduceLeDiff, DF2 hS hw hc]
theorem c66 {a b : AV} {S : List (List Int)} {T : List Int} (ha : isLL a S) (hb : isL b T) (hS : S.length ≤ maxN) (hT : T.length ≤ maxN) (hR : ∀ i, i < S.length → (row S i).length ≤ maxN) {t : Bool} (ht : t = true ↔ DataP S T) : CallOK Tryz.prog 16 [.agg [a, b]] (bo t) := by
 refine call_of (fn := Tryz.f16) (code := bodyOf Tryz.f16) Tryz.func16 rfl (by kernel_rfl) (rfl) ?_
 intro sl hs
 have s0 : sl 0 = .agg [a, b] := hs 0
 by_cases hP : ShpP S T
 ·dsimp only [Tryz.f16, bodyOf, Option.getD]
  simp (maxSteps := 10000000) (disch := first | assumption | omega) only [go_sem, ↓reduceIte, Nat.reduceEqDiff, reduceCtorEq, Nat.reduceAdd, Nat.reduceMul, Nat.reduceLeDiff, zc, Int.reduceToNat, s0]
  refine CLL_pure _ (c98 (t := true) ha hb hS hT hR (by simp [hP])) PUt rfl rfl ?_
  simp (maxSteps := 10000000) (disch := first | assumption | omega) only [go_sem, ↓reduceIte, Nat.reduceEqDiff, reduceCtorEq, Nat.reduceAdd, Nat.reduceMul, Nat.reduceLeDiff, zc, Int.reduceToNat, s0]
  refine CLL_pure _ (c99 ha hb hP) PUt rfl rfl ?_
  rcases DF_cases S T with h | h
  ·have h1 : DF S T < 0 := by omega
   simp (maxSteps := 10000000) (disch := first | assumption | omega) only [go_sem, ↓reduceIte, Nat.reduceEqDiff, reduceCtorEq, Nat.reduceAdd, Nat.reduceMul, Nat.reduceLeDiff, zc, Int.reduceToNat, s0, h1]
   simp only [zr, zb, retR, resL, outT, outL, zes, zez, oneV, zcp, zed, zfi, Ro.dl, St.ev, zhk, ↓za, ↓reduceIte, Nat.reduceEqDiff, Nat.reduceAdd, Nat.reduceLeDiff]
   exact (ht.2 ⟨hP, h⟩).symm
  ·have h1 : ¬ DF S T < 0 := by omega
   simp (maxSteps := 10000000) (disch := first | assumption | omega) only [go_sem, ↓reduceIte, Nat.reduceEqDiff, reduceCtorEq, Nat.reduceAdd, Nat.reduceMul, Nat.reduceLeDiff, zc, Int.reduceToNat, s0, h1]
   simp only [zr, zb, retR, resL, outT, outL, zes, zez, oneV, zcp, zed, zfi, Ro.dl, St.ev, zhk, ↓za, ↓reduceIte, Nat.reduceEqDiff, Nat.reduceAdd, Nat.reduceLeDiff]
   exact bool_false ht fun h => by have := h.2; omega
 ·dsimp only [Tryz.f16, bodyOf, Option.getD]
  simp (maxSteps := 10000000) (disch := first | assumption | omega) only [go_sem, ↓reduceIte, Nat.reduceEqDiff, reduceCtorEq, Nat.reduceAdd, Nat.reduceMul, Nat.reduceLeDiff, zc, Int.reduceToNat, s0]
  refine CLL_pure _ (c98 (t := false) ha hb hS hT hR (by simp [hP])) PUt rfl rfl ?_
  simp (maxSteps := 10000000) (disch := first | assumption | omega) only [go_sem, ↓reduceIte, Nat.reduceEqDiff, reduceCtorEq, Nat.reduceAdd, Nat.reduceMul, Nat.reduceLeDiff, zc, Int.reduceToNat, s0]
  simp only [zr, zb, retR, resL, outT, outL, zes, zez, oneV, zcp, zed, zfi, Ro.dl, St.ev, zhk, ↓za, ↓reduceIte, Nat.reduceEqDiff, Nat.reduceAdd, Nat.reduceLeDiff]
  exact bool_false ht fun h => hP h.1
theorem mat_len {F : Nat → Nat → Nat → Int} {n i : Nat} (h : i < n) : (mat (cubeL F n) i).length = n := by rw [mat_cube h, zfe]
theorem cube_lens {F : Nat → Nat → Nat → Int} {n : Nat} (hn : n ≤ maxN) : ∀ i, i < (cubeL F n).length → (mat (cubeL F n) i).length ≤ maxN ∧ ∀ j, j < (mat (cubeL F n) i).length → (row (mat (cubeL F n) i) j).length ≤ maxN := by
 intro i hi
 have hi' : i < n := by rwa [show (cubeL F n).length = n from zfe _ _] at hi
 rw [mat_len hi']
 refine ⟨hn, fun j hj => ?_⟩
 rw [mat_cube hi', row_rws _ hj, zfe]; exact hn
theorem CubeP_iff {F : Nat → Nat → Nat → Int} {n : Nat} (h0 : 0 < n) : CubeP (cubeL F n) ↔ (cubeOk F n ∧ n ≤ 16) := by
 have hl : (cubeL F n).length = n := zfe _ _
 unfold CubeP
 rw [hl]
 constructor
 ·rintro ⟨_, h2, h3⟩
  refine ⟨fun i hi j hj k hk => ?_, h2⟩
  have := ((h3 i hi).2 j hj).2 k hk
  rwa [at3_cube hi hj hk] at this
 ·rintro ⟨h1, h2⟩
  refine ⟨h0, h2, fun i hi => ⟨mat_len hi, fun j hj => ⟨by rw [mat_cube hi, row_rws _ hj, zfe], fun k hk => ?_⟩⟩⟩
  rw [at3_cube hi hj hk]; exact h1 i hi j hj k hk
theorem cubeL_congr {F G : Nat → Nat → Nat → Int} {n : Nat} (h : ∀ x y z, x < n → y < n → z < n → F x y z = G x y z) : cubeL F n = cubeL G n :=
 rws_congr fun x hx => rws_congr fun y hy => rws_congr fun z hz => h x y z hx hy hz
theorem c90 {a b : AV} {S : List (List Int)} {T : List Int} (ha : isLL a S) (hb : isL b T) (hP : ShpP S T) : CallOK Tryz.prog 37 [.agg [a, b]] (i64 (DF S T)) := by
 have hs := Shp_of hP
 have hs0 := hs
 have h16 := hP.2.1
 obtain ⟨hpos, hmax, hlS, hlR, hnS, hnT⟩ := hs
 have hmax' : T.length ≤ 4294967296 := hmax
 have hlR0 := hlR 0 hpos
 refine call_of (fn := Tryz.f37) (code := bodyOf Tryz.f37) Tryz.func37 rfl (by kernel_rfl) (rfl) ?_
 intro sl hs
 have s0 : sl 0 = .agg [a, b] := hs 0
 by_cases hS : StaP S T
 ·dsimp only [Tryz.f37, bodyOf, Option.getD]
  simp (maxSteps := 10000000) (disch := first | assumption | omega) only [go_sem, ↓reduceIte, Nat.reduceEqDiff, reduceCtorEq, Nat.reduceAdd, Nat.reduceMul, Nat.reduceLeDiff, zc, Int.reduceToNat, s0]
  refine CLL_pure _ (c116 (t := true) ha hb hs0 (by simp [hS])) PUt rfl rfl ?_
  simp (maxSteps := 10000000) (disch := first | assumption | omega) only [go_sem, ↓reduceIte, Nat.reduceEqDiff, reduceCtorEq, Nat.reduceAdd, Nat.reduceMul, Nat.reduceLeDiff, zc, Int.reduceToNat, s0]
  have c91' := c91 (b := b) ha (isL_cell hb) (fun ro => isL_cellB ro hb) (by omega) (by omega) hnS
  rw [hlR0] at c91'
  by_cases hw : whl S T.length = 0
  ·rw [hw] at c91'
   refine CLL_pure _ c91' PUt rfl rfl ?_
   simp (maxSteps := 10000000) (disch := first | assumption | omega) only [go_sem, ↓reduceIte, Nat.reduceEqDiff, reduceCtorEq, Nat.reduceAdd, Nat.reduceMul, Nat.reduceLeDiff, zc, Int.reduceToNat, s0]
   simp only [zr, zb, retR, resL, outT, outL, zes, zez, oneV, zcp, zed, zfi, Ro.dl, St.ev, zhk, ↓za, ↓reduceIte, Nat.reduceEqDiff, Nat.reduceAdd, Nat.reduceLeDiff, DF1 hS hw]
  refine CLL_pure _ c91' PUt rfl rfl ?_
  simp (maxSteps := 10000000) (disch := first | assumption | omega) only [go_sem, ↓reduceIte, Nat.reduceEqDiff, reduceCtorEq, Nat.reduceAdd, Nat.reduceMul, Nat.reduceLeDiff, zc, Int.reduceToNat, s0, hw]
  have hcs := cj_same hs0 hw
  by_cases hc : CjP S T
  ·have hdl : rws (djA S) T.length = cjL S T := rws_congr fun i hi => hcs.2 hc i hi
   have hcl := cjL_len S T
   refine CLL_pure _ (c64 (r := rowL (cjL S T)) hb ha hs0 (noRef_rowL _) (fun _ => by rw [hdl]) (fun h => absurd (hcs.1.2 hc) h)) PUt rfl rfl ?_
   simp (maxSteps := 10000000) (disch := first | assumption | omega) only [go_sem, ↓reduceIte, Nat.reduceEqDiff, reduceCtorEq, Nat.reduceAdd, Nat.reduceMul, Nat.reduceLeDiff, zc, Int.reduceToNat, s0, hcl]
   obtain ⟨t, ht, c117'⟩ := c117 ha hb hs0
   by_cases hTu : TurP S T
   ·obtain rfl := ht.2 hTu
    refine CLL_pure _ c117' PUt rfl rfl ?_
    simp (maxSteps := 10000000) (disch := first | assumption | omega) only [go_sem, ↓reduceIte, Nat.reduceEqDiff, reduceCtorEq, Nat.reduceAdd, Nat.reduceMul, Nat.reduceLeDiff, zc, Int.reduceToNat, s0]
    have hcube : cubeA (fuE S T.length (cjL S T)) T.length = cubeA (nmE S T.length (cjL S T)) T.length := cube_congr fun x y z _ _ _ => fu_nm _ _ _ _ _ _
    have hcubeL : cubeL (fuE S T.length (cjL S T)) T.length = cubeL (nmE S T.length (cjL S T)) T.length := cubeL_congr fun x y z _ _ _ => fu_nm _ _ _ _ _ _
    have hci := CubeP_iff (F := fuE S T.length (cjL S T)) hpos
    rw [hcubeL] at hci
    have hl3 : (cubeL (nmE S T.length (cjL S T)) T.length).length = T.length := zfe _ _
    by_cases hCu : CubeP (cubeL (nmE S T.length (cjL S T)) T.length)
    ·have c79' := c79 (t := true) hb ha (isL_imm (cjL S T)) hs0 hcl (cj_rng hs0 hc) (by simp [← hci, hCu])
     rw [hcube] at c79'
     refine CLL_q _ c79' (.cons (exq_agg (.cons (exq_LL ha (by decide)) (.cons (exq_L hb (by decide)) .nil))) (.cons (exq_refL Ur hcl.symm (by decide)) .nil)) rfl rfl (by simp only [noI, noIL, Bool.and_true]; exact noI_cube _ _) ?_
     simp (maxSteps := 10000000) (disch := first | assumption | omega) only [go_sem, ↓reduceIte, Nat.reduceEqDiff, reduceCtorEq, Nat.reduceAdd, Nat.reduceMul, Nat.reduceLeDiff, zc, Int.reduceToNat, s0, impE_tupR]
     by_cases hR : RingP (cubeL (nmE S T.length (cjL S T)) T.length)
     ·refine CLL_q _ (c118 (t := true) (isLLL_immC (nmE S T.length (cjL S T)) T.length) (by omega) (cube_lens hmax) (by simp [hR])) (by repeat' first | exact exqL.nil | refine exqL.cons ?_ ?_ | exact exq_sc _ _ _ (by decide) | exact exq_L (by first | assumption | exact isL_imm _) (by decide) | exact exq_LL (by assumption) (by decide) | exact exq_LLL (by assumption) (by decide) | exact exq_refL (by first | assumption | (simp only [↓za, ↓reduceIte, Nat.reduceEqDiff, zb, reduceCtorEq]; done) | (simp only [↓za, ↓reduceIte, Nat.reduceEqDiff, zb, reduceCtorEq]; first | rfl | assumption)) (by first | rfl | (simp only [zfe, List.length_map, tms_len]; done)) (by decide) | exact exq_refLL (by first | assumption | (simp only [↓za, ↓reduceIte, Nat.reduceEqDiff, zb, reduceCtorEq]; done) | (simp only [↓za, ↓reduceIte, Nat.reduceEqDiff, zb, reduceCtorEq]; first | rfl | assumption)) (by first | rfl | (simp only [zfe, List.length_map, tms_len]; done)) (by decide) | exact exq_cube (by first | assumption | (simp only [↓za, ↓reduceIte, Nat.reduceEqDiff, zb, reduceCtorEq]; done) | (simp only [↓za, ↓reduceIte, Nat.reduceEqDiff, zb, reduceCtorEq]; first | rfl | assumption)) (by decide) | exact exq_mat (by first | assumption | (simp only [↓za, ↓reduceIte, Nat.reduceEqDiff, zb, reduceCtorEq]; done) | (simp only [↓za, ↓reduceIte, Nat.reduceEqDiff, zb, reduceCtorEq]; first | rfl | assumption)) (by decide) | refine exq_agg ?_) rfl rfl rfl ?_
      simp (maxSteps := 10000000) (disch := first | assumption | omega) only [go_sem, ↓reduceIte, Nat.reduceEqDiff, reduceCtorEq, Nat.reduceAdd, Nat.reduceMul, Nat.reduceLeDiff, zc, Int.reduceToNat, s0]
      simp only [zr, zb, retR, resL, outT, outL, zes, zez, oneV, zcp, zed, zfi, Ro.dl, St.ev, zhk, ↓za, ↓reduceIte, Nat.reduceEqDiff, Nat.reduceAdd, Nat.reduceLeDiff, DF5 hS hw hc hTu hR]
     ·refine CLL_q _ (c118 (t := false) (isLLL_immC (nmE S T.length (cjL S T)) T.length) (by omega) (cube_lens hmax) (by simp [hR])) (by repeat' first | exact exqL.nil | refine exqL.cons ?_ ?_ | exact exq_sc _ _ _ (by decide) | exact exq_L (by first | assumption | exact isL_imm _) (by decide) | exact exq_LL (by assumption) (by decide) | exact exq_LLL (by assumption) (by decide) | exact exq_refL (by first | assumption | (simp only [↓za, ↓reduceIte, Nat.reduceEqDiff, zb, reduceCtorEq]; done) | (simp only [↓za, ↓reduceIte, Nat.reduceEqDiff, zb, reduceCtorEq]; first | rfl | assumption)) (by first | rfl | (simp only [zfe, List.length_map, tms_len]; done)) (by decide) | exact exq_refLL (by first | assumption | (simp only [↓za, ↓reduceIte, Nat.reduceEqDiff, zb, reduceCtorEq]; done) | (simp only [↓za, ↓reduceIte, Nat.reduceEqDiff, zb, reduceCtorEq]; first | rfl | assumption)) (by first | rfl | (simp only [zfe, List.length_map, tms_len]; done)) (by decide) | exact exq_cube (by first | assumption | (simp only [↓za, ↓reduceIte, Nat.reduceEqDiff, zb, reduceCtorEq]; done) | (simp only [↓za, ↓reduceIte, Nat.reduceEqDiff, zb, reduceCtorEq]; first | rfl | assumption)) (by decide) | exact exq_mat (by first | assumption | (simp only [↓za, ↓reduceIte, Nat.reduceEqDiff, zb, reduceCtorEq]; done) | (simp only [↓za, ↓reduceIte, Nat.reduceEqDiff, zb, reduceCtorEq]; first | rfl | assumption)) (by decide) | refine exq_agg ?_) rfl rfl rfl ?_
      simp (maxSteps := 10000000) (disch := first | assumption | omega) only [go_sem, ↓reduceIte, Nat.reduceEqDiff, reduceCtorEq, Nat.reduceAdd, Nat.reduceMul, Nat.reduceLeDiff, zc, Int.reduceToNat, s0]
      simp only [zr, zb, retR, resL, outT, outL, zes, zez, oneV, zcp, zed, zfi, Ro.dl, St.ev, zhk, ↓za, ↓reduceIte, Nat.reduceEqDiff, Nat.reduceAdd, Nat.reduceLeDiff, DF4 hS hw hc hTu hR]
    ·have c79' := c79 (t := false) hb ha (isL_imm (cjL S T)) hs0 hcl (cj_rng hs0 hc) (by rw [← hci]; simp [hCu])
     rw [hcube] at c79'
     refine CLL_q _ c79' (.cons (exq_agg (.cons (exq_LL ha (by decide)) (.cons (exq_L hb (by decide)) .nil))) (.cons (exq_refL Ur hcl.symm (by decide)) .nil)) rfl rfl (by simp only [noI, noIL, Bool.and_true]; exact noI_cube _ _) ?_
     simp (maxSteps := 10000000) (disch := first | assumption | omega) only [go_sem, ↓reduceIte, Nat.reduceEqDiff, reduceCtorEq, Nat.reduceAdd, Nat.reduceMul, Nat.reduceLeDiff, zc, Int.reduceToNat, s0, impE_tupR]
     simp only [zr, zb, retR, resL, outT, outL, zes, zez, oneV, zcp, zed, zfi, Ro.dl, St.ev, zhk, ↓za, ↓reduceIte, Nat.reduceEqDiff, Nat.reduceAdd, Nat.reduceLeDiff, DF4 hS hw hc hTu (fun h => hCu h.1)]
   ·have : t = false := by cases t; rfl; exact absurd (ht.1 rfl) hTu
    subst this
    refine CLL_pure _ c117' PUt rfl rfl ?_
    simp (maxSteps := 10000000) (disch := first | assumption | omega) only [go_sem, ↓reduceIte, Nat.reduceEqDiff, reduceCtorEq, Nat.reduceAdd, Nat.reduceMul, Nat.reduceLeDiff, zc, Int.reduceToNat, s0]
    simp only [zr, zb, retR, resL, outT, outL, zes, zez, oneV, zcp, zed, zfi, Ro.dl, St.ev, zhk, ↓za, ↓reduceIte, Nat.reduceEqDiff, Nat.reduceAdd, Nat.reduceLeDiff, DF3 hS hw hc hTu]
  ·refine CLL_pure _ (c64 (r := nilA) hb ha hs0 rfl (fun h => absurd (hcs.1.1 h) hc) (fun _ => rfl)) PUt rfl rfl ?_
   simp (maxSteps := 10000000) (disch := first | assumption | omega) only [go_sem, ↓reduceIte, Nat.reduceEqDiff, reduceCtorEq, Nat.reduceAdd, Nat.reduceMul, Nat.reduceLeDiff, zc, Int.reduceToNat, s0]
   simp only [zr, zb, retR, resL, outT, outL, zes, zez, oneV, zcp, zed, zfi, Ro.dl, St.ev, zhk, ↓za, ↓reduceIte, Nat.reduceEqDiff, Nat.reduceAdd, Nat.reduceLeDiff, DF2 hS hw hc]
 ·dsimp only [Tryz.f37, bodyOf, Option.getD]
  simp (maxSteps := 10000000) (disch := first | assumption | omega) only [go_sem, ↓reduceIte, Nat.reduceEqDiff, reduceCtorEq, Nat.reduceAdd, Nat.reduceMul, Nat.reduceLeDiff, zc, Int.reduceToNat, s0]
  refine CLL_pure _ (c116 (t := false) ha hb hs0 (by simp [hS])) PUt rfl rfl ?_
  simp (maxSteps := 10000000) (disch := first | assumption | omega) only [go_sem, ↓reduceIte, Nat.reduceEqDiff, reduceCtorEq, Nat.reduceAdd, Nat.reduceMul, Nat.reduceLeDiff, zc, Int.reduceToNat, s0]
  simp only [zr, zb, retR, resL, outT, outL, zes, zez, oneV, zcp, zed, zfi, Ro.dl, St.ev, zhk, ↓za, ↓reduceIte, Nat.reduceEqDiff, Nat.reduceAdd, Nat.reduceLeDiff, DF0 hS]
theorem c62 {a b : AV} {S : List (List Int)} {T : List Int} (ha : isLL a S) (hb : isL b T) (hS : S.length ≤ maxN) (hT : T.length ≤ maxN) (hR : ∀ i, i < S.length → (row S i).length ≤ maxN) {t : Bool} (ht : t = true ↔ DataP S T) : CallOK Tryz.prog 20 [.agg [a, b]] (bo t) := by
 refine call_of (fn := Tryz.f20) (code := bodyOf Tryz.f20) Tryz.func20 rfl (by kernel_rfl) (rfl) ?_
 intro sl hs
 have s0 : sl 0 = .agg [a, b] := hs 0
 by_cases hP : ShpP S T
 ·dsimp only [Tryz.f20, bodyOf, Option.getD]
  simp (maxSteps := 10000000) (disch := first | assumption | omega) only [go_sem, ↓reduceIte, Nat.reduceEqDiff, reduceCtorEq, Nat.reduceAdd, Nat.reduceMul, Nat.reduceLeDiff, zc, Int.reduceToNat, s0]
  refine CLL_pure _ (c89 (t := true) ha hb hS hT hR (by simp [hP])) PUt rfl rfl ?_
  simp (maxSteps := 10000000) (disch := first | assumption | omega) only [go_sem, ↓reduceIte, Nat.reduceEqDiff, reduceCtorEq, Nat.reduceAdd, Nat.reduceMul, Nat.reduceLeDiff, zc, Int.reduceToNat, s0]
  refine CLL_pure _ (c90 ha hb hP) PUt rfl rfl ?_
  rcases DF_cases S T with h | h
  ·have h1 : DF S T < 0 := by omega
   simp (maxSteps := 10000000) (disch := first | assumption | omega) only [go_sem, ↓reduceIte, Nat.reduceEqDiff, reduceCtorEq, Nat.reduceAdd, Nat.reduceMul, Nat.reduceLeDiff, zc, Int.reduceToNat, s0, h1]
   simp only [zr, zb, retR, resL, outT, outL, zes, zez, oneV, zcp, zed, zfi, Ro.dl, St.ev, zhk, ↓za, ↓reduceIte, Nat.reduceEqDiff, Nat.reduceAdd, Nat.reduceLeDiff]
   exact (ht.2 ⟨hP, h⟩).symm
  ·have h1 : ¬ DF S T < 0 := by omega
   simp (maxSteps := 10000000) (disch := first | assumption | omega) only [go_sem, ↓reduceIte, Nat.reduceEqDiff, reduceCtorEq, Nat.reduceAdd, Nat.reduceMul, Nat.reduceLeDiff, zc, Int.reduceToNat, s0, h1]
   simp only [zr, zb, retR, resL, outT, outL, zes, zez, oneV, zcp, zed, zfi, Ro.dl, St.ev, zhk, ↓za, ↓reduceIte, Nat.reduceEqDiff, Nat.reduceAdd, Nat.reduceLeDiff]
   exact bool_false ht fun h => by have := h.2; omega
 ·dsimp only [Tryz.f20, bodyOf, Option.getD]
  simp (maxSteps := 10000000) (disch := first | assumption | omega) only [go_sem, ↓reduceIte, Nat.reduceEqDiff, reduceCtorEq, Nat.reduceAdd, Nat.reduceMul, Nat.reduceLeDiff, zc, Int.reduceToNat, s0]
  refine CLL_pure _ (c89 (t := false) ha hb hS hT hR (by simp [hP])) PUt rfl rfl ?_
  simp (maxSteps := 10000000) (disch := first | assumption | omega) only [go_sem, ↓reduceIte, Nat.reduceEqDiff, reduceCtorEq, Nat.reduceAdd, Nat.reduceMul, Nat.reduceLeDiff, zc, Int.reduceToNat, s0]
  simp only [zr, zb, retR, resL, outT, outL, zes, zez, oneV, zcp, zed, zfi, Ro.dl, St.ev, zhk, ↓za, ↓reduceIte, Nat.reduceEqDiff, Nat.reduceAdd, Nat.reduceLeDiff]
  exact bool_false ht fun h => hP h.1
end Go.Proofs.YteaaangdibabnaaGreatDoor
/- Sizes and copies of the statements' data; charges. -/
namespace Go.Proofs.YteaaangdibabnaaGreatDoor
open Go.RowKit
set_option maxRecDepth 1000000
def isLw (a : AV) (xs : List Int) : Prop := a = .imm (xs.map i64) ∨ (xs = [] ∧ ∃ o c, a = .sc (.slice o 0 c))
def isLws : List AV → List (List Int) → Prop
 | [], [] => True
 | a :: bs, x :: xs => isLw a x ∧ isLws bs xs
 | _, _ => False
def isLLw (a : AV) (xss : List (List Int)) : Prop := (∃ cs, a = .imm cs ∧ isLws cs xss) ∨ (xss = [] ∧ ∃ o c, a = .sc (.slice o 0 c))
def szV (z : Int) : Int := if z < 0 then -1 else z
def szA (S : List (List Int)) (l : Int) : Nat → Int
 | 0 => l
 | i + 1 => szA S l i - (row S i).length
def szD (S : List (List Int)) (T : List Int) (left : Int) : Int := if szA S (left - S.length) S.length < 0 then -1 else szV (szA S (left - S.length) S.length - T.length)
end Go.Proofs.YteaaangdibabnaaGreatDoor
/- Charges; balances. -/
namespace Go.Proofs.YteaaangdibabnaaGreatDoor
open Go.RowKit
set_option maxRecDepth 1000000
noncomputable def chg (S : List (List Int)) (T : List Int) (i : Int) : Int := by
 classical exact if DataP S T then (if 0 ≤ i ∧ i ≤ (T.length : Int) - 1 then 0 else 2) else 1
section
variable {a b : AV} {S : List (List Int)} {T : List Int}
end
structure Dat (S : List (List Int)) (T : List Int) : Prop where
 shp : Shp S T
 m16 : T.length ≤ 16
 sta : StaP S T
 whl : ¬ whl S T.length = 0
 cj : CjP S T
 tur : TurP S T
 ring : RingP (cubeL (nmE S T.length (cjL S T)) T.length)
theorem DataP.dat {S : List (List Int)} {T : List Int} (h : DataP S T) : Dat S T := by
 obtain ⟨h0, h1, h2, h3, h4⟩ := DF_inv h.2
 exact ⟨Shp_of h.1, h.1.2.1, h0, h1, h2, h3, h4⟩
def in2 (i j : Nat) : Option AV → Option (List AV)
 | some (.row cs) => match cs[i]? with
  | some (.row ds) => rowO ds[j]?
  | _ => none
 | _ => none
attribute [go_sem] impE_agg1 kFieldV
def baT (S : List (List Int)) (T : List Int) (c j k : Nat) : Int := nmE S T.length (cjL S T) c j k * (atI T k * atI (row S 0) k % 55441)
def baS (S : List (List Int)) (T : List Int) (c j : Nat) : Nat → Int
 | 0 => 0
 | k + 1 => (baS S T c j k + baT S T c j k) % 55441
def bbT (S : List (List Int)) (T : List Int) (c j k : Nat) : Int := nmE S T.length (cjL S T) c j k * atI T k % 55441 * atI (row S 0) k % 55441
def balV (S : List (List Int)) (T : List Int) (c i j : Nat) : Int := baS S T c j T.length * pw (atI T i) 55439 % 55441 * pw (atI T j) 55439 % 55441
section
variable {a b : AV} {S : List (List Int)} {T : List Int}
end
end Go.Proofs.YteaaangdibabnaaGreatDoor
/- The law of BalanceOf answers true. -/
namespace Go.Proofs.YteaaangdibabnaaGreatDoor
open Go.RowKit
set_option maxRecDepth 1000000
theorem impE_tup2 (b : Nat) (gn : Nat → Nat) (v x : Value) : impE b gn (.tup [.sc v, .sc x]) = ⟨.tup [.sc v, .sc x], none, [], []⟩ := nr _
attribute [go_sem] impE_tup2
theorem row_max {S : List (List Int)} (hR : ∀ i, i < S.length → (row S i).length ≤ maxN) (j : Nat) : (S.getD j []).length ≤ maxN := by
 rcases Nat.lt_or_ge j S.length with h | h
 ·exact hR j h
 ·have : S.getD j [] = [] := by simp [List.getD_eq_getElem?_getD, List.getElem?_eq_none h]
  rw [this]; exact Nat.zero_le _
end Go.Proofs.YteaaangdibabnaaGreatDoor
/- Diagonal vectors; the law of DiagonalVector answers true. -/
namespace Go.Proofs.YteaaangdibabnaaGreatDoor
open Go.RowKit
set_option maxRecDepth 1000000
def dvF (n m k : Nat) : Int := if k % (n + 1) = 0 ∧ k / (n + 1) < m then 1 else 0
def dvL (n : Nat) : List Int := rws (dvF n n) (n * n)
section
variable {a b : AV} {S : List (List Int)} {T : List Int}
end
end Go.Proofs.YteaaangdibabnaaGreatDoor
/- The law of DiagonalVector answers true. -/
namespace Go.Proofs.YteaaangdibabnaaGreatDoor
open Go.RowKit
set_option maxRecDepth 1000000
end Go.Proofs.YteaaangdibabnaaGreatDoor
/- What a statement hands in, read by the machine. -/
namespace Go.Proofs.YteaaangdibabnaaGreatDoor
open Go.RowKit Go.ChangeShapes Go.WideShapes Go.Deep Go.Joins
theorem walk_below {P : Program} {f : Nat} {args : List AV} {b : Bool} (h : CallOK P f args (bo b)) {w : World} {vs : List Value} (hv : RelL (cx0 w (fun _ => False)) args vs []) (hg : Gd w) :
  Calls P f vs.toArray w fun e w' => e = .returned (.bool b) ∧ Below w.heap.size w w' := by
 refine (h.2.2 w (fun _ => False) vs hv (fun _ h => h.elim) hg).mono ?_
 rintro e w' ⟨v, A', F', rfl, h1, _, _, h4⟩
 obtain ⟨h2, _⟩ := Rel.sc_inv h1
 exact ⟨by rw [h2], ⟨h4.os, h4.tape, h4.output, h4.size, fun k hk => h4.block k hk (by simp)⟩⟩
section
variable {H : Type} {enc : TypeId × Value → H} {P : Program} {w : World} {held : Bool}
end
end Go.Proofs.YteaaangdibabnaaGreatDoor
