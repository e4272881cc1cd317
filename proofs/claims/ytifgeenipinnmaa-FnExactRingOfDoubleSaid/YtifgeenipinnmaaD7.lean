/- Cubes; the numbers N (reference). -/
import Derived.Test.YtifgeenipinnmaaD6
set_option linter.all false
namespace Go.Proofs.Ytifgeenipinnmaa
open Go.RowKit

/-- A cube in memory. -/
abbrev cubeA (F : Nat → Nat → Nat → Int) (n : Nat) : AV := .row (rws (fun i => .row (rws (fun j => .row (rws (fun k => i64 (F i j k)) n)) n)) n)
def updF (F : Nat → Nat → Nat → Int) (i j k : Nat) (v : Int) : Nat → Nat → Nat → Int := fun x y z => if x = i ∧ y = j ∧ z = k then v else F x y z
theorem noRef_cube (F : Nat → Nat → Nat → Int) (n : Nat) : noRef (cubeA F n) = true := noRef_row _ (noRefL_rws _ _ fun _ => noRef_row _ (noRefL_rws _ _ fun _ => noRef_row _ (noRefL_rws _ _ fun _ => rfl)))
theorem noI_cube (F : Nat → Nat → Nat → Int) (n : Nat) : noI (cubeA F n) = true := noI_row _ (noIL_map _ (fun _ => noI_row _ (noIL_map _ (fun _ => noI_row _ (noIL_map _ (fun _ => rfl) _)) _)) _)
theorem cube_cells {ro : Ro} {s g i j n : Nat} {F : Nat → Nat → Nat → Int} (h : ro s g = some (cubeA F n)) (hi : i < n) (hj : j < n) : ro.cells s g [i, j] = some (rws (fun k => i64 (F i j k)) n) := by
  unfold Ro.cells Ro.at
  simp only [h, ath, rws_get _ _ _ hi, rws_get _ _ _ hj]
theorem cube_bx {ro : Ro} {s g i j n : Nat} {F : Nat → Nat → Nat → Int} (h : ro s g = some (cubeA F n)) (hi : i < n) (hj : j < n) : isBxAt ro s g [i, j] = false := by
  unfold isBxAt Ro.at
  simp only [h, ath, rws_get _ _ _ hi, rws_get _ _ _ hj]
theorem cube_wr {ro : Ro} {s g i j k n : Nat} {F : Nat → Nat → Nat → Int} {v : Int} (h : ro s g = some (cubeA F n)) (hi : i < n) (hj : j < n) (hk : k < n) : ro.wr ⟨s, g, [i, j], k, [i64 v]⟩ = upr ro s g (cubeA (updF F i j k v) n) := by
  unfold Ro.wr
  simp only [h, putR, rws_get _ _ _ hi, rws_get _ _ _ hj, setL]
  rw [rws_set, rws_set, rws_set]
  refine congrArg (upr ro s g) (congrArg AV.row (rws_congr fun x hx => ?_))
  by_cases hxi : x = i
  · subst hxi
    rw [if_pos rfl]
    refine congrArg AV.row (rws_congr fun y hy => ?_)
    by_cases hyj : y = j
    · subst hyj
      rw [if_pos rfl]
      refine congrArg AV.row (rws_congr fun z hz => ?_)
      by_cases hzk : z = k
      · subst hzk; rw [if_pos rfl]; simp [updF]
      · rw [if_neg hzk]; simp [updF, hzk]
    · rw [if_neg hyj]
      refine congrArg AV.row (rws_congr fun z hz => ?_)
      simp [updF, hyj]
  · rw [if_neg hxi]
    refine congrArg AV.row (rws_congr fun y hy => congrArg AV.row (rws_congr fun z hz => ?_))
    simp [updF, hxi]
theorem cube_congr {F G : Nat → Nat → Nat → Int} {n : Nat} (h : ∀ x y z, x < n → y < n → z < n → F x y z = G x y z) : cubeA F n = cubeA G n :=
  congrArg AV.row (rws_congr fun x hx => congrArg AV.row (rws_congr fun y hy => congrArg AV.row (rws_congr fun z hz => by rw [h x y z hx hy hz])))

set_option maxRecDepth 1000000 in
theorem c101 {n : Nat} (hn : n ≤ maxN) : CallOK Try.prog 101 [i64 n] (cubeA (fun _ _ _ => 0) n) := by
  have e0 : cubeA (fun _ _ _ => 0) n = .row (rws (fun _ => .row (rws (fun _ => .row (List.replicate n (i64 0))) n)) n) := by simp only [cubeA, rep_rws]
  refine call_of (fn := Try.f101) (code := bodyOf Try.f101) Try.func101 rfl (by kernel_rfl) (noRef_cube _ _) ?_
  rw [e0]
  intro sl hs
  have s0 : sl 0 = i64 n := hs 0
  have hn' : n ≤ 4294967296 := hn
  have hm' : (n : Int) ≤ ((4294967296 : Nat) : Int) := by omega
  simp only [Try.f101, bodyOf, Option.getD, go_sem, ↓reduceIte, Nat.reduceEqDiff, reduceCtorEq, Nat.reduceAdd, Nat.reduceMul, Nat.reduceLeDiff, ti2, ti3, ti4, ti22, ti23, ti31, s0]
  refine WK_for (fun i st => st.sl 0 = i64 n ∧ st.sl 4 = i64 (i : Int) ∧ st.sl 3 = .ref 8192 (st.gn 8192) [] 0 i ∧ st.ro 8192 (st.gn 8192) = some (.row (rws (fun _ => .row (rws (fun _ => .row (List.replicate n (i64 0))) n)) i))) n ?_ ?_ ?_
  · simp only [↓zcy, ↓zcz, ↓zda, ↓zdb, ↓reduceIte, Nat.reduceEqDiff, and_true, true_and, and_self, ne_eq, not_false_eq_true, eq_self, false_and, and_false, reduceCtorEq, s0, rws_zero]
    rfl
  · rintro i sl ro gn hi ⟨s0, s4, s3, r3⟩
    dsimp only at s0 s4 s3 r3
    have hi' : (i : Int) < n := by omega
    have hi2 : i + 1 ≤ 4294967296 := by omega
    simp (config := { maxSteps := 10000000 }) (disch := first | omega | assumption) only [go_sem, ↓reduceIte, Nat.reduceEqDiff, reduceCtorEq, Nat.reduceAdd, Nat.reduceMul, Nat.reduceLeDiff, zfu, Int.mul_def, Int.add_def, zfv, cond_false, cond_true, isub, ti2, ti3, ti4, ti22, ti23, ti31, s0, s4, hi']
    refine WK_for (fun j st => st.sl 0 = i64 n ∧ st.sl 4 = i64 (i : Int) ∧ st.sl 3 = .ref 8192 (st.gn 8192) [] 0 i ∧ st.ro 8192 (st.gn 8192) = some (.row (rws (fun _ => .row (rws (fun _ => .row (List.replicate n (i64 0))) n)) i)) ∧
      st.sl 6 = i64 (j : Int) ∧ st.sl 5 = .ref 24576 (st.gn 24576) [] 0 j ∧ st.ro 24576 (st.gn 24576) = some (.row (rws (fun _ => .row (List.replicate n (i64 0))) j))) n ?_ ?_ ?_
    · simp only [↓zcy, ↓zcz, ↓zda, ↓zdb, ↓reduceIte, Nat.reduceEqDiff, and_true, true_and, and_self, ne_eq, not_false_eq_true, eq_self, false_and, and_false, reduceCtorEq, s0, s4, s3, r3, rws_zero]
      rfl
    · rintro j sl ro gn hj ⟨s0, s4, s3, r3, s6, s5, r5⟩
      dsimp only at s0 s4 s3 r3 s6 s5 r5
      have hj' : (j : Int) < n := by omega
      have hj2 : j + 1 ≤ 4294967296 := by omega
      simp (config := { maxSteps := 10000000 }) (disch := first | omega | assumption) only [go_sem, ↓reduceIte, Nat.reduceEqDiff, reduceCtorEq, Nat.reduceAdd, Nat.reduceMul, Nat.reduceLeDiff, zfu, Int.mul_def, Int.add_def, zfv, cond_false, cond_true, isub, ti2, ti3, ti4, ti22, ti23, ti31, s0, s4, s3, r3, s6, s5, r5, hj', hj2, kMake, Int.natCast_nonneg, Int.le_refl, Int.toNat_natCast, hm', List.length_replicate, List.getD_cons_zero]
      exact i64c (by omega)
    · rintro sl ro gn ⟨s0, s4, s3, r3, s6, s5, r5⟩
      dsimp only at s0 s4 s3 r3 s6 s5 r5
      have hj' : ¬ (n : Int) < n := by omega
      simp (config := { maxSteps := 10000000 }) (disch := first | omega | assumption) only [go_sem, ↓reduceIte, Nat.reduceEqDiff, reduceCtorEq, Nat.reduceAdd, Nat.reduceMul, Nat.reduceLeDiff, zfu, Int.mul_def, Int.add_def, zfv, cond_false, cond_true, isub, ti2, ti3, ti4, ti22, ti23, ti31, s0, s4, s3, r3, s6, s5, r5, hj', hi2]
      exact i64c (by omega)
  · rintro sl ro gn ⟨s0, s4, s3, r3⟩
    dsimp only at s0 s4 s3 r3
    have hi' : ¬ (n : Int) < n := by omega
    simp (config := { maxSteps := 10000000 }) (disch := first | omega | assumption) only [go_sem, ↓reduceIte, Nat.reduceEqDiff, reduceCtorEq, Nat.reduceAdd, Nat.reduceMul, Nat.reduceLeDiff, zfu, Int.mul_def, Int.add_def, zfv, cond_false, cond_true, isub, ti2, ti3, ti4, ti22, ti23, ti31, s0, s4, s3, r3, hi']
    simp only [zbj, zbk, retR, resL, outT, zes, zez, oneV, ↓zcy, ↓zcz, ↓reduceIte, Nat.reduceEqDiff, Option.some.injEq, AV.sc.injEq, Value.bool.injEq, Value.int.injEq, outL, outT, zft, zcp, zed, zef, zei, zeh, List.length_cons, List.length_nil, Nat.reduceAdd, Nat.zero_add, Nat.reduceLeDiff, List.drop_zero, List.take_succ_cons, List.take_zero, zfi, zfh, Ro.dl, zdb, zda, zfe, and_self, and_true, true_and, eq_self, List.append_nil, List.nil_append, List.cons_append, ne_eq, not_false_eq_true, and_false, false_and, Bool.false_eq_true, St.ev, zes, zfn, r3]

/-- A cube that is filled up to a place. -/
def pgF (F : Nat → Nat → Nat → Int) (i j k : Nat) : Nat → Nat → Nat → Int := fun x y z => if x < i ∨ (x = i ∧ (y < j ∨ (y = j ∧ z < k))) then F x y z else 0
theorem pg_step (F : Nat → Nat → Nat → Int) (i j k n : Nat) : cubeA (updF (pgF F i j k) i j k (F i j k)) n = cubeA (pgF F i j (k + 1)) n := by
  refine cube_congr fun x y z _ _ _ => ?_
  unfold updF
  by_cases h : x = i ∧ y = j ∧ z = k
  · rw [if_pos h]
    obtain ⟨rfl, rfl, rfl⟩ := h
    unfold pgF
    rw [if_pos (by omega)]
  · rw [if_neg h]
    have e : (x < i ∨ (x = i ∧ (y < j ∨ (y = j ∧ z < k)))) ↔ (x < i ∨ (x = i ∧ (y < j ∨ (y = j ∧ z < k + 1)))) := by omega
    simp only [pgF, e]

/-! ### The numbers N -/
section
variable (S : List (List Int)) (n : Nat)
def inv0 (l : Nat) : Int := pw (atI (row S 0) l) 55439 * pw (whl S n) 55439 % 55441
def both (i j l : Nat) : Int := atI (row S i) l * atI (row S j) l % 55441 * inv0 S n l % 55441
def nmE (cj : List Int) (i j k : Nat) : Int := sm (fun l => atI (rws (both S n i j) n) l * atI (row S (atI cj k).toNat) l) n % 55441
end

set_option maxRecDepth 1000000 in
set_option maxHeartbeats 10000000 in
theorem c78 {a b c : AV} {S : List (List Int)} {T cj : List Int} (hb : isL b T) (ha : isLL a S) (hc : isL c cj) (hs : Shp S T) (hcl : cj.length = T.length) (hcj : ∀ k, k < T.length → 0 ≤ atI cj k ∧ atI cj k < T.length) : CallOK Try.prog 78 [.agg [a, b], c] (cubeA (nmE S T.length cj) T.length) := by
  refine call_of (fn := Try.f78) (code := bodyOf Try.f78) Try.func78 rfl (by kernel_rfl) (noRef_cube _ _) ?_
  intro sl hs0
  have s0 : sl 0 = .agg [a, b] := hs0 0
  have s1 : sl 1 = c := hs0 1
  obtain ⟨hpos, hmax, hlS, hlR, hnS, hnT⟩ := hs
  generalize hN : T.length = n at *
  have hmax' : n ≤ 4294967296 := hmax
  have hlR0 := hlR 0 hpos
  have h0 := isLL_row ha (k := 0) (by omega)
  simp only [Try.f78, bodyOf, Option.getD, go_sem, ↓reduceIte, Nat.reduceEqDiff, reduceCtorEq, Nat.reduceAdd, Nat.reduceMul, Nat.reduceLeDiff, ti2, ti3, ti4, ti22, ti23, ti25, ti31, s0, s1, isL_cellB _ hb, isLL_cellB _ ha, isLL_lift _ _ _ ha, isL_lift _ _ _ hb, isL_len hb, hN]
  have c67' := c67 ha hb (by omega) (by omega) (by omega) hnS
  rw [hN] at c67'
  refine CLL_pure _ c67' (by simp only [pureL, pureA, isLL_pure ha, isL_pure hb, Bool.and_self]) rfl rfl ?_
  simp only [go_sem, ↓reduceIte, Nat.reduceEqDiff, reduceCtorEq, Nat.reduceAdd, Nat.reduceMul, Nat.reduceLeDiff, ti2, ti3, ti4, ti22, ti23, ti25, ti31]
  refine CLL_pure _ (c59 (num_whl S n).1 (num_whl S n).2) rfl rfl rfl ?_
  simp only [go_sem, ↓reduceIte, Nat.reduceEqDiff, reduceCtorEq, Nat.reduceAdd, Nat.reduceMul, Nat.reduceLeDiff, ti2, ti3, ti4, ti22, ti23, ti25, ti31]
  refine CLL_pure _ (c101 hmax) rfl rfl rfl ?_
  simp only [go_sem, ↓reduceIte, Nat.reduceEqDiff, reduceCtorEq, Nat.reduceAdd, Nat.reduceMul, Nat.reduceLeDiff, ti2, ti3, ti4, ti22, ti23, ti25, ti31, s1, impE_row]
  -- the inverses
  refine WK_for (fun l st => st.sl 1 = c ∧ st.sl 2 = .ptr 4096 1 [] 0 ∧ st.ro 4096 1 = some (.bx [a, b]) ∧ st.sl 5 = i64 n ∧ st.sl 6 = i64 (pw (whl S n) 55439) ∧ st.sl 7 = .ref 16400 1 [] 0 n ∧ st.ro 16400 1 = some (cubeA (fun _ _ _ => 0) n) ∧
    st.sl 9 = i64 (l : Int) ∧ st.sl 8 = .ref 20480 (st.gn 20480) [] 0 l ∧ st.ro 20480 (st.gn 20480) = some (.row (rws (fun l => i64 (inv0 S n l)) l))) n ?_ ?_ ?_
  · simp only [↓zcy, ↓zcz, ↓zda, ↓zdb, ↓reduceIte, Nat.reduceEqDiff, and_true, true_and, and_self, ne_eq, not_false_eq_true, eq_self, false_and, and_false, reduceCtorEq, s1, rws_zero, zfe]
    rfl
  · rintro l sl ro gn hl ⟨s1, s2, r2, s5, s6, s7, r7, s9, s8, r8⟩
    dsimp only at s1 s2 r2 s5 s6 s7 r7 s9 s8 r8
    have hl' : (l : Int) < n := by omega
    have hl2 : l + 1 ≤ 4294967296 := by omega
    simp (config := { maxSteps := 10000000 }) (disch := first | omega | assumption) only [go_sem, ↓reduceIte, Nat.reduceEqDiff, reduceCtorEq, Nat.reduceAdd, Nat.reduceMul, Nat.reduceLeDiff, zfu, Int.mul_def, Int.add_def, zfv, cond_false, cond_true, isub, ti2, ti3, ti4, ti22, ti23, ti25, ti31, s1, s2, r2, s5, s6, s7, r7, s9, s8, r8, hl', isLL_lift _ _ _ ha, isLL_idx0 ha (by omega : 0 < S.length), isL_idx h0 (by omega : l < (row S 0).length)]
    refine CLL_pure _ (c59 (hnS 0 l).1 (hnS 0 l).2) rfl rfl rfl ?_
    have hb1 := bnd (pw_nonneg (atI (row S 0) l) 55439) (pw_lt (atI (row S 0) l) 55439) (pw_nonneg (whl S n) 55439) (pw_lt (whl S n) 55439)
    have e1 : pw (atI (row S 0) l) 55439 * pw (whl S n) 55439 % 55441 = inv0 S n l := rfl
    simp (config := { maxSteps := 10000000 }) (disch := first | omega | assumption) only [go_sem, ↓reduceIte, Nat.reduceEqDiff, reduceCtorEq, Nat.reduceAdd, Nat.reduceMul, Nat.reduceLeDiff, zfu, Int.mul_def, Int.add_def, zfv, cond_false, cond_true, isub, ti2, ti3, ti4, ti22, ti23, ti25, ti31, s1, s2, r2, s5, s6, s7, r7, s9, s8, r8, hl2, Int.tmod_eq_emod_of_nonneg, e1]
    exact i64c (by omega)
  · rintro sl ro gn ⟨s1, s2, r2, s5, s6, s7, r7, s9, s8, r8⟩
    dsimp only at s1 s2 r2 s5 s6 s7 r7 s9 s8 r8
    have hl' : ¬ (n : Int) < n := by omega
    simp (config := { maxSteps := 10000000 }) (disch := first | omega | assumption) only [go_sem, ↓reduceIte, Nat.reduceEqDiff, reduceCtorEq, Nat.reduceAdd, Nat.reduceMul, Nat.reduceLeDiff, zfu, Int.mul_def, Int.add_def, zfv, cond_false, cond_true, isub, ti2, ti3, ti4, ti22, ti23, ti25, ti31, s1, s2, r2, s5, s6, s7, r7, s9, s8, r8, hl']
    refine WK_for (fun i st => st.sl 1 = c ∧ st.sl 2 = .ptr 4096 1 [] 0 ∧ st.ro 4096 1 = some (.bx [a, b]) ∧ st.sl 5 = i64 n ∧ st.sl 8 = .ref 20480 (st.gn 20480) [] 0 n ∧ st.ro 20480 (st.gn 20480) = some (.row (rws (fun l => i64 (inv0 S n l)) n)) ∧ st.sl 7 = .ref 16400 1 [] 0 n ∧ st.ro 16400 1 = some (cubeA (pgF (nmE S n cj) i 0 0) n) ∧ st.sl 10 = i64 (i : Int)) n ?_ ?_ ?_
    · simp only [↓zcy, ↓zcz, ↓zda, ↓zdb, ↓reduceIte, Nat.reduceEqDiff, and_true, true_and, and_self, ne_eq, not_false_eq_true, eq_self, false_and, and_false, reduceCtorEq, s1, s2, r2, s5, s8, r8, s7, r7]
      exact ⟨congrArg some (cube_congr fun x y z _ _ _ => by simp [pgF]), rfl⟩
    · rintro i sl ro gn hi ⟨s1, s2, r2, s5, s8, r8, s7, r7, s10⟩
      dsimp only at s1 s2 r2 s5 s8 r8 s7 r7 s10
      have hi' : (i : Int) < n := by omega
      simp (config := { maxSteps := 10000000 }) (disch := first | omega | assumption) only [go_sem, ↓reduceIte, Nat.reduceEqDiff, reduceCtorEq, Nat.reduceAdd, Nat.reduceMul, Nat.reduceLeDiff, zfu, Int.mul_def, Int.add_def, zfv, cond_false, cond_true, isub, ti2, ti3, ti4, ti22, ti23, ti25, ti31, s5, s10, hi']
      refine WK_for (fun j st => st.sl 1 = c ∧ st.sl 2 = .ptr 4096 1 [] 0 ∧ st.ro 4096 1 = some (.bx [a, b]) ∧ st.sl 5 = i64 n ∧ st.sl 8 = .ref 20480 (st.gn 20480) [] 0 n ∧ st.ro 20480 (st.gn 20480) = some (.row (rws (fun l => i64 (inv0 S n l)) n)) ∧ st.sl 7 = .ref 16400 1 [] 0 n ∧ st.ro 16400 1 = some (cubeA (pgF (nmE S n cj) i j 0) n) ∧ st.sl 10 = i64 (i : Int) ∧ st.sl 11 = i64 (j : Int)) n ?_ ?_ ?_
      · simp only [↓zcy, ↓zcz, ↓zda, ↓zdb, ↓reduceIte, Nat.reduceEqDiff, and_true, true_and, and_self, ne_eq, not_false_eq_true, eq_self, false_and, and_false, reduceCtorEq, s1, s2, r2, s5, s8, r8, s7, r7, s10]
        rfl
      · rintro j sl ro gn hj ⟨s1, s2, r2, s5, s8, r8, s7, r7, s10, s11⟩
        dsimp only at s1 s2 r2 s5 s8 r8 s7 r7 s10 s11
        have hj' : (j : Int) < n := by omega
        simp (config := { maxSteps := 10000000 }) (disch := first | omega | assumption) only [go_sem, ↓reduceIte, Nat.reduceEqDiff, reduceCtorEq, Nat.reduceAdd, Nat.reduceMul, Nat.reduceLeDiff, zfu, Int.mul_def, Int.add_def, zfv, cond_false, cond_true, isub, ti2, ti3, ti4, ti22, ti23, ti25, ti31, s5, s11, hj']
        refine WK_for (fun l st => st.sl 1 = c ∧ st.sl 2 = .ptr 4096 1 [] 0 ∧ st.ro 4096 1 = some (.bx [a, b]) ∧ st.sl 5 = i64 n ∧ st.sl 8 = .ref 20480 (st.gn 20480) [] 0 n ∧ st.ro 20480 (st.gn 20480) = some (.row (rws (fun l => i64 (inv0 S n l)) n)) ∧ st.sl 7 = .ref 16400 1 [] 0 n ∧ st.ro 16400 1 = some (cubeA (pgF (nmE S n cj) i j 0) n) ∧ st.sl 10 = i64 (i : Int) ∧ st.sl 11 = i64 (j : Int) ∧ st.sl 13 = i64 (l : Int) ∧ st.sl 12 = .ref 65536 (st.gn 65536) [] 0 l ∧ st.ro 65536 (st.gn 65536) = some (rowL (rws (both S n i j) l))) n ?_ ?_ ?_
        · simp only [↓zcy, ↓zcz, ↓zda, ↓zdb, ↓reduceIte, Nat.reduceEqDiff, and_true, true_and, and_self, ne_eq, not_false_eq_true, eq_self, false_and, and_false, reduceCtorEq, s1, s2, r2, s5, s8, r8, s7, r7, s10, s11, rws_zero]
          exact ⟨rfl, rfl⟩
        · rintro l sl ro gn hl ⟨s1, s2, r2, s5, s8, r8, s7, r7, s10, s11, s13, s12, r12⟩
          dsimp only at s1 s2 r2 s5 s8 r8 s7 r7 s10 s11 s13 s12 r12
          have hl' : (l : Int) < n := by omega
          have hl2 : l + 1 ≤ 4294967296 := by omega
          have h1 := isLL_row ha (k := i) (by omega)
          have h2 := isLL_row ha (k := j) (by omega)
          have hb1 := num_mul (hnS i l) (hnS j l)
          have hb2 := num_mod (atI (row S i) l * atI (row S j) l)
          have hb3 : num (inv0 S n l) := num_mod _
          have hb4 := num_mul hb2 hb3
          unfold num at hb2
          have hg := rws_get (fun l => i64 (inv0 S n l)) n l hl
          have e1 : atI (row S i) l * atI (row S j) l % 55441 * inv0 S n l % 55441 = both S n i j l := rfl
          simp (config := { maxSteps := 10000000 }) (disch := first | omega | assumption) only [go_sem, ↓reduceIte, Nat.reduceEqDiff, reduceCtorEq, Nat.reduceAdd, Nat.reduceMul, Nat.reduceLeDiff, zfu, Int.mul_def, Int.add_def, zfv, cond_false, cond_true, isub, ti2, ti3, ti4, ti22, ti23, ti25, ti31, s1, s2, r2, s5, s8, r8, s7, r7, s10, s11, s13, s12, r12, hl', hl, hg, isLL_lift _ _ _ ha, isLL_idx ha (by omega : i < S.length), isLL_idx ha (by omega : j < S.length), isL_idx h1 (by rw [hlR i hi]; exact hl : l < (row S i).length), isL_idx h2 (by rw [hlR j hj]; exact hl : l < (row S j).length), isLL_sites ha, isL_sites h1, isL_sites h2, rwsm_take, rwsm_app, List.length_map, hl2, Int.tmod_eq_emod_of_nonneg, e1]
          refine FIN_of (by kernel_rfl) ?_
          simp (config := { maxSteps := 10000000 }) (disch := first | omega | assumption) only [go_sem, ↓reduceIte, Nat.reduceEqDiff, reduceCtorEq, Nat.reduceAdd, Nat.reduceMul, Nat.reduceLeDiff, zfu, Int.mul_def, Int.add_def, zfv, cond_false, cond_true, isub, ti2, ti3, ti4, ti22, ti23, ti25, ti31, s1, s2, r2, s5, s8, r8, s7, r7, s10, s11, s13, rwsm_app]
          exact i64c (by omega)
        · rintro sl ro gn ⟨s1, s2, r2, s5, s8, r8, s7, r7, s10, s11, s13, s12, r12⟩
          dsimp only at s1 s2 r2 s5 s8 r8 s7 r7 s10 s11 s13 s12 r12
          have hl' : ¬ (n : Int) < n := by omega
          simp (config := { maxSteps := 10000000 }) (disch := first | omega | assumption) only [go_sem, ↓reduceIte, Nat.reduceEqDiff, reduceCtorEq, Nat.reduceAdd, Nat.reduceMul, Nat.reduceLeDiff, zfu, Int.mul_def, Int.add_def, zfv, cond_false, cond_true, isub, ti2, ti3, ti4, ti22, ti23, ti25, ti31, s5, s13, hl']
          refine WK_for (fun k st => st.sl 1 = c ∧ st.sl 2 = .ptr 4096 1 [] 0 ∧ st.ro 4096 1 = some (.bx [a, b]) ∧ st.sl 5 = i64 n ∧ st.sl 8 = .ref 20480 (st.gn 20480) [] 0 n ∧ st.ro 20480 (st.gn 20480) = some (.row (rws (fun l => i64 (inv0 S n l)) n)) ∧ st.sl 7 = .ref 16400 1 [] 0 n ∧ st.ro 16400 1 = some (cubeA (pgF (nmE S n cj) i j k) n) ∧ st.sl 10 = i64 (i : Int) ∧ st.sl 11 = i64 (j : Int) ∧ st.sl 14 = i64 (k : Int) ∧ st.sl 12 = .ref 65536 (st.gn 65536) [] 0 n ∧ st.ro 65536 (st.gn 65536) = some (rowL (rws (both S n i j) n))) n ?_ ?_ ?_
          · simp only [↓zcy, ↓zcz, ↓zda, ↓zdb, ↓reduceIte, Nat.reduceEqDiff, and_true, true_and, and_self, ne_eq, not_false_eq_true, eq_self, false_and, and_false, reduceCtorEq, s1, s2, r2, s5, s8, r8, s7, r7, s10, s11, s12, r12]
            rfl
          · rintro k sl ro gn hk ⟨s1, s2, r2, s5, s8, r8, s7, r7, s10, s11, s14, s12, r12⟩
            dsimp only at s1 s2 r2 s5 s8 r8 s7 r7 s10 s11 s14 s12 r12
            have hk' : (k : Int) < n := by omega
            obtain ⟨hq1, hq2⟩ := hcj k hk
            obtain ⟨m, hm⟩ : ∃ m : Nat, atI cj k = m := ⟨(atI cj k).toNat, by omega⟩
            have hmn : m < n := by omega
            have h1 := isLL_row ha (k := m) (by omega)
            have hax : argsX ro [.ref 65536 (gn 65536) [] 0 n, atA a m] = [immL (rws (both S n i j) n), atA a m] := by
              have hp : pureL [.ref 65536 (gn 65536) [] 0 n, atA a m] = false := rfl
              unfold argsX
              rw [hp, if_neg Bool.false_ne_true]
              have := ex_refL r12 6
              rw [zfe] at this
              show [ex ro 8 _, ex ro 8 _] = _
              rw [this, isL_ex8 ro h1]
            have c102' := c102 (isL_imm (rws (both S n i j) n)) h1 (by rw [zfe]; exact hmax) (by rw [zfe, hlR m hmn]; omega) (numL_rws _ _ fun _ _ => num_mod _) (hnS m)
            rw [zfe] at c102'
            have hgi := rws_get (fun x => AV.row (rws (fun y => .row (rws (fun z => i64 (pgF (nmE S n cj) i j k x y z)) n)) n)) n i hi
            have hgj := rws_get (fun y => AV.row (rws (fun z => i64 (pgF (nmE S n cj) i j k i y z)) n)) n j hj
            simp (config := { maxSteps := 10000000 }) (disch := first | omega | assumption) only [go_sem, ↓reduceIte, Nat.reduceEqDiff, reduceCtorEq, Nat.reduceAdd, Nat.reduceMul, Nat.reduceLeDiff, zfu, Int.mul_def, Int.add_def, zfv, cond_false, cond_true, isub, ti2, ti3, ti4, ti22, ti23, ti25, ti31, s1, s2, r2, s5, s8, r8, s7, r7, s10, s11, s14, s12, r12, hi, hj, hk, hk', hgi, hgj, zfp, inO_row, rowO_row, isLL_lift _ _ _ ha, isL_idx hc (by omega : k < cj.length), hm, isLL_idx ha (by omega : m < S.length), isLL_sites ha, isL_sites hc, isL_sites h1]
            refine CLLD_args (i64 (nmE S n cj i j k)) (by rw [show nmE S n cj i j k = _ from by unfold nmE; rw [hm, Int.toNat_natCast]]; exact c102') hax rfl rfl ?_
            simp (config := { maxSteps := 10000000 }) (disch := first | omega | assumption) only [go_sem, ↓reduceIte, Nat.reduceEqDiff, reduceCtorEq, Nat.reduceAdd, Nat.reduceMul, Nat.reduceLeDiff, zfu, Int.mul_def, Int.add_def, zfv, cond_false, cond_true, isub, ti2, ti3, ti4, ti22, ti23, ti25, ti31, s1, s2, r2, s5, s8, r8, s7, r7, s10, s11, s14, hk, (by omega : k + 1 ≤ n), cube_cells r7 hi hj, cube_bx r7 hi hj, cube_wr r7 hi hj hk, pureL, pureA, isL_sh _ h1, isL_sites h1]
            refine FIN_of (by kernel_rfl) ?_
            simp (config := { maxSteps := 10000000 }) (disch := first | omega | assumption) only [go_sem, ↓reduceIte, Nat.reduceEqDiff, reduceCtorEq, Nat.reduceAdd, Nat.reduceMul, Nat.reduceLeDiff, zfu, Int.mul_def, Int.add_def, zfv, cond_false, cond_true, isub, ti2, ti3, ti4, ti22, ti23, ti25, ti31, s1, s2, r2, s5, s8, r8, s7, r7, s10, s11, s14, s12, r12]
            exact ⟨congrArg some (pg_step _ _ _ _ _), i64c (by omega)⟩
          · rintro sl ro gn ⟨s1, s2, r2, s5, s8, r8, s7, r7, s10, s11, s14, s12, r12⟩
            dsimp only at s1 s2 r2 s5 s8 r8 s7 r7 s10 s11 s14 s12 r12
            have hk' : ¬ (n : Int) < n := by omega
            simp (config := { maxSteps := 10000000 }) (disch := first | omega | assumption) only [go_sem, ↓reduceIte, Nat.reduceEqDiff, reduceCtorEq, Nat.reduceAdd, Nat.reduceMul, Nat.reduceLeDiff, zfu, Int.mul_def, Int.add_def, zfv, cond_false, cond_true, isub, ti2, ti3, ti4, ti22, ti23, ti25, ti31, s1, s2, r2, s5, s8, r8, s7, r7, s10, s11, s14, hk']
            refine ⟨congrArg some (cube_congr fun x y z _ _ hz => ?_), i64c (by omega)⟩
            have e : (x < i ∨ (x = i ∧ (y < j ∨ (y = j ∧ z < n)))) ↔ (x < i ∨ (x = i ∧ (y < j + 1 ∨ (y = j + 1 ∧ z < 0)))) := by omega
            simp only [pgF, e]
      · rintro sl ro gn ⟨s1, s2, r2, s5, s8, r8, s7, r7, s10, s11⟩
        dsimp only at s1 s2 r2 s5 s8 r8 s7 r7 s10 s11
        have hj' : ¬ (n : Int) < n := by omega
        simp (config := { maxSteps := 10000000 }) (disch := first | omega | assumption) only [go_sem, ↓reduceIte, Nat.reduceEqDiff, reduceCtorEq, Nat.reduceAdd, Nat.reduceMul, Nat.reduceLeDiff, zfu, Int.mul_def, Int.add_def, zfv, cond_false, cond_true, isub, ti2, ti3, ti4, ti22, ti23, ti25, ti31, s1, s2, r2, s5, s8, r8, s7, r7, s10, s11, hj']
        refine ⟨congrArg some (cube_congr fun x y z _ hy _ => ?_), i64c (by omega)⟩
        have e : (x < i ∨ (x = i ∧ (y < n ∨ (y = n ∧ z < 0)))) ↔ (x < i + 1 ∨ (x = i + 1 ∧ (y < 0 ∨ (y = 0 ∧ z < 0)))) := by omega
        simp only [pgF, e]
    · rintro sl ro gn ⟨s1, s2, r2, s5, s8, r8, s7, r7, s10⟩
      dsimp only at s1 s2 r2 s5 s8 r8 s7 r7 s10
      have hi' : ¬ (n : Int) < n := by omega
      simp (config := { maxSteps := 10000000 }) (disch := first | omega | assumption) only [go_sem, ↓reduceIte, Nat.reduceEqDiff, reduceCtorEq, Nat.reduceAdd, Nat.reduceMul, Nat.reduceLeDiff, zfu, Int.mul_def, Int.add_def, zfv, cond_false, cond_true, isub, ti2, ti3, ti4, ti22, ti23, ti25, ti31, s1, s2, r2, s5, s8, r8, s7, r7, s10, hi']
      have e0 : cubeA (pgF (nmE S n cj) n 0 0) n = cubeA (nmE S n cj) n := cube_congr fun x y z hx _ _ => by simp [pgF, hx]
      rw [e0] at r7
      simp only [zbj, zbk, retR, resL, outT, zes, zez, oneV, ↓zcy, ↓zcz, ↓reduceIte, Nat.reduceEqDiff, Option.some.injEq, AV.sc.injEq, Value.bool.injEq, Value.int.injEq, outL, outT, zft, zcp, zed, zef, zei, zeh, List.length_cons, List.length_nil, Nat.reduceAdd, Nat.zero_add, Nat.reduceLeDiff, List.drop_zero, List.take_succ_cons, List.take_zero, zfi, zfh, Ro.dl, zdb, zda, zfe, and_self, and_true, true_and, eq_self, List.append_nil, List.nil_append, List.cons_append, ne_eq, not_false_eq_true, and_false, false_and, Bool.false_eq_true, St.ev, zes, zfn, r7]
end Go.Proofs.Ytifgeenipinnmaa
