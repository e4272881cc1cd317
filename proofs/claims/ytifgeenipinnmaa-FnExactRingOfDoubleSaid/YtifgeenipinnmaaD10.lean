/- The rings of data. -/
import Derived.Test.YtifgeenipinnmaaD9
set_option linter.all false
namespace Go.Proofs.Ytifgeenipinnmaa
open Go.RowKit
theorem ti34 : ti0 34 = ti0 34 := rfl

theorem cj_rng {S : List (List Int)} {T : List Int} (hs : Shp S T) (hP : CjP S T) : ∀ k, k < T.length → 0 ≤ atI (cjL S T) k ∧ atI (cjL S T) k < T.length := by
  intro k hk
  unfold cjL
  rw [atI_rws _ hk]
  refine ⟨(hP.1 k hk).2.1, ?_⟩
  rcases ix_cases (row (tms S S) k) (whl S T.length) with hc | ⟨m, hc, hm, -⟩
  · have : cjA S T k = -1 := hc
    omega
  · rw [tms_row (by rw [hs.lS]; exact hk), zfe, hs.lS] at hm
    have : cjA S T k = m := hc
    omega
theorem cjL_len (S : List (List Int)) (T : List Int) : (cjL S T).length = T.length := zfe _ _
theorem noRef_agg1 (x : AV) (h : noRef x = true) : noRef (.agg [x]) = true := by simp only [noRef, noRefL, h, Bool.and_true]
theorem impE_tupR (b : Nat) (gn : Nat → Nat) (xs : List AV) (v : Value) : impE b gn (.tup [.agg [.row xs], .sc v]) = ⟨.tup [.agg [.ref b (gn b + 1) [] 0 xs.length], .sc v], none, [], [(b, .row xs)]⟩ := nr _

theorem argsX_dr {ro : Ro} {a b : AV} {S : List (List Int)} {T cs : List Int} {s g : Nat} (ha : isLL a S) (hb : isL b T) (h : ro s g = some (rowL cs)) : argsX ro [.agg [a, b], .ref s g [] 0 cs.length] = [.agg [a, b], immL cs] := by
  have hp : pureL [.agg [a, b], .ref s g [] 0 cs.length] = false := by simp [pureL, pureA]
  unfold argsX
  rw [hp, if_neg Bool.false_ne_true]
  show [AV.agg [ex ro 7 a, ex ro 7 b], ex ro 8 _] = _
  rw [ex_refL h 6, isL_ex ro 5 hb]
  have : ex ro 7 a = a := by
    rcases ha with ⟨vs, rfl, h⟩ | ⟨-, rfl⟩
    · show AV.imm (vs.map (ex ro 6)) = _
      have : ∀ {vs : List AV} {xss : List (List Int)}, isLs vs xss → vs.map (ex ro 6) = vs := by
        intro vs
        induction vs with
        | nil => intro xss _; rfl
        | cons v vs ih =>
          intro xss h
          cases xss with
          | nil => exact h.elim
          | cons x xss => rw [List.map_cons, isL_ex ro 4 h.1, ih h.2]
      rw [this h]
    · rfl
  rw [this]

set_option maxRecDepth 1000000 in
theorem c45 {a b : AV} {S : List (List Int)} {T : List Int} (hb : isL b T) (ha : isLL a S) (hs : Shp S T) (hP : CjP S T) : CallOK Try.prog 45 [.agg [a, b]] (.agg [cubeA (nmE S T.length (cjL S T)) T.length]) := by
  refine call_of (fn := Try.f45) (code := bodyOf Try.f45) Try.func45 rfl (by kernel_rfl) (noRef_agg1 _ (noRef_cube _ _)) ?_
  intro sl hs0
  have s0 : sl 0 = .agg [a, b] := hs0 0
  simp only [Try.f45, bodyOf, Option.getD, go_sem, ↓reduceIte, Nat.reduceEqDiff, reduceCtorEq, Nat.reduceAdd, Nat.reduceMul, Nat.reduceLeDiff, ti2, ti23, ti25, ti31, ti33, s0, isL_cellB _ hb, isLL_cellB _ ha, isLL_lift _ _ _ ha, isL_lift _ _ _ hb, List.map_nil]
  refine CLLD_pure _ (c58 hb ha hs (noRef_rowL _) (fun _ => rfl) (fun h => absurd hP h)) (by simp only [pureL, pureA, isLL_pure ha, isL_pure hb, Bool.and_self]) rfl ?_
  simp only [go_sem, ↓reduceIte, Nat.reduceEqDiff, reduceCtorEq, Nat.reduceAdd, Nat.reduceMul, Nat.reduceLeDiff, ti2, ti23, ti25, ti31, ti33, impE_row, List.length_map, pureL, pureA, isLL_pure ha, isL_pure hb]
  refine CLLD_args _ (c78 hb ha (isL_imm (cjL S T)) hs (cjL_len S T) (cj_rng hs hP)) (argsX_dr ha hb (by simp only [↓zcy, ↓zcz, ↓zda, ↓zdb, ↓reduceIte, Nat.reduceEqDiff, and_true, true_and, and_self, ne_eq, not_false_eq_true, eq_self, false_and, and_false, reduceCtorEq])) rfl (noI_cube _ _) ?_
  have hpu : ∀ g n, pureL [.agg [a, b], .ref 8224 g [] 0 n] = false := fun g n => by simp [pureL, pureA]
  simp only [go_sem, ↓reduceIte, Nat.reduceEqDiff, reduceCtorEq, Nat.reduceAdd, Nat.reduceMul, Nat.reduceLeDiff, ti2, ti23, ti25, ti31, ti33, impE_row, List.length_map, hpu, zfe, List.map_nil, isLL_sh _ ha, isL_sh _ hb, isLL_sites ha, isL_sites hb]
  refine FIN_of (by kernel_rfl) ?_
  simp only [go_sem, ↓reduceIte, Nat.reduceEqDiff, reduceCtorEq, Nat.reduceAdd, Nat.reduceMul, Nat.reduceLeDiff, ti2, ti23, ti25, ti31, ti33]
  simp only [zbj, zbk, retR, resL, outT, zes, zez, oneV, ↓zcy, ↓zcz, ↓reduceIte, Nat.reduceEqDiff, Option.some.injEq, AV.sc.injEq, Value.bool.injEq, Value.int.injEq, outL, outT, zft, zcp, zed, zef, zei, zeh, List.length_cons, List.length_nil, Nat.reduceAdd, Nat.zero_add, Nat.reduceLeDiff, List.drop_zero, List.take_succ_cons, List.take_zero, zfi, zfh, Ro.dl, zdb, zda, zfe, and_self, and_true, true_and, eq_self, List.append_nil, List.nil_append, List.cons_append, ne_eq, not_false_eq_true, and_false, false_and, Bool.false_eq_true, St.ev, zes, zfn, ti33]

set_option maxRecDepth 1000000 in
theorem c46 {a b : AV} {S : List (List Int)} {T : List Int} (hb : isL b T) (ha : isLL a S) (hs : Shp S T) (hw : whl S T.length ≠ 0) (hP : CjP S T) : CallOK Try.prog 46 [.agg [a, b]] (.agg [cubeA (nmE S T.length (cjL S T)) T.length]) := by
  have hcs := cj_same hs hw
  have hdl : rws (djA S) T.length = cjL S T := rws_congr fun i hi => hcs.2 hP i hi
  have hcube : cubeA (fuE S T.length (cjL S T)) T.length = cubeA (nmE S T.length (cjL S T)) T.length := cube_congr fun x y z _ _ _ => fu_nm _ _ _ _ _ _
  have ht : ∃ t : Bool, t = true ↔ (cubeOk (fuE S T.length (cjL S T)) T.length ∧ T.length ≤ 16) := by
    by_cases h : cubeOk (fuE S T.length (cjL S T)) T.length ∧ T.length ≤ 16
    · exact ⟨true, by simp [h]⟩
    · exact ⟨false, by simp [h]⟩
  obtain ⟨t, ht⟩ := ht
  have c79' := c79 hb ha (isL_imm (cjL S T)) hs (cjL_len S T) (cj_rng hs hP) ht
  rw [hcube] at c79'
  refine call_of (fn := Try.f46) (code := bodyOf Try.f46) Try.func46 rfl (by kernel_rfl) (noRef_agg1 _ (noRef_cube _ _)) ?_
  intro sl hs0
  have s0 : sl 0 = .agg [a, b] := hs0 0
  simp only [Try.f46, bodyOf, Option.getD, go_sem, ↓reduceIte, Nat.reduceEqDiff, reduceCtorEq, Nat.reduceAdd, Nat.reduceMul, Nat.reduceLeDiff, ti2, ti23, ti25, ti31, ti33, s0, isL_cellB _ hb, isLL_cellB _ ha, isLL_lift _ _ _ ha, isL_lift _ _ _ hb, List.map_nil]
  refine CLLD_pure (rowL (cjL S T)) (c64 hb ha hs (noRef_rowL _) (fun _ => by rw [hdl]) (fun h => absurd (hcs.1.2 hP) h)) (by simp only [pureL, pureA, isLL_pure ha, isL_pure hb, Bool.and_self]) rfl ?_
  simp only [go_sem, ↓reduceIte, Nat.reduceEqDiff, reduceCtorEq, Nat.reduceAdd, Nat.reduceMul, Nat.reduceLeDiff, ti2, ti23, ti25, ti31, ti33, impE_row, List.length_map, pureL, pureA, isLL_pure ha, isL_pure hb]
  have hnI : noI (.tup [.agg [cubeA (nmE S T.length (cjL S T)) T.length], bo t]) = true := by
    have := noI_cube (nmE S T.length (cjL S T)) T.length
    simp only [noI, noIL, Bool.and_true] at this ⊢
    exact this
  refine CLLD_args _ c79' (argsX_dr ha hb (by simp only [↓zcy, ↓zcz, ↓zda, ↓zdb, ↓reduceIte, Nat.reduceEqDiff, and_true, true_and, and_self, ne_eq, not_false_eq_true, eq_self, false_and, and_false, reduceCtorEq])) rfl hnI ?_
  have hpu : ∀ g n, pureL [.agg [a, b], .ref 8224 g [] 0 n] = false := fun g n => by simp [pureL, pureA]
  simp only [go_sem, ↓reduceIte, Nat.reduceEqDiff, reduceCtorEq, Nat.reduceAdd, Nat.reduceMul, Nat.reduceLeDiff, ti2, ti23, ti25, ti31, ti33, impE_tupR, List.length_map, hpu, zfe, List.map_nil, isLL_sh _ ha, isL_sh _ hb, isLL_sites ha, isL_sites hb]
  refine FIN_of (by kernel_rfl) ?_
  simp only [go_sem, ↓reduceIte, Nat.reduceEqDiff, reduceCtorEq, Nat.reduceAdd, Nat.reduceMul, Nat.reduceLeDiff, ti2, ti23, ti25, ti31, ti33]
  simp only [zbj, zbk, retR, resL, outT, zes, zez, oneV, ↓zcy, ↓zcz, ↓reduceIte, Nat.reduceEqDiff, Option.some.injEq, AV.sc.injEq, Value.bool.injEq, Value.int.injEq, outL, outT, zft, zcp, zed, zef, zei, zeh, List.length_cons, List.length_nil, Nat.reduceAdd, Nat.zero_add, Nat.reduceLeDiff, List.drop_zero, List.take_succ_cons, List.take_zero, zfi, zfh, Ro.dl, zdb, zda, zfe, and_self, and_true, true_and, eq_self, List.append_nil, List.nil_append, List.cons_append, ne_eq, not_false_eq_true, and_false, false_and, Bool.false_eq_true, St.ev, zes, zfn, ti33]
end Go.Proofs.Ytifgeenipinnmaa
