/- The laws' comparing functions. -/
import Derived.Test.YtifgeenipinnmaaVm24
import Derived.Test.YtifgeenipinnmaaK1
set_option linter.all false
namespace Go.Proofs.Ytifgeenipinnmaa
open Go.RowKit
noncomputable abbrev XX : WX := ⟨Try.prog, ti0, fun f => Nat.beq f 13 || Nat.beq f 18 || Nat.beq f 23 || Nat.beq f 32 || Nat.beq f 43 || Nat.beq f 48 || Nat.beq f 53⟩
theorem call_of {f : Nat} {fn : Func} {code : Code} {args : List AV} {r : AV} (hf : Try.prog.funcs[f]? = some fn) (hb : fn.body = some code)
    (hok : (!(fn.name == "runtime.NumGoroutine") && dstOK fn.ntmps code && decide (args.length ≤ fn.ntmps)) = true) (hn : noRef r = true)
    (h : ∀ sl : Nat → AV, (∀ k, sl k = args.getD k (.sc undef)) → WK XX code [] (RET ti0 fn.results.toList r) ⟨sl, fun _ _ => none, fun _ => 0⟩) : CallOK Try.prog f args r :=
  call_ofG _ (tiG_ok _) mixed0 hf hb hok hn h
theorem ti3 : ti0 3 = some ⟨1, false, [Value.int .i64 0], none, [], some .i64, false, false⟩ := by kernel_rfl
theorem ti4 : ti0 4 = some ⟨1, false, [Value.bool false], none, [], none, false, true⟩ := by kernel_rfl
theorem ti22 : ti0 22 = some ⟨1, false, [Value.slice none 0 0], some 23, [], none, false, false⟩ := by kernel_rfl
theorem ti23 : ti0 23 = some ⟨1, false, [Value.slice none 0 0], some 2, [], none, false, false⟩ := by kernel_rfl
theorem ti25 : ti0 25 = some ⟨2, true, [Value.slice none 0 0, Value.slice none 0 0], none, [(0, 22), (1, 23)], none, false, false⟩ := by kernel_rfl

theorem eq_of_atI {xs ys : List Int} (hl : xs.length = ys.length) (h : ∀ j, j < xs.length → atI xs j = atI ys j) : xs = ys := by
  refine List.ext_getElem hl fun i h1 h2 => ?_
  have := h i h1
  simpa [atI, h1, h2] using this

set_option maxRecDepth 1000000 in
theorem c31 {a b : AV} {xs ys : List Int} (ha : isL a xs) (hb : isL b ys) (hx : xs.length ≤ maxN) : CallOK Try.prog 31 [a, b] (bo (decide (xs = ys))) := by
  refine call_of (fn := Try.f31) (code := bodyOf Try.f31) Try.func31 rfl (by kernel_rfl) rfl ?_
  intro sl hs
  have s0 : sl 0 = a := hs 0
  have s1 : sl 1 = b := hs 1
  simp only [Try.f31, bodyOf, Option.getD, go_sem, ↓reduceIte, Nat.reduceEqDiff, reduceCtorEq, Nat.reduceAdd, Nat.reduceMul, Nat.reduceLeDiff, ti2, ti3, ti4, ti23, s0, s1, isL_len ha, isL_len hb]
  refine ⟨fun h => ?_, fun h => ?_⟩
  · have hl : xs.length = ys.length := by omega
    have hx' : xs.length ≤ 4294967296 := hx
    refine WK_for (fun k st => st.sl 0 = a ∧ st.sl 1 = b ∧ st.sl 5 = i64 (k : Int) ∧ ∀ j, j < k → atI xs j = atI ys j) xs.length ?_ ?_ ?_
    · simp only [↓zcy, ↓zcz, ↓zda, ↓zdb, ↓reduceIte, Nat.reduceEqDiff, and_true, true_and, and_self, ne_eq, not_false_eq_true, eq_self, false_and, and_false, reduceCtorEq, s0, s1]
      exact ⟨rfl, fun j hj => absurd hj (Nat.not_lt_zero _)⟩
    · rintro k sl ro gn hk ⟨s0, s1, s5, hp⟩
      dsimp only at s0 s1 s5
      have hk' : (k : Int) < xs.length := by omega
      simp (config := { maxSteps := 10000000 }) (disch := first | omega | assumption) only [go_sem, ↓reduceIte, Nat.reduceEqDiff, reduceCtorEq, Nat.reduceAdd, Nat.reduceMul, Nat.reduceLeDiff, zfu, Int.mul_def, Int.add_def, zfv, cond_false, cond_true, isub, ti2, ti3, ti4, ti23, s0, s1, s5, isL_len ha, isL_len hb, isL_idx ha, isL_idx hb, isL_sites ha, isL_sites hb, hk']
      refine FIN_of (by kernel_rfl) ?_
      simp (config := { maxSteps := 10000000 }) (disch := first | omega | assumption) only [go_sem, ↓reduceIte, Nat.reduceEqDiff, reduceCtorEq, Nat.reduceAdd, Nat.reduceMul, Nat.reduceLeDiff, zfu, Int.mul_def, Int.add_def, zfv, cond_false, cond_true, isub, ti2, ti3, ti4, ti23, s0, s1, s5]
      refine ⟨fun he => ⟨rfl, fun j hj => ?_⟩, fun hne => ?_⟩
      · rcases Nat.lt_or_ge j k with h | h
        · exact hp j h
        · have : j = k := by omega
          subst this; exact he
      · simp only [zbj, zbk, retR, resL, outT, zes, zez, oneV, ↓zcy, ↓zcz, ↓reduceIte, Nat.reduceEqDiff, Option.some.injEq, AV.sc.injEq, Value.bool.injEq, Value.int.injEq, outL, outT, zft, zcp, zed, zef, zei, zeh, List.length_cons, List.length_nil, Nat.reduceAdd, Nat.zero_add, Nat.reduceLeDiff, List.drop_zero, List.take_succ_cons, List.take_zero, zfi, zfh, Ro.dl, zdb, zda, zfe, and_self, and_true, true_and, eq_self, List.append_nil, List.nil_append, List.cons_append, ne_eq, not_false_eq_true, and_false, false_and, Bool.false_eq_true, St.ev, zes, zfn]
        refine (decide_eq_false ?_).symm
        rintro rfl; exact hne rfl
    · rintro sl ro gn ⟨s0, s1, s5, hp⟩
      dsimp only at s0 s1 s5
      have hk' : ¬ (xs.length : Int) < xs.length := by omega
      simp (config := { maxSteps := 10000000 }) (disch := first | omega | assumption) only [go_sem, ↓reduceIte, Nat.reduceEqDiff, reduceCtorEq, Nat.reduceAdd, Nat.reduceMul, Nat.reduceLeDiff, zfu, Int.mul_def, Int.add_def, zfv, cond_false, cond_true, isub, ti2, ti3, ti4, ti23, s0, s1, s5, isL_len ha, isL_len hb, hk']
      simp only [zbj, zbk, retR, resL, outT, zes, zez, oneV, ↓zcy, ↓zcz, ↓reduceIte, Nat.reduceEqDiff, Option.some.injEq, AV.sc.injEq, Value.bool.injEq, Value.int.injEq, outL, outT, zft, zcp, zed, zef, zei, zeh, List.length_cons, List.length_nil, Nat.reduceAdd, Nat.zero_add, Nat.reduceLeDiff, List.drop_zero, List.take_succ_cons, List.take_zero, zfi, zfh, Ro.dl, zdb, zda, zfe, and_self, and_true, true_and, eq_self, List.append_nil, List.nil_append, List.cons_append, ne_eq, not_false_eq_true, and_false, false_and, Bool.false_eq_true, St.ev, zes, zfn]
      exact (decide_eq_true (eq_of_atI hl hp)).symm
  · simp only [zbj, zbk, retR, resL, outT, zes, zez, oneV, ↓zcy, ↓zcz, ↓reduceIte, Nat.reduceEqDiff, Option.some.injEq, AV.sc.injEq, Value.bool.injEq, Value.int.injEq, outL, outT, zft, zcp, zed, zef, zei, zeh, List.length_cons, List.length_nil, Nat.reduceAdd, Nat.zero_add, Nat.reduceLeDiff, List.drop_zero, List.take_succ_cons, List.take_zero, zfi, zfh, Ro.dl, zdb, zda, zfe, and_self, and_true, true_and, eq_self, List.append_nil, List.nil_append, List.cons_append, ne_eq, not_false_eq_true, and_false, false_and, Bool.false_eq_true, St.ev, zes, zfn]
    refine (decide_eq_false ?_).symm
    rintro rfl; exact h rfl

theorem isLs_inj : ∀ {xs ys : List (List Int)}, xs.length = ys.length → (∀ j, j < xs.length → xs.getD j [] = ys.getD j []) → xs = ys := by
  intro xs ys hl h
  refine List.ext_getElem hl fun i h1 h2 => ?_
  have := h i h1
  simpa [h1, h2] using this

set_option maxRecDepth 1000000 in
theorem c42 {a b : AV} {xs ys : List (List Int)} (ha : isLL a xs) (hb : isLL b ys) (hx : xs.length ≤ maxN) (hx2 : ∀ j, (xs.getD j []).length ≤ maxN) : CallOK Try.prog 42 [a, b] (bo (decide (xs = ys))) := by
  refine call_of (fn := Try.f42) (code := bodyOf Try.f42) Try.func42 rfl (by kernel_rfl) rfl ?_
  intro sl hs
  have s0 : sl 0 = a := hs 0
  have s1 : sl 1 = b := hs 1
  simp only [Try.f42, bodyOf, Option.getD, go_sem, ↓reduceIte, Nat.reduceEqDiff, reduceCtorEq, Nat.reduceAdd, Nat.reduceMul, Nat.reduceLeDiff, ti2, ti3, ti4, ti22, s0, s1, isLL_len ha, isLL_len hb]
  refine ⟨fun h => ?_, fun h => ?_⟩
  · have hl : xs.length = ys.length := by omega
    have hx' : xs.length ≤ 4294967296 := hx
    refine WK_for (fun k st => st.sl 0 = a ∧ st.sl 1 = b ∧ st.sl 5 = i64 (k : Int) ∧ ∀ j, j < k → xs.getD j [] = ys.getD j []) xs.length ?_ ?_ ?_
    · simp only [↓zcy, ↓zcz, ↓zda, ↓zdb, ↓reduceIte, Nat.reduceEqDiff, and_true, true_and, and_self, ne_eq, not_false_eq_true, eq_self, false_and, and_false, reduceCtorEq, s0, s1]
      exact ⟨rfl, fun j hj => absurd hj (Nat.not_lt_zero _)⟩
    · rintro k sl ro gn hk ⟨s0, s1, s5, hp⟩
      dsimp only at s0 s1 s5
      have hk' : (k : Int) < xs.length := by omega
      have h1 := isLL_at ha hk
      have h2 := isLL_at hb (hl ▸ hk)
      simp (config := { maxSteps := 10000000 }) (disch := first | omega | assumption) only [go_sem, ↓reduceIte, Nat.reduceEqDiff, reduceCtorEq, Nat.reduceAdd, Nat.reduceMul, Nat.reduceLeDiff, zfu, Int.mul_def, Int.add_def, zfv, cond_false, cond_true, isub, ti2, ti3, ti4, ti22, ti23, s0, s1, s5, isLL_len ha, isLL_len hb, isLL_idx ha, isLL_idx hb, isLL_sites ha, isLL_sites hb, hk']
      simp only [pureL, isL_pure h1, isL_pure h2, go_sem, ↓reduceIte, Nat.reduceEqDiff, reduceCtorEq, Nat.reduceAdd, Nat.reduceMul, Nat.reduceLeDiff, Bool.and_self]
      refine CLLD_pure _ (c31 h1 h2 (hx2 k)) (by simp only [pureL, isL_pure h1, isL_pure h2, Bool.and_self]) rfl ?_
      simp (config := { maxSteps := 10000000 }) (disch := first | omega | assumption) only [go_sem, ↓reduceIte, Nat.reduceEqDiff, reduceCtorEq, Nat.reduceAdd, Nat.reduceMul, Nat.reduceLeDiff, zfu, Int.mul_def, Int.add_def, zfv, cond_false, cond_true, isub, zej]
      refine FIN_of (by kernel_rfl) ?_
      simp (config := { maxSteps := 10000000 }) (disch := first | omega | assumption) only [go_sem, ↓reduceIte, Nat.reduceEqDiff, reduceCtorEq, Nat.reduceAdd, Nat.reduceMul, Nat.reduceLeDiff, zfu, Int.mul_def, Int.add_def, zfv, cond_false, cond_true, isub, ti2, ti3, ti4, ti23, s0, s1, s5]
      refine ⟨fun he => ⟨rfl, fun j hj => ?_⟩, fun hne => ?_⟩
      · rcases Nat.lt_or_ge j k with h | h
        · exact hp j h
        · have : j = k := by omega
          subst this; exact he
      · simp only [zbj, zbk, retR, resL, outT, zes, zez, oneV, ↓zcy, ↓zcz, ↓reduceIte, Nat.reduceEqDiff, Option.some.injEq, AV.sc.injEq, Value.bool.injEq, Value.int.injEq, outL, outT, zft, zcp, zed, zef, zei, zeh, List.length_cons, List.length_nil, Nat.reduceAdd, Nat.zero_add, Nat.reduceLeDiff, List.drop_zero, List.take_succ_cons, List.take_zero, zfi, zfh, Ro.dl, zdb, zda, zfe, and_self, and_true, true_and, eq_self, List.append_nil, List.nil_append, List.cons_append, ne_eq, not_false_eq_true, and_false, false_and, Bool.false_eq_true, St.ev, zes, zfn]
        refine (decide_eq_false ?_).symm
        rintro rfl; exact hne rfl
    · rintro sl ro gn ⟨s0, s1, s5, hp⟩
      dsimp only at s0 s1 s5
      have hk' : ¬ (xs.length : Int) < xs.length := by omega
      simp (config := { maxSteps := 10000000 }) (disch := first | omega | assumption) only [go_sem, ↓reduceIte, Nat.reduceEqDiff, reduceCtorEq, Nat.reduceAdd, Nat.reduceMul, Nat.reduceLeDiff, zfu, Int.mul_def, Int.add_def, zfv, cond_false, cond_true, isub, ti2, ti3, ti4, ti22, s0, s1, s5, isLL_len ha, isLL_len hb, hk']
      simp only [zbj, zbk, retR, resL, outT, zes, zez, oneV, ↓zcy, ↓zcz, ↓reduceIte, Nat.reduceEqDiff, Option.some.injEq, AV.sc.injEq, Value.bool.injEq, Value.int.injEq, outL, outT, zft, zcp, zed, zef, zei, zeh, List.length_cons, List.length_nil, Nat.reduceAdd, Nat.zero_add, Nat.reduceLeDiff, List.drop_zero, List.take_succ_cons, List.take_zero, zfi, zfh, Ro.dl, zdb, zda, zfe, and_self, and_true, true_and, eq_self, List.append_nil, List.nil_append, List.cons_append, ne_eq, not_false_eq_true, and_false, false_and, Bool.false_eq_true, St.ev, zes, zfn]
      exact (decide_eq_true (isLs_inj hl hp)).symm
  · simp only [zbj, zbk, retR, resL, outT, zes, zez, oneV, ↓zcy, ↓zcz, ↓reduceIte, Nat.reduceEqDiff, Option.some.injEq, AV.sc.injEq, Value.bool.injEq, Value.int.injEq, outL, outT, zft, zcp, zed, zef, zei, zeh, List.length_cons, List.length_nil, Nat.reduceAdd, Nat.zero_add, Nat.reduceLeDiff, List.drop_zero, List.take_succ_cons, List.take_zero, zfi, zfh, Ro.dl, zdb, zda, zfe, and_self, and_true, true_and, eq_self, List.append_nil, List.nil_append, List.cons_append, ne_eq, not_false_eq_true, and_false, false_and, Bool.false_eq_true, St.ev, zes, zfn]
    refine (decide_eq_false ?_).symm
    rintro rfl; exact h rfl

theorem c12 {a b c d : AV} {xs ys : List (List Int)} {us vs : List Int} (ha : isLL a xs) (hb : isLL c ys) (hc : isL b us) (hd : isL d vs) (hx : xs.length ≤ maxN) (hx2 : ∀ j, (xs.getD j []).length ≤ maxN) (hu : us.length ≤ maxN) : CallOK Try.prog 12 [.agg [a, b], .agg [c, d]] (bo (decide (xs = ys ∧ us = vs))) := by
  refine call_of (fn := Try.f12) (code := bodyOf Try.f12) Try.func12 rfl (by kernel_rfl) rfl ?_
  intro sl hs
  have s0 : sl 0 = .agg [a, b] := hs 0
  have s1 : sl 1 = .agg [c, d] := hs 1
  simp only [Try.f12, bodyOf, Option.getD, go_sem, ↓reduceIte, Nat.reduceEqDiff, reduceCtorEq, Nat.reduceAdd, Nat.reduceMul, Nat.reduceLeDiff, ti2, ti3, ti4, ti22, ti25, s0, s1, isLL_cellB _ ha, isLL_cellB _ hb, isL_cellB _ hc, isL_cellB _ hd, isLL_lift _ _ _ ha, isLL_lift _ _ _ hb, isL_lift _ _ _ hc, isL_lift _ _ _ hd]
  refine CLL_pure _ (c42 ha hb hx hx2) (by simp only [pureL, isLL_pure ha, isLL_pure hb, Bool.and_self]) rfl rfl ?_
  simp only [go_sem, ↓reduceIte, Nat.reduceEqDiff, reduceCtorEq, Nat.reduceAdd, Nat.reduceMul, Nat.reduceLeDiff, ti2, ti3, ti4, ti22, ti23, ti25, isLL_lift _ _ _ ha, isLL_lift _ _ _ hb, isL_lift _ _ _ hc, isL_lift _ _ _ hd]
  refine ⟨fun h => ?_, fun h => ?_⟩
  · refine CLL_pure _ (c31 hc hd hu) (by simp only [pureL, isL_pure hc, isL_pure hd, Bool.and_self]) rfl rfl ?_
    simp only [go_sem, ↓reduceIte, Nat.reduceEqDiff, reduceCtorEq, Nat.reduceAdd, Nat.reduceMul, Nat.reduceLeDiff, ti2, ti3, ti4, ti22, ti23, ti25]
    refine ⟨fun h2 => ?_, fun h2 => ?_⟩
    · simp only [zbj, zbk, retR, resL, outT, zes, zez, oneV, ↓zcy, ↓zcz, ↓reduceIte, Nat.reduceEqDiff, Option.some.injEq, AV.sc.injEq, Value.bool.injEq, Value.int.injEq, outL, outT, zft, zcp, zed, zef, zei, zeh, List.length_cons, List.length_nil, Nat.reduceAdd, Nat.zero_add, Nat.reduceLeDiff, List.drop_zero, List.take_succ_cons, List.take_zero, zfi, zfh, Ro.dl, zdb, zda, zfe, and_self, and_true, true_and, eq_self, List.append_nil, List.nil_append, List.cons_append, ne_eq, not_false_eq_true, and_false, false_and, Bool.false_eq_true, St.ev, zes, zfn]
      exact (decide_eq_true ⟨h, h2⟩).symm
    · simp only [zbj, zbk, retR, resL, outT, zes, zez, oneV, ↓zcy, ↓zcz, ↓reduceIte, Nat.reduceEqDiff, Option.some.injEq, AV.sc.injEq, Value.bool.injEq, Value.int.injEq, outL, outT, zft, zcp, zed, zef, zei, zeh, List.length_cons, List.length_nil, Nat.reduceAdd, Nat.zero_add, Nat.reduceLeDiff, List.drop_zero, List.take_succ_cons, List.take_zero, zfi, zfh, Ro.dl, zdb, zda, zfe, and_self, and_true, true_and, eq_self, List.append_nil, List.nil_append, List.cons_append, ne_eq, not_false_eq_true, and_false, false_and, Bool.false_eq_true, St.ev, zes, zfn]
      exact (decide_eq_false fun h3 => h2 h3.2).symm
  · simp only [zbj, zbk, retR, resL, outT, zes, zez, oneV, ↓zcy, ↓zcz, ↓reduceIte, Nat.reduceEqDiff, Option.some.injEq, AV.sc.injEq, Value.bool.injEq, Value.int.injEq, outL, outT, zft, zcp, zed, zef, zei, zeh, List.length_cons, List.length_nil, Nat.reduceAdd, Nat.zero_add, Nat.reduceLeDiff, List.drop_zero, List.take_succ_cons, List.take_zero, zfi, zfh, Ro.dl, zdb, zda, zfe, and_self, and_true, true_and, eq_self, List.append_nil, List.nil_append, List.cons_append, ne_eq, not_false_eq_true, and_false, false_and, Bool.false_eq_true, St.ev, zes, zfn]
    exact (decide_eq_false fun h3 => h h3.1).symm
end Go.Proofs.Ytifgeenipinnmaa
