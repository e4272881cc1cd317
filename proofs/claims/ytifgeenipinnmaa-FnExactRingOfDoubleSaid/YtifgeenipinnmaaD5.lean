/- The conjugation (reference). -/
import Derived.Test.YtifgeenipinnmaaD4
set_option linter.all false
namespace Go.Proofs.Ytifgeenipinnmaa
open Go.RowKit

theorem kIdx_ref0 {ro : Ro} {s g : Nat} {p : List Nat} {off n : Nat} {a1 : Nat} {a2 : Bool} {a3 : List Value} {e : Nat} {a5 : List (Nat × Nat)} {a6 : Option IntKind} {a7 a8 : Bool} : kIdx (some ⟨a1, a2, a3, some e, a5, a6, a7, a8⟩) ro (.ref s g p off n) (.sc (.int .i64 0)) = if 0 < n ∧ (ro.cells s g p).isSome = true then some ⟨.ptr s g p off, none, [], []⟩ else none := zen (k := 0)
theorem rwsm_app (f : Nat → Int) (n : Nat) : (rws f n).map i64 ++ [i64 (f n)] = (rws f (n + 1)).map i64 := by rw [rws_succ, List.map_append]; rfl
theorem rwsm_take (f : Nat → Int) (n : Nat) : ((rws f n).map i64).take n = (rws f n).map i64 := List.take_of_length_le (by simp [rws])
theorem rowLL_get {Q : List (List Int)} {i : Nat} (h : i < Q.length) : (Q.map rowL)[i]? = some (rowL (row Q i)) := by
  simp [row, h]
theorem rowL_get {xs : List Int} {i : Nat} (h : i < xs.length) : (xs.map i64)[i]? = some (i64 (atI xs i)) := by
  simp [atI, h]
theorem ex_refRow {ro : Ro} {s g i : Nat} {Q : List (List Int)} (h : ro s g = some (rowLL Q)) (hi : i < Q.length) (k : Nat) : ex ro (k + 2) (.ref s g [i] 0 (row Q i).length) = immL (row Q i) := by
  show (match ro.cells s g [i] with | some cs => AV.imm (((cs.drop 0).take (row Q i).length).map (ex ro (k + 1))) | none => .dead) = _
  rw [zeg, h, inO_row, rowLL_get hi]
  simp only [rowO_row, List.drop_zero]
  rw [List.take_of_length_le (by simp), ex_map]
theorem ix_cases (xs : List Int) (n : Int) : ix xs n 0 = -1 ∨ ∃ m : Nat, ix xs n 0 = m ∧ m < xs.length ∧ atI xs m = n := by
  by_cases h : ∃ m : Nat, m < xs.length ∧ atI xs m = n
  · right
    have : ∃ m : Nat, m < xs.length ∧ atI xs m = n ∧ ∀ j, j < m → atI xs j ≠ n := by
      obtain ⟨m, h1, h2⟩ := h
      induction m using Nat.strongRecOn with
      | ind m ih =>
        by_cases h3 : ∃ j, j < m ∧ atI xs j = n
        · obtain ⟨j, h4, h5⟩ := h3; exact ih j h4 (by omega) h5
        · exact ⟨m, h1, h2, fun j hj he => h3 ⟨j, hj, he⟩⟩
    obtain ⟨m, h1, h2, h3⟩ := this
    exact ⟨m, by rw [ix_some 0 h1 h2 h3]; omega, h1, h2⟩
  · left
    exact ix_none 0 fun j hj he => h ⟨j, hj, he⟩
theorem ix_has (f : Nat → Int) (n : Nat) (x : Int) : (0 ≤ ix (rws f n) x 0) ↔ ∃ j, j < n ∧ f j = x := by
  rcases ix_cases (rws f n) x with h | ⟨m, h, h1, h2⟩
  · rw [h]
    refine ⟨fun h => absurd h (by decide), ?_⟩
    rintro ⟨j, hj, he⟩
    have : ∀ (xs : List Int) (n : Int) (k b : Nat), k < xs.length → atI xs k = n → 0 ≤ ix xs n b := by
      intro xs n k
      induction xs generalizing k with
      | nil => intro b hk; simp at hk
      | cons y ys ih =>
        intro b hk he
        simp only [ix]
        split
        · omega
        · cases k with
          | zero => rename_i hne; exact absurd (by simpa [atI] using he) hne
          | succ k => exact ih k (b + 1) (by simpa using hk) (by simpa [atI] using he)
    have := this (rws f n) x j 0 (by rw [zfe]; exact hj) (by rw [atI_rws f hj]; exact he)
    omega
  · rw [h]
    rw [zfe] at h1
    rw [atI_rws f h1] at h2
    exact ⟨fun _ => ⟨m, h1, h2⟩, fun _ => by omega⟩

section
variable (S : List (List Int)) (T : List Int)
/-- Where the reference finds the conjugate of i. -/
def cjA (i : Nat) : Int := ix (row (tms S S) i) (whl S T.length) 0
def cjOk (i : Nat) : Prop := (∀ k, k < T.length → (k : Int) ≠ cjA S T i → atI (row (tms S S) i) k = 0) ∧ 0 ≤ cjA S T i ∧ (∀ j, j < i → cjA S T j ≠ cjA S T i) ∧ atI T (cjA S T i).toNat = atI T i
def CjP : Prop := (∀ i, i < T.length → cjOk S T i) ∧ cjA S T 0 = 0
def cjL : List Int := rws (cjA S T) T.length
end

/-- A square shape of numbers. -/
structure Shp (S : List (List Int)) (T : List Int) : Prop where
  pos : 0 < T.length
  max : T.length ≤ maxN
  lS : S.length = T.length
  lR : ∀ i, i < T.length → (row S i).length = T.length
  nS : numLL S
  nT : numL T
theorem tms_len (A B : List (List Int)) : (tms A B).length = A.length := zfe _ _
theorem tms_row {A B : List (List Int)} {i : Nat} (h : i < A.length) : row (tms A B) i = rws (fun j => tmE A B i j) B.length := row_rws _ h

set_option maxRecDepth 1000000 in
set_option maxHeartbeats 10000000 in
theorem c58 {a b : AV} {S : List (List Int)} {T : List Int} (ha : isL b T) (hb : isLL a S) (hs : Shp S T) {r : AV} (hn : noRef r = true) (hr1 : CjP S T → r = rowL (cjL S T)) (hr2 : ¬ CjP S T → r = nilA) : CallOK Try.prog 58 [.agg [a, b]] r := by
  refine call_of (fn := Try.f58) (code := bodyOf Try.f58) Try.func58 rfl (by kernel_rfl) hn ?_
  intro sl hs0
  have s0 : sl 0 = .agg [a, b] := hs0 0
  obtain ⟨hpos, hmax, hlS, hlR, hnS, hnT⟩ := hs
  have hmax' : T.length ≤ 4294967296 := hmax
  have hlR0 := hlR 0 hpos
  simp only [Try.f58, bodyOf, Option.getD, go_sem, ↓reduceIte, Nat.reduceEqDiff, reduceCtorEq, Nat.reduceAdd, Nat.reduceMul, Nat.reduceLeDiff, ti2, ti3, ti4, ti22, ti23, ti25, s0, isL_cellB _ ha, isLL_cellB _ hb, isLL_lift _ _ _ hb, isL_lift _ _ _ ha]
  have hlS' : S.length ≤ maxN := by rw [hlS]; exact hmax
  refine CLLD_pure _ (c86 hb hb hlS' hlS' (fun i hi => by rw [hlR i (by omega)]; omega) (fun i hi => by rw [hlR i (by omega)]; omega) hnS hnS) (by simp only [pureL, isLL_pure hb, Bool.and_self]) rfl ?_
  simp only [go_sem, ↓reduceIte, Nat.reduceEqDiff, reduceCtorEq, Nat.reduceAdd, Nat.reduceMul, Nat.reduceLeDiff, ti2, ti3, ti4, ti22, ti23, ti25, isLL_lift _ _ _ hb, isL_lift _ _ _ ha, impE_row, List.length_map]
  refine CLLD_pure _ (c67 hb ha hmax (by omega) (by omega) hnS) (by simp only [pureL, pureA, isLL_pure hb, isL_pure ha, Bool.and_self]) rfl ?_
  simp only [go_sem, ↓reduceIte, Nat.reduceEqDiff, reduceCtorEq, Nat.reduceAdd, Nat.reduceMul, Nat.reduceLeDiff, ti2, ti3, ti4, ti22, ti23, ti25, isLL_lift _ _ _ hb, isL_lift _ _ _ ha, isLL_sites hb, isL_sites ha, pureL, pureA, isLL_pure hb, isL_pure ha]
  refine FIN_of (by kernel_rfl) ?_
  simp only [go_sem, ↓reduceIte, Nat.reduceEqDiff, reduceCtorEq, Nat.reduceAdd, Nat.reduceMul, Nat.reduceLeDiff, ti2, ti3, ti4, ti22, ti23, ti25]
  have hQl : (tms S S).length = T.length := by rw [tms_len]; exact hlS
  refine WK_for (fun i st => st.sl 1 = .ptr 4096 1 [] 0 ∧ st.ro 4096 1 = some (.bx [a, b]) ∧ st.sl 3 = .ref 8256 1 [] 0 (tms S S).length ∧ st.ro 8256 1 = some (rowLL (tms S S)) ∧ st.sl 4 = i64 (whl S T.length) ∧
    st.sl 5 = .ref 8304 (st.gn 8304) [] 0 i ∧ st.ro 8304 (st.gn 8304) = some (rowL (rws (cjA S T) i)) ∧ st.sl 6 = i64 (i : Int) ∧ ∀ j, j < i → cjOk S T j) T.length ?_ ?_ ?_
  · simp only [↓zcy, ↓zcz, ↓zda, ↓zdb, ↓reduceIte, Nat.reduceEqDiff, and_true, true_and, and_self, ne_eq, not_false_eq_true, eq_self, false_and, and_false, reduceCtorEq, rws_zero]
    exact ⟨rfl, rfl, fun j hj => absurd hj (Nat.not_lt_zero _)⟩
  · rintro i sl ro gn hi ⟨s1, r1, s3, r3, s4, s5, r5, s6, hp⟩
    dsimp only at s1 r1 s3 r3 s4 s5 r5 s6
    have hi' : (i : Int) < T.length := by omega
    have hi2 : i < (tms S S).length := by omega
    have hi3 : i + 1 ≤ 4294967296 := by omega
    have hrow : (row (tms S S) i).length = T.length := by rw [tms_row (by omega), zfe]; exact hlS
    have hg := rowLL_get hi2
    simp (config := { maxSteps := 10000000 }) (disch := first | omega | assumption) only [go_sem, ↓reduceIte, Nat.reduceEqDiff, reduceCtorEq, Nat.reduceAdd, Nat.reduceMul, Nat.reduceLeDiff, zfu, Int.mul_def, Int.add_def, zfv, cond_false, cond_true, isub, ti2, ti3, ti4, ti22, ti23, ti25, s1, r1, s3, r3, s4, s5, r5, s6, isL_lift _ _ _ ha, isL_len ha, hi', hi2, hg, zfp, List.length_map]
    have hax : argsX ro [.ref 8256 1 [i] 0 (row (tms S S) i).length, i64 (whl S T.length)] = [immL (row (tms S S) i), i64 (whl S T.length)] := by
      have hp : pureL [.ref 8256 1 [i] 0 (row (tms S S) i).length, i64 (whl S T.length)] = false := rfl
      unfold argsX
      rw [hp, if_neg Bool.false_ne_true]
      show [ex ro 8 _, _] = _
      rw [ex_refRow r3 hi2 6]; rfl
    refine CLL_args (i64 (cjA S T i)) (c87 (isL_imm _) (by rw [hrow]; exact hmax)) hax rfl rfl rfl ?_
    simp (config := { maxSteps := 10000000 }) (disch := first | omega | assumption) only [go_sem, ↓reduceIte, Nat.reduceEqDiff, reduceCtorEq, Nat.reduceAdd, Nat.reduceMul, Nat.reduceLeDiff, zfu, Int.mul_def, Int.add_def, zfv, cond_false, cond_true, isub, ti2, ti3, ti4, ti22, ti23, ti25, s1, r1, s3, r3, s4, s5, r5, s6]
    refine WK_for (fun k st => st.sl 1 = .ptr 4096 1 [] 0 ∧ st.ro 4096 1 = some (.bx [a, b]) ∧ st.sl 3 = .ref 8256 1 [] 0 (tms S S).length ∧ st.ro 8256 1 = some (rowLL (tms S S)) ∧ st.sl 4 = i64 (whl S T.length) ∧
      st.sl 5 = .ref 8304 (st.gn 8304) [] 0 i ∧ st.ro 8304 (st.gn 8304) = some (rowL (rws (cjA S T) i)) ∧ st.sl 6 = i64 (i : Int) ∧ st.sl 7 = i64 (cjA S T i) ∧ st.sl 8 = i64 (k : Int) ∧ ∀ j, j < k → (j : Int) ≠ cjA S T i → atI (row (tms S S) i) j = 0) T.length ?_ ?_ ?_
    · simp only [↓zcy, ↓zcz, ↓zda, ↓zdb, ↓reduceIte, Nat.reduceEqDiff, and_true, true_and, and_self, ne_eq, not_false_eq_true, eq_self, false_and, and_false, reduceCtorEq, s1, r1, s3, r3, s4, s5, r5, s6]
      exact ⟨rfl, fun j hj => absurd hj (Nat.not_lt_zero _)⟩
    · rintro k sl ro gn hk ⟨s1, r1, s3, r3, s4, s5, r5, s6, s7, s8, hz⟩
      dsimp only at s1 r1 s3 r3 s4 s5 r5 s6 s7 s8
      have hk' : (k : Int) < T.length := by omega
      have hk2 : k < (row (tms S S) i).length := by omega
      have hg2 := rowL_get hk2
      by_cases hkz : (k : Int) = cjA S T i
      · simp (config := { maxSteps := 10000000 }) (disch := first | omega | assumption) only [go_sem, ↓reduceIte, Nat.reduceEqDiff, reduceCtorEq, Nat.reduceAdd, Nat.reduceMul, Nat.reduceLeDiff, zfu, Int.mul_def, Int.add_def, zfv, cond_false, cond_true, isub, ti2, ti3, ti4, ti22, ti23, ti25, s1, r1, s3, r3, s4, s5, r5, s6, s7, s8, isL_lift _ _ _ ha, isL_len ha, hk', eq_true hkz]
        refine ⟨i64c (by omega), fun j hj hne => ?_⟩
        rcases Nat.lt_or_ge j k with h | h
        · exact hz j h hne
        · have : j = k := by omega
          subst this; exact absurd hkz hne
      · simp (config := { maxSteps := 10000000 }) (disch := first | omega | assumption) only [go_sem, ↓reduceIte, Nat.reduceEqDiff, reduceCtorEq, Nat.reduceAdd, Nat.reduceMul, Nat.reduceLeDiff, zfu, Int.mul_def, Int.add_def, zfv, cond_false, cond_true, isub, ti2, ti3, ti4, ti22, ti23, ti25, s1, r1, s3, r3, s4, s5, r5, s6, s7, s8, isL_lift _ _ _ ha, isL_len ha, hk', eq_false hkz, hi2, hg, hk2, hg2, zfp, List.length_map, inO_row, rowO_row, zeg]
        refine ⟨fun he => ⟨i64c (by omega), fun j hj hne => ?_⟩, fun hne => ?_⟩
        · rcases Nat.lt_or_ge j k with h | h
          · exact hz j h hne
          · have : j = k := by omega
            subst this; exact he
        · simp only [zbj, zbk, retR, resL, outT, zes, zez, oneV, ↓zcy, ↓zcz, ↓reduceIte, Nat.reduceEqDiff, Option.some.injEq, AV.sc.injEq, Value.bool.injEq, Value.int.injEq, outL, outT, zft, zcp, zed, zef, zei, zeh, List.length_cons, List.length_nil, Nat.reduceAdd, Nat.zero_add, Nat.reduceLeDiff, List.drop_zero, List.take_succ_cons, List.take_zero, zfi, zfh, Ro.dl, zdb, zda, zfe, and_self, and_true, true_and, eq_self, List.append_nil, List.nil_append, List.cons_append, ne_eq, not_false_eq_true, and_false, false_and, Bool.false_eq_true, St.ev, zes, zfn]
          exact (hr2 fun hP => hne ((hP.1 i hi).1 k hk hkz)).symm
    · rintro sl ro gn ⟨s1, r1, s3, r3, s4, s5, r5, s6, s7, s8, hz⟩
      dsimp only at s1 r1 s3 r3 s4 s5 r5 s6 s7 s8
      have hk' : ¬ (T.length : Int) < T.length := by omega
      have hax2 : ∀ x : Int, argsX ro [.ref 8304 (gn 8304) [] 0 i, i64 x] = [immL (rws (cjA S T) i), i64 x] := by
        intro x
        have hp : pureL [.ref 8304 (gn 8304) [] 0 i, i64 x] = false := rfl
        unfold argsX
        rw [hp, if_neg Bool.false_ne_true]
        have := ex_refL r5 6
        rw [zfe] at this
        show [ex ro 8 _, _] = _
        rw [this]; rfl
      have hxl : (rws (cjA S T) i).length ≤ maxN := by rw [zfe]; omega
      rcases ix_cases (row (tms S S) i) (whl S T.length) with hc | ⟨m, hc, hm, -⟩
      · have hlt : cjA S T i < 0 := by show ix _ _ _ < 0; omega
        simp (config := { maxSteps := 10000000 }) (disch := first | omega | assumption) only [go_sem, ↓reduceIte, Nat.reduceEqDiff, reduceCtorEq, Nat.reduceAdd, Nat.reduceMul, Nat.reduceLeDiff, zfu, Int.mul_def, Int.add_def, zfv, cond_false, cond_true, isub, ti2, ti3, ti4, ti22, ti23, ti25, s1, r1, s3, r3, s4, s5, r5, s6, s7, s8, isL_lift _ _ _ ha, isL_len ha, hk', hlt]
        refine FIN_of (by kernel_rfl) ?_
        simp (config := { maxSteps := 10000000 }) (disch := first | omega | assumption) only [go_sem, ↓reduceIte, Nat.reduceEqDiff, reduceCtorEq, Nat.reduceAdd, Nat.reduceMul, Nat.reduceLeDiff, zfu, Int.mul_def, Int.add_def, zfv, cond_false, cond_true, isub, ti2, ti3, ti4, ti22, ti23, ti25]
        simp only [zbj, zbk, retR, resL, outT, zes, zez, oneV, ↓zcy, ↓zcz, ↓reduceIte, Nat.reduceEqDiff, Option.some.injEq, AV.sc.injEq, Value.bool.injEq, Value.int.injEq, outL, outT, zft, zcp, zed, zef, zei, zeh, List.length_cons, List.length_nil, Nat.reduceAdd, Nat.zero_add, Nat.reduceLeDiff, List.drop_zero, List.take_succ_cons, List.take_zero, zfi, zfh, Ro.dl, zdb, zda, zfe, and_self, and_true, true_and, eq_self, List.append_nil, List.nil_append, List.cons_append, ne_eq, not_false_eq_true, and_false, false_and, Bool.false_eq_true, St.ev, zes, zfn]
        exact (hr2 fun hP => by have := (hP.1 i hi).2.1; omega).symm
      · have hcm : cjA S T i = (m : Int) := hc
        have hge : ¬ ((m : Int) < 0) := by omega
        rw [hcm] at s7
        have hmT : m < T.length := by omega
        have c := c88 (n := (m : Int)) (isL_imm (rws (cjA S T) i)) hxl
        by_cases hh : 0 ≤ ix (rws (cjA S T) i) (m : Int) 0
        · rw [decide_eq_true hh] at c
          simp (config := { maxSteps := 10000000 }) (disch := first | omega | assumption) only [go_sem, ↓reduceIte, Nat.reduceEqDiff, reduceCtorEq, Nat.reduceAdd, Nat.reduceMul, Nat.reduceLeDiff, zfu, Int.mul_def, Int.add_def, zfv, cond_false, cond_true, isub, ti2, ti3, ti4, ti22, ti23, ti25, s1, r1, s3, r3, s4, s5, r5, s6, s7, s8, isL_lift _ _ _ ha, isL_len ha, hk', hge]
          refine CLLD_args _ c (hax2 m) rfl rfl ?_
          simp (config := { maxSteps := 10000000 }) (disch := first | omega | assumption) only [go_sem, ↓reduceIte, Nat.reduceEqDiff, reduceCtorEq, Nat.reduceAdd, Nat.reduceMul, Nat.reduceLeDiff, zfu, Int.mul_def, Int.add_def, zfv, cond_false, cond_true, isub, ti2, ti3, ti4, ti22, ti23, ti25, s1, r1, s6, s7, pureL, pureA]
          refine FIN_of (by kernel_rfl) ?_
          simp (config := { maxSteps := 10000000 }) (disch := first | omega | assumption) only [go_sem, ↓reduceIte, Nat.reduceEqDiff, reduceCtorEq, Nat.reduceAdd, Nat.reduceMul, Nat.reduceLeDiff, zfu, Int.mul_def, Int.add_def, zfv, cond_false, cond_true, isub, ti2, ti3, ti4, ti22, ti23, ti25]
          simp only [zbj, zbk, retR, resL, outT, zes, zez, oneV, ↓zcy, ↓zcz, ↓reduceIte, Nat.reduceEqDiff, Option.some.injEq, AV.sc.injEq, Value.bool.injEq, Value.int.injEq, outL, outT, zft, zcp, zed, zef, zei, zeh, List.length_cons, List.length_nil, Nat.reduceAdd, Nat.zero_add, Nat.reduceLeDiff, List.drop_zero, List.take_succ_cons, List.take_zero, zfi, zfh, Ro.dl, zdb, zda, zfe, and_self, and_true, true_and, eq_self, List.append_nil, List.nil_append, List.cons_append, ne_eq, not_false_eq_true, and_false, false_and, Bool.false_eq_true, St.ev, zes, zfn]
          obtain ⟨j, hj, he⟩ := (ix_has (cjA S T) i m).1 hh
          exact (hr2 fun hP => (hP.1 i hi).2.2.1 j hj (by rw [he, hcm])).symm
        · rw [decide_eq_false hh] at c
          simp (config := { maxSteps := 10000000 }) (disch := first | omega | assumption) only [go_sem, ↓reduceIte, Nat.reduceEqDiff, reduceCtorEq, Nat.reduceAdd, Nat.reduceMul, Nat.reduceLeDiff, zfu, Int.mul_def, Int.add_def, zfv, cond_false, cond_true, isub, ti2, ti3, ti4, ti22, ti23, ti25, s1, r1, s3, r3, s4, s5, r5, s6, s7, s8, isL_lift _ _ _ ha, isL_len ha, hk', hge]
          refine CLLD_args _ c (hax2 m) rfl rfl ?_
          simp (config := { maxSteps := 10000000 }) (disch := first | omega | assumption) only [go_sem, ↓reduceIte, Nat.reduceEqDiff, reduceCtorEq, Nat.reduceAdd, Nat.reduceMul, Nat.reduceLeDiff, zfu, Int.mul_def, Int.add_def, zfv, cond_false, cond_true, isub, ti2, ti3, ti4, ti22, ti23, ti25, s1, r1, s6, s7, pureL, pureA, isL_lift _ _ _ ha, isL_idx ha hmT, isL_idx ha hi, isL_sites ha]
          refine FIN_of (by kernel_rfl) ?_
          have hap : (rws (cjA S T) i).map i64 ++ [i64 (m : Int)] = (rws (cjA S T) (i + 1)).map i64 := by rw [← hcm]; exact rwsm_app _ _
          simp (config := { maxSteps := 10000000 }) (disch := first | omega | assumption) only [go_sem, ↓reduceIte, Nat.reduceEqDiff, reduceCtorEq, Nat.reduceAdd, Nat.reduceMul, Nat.reduceLeDiff, zfu, Int.mul_def, Int.add_def, zfv, cond_false, cond_true, isub, ti2, ti3, ti4, ti22, ti23, ti25, s1, r1, s3, r3, s4, s5, r5, s6, s7, rwsm_take, hap, hi3]
          refine ⟨fun he => ⟨i64c (by omega), fun j hj => ?_⟩, fun he => ?_⟩
          · rcases Nat.lt_or_ge j i with h | h
            · exact hp j h
            · have : j = i := by omega
              subst this
              refine ⟨hz, by omega, fun j' hj' he' => hh ((ix_has (cjA S T) j m).2 ⟨j', hj', by rw [he', hcm]⟩), ?_⟩
              rw [hcm]; exact he
          · simp only [zbj, zbk, retR, resL, outT, zes, zez, oneV, ↓zcy, ↓zcz, ↓reduceIte, Nat.reduceEqDiff, Option.some.injEq, AV.sc.injEq, Value.bool.injEq, Value.int.injEq, outL, outT, zft, zcp, zed, zef, zei, zeh, List.length_cons, List.length_nil, Nat.reduceAdd, Nat.zero_add, Nat.reduceLeDiff, List.drop_zero, List.take_succ_cons, List.take_zero, zfi, zfh, Ro.dl, zdb, zda, zfe, and_self, and_true, true_and, eq_self, List.append_nil, List.nil_append, List.cons_append, ne_eq, not_false_eq_true, and_false, false_and, Bool.false_eq_true, St.ev, zes, zfn]
            exact (hr2 fun hP => he (by have := (hP.1 i hi).2.2.2; rw [hcm] at this; exact this)).symm
  · rintro sl ro gn ⟨s1, r1, s3, r3, s4, s5, r5, s6, hp⟩
    dsimp only at s1 r1 s3 r3 s4 s5 r5 s6
    have hi' : ¬ (T.length : Int) < T.length := by omega
    have hc0 := rowL_get (xs := rws (cjA S T) T.length) (i := 0) (by rw [zfe]; exact hpos)
    rw [atI_rws _ hpos] at hc0
    simp (config := { maxSteps := 10000000 }) (disch := first | omega | assumption) only [go_sem, ↓reduceIte, Nat.reduceEqDiff, reduceCtorEq, Nat.reduceAdd, Nat.reduceMul, Nat.reduceLeDiff, zfu, Int.mul_def, Int.add_def, zfv, cond_false, cond_true, isub, ti2, ti3, ti4, ti22, ti23, ti25, s1, r1, s3, r3, s4, s5, r5, s6, isL_lift _ _ _ ha, isL_len ha, hi', hpos, kIdx_ref0, hc0]
    refine ⟨fun he => ?_, fun he => ?_⟩
    · simp only [zbj, zbk, retR, resL, outT, zes, zez, oneV, ↓zcy, ↓zcz, ↓reduceIte, Nat.reduceEqDiff, Option.some.injEq, AV.sc.injEq, Value.bool.injEq, Value.int.injEq, outL, outT, zft, zcp, zed, zef, zei, zeh, List.length_cons, List.length_nil, Nat.reduceAdd, Nat.zero_add, Nat.reduceLeDiff, List.drop_zero, List.take_succ_cons, List.take_zero, zfi, zfh, Ro.dl, zdb, zda, zfe, and_self, and_true, true_and, eq_self, List.append_nil, List.nil_append, List.cons_append, ne_eq, not_false_eq_true, and_false, false_and, Bool.false_eq_true, St.ev, zes, zfn, r5, List.length_map, zfe]
      exact (hr1 ⟨hp, he⟩).symm
    · simp only [zbj, zbk, retR, resL, outT, zes, zez, oneV, ↓zcy, ↓zcz, ↓reduceIte, Nat.reduceEqDiff, Option.some.injEq, AV.sc.injEq, Value.bool.injEq, Value.int.injEq, outL, outT, zft, zcp, zed, zef, zei, zeh, List.length_cons, List.length_nil, Nat.reduceAdd, Nat.zero_add, Nat.reduceLeDiff, List.drop_zero, List.take_succ_cons, List.take_zero, zfi, zfh, Ro.dl, zdb, zda, zfe, and_self, and_true, true_and, eq_self, List.append_nil, List.nil_append, List.cons_append, ne_eq, not_false_eq_true, and_false, false_and, Bool.false_eq_true, St.ev, zes, zfn]
      exact (hr2 fun hP => he hP.2).symm
end Go.Proofs.Ytifgeenipinnmaa
