/- The conjugation (program). -/
import Derived.Test.YtifgeenipinnmaaD5
set_option linter.all false
namespace Go.Proofs.Ytifgeenipinnmaa
open Go.RowKit

def nz (x : Int) : Bool := decide (x ≠ 0)
theorem ixp_cases (p : Int → Bool) (xs : List Int) : (ixp p xs 0 = -1 ∧ ∀ j, j < xs.length → p (atI xs j) = false) ∨ ∃ m : Nat, ixp p xs 0 = m ∧ m < xs.length ∧ p (atI xs m) = true ∧ ∀ j, j < m → p (atI xs j) = false := by
  by_cases h : ∃ m : Nat, m < xs.length ∧ p (atI xs m) = true
  · right
    have : ∃ m : Nat, m < xs.length ∧ p (atI xs m) = true ∧ ∀ j, j < m → p (atI xs j) = false := by
      obtain ⟨m, h1, h2⟩ := h
      induction m using Nat.strongRecOn with
      | ind m ih =>
        by_cases h3 : ∃ j, j < m ∧ p (atI xs j) = true
        · obtain ⟨j, h4, h5⟩ := h3; exact ih j h4 (by omega) h5
        · refine ⟨m, h1, h2, fun j hj => ?_⟩
          cases he : p (atI xs j) with
          | false => rfl
          | true => exact absurd ⟨j, hj, he⟩ h3
    obtain ⟨m, h1, h2, h3⟩ := this
    exact ⟨m, by rw [ixp_some 0 h1 h2 h3]; omega, h1, h2, h3⟩
  · left
    have h' : ∀ j, j < xs.length → p (atI xs j) = false := fun j hj => by
      cases he : p (atI xs j) with
      | false => rfl
      | true => exact absurd ⟨j, hj, he⟩ h
    exact ⟨ixp_none 0 h', h'⟩
theorem ixp_neg {p : Int → Bool} {xs : List Int} : 0 ≤ ixp p xs 0 ↔ ∃ m, m < xs.length ∧ p (atI xs m) = true := by
  rcases ixp_cases p xs with ⟨h, h2⟩ | ⟨m, h, h1, h2, h3⟩
  · rw [h]
    refine ⟨fun h => absurd h (by decide), ?_⟩
    rintro ⟨m, h3, h4⟩; rw [h2 m h3] at h4; cases h4
  · rw [h]; exact ⟨fun _ => ⟨m, h1, h2⟩, fun _ => by omega⟩
theorem atI_drop (xs : List Int) (k j : Nat) : atI (xs.drop k) j = atI xs (k + j) := by simp [atI, List.getD_eq_getElem?_getD, List.getElem?_drop]

section
variable (S : List (List Int)) (T : List Int)
def djA (i : Nat) : Int := ixp nz (row (tms S S) i) 0
def djOk (i : Nat) : Prop := 0 ≤ djA S i ∧ atI (row (tms S S) i) (djA S i).toNat = whl S T.length ∧ (∀ k, k < T.length → djA S i < k → atI (row (tms S S) i) k = 0) ∧ (∀ j, j < i → djA S j ≠ djA S i) ∧
  atI T (djA S i).toNat = atI T i ∧ ((i : Int) = 0 ↔ djA S i = 0)
end

set_option maxRecDepth 1000000 in
set_option maxHeartbeats 10000000 in
theorem c64 {a b : AV} {S : List (List Int)} {T : List Int} (ha : isL b T) (hb : isLL a S) (hs : Shp S T) {r : AV} (hn : noRef r = true) (hr1 : (∀ i, i < T.length → djOk S T i) → r = rowL (rws (djA S) T.length)) (hr2 : ¬ (∀ i, i < T.length → djOk S T i) → r = nilA) : CallOK Try.prog 64 [.agg [a, b]] r := by
  refine call_of (fn := Try.f64) (code := bodyOf Try.f64) Try.func64 rfl (by kernel_rfl) hn ?_
  intro sl hs0
  have s0 : sl 0 = .agg [a, b] := hs0 0
  obtain ⟨hpos, hmax, hlS, hlR, hnS, hnT⟩ := hs
  have hmax' : T.length ≤ 4294967296 := hmax
  have hlR0 := hlR 0 hpos
  simp only [Try.f64, bodyOf, Option.getD, go_sem, ↓reduceIte, Nat.reduceEqDiff, reduceCtorEq, Nat.reduceAdd, Nat.reduceMul, Nat.reduceLeDiff, ti2, ti3, ti4, ti22, ti23, ti25, ti77, s0, isL_cellB _ ha, isLL_cellB _ hb, isLL_lift _ _ _ hb, isL_lift _ _ _ ha]
  have hlS' : S.length ≤ maxN := by rw [hlS]; exact hmax
  have c91' := c91 hb (isL_cell ha) (fun ro => isL_cellB ro ha) (by rw [hlR0]; exact hmax) (by omega) hnS
  rw [hlR0] at c91'
  refine CLLD_pure _ c91' (by simp only [pureL, pureA, isLL_pure hb, isL_pure ha, Bool.and_self]) rfl ?_
  simp only [go_sem, ↓reduceIte, Nat.reduceEqDiff, reduceCtorEq, Nat.reduceAdd, Nat.reduceMul, Nat.reduceLeDiff, ti2, ti3, ti4, ti22, ti23, ti25, ti77, isLL_lift _ _ _ hb, isL_lift _ _ _ ha]
  refine CLLD_pure _ (c92 hb hb (by omega) hlS' hlS' (fun i hi => by rw [hlR i (by omega)]; omega) (fun i hi => by rw [hlR i (by omega)]; omega) hnS hnS) (by simp only [pureL, isLL_pure hb, Bool.and_self]) rfl ?_
  simp only [go_sem, ↓reduceIte, Nat.reduceEqDiff, reduceCtorEq, Nat.reduceAdd, Nat.reduceMul, Nat.reduceLeDiff, ti2, ti3, ti4, ti22, ti23, ti25, ti77, isLL_lift _ _ _ hb, isL_lift _ _ _ ha, isLL_sites hb, isL_sites ha, pureL, pureA, isLL_pure hb, isL_pure ha, impE_row, List.length_map]
  refine FIN_of (by kernel_rfl) ?_
  simp only [go_sem, ↓reduceIte, Nat.reduceEqDiff, reduceCtorEq, Nat.reduceAdd, Nat.reduceMul, Nat.reduceLeDiff, ti2, ti3, ti4, ti22, ti23, ti25, ti77, kLen1]
  have hQl : (tms S S).length = T.length := by rw [tms_len]; exact hlS
  refine WK_for (fun i st => st.sl 1 = .ptr 4096 1 [] 0 ∧ st.ro 4096 1 = some (.bx [a, b]) ∧ st.sl 17 = .ref 8288 1 [] 0 (tms S S).length ∧ st.ro 8288 1 = some (rowLL (tms S S)) ∧ st.sl 3 = i64 (whl S T.length) ∧
    st.sl 5 = .ref 8304 (st.gn 8304) [] 0 i ∧ st.ro 8304 (st.gn 8304) = some (rowL (rws (djA S) i)) ∧ st.sl 18 = i64 ((tms S S).length : Int) ∧ st.sl 19 = i64 (i : Int) ∧ ∀ j, j < i → djOk S T j) T.length ?_ ?_ ?_
  · simp only [↓zcy, ↓zcz, ↓zda, ↓zdb, ↓reduceIte, Nat.reduceEqDiff, and_true, true_and, and_self, ne_eq, not_false_eq_true, eq_self, false_and, and_false, reduceCtorEq, rws_zero]
    exact ⟨rfl, rfl, fun j hj => absurd hj (Nat.not_lt_zero _)⟩
  · rintro i sl ro gn hi ⟨s1, r1, s17, r3, s3, s5, r5, s18, s19, hp⟩
    dsimp only at s1 r1 s17 r3 s3 s5 r5 s18 s19
    have hi' : (i : Int) < (tms S S).length := by omega
    have hi2 : i < (tms S S).length := by omega
    have hi3 : i + 1 ≤ 4294967296 := by omega
    have hrow : (row (tms S S) i).length = T.length := by rw [tms_row (by omega), zfe]; exact hlS
    have hg := rowLL_get hi2
    simp (config := { maxSteps := 10000000 }) (disch := first | omega | assumption) only [go_sem, ↓reduceIte, Nat.reduceEqDiff, reduceCtorEq, Nat.reduceAdd, Nat.reduceMul, Nat.reduceLeDiff, zfu, Int.mul_def, Int.add_def, zfv, cond_false, cond_true, isub, ti2, ti3, ti4, ti22, ti23, ti25, ti77, s1, r1, s17, r3, s3, s5, r5, s18, s19, hi', hi2, hg, zfp, List.length_map]
    have hax : argsX ro [.ref 8288 1 [i] 0 (row (tms S S) i).length, .fn 94 []] = [immL (row (tms S S) i), .fn 94 []] := by
      have hp : pureL [.ref 8288 1 [i] 0 (row (tms S S) i).length, .fn 94 []] = false := rfl
      unfold argsX
      rw [hp, if_neg Bool.false_ne_true]
      show [ex ro 8 _, _] = _
      rw [ex_refRow r3 hi2 6]; rfl
    have hax3 : ∀ m : Nat, m < T.length → argsX ro [.ref 8288 1 [i] (m + 1) (T.length - (m + 1)), .fn 96 []] = [immL ((row (tms S S) i).drop (m + 1)), .fn 96 []] := by
      intro m hm
      have hp : pureL [.ref 8288 1 [i] (m + 1) (T.length - (m + 1)), .fn 96 []] = false := rfl
      unfold argsX
      rw [hp, if_neg Bool.false_ne_true]
      show [match ro.cells 8288 1 [i] with | some cs => AV.imm (((cs.drop (m + 1)).take (T.length - (m + 1))).map (ex ro 7)) | none => .dead, _] = _
      rw [zeg, r3, inO_row, hg, rowO_row]
      simp only []
      rw [List.take_of_length_le (by simp [hrow]), ← List.map_drop, ex_map]
      rfl
    have hax2 : ∀ x : Int, argsX ro [.ref 8304 (gn 8304) [] 0 i, i64 x] = [immL (rws (djA S) i), i64 x] := by
      intro x
      have hp : pureL [.ref 8304 (gn 8304) [] 0 i, i64 x] = false := rfl
      unfold argsX
      rw [hp, if_neg Bool.false_ne_true]
      have := ex_refL r5 6
      rw [zfe] at this
      show [ex ro 8 _, _] = _
      rw [this]; rfl
    have hxl : (rws (djA S) i).length ≤ maxN := by rw [zfe]; omega
    have c := c93 (p := nz) (isL_imm (row (tms S S) i)) (by rw [hrow]; exact hmax) (g := 94) (caps := []) rfl rfl c94
    rcases ixp_cases nz (row (tms S S) i) with ⟨hc, -⟩ | ⟨m, hc, hm, hmp, hmb⟩
    · rw [hc] at c
      refine CLL_args _ c hax rfl rfl rfl ?_
      have hneg : (-1 : Int) < 0 := by decide
      simp (config := { maxSteps := 10000000 }) (disch := first | omega | assumption) only [go_sem, ↓reduceIte, Nat.reduceEqDiff, reduceCtorEq, Nat.reduceAdd, Nat.reduceMul, Nat.reduceLeDiff, zfu, Int.mul_def, Int.add_def, zfv, cond_false, cond_true, isub, ti2, ti3, ti4, ti22, ti23, ti25, ti77, s1, r1, s17, r3, s3, s5, r5, s18, s19, hneg]
      simp only [zbj, zbk, retR, resL, outT, zes, zez, oneV, ↓zcy, ↓zcz, ↓reduceIte, Nat.reduceEqDiff, Option.some.injEq, AV.sc.injEq, Value.bool.injEq, Value.int.injEq, outL, outT, zft, zcp, zed, zef, zei, zeh, List.length_cons, List.length_nil, Nat.reduceAdd, Nat.zero_add, Nat.reduceLeDiff, List.drop_zero, List.take_succ_cons, List.take_zero, zfi, zfh, Ro.dl, zdb, zda, zfe, and_self, and_true, true_and, eq_self, List.append_nil, List.nil_append, List.cons_append, ne_eq, not_false_eq_true, and_false, false_and, Bool.false_eq_true, St.ev, zes, zfn]
      exact (hr2 fun hP => by have := (hP i hi).1; unfold djA at this; omega).symm
    · have hcm : djA S i = (m : Int) := hc
      rw [hc] at c
      have hge : ¬ ((m : Int) < 0) := by omega
      have hmT : m < T.length := by omega
      have hg2 := rowL_get hm
      refine CLL_args _ c hax rfl rfl rfl ?_
      by_cases hw : atI (row (tms S S) i) m = whl S T.length
      · have e1 : ((m : Int) + 1).toNat = m + 1 := by omega
        have e2 : ((T.length : Int) - ((m : Int) + 1)).toNat = T.length - (m + 1) := by omega
        have e3 : 0 ≤ (m : Int) + 1 := by omega
        have e4 : (m : Int) + 1 ≤ (T.length : Int) := by omega
        simp (config := { maxSteps := 10000000 }) (disch := first | omega | assumption) only [go_sem, ↓reduceIte, Nat.reduceEqDiff, reduceCtorEq, Nat.reduceAdd, Nat.reduceMul, Nat.reduceLeDiff, zfu, Int.mul_def, Int.add_def, zfv, cond_false, cond_true, isub, ti2, ti3, ti4, ti22, ti23, ti25, ti77, s1, r1, s17, r3, s3, s5, r5, s18, s19, hge, hm, hmT, hg, hg2, hi2, inO_row, rowO_row, eq_true hw, Option.map_some, Option.map_none, hrow, e1, e2, e3, e4, List.map_nil]
        have cd := c95 (p := nz) (isL_imm ((row (tms S S) i).drop (m + 1))) (by simp [hrow]; omega) (g := 96) (caps := []) rfl rfl c96
        have hdr : (0 ≤ ixp nz ((row (tms S S) i).drop (m + 1)) 0) ↔ ∃ k, k < T.length ∧ m < k ∧ atI (row (tms S S) i) k ≠ 0 := by
          rw [ixp_neg]
          constructor
          · rintro ⟨k, hk, hk2⟩
            rw [atI_drop] at hk2
            rw [List.length_drop, hrow] at hk
            exact ⟨m + 1 + k, by omega, by omega, by simpa [nz] using hk2⟩
          · rintro ⟨k, hk, hk1, hk2⟩
            refine ⟨k - (m + 1), by rw [List.length_drop, hrow]; omega, ?_⟩
            rw [atI_drop, show m + 1 + (k - (m + 1)) = k by omega]
            simpa [nz] using hk2
        by_cases hd : 0 ≤ ixp nz ((row (tms S S) i).drop (m + 1)) 0
        · rw [decide_eq_true hd] at cd
          refine CLL_args _ cd (hax3 m hmT) rfl rfl rfl ?_
          simp (config := { maxSteps := 10000000 }) (disch := first | omega | assumption) only [go_sem, ↓reduceIte, Nat.reduceEqDiff, reduceCtorEq, Nat.reduceAdd, Nat.reduceMul, Nat.reduceLeDiff, zfu, Int.mul_def, Int.add_def, zfv, cond_false, cond_true, isub, ti2, ti3, ti4, ti22, ti23, ti25, ti77, s1, r1, s17, r3, s3, s5, r5, s18, s19]
          simp only [zbj, zbk, retR, resL, outT, zes, zez, oneV, ↓zcy, ↓zcz, ↓reduceIte, Nat.reduceEqDiff, Option.some.injEq, AV.sc.injEq, Value.bool.injEq, Value.int.injEq, outL, outT, zft, zcp, zed, zef, zei, zeh, List.length_cons, List.length_nil, Nat.reduceAdd, Nat.zero_add, Nat.reduceLeDiff, List.drop_zero, List.take_succ_cons, List.take_zero, zfi, zfh, Ro.dl, zdb, zda, zfe, and_self, and_true, true_and, eq_self, List.append_nil, List.nil_append, List.cons_append, ne_eq, not_false_eq_true, and_false, false_and, Bool.false_eq_true, St.ev, zes, zfn]
          obtain ⟨k, hk, hk1, hk2⟩ := hdr.1 hd
          exact (hr2 fun hP => hk2 ((hP i hi).2.2.1 k hk (by rw [hcm]; omega))).symm
        · rw [decide_eq_false hd] at cd
          refine CLL_args _ cd (hax3 m hmT) rfl rfl rfl ?_
          simp (config := { maxSteps := 10000000 }) (disch := first | omega | assumption) only [go_sem, ↓reduceIte, Nat.reduceEqDiff, reduceCtorEq, Nat.reduceAdd, Nat.reduceMul, Nat.reduceLeDiff, zfu, Int.mul_def, Int.add_def, zfv, cond_false, cond_true, isub, ti2, ti3, ti4, ti22, ti23, ti25, ti77, s1, r1, s17, r3, s3, s5, r5, s18, s19]
          have ch := c97 (n := (m : Int)) (isL_imm (rws (djA S) i)) hxl
          by_cases hh : 0 ≤ ix (rws (djA S) i) (m : Int) 0
          · rw [decide_eq_true hh] at ch
            refine CLLD_args _ ch (hax2 m) rfl rfl ?_
            simp (config := { maxSteps := 10000000 }) (disch := first | omega | assumption) only [go_sem, ↓reduceIte, Nat.reduceEqDiff, reduceCtorEq, Nat.reduceAdd, Nat.reduceMul, Nat.reduceLeDiff, zfu, Int.mul_def, Int.add_def, zfv, cond_false, cond_true, isub, ti2, ti3, ti4, ti22, ti23, ti25, ti77, s1, r1, s19, pureL, pureA]
            refine FIN_of (by kernel_rfl) ?_
            simp (config := { maxSteps := 10000000 }) (disch := first | omega | assumption) only [go_sem, ↓reduceIte, Nat.reduceEqDiff, reduceCtorEq, Nat.reduceAdd, Nat.reduceMul, Nat.reduceLeDiff, zfu, Int.mul_def, Int.add_def, zfv, cond_false, cond_true, isub, ti2, ti3, ti4, ti22, ti23, ti25, ti77]
            simp only [zbj, zbk, retR, resL, outT, zes, zez, oneV, ↓zcy, ↓zcz, ↓reduceIte, Nat.reduceEqDiff, Option.some.injEq, AV.sc.injEq, Value.bool.injEq, Value.int.injEq, outL, outT, zft, zcp, zed, zef, zei, zeh, List.length_cons, List.length_nil, Nat.reduceAdd, Nat.zero_add, Nat.reduceLeDiff, List.drop_zero, List.take_succ_cons, List.take_zero, zfi, zfh, Ro.dl, zdb, zda, zfe, and_self, and_true, true_and, eq_self, List.append_nil, List.nil_append, List.cons_append, ne_eq, not_false_eq_true, and_false, false_and, Bool.false_eq_true, St.ev, zes, zfn]
            obtain ⟨j, hj, he⟩ := (ix_has (djA S) i m).1 hh
            exact (hr2 fun hP => (hP i hi).2.2.2.1 j hj (by rw [he, hcm])).symm
          · rw [decide_eq_false hh] at ch
            refine CLLD_args _ ch (hax2 m) rfl rfl ?_
            by_cases ht : atI T m = atI T i
            · simp (config := { maxSteps := 10000000 }) (disch := first | omega | assumption) only [go_sem, ↓reduceIte, Nat.reduceEqDiff, reduceCtorEq, Nat.reduceAdd, Nat.reduceMul, Nat.reduceLeDiff, zfu, Int.mul_def, Int.add_def, zfv, cond_false, cond_true, isub, ti2, ti3, ti4, ti22, ti23, ti25, ti77, s1, r1, s19, pureL, pureA, isL_lift _ _ _ ha, isL_idx ha hmT, isL_idx ha hi, isL_sites ha, eq_true ht]
              refine FIN_of (by kernel_rfl) ?_
              have hap : (rws (djA S) i).map i64 ++ [i64 (m : Int)] = (rws (djA S) (i + 1)).map i64 := by rw [← hcm]; exact rwsm_app _ _
              simp (config := { maxSteps := 10000000 }) (disch := first | omega | assumption) only [go_sem, ↓reduceIte, Nat.reduceEqDiff, reduceCtorEq, Nat.reduceAdd, Nat.reduceMul, Nat.reduceLeDiff, zfu, Int.mul_def, Int.add_def, zfv, cond_false, cond_true, isub, ti2, ti3, ti4, ti22, ti23, ti25, ti77, s1, r1, s17, r3, s3, s5, r5, s18, s19, rwsm_take, hap, hi3]
              by_cases hq : ((i : Int) = 0 ↔ (m : Int) = 0)
              · have e : (decide ((i : Int) = 0) == decide ((m : Int) = 0)) = true := by rw [decide_eq_decide.2 hq]; exact beq_self_eq_true _
                simp (config := { maxSteps := 10000000 }) (disch := first | omega | assumption) only [e, go_sem, ↓reduceIte, Nat.reduceEqDiff, reduceCtorEq, Nat.reduceAdd, Nat.reduceMul, Nat.reduceLeDiff, zfu, Int.mul_def, Int.add_def, zfv, cond_false, cond_true, isub, ti2, ti3, ti4, ti22, ti23, ti25, ti77, s1, r1, s17, r3, s3, s5, r5, s18, s19, rwsm_take, hap, hi3]
                refine ⟨i64c (by omega), fun j hj => ?_⟩
                rcases Nat.lt_or_ge j i with h | h
                · exact hp j h
                · have : j = i := by omega
                  subst this
                  refine ⟨by omega, by rw [hcm]; exact hw, fun k hk hk2 => ?_, fun j' hj' he' => hh ((ix_has (djA S) j m).2 ⟨j', hj', by rw [he', hcm]⟩), by rw [hcm]; exact ht, by rw [hcm]; exact hq⟩
                  rw [hcm] at hk2
                  by_cases h0 : atI (row (tms S S) j) k = 0
                  · exact h0
                  · exact absurd (hdr.2 ⟨k, hk, by omega, h0⟩) hd
              · have e : (decide ((i : Int) = 0) == decide ((m : Int) = 0)) = false := by
                  cases h : (decide ((i : Int) = 0) == decide ((m : Int) = 0)) with
                  | false => rfl
                  | true => exact absurd (decide_eq_decide.1 (eq_of_beq h)) hq
                simp (config := { maxSteps := 10000000 }) (disch := first | omega | assumption) only [e, go_sem, ↓reduceIte, Nat.reduceEqDiff, reduceCtorEq, Nat.reduceAdd, Nat.reduceMul, Nat.reduceLeDiff, zfu, Int.mul_def, Int.add_def, zfv, cond_false, cond_true, isub, ti2, ti3, ti4, ti22, ti23, ti25, ti77]
                simp only [zbj, zbk, retR, resL, outT, zes, zez, oneV, ↓zcy, ↓zcz, ↓reduceIte, Nat.reduceEqDiff, Option.some.injEq, AV.sc.injEq, Value.bool.injEq, Value.int.injEq, outL, outT, zft, zcp, zed, zef, zei, zeh, List.length_cons, List.length_nil, Nat.reduceAdd, Nat.zero_add, Nat.reduceLeDiff, List.drop_zero, List.take_succ_cons, List.take_zero, zfi, zfh, Ro.dl, zdb, zda, zfe, and_self, and_true, true_and, eq_self, List.append_nil, List.nil_append, List.cons_append, ne_eq, not_false_eq_true, and_false, false_and, Bool.false_eq_true, St.ev, zes, zfn]
                exact (hr2 fun hP => hq (by have := (hP i hi).2.2.2.2.2; rw [hcm] at this; exact this)).symm
            · simp (config := { maxSteps := 10000000 }) (disch := first | omega | assumption) only [go_sem, ↓reduceIte, Nat.reduceEqDiff, reduceCtorEq, Nat.reduceAdd, Nat.reduceMul, Nat.reduceLeDiff, zfu, Int.mul_def, Int.add_def, zfv, cond_false, cond_true, isub, ti2, ti3, ti4, ti22, ti23, ti25, ti77, s1, r1, s19, pureL, pureA, isL_lift _ _ _ ha, isL_idx ha hmT, isL_idx ha hi, isL_sites ha, eq_false ht]
              refine FIN_of (by kernel_rfl) ?_
              simp (config := { maxSteps := 10000000 }) (disch := first | omega | assumption) only [go_sem, ↓reduceIte, Nat.reduceEqDiff, reduceCtorEq, Nat.reduceAdd, Nat.reduceMul, Nat.reduceLeDiff, zfu, Int.mul_def, Int.add_def, zfv, cond_false, cond_true, isub, ti2, ti3, ti4, ti22, ti23, ti25, ti77]
              simp only [zbj, zbk, retR, resL, outT, zes, zez, oneV, ↓zcy, ↓zcz, ↓reduceIte, Nat.reduceEqDiff, Option.some.injEq, AV.sc.injEq, Value.bool.injEq, Value.int.injEq, outL, outT, zft, zcp, zed, zef, zei, zeh, List.length_cons, List.length_nil, Nat.reduceAdd, Nat.zero_add, Nat.reduceLeDiff, List.drop_zero, List.take_succ_cons, List.take_zero, zfi, zfh, Ro.dl, zdb, zda, zfe, and_self, and_true, true_and, eq_self, List.append_nil, List.nil_append, List.cons_append, ne_eq, not_false_eq_true, and_false, false_and, Bool.false_eq_true, St.ev, zes, zfn]
              exact (hr2 fun hP => ht (by have := (hP i hi).2.2.2.2.1; rw [hcm] at this; exact this)).symm
      · simp (config := { maxSteps := 10000000 }) (disch := first | omega | assumption) only [go_sem, ↓reduceIte, Nat.reduceEqDiff, reduceCtorEq, Nat.reduceAdd, Nat.reduceMul, Nat.reduceLeDiff, zfu, Int.mul_def, Int.add_def, zfv, cond_false, cond_true, isub, ti2, ti3, ti4, ti22, ti23, ti25, ti77, s1, r1, s17, r3, s3, s5, r5, s18, s19, hge, hm, hg, hg2, hi2, inO_row, rowO_row, eq_false hw]
        simp only [zbj, zbk, retR, resL, outT, zes, zez, oneV, ↓zcy, ↓zcz, ↓reduceIte, Nat.reduceEqDiff, Option.some.injEq, AV.sc.injEq, Value.bool.injEq, Value.int.injEq, outL, outT, zft, zcp, zed, zef, zei, zeh, List.length_cons, List.length_nil, Nat.reduceAdd, Nat.zero_add, Nat.reduceLeDiff, List.drop_zero, List.take_succ_cons, List.take_zero, zfi, zfh, Ro.dl, zdb, zda, zfe, and_self, and_true, true_and, eq_self, List.append_nil, List.nil_append, List.cons_append, ne_eq, not_false_eq_true, and_false, false_and, Bool.false_eq_true, St.ev, zes, zfn]
        exact (hr2 fun hP => hw (by have := (hP i hi).2.1; rw [hcm] at this; exact this)).symm
  · rintro sl ro gn ⟨s1, r1, s17, r3, s3, s5, r5, s18, s19, hp⟩
    dsimp only at s1 r1 s17 r3 s3 s5 r5 s18 s19
    have hi' : ¬ ((T.length : Int) < (tms S S).length) := by omega
    simp (config := { maxSteps := 10000000 }) (disch := first | omega | assumption) only [go_sem, ↓reduceIte, Nat.reduceEqDiff, reduceCtorEq, Nat.reduceAdd, Nat.reduceMul, Nat.reduceLeDiff, zfu, Int.mul_def, Int.add_def, zfv, cond_false, cond_true, isub, ti2, ti3, ti4, ti22, ti23, ti25, ti77, s1, r1, s17, r3, s3, s5, r5, s18, s19, hi']
    simp only [zbj, zbk, retR, resL, outT, zes, zez, oneV, ↓zcy, ↓zcz, ↓reduceIte, Nat.reduceEqDiff, Option.some.injEq, AV.sc.injEq, Value.bool.injEq, Value.int.injEq, outL, outT, zft, zcp, zed, zef, zei, zeh, List.length_cons, List.length_nil, Nat.reduceAdd, Nat.zero_add, Nat.reduceLeDiff, List.drop_zero, List.take_succ_cons, List.take_zero, zfi, zfh, Ro.dl, zdb, zda, zfe, and_self, and_true, true_and, eq_self, List.append_nil, List.nil_append, List.cons_append, ne_eq, not_false_eq_true, and_false, false_and, Bool.false_eq_true, St.ev, zes, zfn, r5, List.length_map, zfe]
    exact (hr1 hp).symm

/-! ### Both conjugations agree -/
theorem cj_same {S : List (List Int)} {T : List Int} (hs : Shp S T) (hw : whl S T.length ≠ 0) : ((∀ i, i < T.length → djOk S T i) ↔ CjP S T) ∧ (CjP S T → ∀ i, i < T.length → djA S i = cjA S T i) := by
  have hQl : (tms S S).length = T.length := by rw [tms_len]; exact hs.lS
  have hrow : ∀ i, i < T.length → (row (tms S S) i).length = T.length := fun i hi => by rw [tms_row (by rw [hs.lS]; exact hi), zfe]; exact hs.lS
  -- where all numbers but one are 0, and that one is the whole dimension
  have key1 : ∀ i, i < T.length → ∀ m : Nat, m < T.length → atI (row (tms S S) i) m = whl S T.length → (∀ k, k < T.length → k ≠ m → atI (row (tms S S) i) k = 0) → djA S i = m ∧ cjA S T i = m := by
    intro i hi m hm hq hz
    constructor
    · rcases ixp_cases nz (row (tms S S) i) with ⟨hc, hall⟩ | ⟨m', hc, hm', hmp, hmb⟩
      · have := hall m (by rw [hrow i hi]; exact hm)
        rw [hq] at this; simp [nz, hw] at this
      · have : m' = m := by
          by_cases h : m' = m
          · exact h
          · have := hz m' (by rw [← hrow i hi]; exact hm') h
            rw [this] at hmp; simp [nz] at hmp
        show ixp nz _ 0 = _
        rw [hc, this]
    · rcases ix_cases (row (tms S S) i) (whl S T.length) with hc | ⟨m', hc, hm', hmq⟩
      · have : ∀ (xs : List Int) (n : Int) (k b : Nat), k < xs.length → atI xs k = n → 0 ≤ ix xs n b := by
          intro xs n k
          induction xs generalizing k with
          | nil => intro b hk; simp at hk
          | cons y ys ih =>
            intro b hk he
            simp only [ix]
            split
            · omega
            · cases k with
              | zero => rename_i hne; exact absurd (by simpa [atI] using he) hne
              | succ k => exact ih k (b + 1) (by simpa using hk) (by simpa [atI] using he)
        have := this (row (tms S S) i) (whl S T.length) m 0 (by rw [hrow i hi]; exact hm) hq
        omega
      · have : m' = m := by
          by_cases h : m' = m
          · exact h
          · have := hz m' (by rw [← hrow i hi]; exact hm') h
            rw [this] at hmq; exact absurd hmq.symm hw
        show ix _ _ 0 = _
        rw [hc, this]
  have fromC : ∀ i, i < T.length → cjOk S T i → ∃ m : Nat, m < T.length ∧ cjA S T i = m ∧ djA S i = m ∧ atI (row (tms S S) i) m = whl S T.length ∧ ∀ k, k < T.length → k ≠ m → atI (row (tms S S) i) k = 0 := by
    intro i hi h
    rcases ix_cases (row (tms S S) i) (whl S T.length) with hc | ⟨m, hc, hm, hmq⟩
    · have h2 := h.2.1
      have : cjA S T i = -1 := hc
      omega
    · rw [hrow i hi] at hm
      have hcm : cjA S T i = m := hc
      have hz : ∀ k, k < T.length → k ≠ m → atI (row (tms S S) i) k = 0 := fun k hk hkm => h.1 k hk (by rw [hcm]; omega)
      exact ⟨m, hm, hcm, (key1 i hi m hm hmq hz).1, hmq, hz⟩
  have fromD : ∀ i, i < T.length → djOk S T i → ∃ m : Nat, m < T.length ∧ cjA S T i = m ∧ djA S i = m ∧ atI (row (tms S S) i) m = whl S T.length ∧ ∀ k, k < T.length → k ≠ m → atI (row (tms S S) i) k = 0 := by
    intro i hi h
    rcases ixp_cases nz (row (tms S S) i) with ⟨hc, -⟩ | ⟨m, hc, hm, hmp, hmb⟩
    · have h2 := h.1
      have : djA S i = -1 := hc
      omega
    · rw [hrow i hi] at hm
      have hcm : djA S i = m := hc
      have hmq : atI (row (tms S S) i) m = whl S T.length := by have := h.2.1; rw [hcm] at this; exact this
      have hz : ∀ k, k < T.length → k ≠ m → atI (row (tms S S) i) k = 0 := fun k hk hkm => by
        rcases Nat.lt_or_ge k m with h3 | h3
        · have := hmb k h3; simpa [nz] using this
        · exact h.2.2.1 k hk (by rw [hcm]; omega)
      exact ⟨m, hm, (key1 i hi m hm hmq hz).2, hcm, hmq, hz⟩
  refine ⟨⟨fun hd => ?_, fun hc => ?_⟩, fun hc i hi => ?_⟩
  · refine ⟨fun i hi => ?_, ?_⟩
    · obtain ⟨m, hm, hcm, hdm, hmq, hz⟩ := fromD i hi (hd i hi)
      refine ⟨fun k hk hkm => hz k hk (by omega), by omega, fun j hj => ?_, ?_⟩
      · obtain ⟨m2, hm2, hcm2, hdm2, -, -⟩ := fromD j (by omega) (hd j (by omega))
        have := (hd i hi).2.2.2.1 j hj
        omega
      · have := (hd i hi).2.2.2.2.1
        rw [hdm] at this; rw [hcm]; exact this
    · obtain ⟨m, hm, hcm, hdm, -, -⟩ := fromD 0 hs.pos (hd 0 hs.pos)
      have := (hd 0 hs.pos).2.2.2.2.2
      omega
  · intro i hi
    obtain ⟨m, hm, hcm, hdm, hmq, hz⟩ := fromC i hi (hc.1 i hi)
    refine ⟨by omega, by rw [hdm]; exact hmq, fun k hk hkm => hz k hk (by omega), fun j hj => ?_, ?_, ?_⟩
    · obtain ⟨m2, hm2, hcm2, hdm2, -, -⟩ := fromC j (by omega) (hc.1 j (by omega))
      have := (hc.1 i hi).2.2.1 j hj
      omega
    · have := (hc.1 i hi).2.2.2
      rw [hcm] at this; rw [hdm]; exact this
    · have h0 := hc.2
      constructor
      · intro hi0
        have : i = 0 := by omega
        subst this; omega
      · intro hd0
        by_cases hi0 : i = 0
        · omega
        · have := (hc.1 i hi).2.2.1 0 (by omega)
          omega
  · obtain ⟨m, hm, hcm, hdm, -, -⟩ := fromC i hi (hc.1 i hi)
    omega
end Go.Proofs.Ytifgeenipinnmaa
