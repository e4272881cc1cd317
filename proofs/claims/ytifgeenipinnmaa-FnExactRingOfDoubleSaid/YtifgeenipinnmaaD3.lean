/- Matrices of the program: zeros, transposes, products. -/
import Derived.Test.YtifgeenipinnmaaD2
set_option linter.all false
namespace Go.Proofs.Ytifgeenipinnmaa
open Go.RowKit

theorem rep_rws {α : Type} (x : α) (n : Nat) : List.replicate n x = rws (fun _ => x) n := by
  unfold rws
  apply List.ext_getElem <;> simp
theorem rws_set {α : Type} (f : Nat → α) (n j : Nat) (x : α) : (rws f n).set j x = rws (fun i => if i = j then x else f i) n := by
  unfold rws
  apply List.ext_getElem
  · simp
  · intro i h1 h2
    simp [List.getElem_set]
    split <;> split <;> first | rfl | omega
theorem rws_get {α : Type} (f : Nat → α) (n j : Nat) (h : j < n) : (rws f n)[j]? = some (f j) := by simp [rws, h]

def wr1 (o : Option AV) (ro : Ro) (s g j i : Nat) (vs : List AV) : Ro := match o with
  | some a => upr ro s g (putR (setL i vs) [j] a)
  | none => ro
theorem wr_one (ro : Ro) (s g j i : Nat) (vs : List AV) : ro.wr ⟨s, g, [j], i, vs⟩ = wr1 (ro s g) ro s g j i vs := by
  unfold wr1 Ro.wr
  cases ro s g <;> rfl
theorem wr1_row {rows cs : List AV} {ro : Ro} {s g j i : Nat} {vs : List AV} (h : rows[j]? = some (.row cs)) : wr1 (some (.row rows)) ro s g j i vs = upr ro s g (.row (rows.set j (.row (setL i vs cs)))) := by
  simp only [wr1, putR, h]
def bx1 (o : Option AV) (j : Nat) : Bool := match o with
  | some (.row rows) => match rows[j]? with
    | some (.bx _) => true
    | _ => false
  | _ => false
theorem isBx_one (ro : Ro) (s g j : Nat) : isBxAt ro s g [j] = bx1 (ro s g) j := by
  unfold isBxAt bx1 Ro.at
  cases h : ro s g with
  | none => rfl
  | some a =>
    cases a <;> try rfl
    rename_i rows
    simp only [ath]
    cases h2 : rows[j]? with
    | none => rfl
    | some c => cases c <;> rfl
theorem bx1_row {rows cs : List AV} {j : Nat} (h : rows[j]? = some (.row cs)) : bx1 (some (.row rows)) j = false := by simp only [bx1, h]

set_option maxRecDepth 1000000 in
theorem c126 {n m : Nat} (hn : n ≤ maxN) (hm : m ≤ maxN) : CallOK Try.prog 126 [i64 n, i64 m] (rowLL (rws (fun _ => rws (fun _ => 0) m) n)) := by
  have e0 : rowLL (rws (fun _ => rws (fun _ => 0) m) n) = .row (rws (fun _ => .row (List.replicate m (i64 0))) n) := by simp only [rowLL, rowL, rws_map, rep_rws]
  refine call_of (fn := Try.f126) (code := bodyOf Try.f126) Try.func126 rfl (by kernel_rfl) (noRef_rowLL _) ?_
  rw [e0]
  intro sl hs
  have s0 : sl 0 = i64 n := hs 0
  have s1 : sl 1 = i64 m := hs 1
  have hn' : n ≤ 4294967296 := hn
  have hm' : (m : Int) ≤ ((4294967296 : Nat) : Int) := by have : m ≤ 4294967296 := hm; omega
  simp only [Try.f126, bodyOf, Option.getD, go_sem, ↓reduceIte, Nat.reduceEqDiff, reduceCtorEq, Nat.reduceAdd, Nat.reduceMul, Nat.reduceLeDiff, ti2, ti3, ti4, ti22, ti23, s0, s1]
  refine WK_for (fun i st => st.sl 1 = i64 m ∧ st.sl 7 = i64 n ∧ st.sl 8 = i64 (i : Int) ∧ st.sl 5 = .ref 8192 (st.gn 8192) [] 0 i ∧ st.ro 8192 (st.gn 8192) = some (.row (rws (fun _ => .row (List.replicate m (i64 0))) i))) n ?_ ?_ ?_
  · simp only [↓zcy, ↓zcz, ↓zda, ↓zdb, ↓reduceIte, Nat.reduceEqDiff, and_true, true_and, and_self, ne_eq, not_false_eq_true, eq_self, false_and, and_false, reduceCtorEq, s0, s1, rws_zero]
    rfl
  · rintro i sl ro gn hi ⟨s1, s7, s8, s5, r5⟩
    dsimp only at s1 s7 s8 s5 r5
    have hi' : (i : Int) < n := by omega
    have hi2 : i + 1 ≤ 4294967296 := by omega
    simp (config := { maxSteps := 10000000 }) (disch := first | omega | assumption) only [go_sem, ↓reduceIte, Nat.reduceEqDiff, reduceCtorEq, Nat.reduceAdd, Nat.reduceMul, Nat.reduceLeDiff, zfu, Int.mul_def, Int.add_def, zfv, cond_false, cond_true, isub, ti2, ti3, ti4, ti22, ti23, s1, s7, s8, s5, r5, hi', hi2, kMake, Int.natCast_nonneg, Int.le_refl, Int.toNat_natCast, hm', List.length_replicate, List.getD_cons_zero]
    exact i64c (by omega)
  · rintro sl ro gn ⟨s1, s7, s8, s5, r5⟩
    dsimp only at s1 s7 s8 s5 r5
    have hi' : ¬ (n : Int) < n := by omega
    simp (config := { maxSteps := 10000000 }) (disch := first | omega | assumption) only [go_sem, ↓reduceIte, Nat.reduceEqDiff, reduceCtorEq, Nat.reduceAdd, Nat.reduceMul, Nat.reduceLeDiff, zfu, Int.mul_def, Int.add_def, zfv, cond_false, cond_true, isub, ti2, ti3, ti4, ti22, ti23, s1, s7, s8, s5, r5, hi']
    simp only [zbj, zbk, retR, resL, outT, zes, zez, oneV, ↓zcy, ↓zcz, ↓reduceIte, Nat.reduceEqDiff, Option.some.injEq, AV.sc.injEq, Value.bool.injEq, Value.int.injEq, outL, outT, zft, zcp, zed, zef, zei, zeh, List.length_cons, List.length_nil, Nat.reduceAdd, Nat.zero_add, Nat.reduceLeDiff, List.drop_zero, List.take_succ_cons, List.take_zero, zfi, zfh, Ro.dl, zdb, zda, zfe, and_self, and_true, true_and, eq_self, List.append_nil, List.nil_append, List.cons_append, ne_eq, not_false_eq_true, and_false, false_and, Bool.false_eq_true, St.ev, zes, zfn, r5]

/-- What a matrix does to a vector. -/
def apl (A : List (List Int)) (v : List Int) : List Int := rws (fun i => sm (fun j => atI (row A i) j * atI v j) (row A i).length % 55441) A.length

set_option maxRecDepth 1000000 in
theorem c121 {a b : AV} {A : List (List Int)} {v : List Int} (ha : isLL a A) (hb : isL b v) (hA : A.length ≤ maxN) (hA2 : ∀ i, i < A.length → (row A i).length ≤ maxN) (hl : ∀ i, i < A.length → (row A i).length ≤ v.length) (nA : numLL A) (nv : numL v) : CallOK Try.prog 121 [a, b] (rowL (apl A v)) := by
  have e0 : rowL (apl A v) = .row (rws (fun i => i64 (sm (fun j => atI (row A i) j * atI v j) (row A i).length % 55441)) A.length) := by simp only [rowL, apl, rws_map]
  refine call_of (fn := Try.f121) (code := bodyOf Try.f121) Try.func121 rfl (by kernel_rfl) (noRef_rowL _) ?_
  rw [e0]
  intro sl hs
  have s0 : sl 0 = a := hs 0
  have s1 : sl 1 = b := hs 1
  have hA' : A.length ≤ 4294967296 := hA
  simp only [Try.f121, bodyOf, Option.getD, go_sem, ↓reduceIte, Nat.reduceEqDiff, reduceCtorEq, Nat.reduceAdd, Nat.reduceMul, Nat.reduceLeDiff, ti2, ti3, ti4, ti22, ti23, s0, s1, isLL_len ha]
  refine WK_for (fun i st => st.sl 1 = b ∧ st.sl 9 = a ∧ st.sl 10 = i64 (A.length : Int) ∧ st.sl 11 = i64 (i : Int) ∧ st.sl 5 = .ref 8192 (st.gn 8192) [] 0 i ∧ st.ro 8192 (st.gn 8192) = some (.row (rws (fun i => i64 (sm (fun j => atI (row A i) j * atI v j) (row A i).length % 55441)) i))) A.length ?_ ?_ ?_
  · simp only [↓zcy, ↓zcz, ↓zda, ↓zdb, ↓reduceIte, Nat.reduceEqDiff, and_true, true_and, and_self, ne_eq, not_false_eq_true, eq_self, false_and, and_false, reduceCtorEq, s0, s1, rws_zero]
    rfl
  · rintro i sl ro gn hi ⟨s1, s9, s10, s11, s5, r5⟩
    dsimp only at s1 s9 s10 s11 s5 r5
    have hi' : (i : Int) < A.length := by omega
    have hi2 : i + 1 ≤ 4294967296 := by omega
    have h1 := isLL_row ha hi
    simp (config := { maxSteps := 10000000 }) (disch := first | omega | assumption) only [go_sem, ↓reduceIte, Nat.reduceEqDiff, reduceCtorEq, Nat.reduceAdd, Nat.reduceMul, Nat.reduceLeDiff, zfu, Int.mul_def, Int.add_def, zfv, cond_false, cond_true, isub, ti2, ti3, ti4, ti22, ti23, s1, s9, s10, s11, s5, r5, hi', isLL_idx ha hi]
    refine CLL_pure _ (c119 h1 hb (hA2 i hi) (hl i hi) (nA i) nv) (by simp only [pureL, isL_pure h1, isL_pure hb, Bool.and_self]) rfl rfl ?_
    simp (config := { maxSteps := 10000000 }) (disch := first | omega | assumption) only [go_sem, ↓reduceIte, Nat.reduceEqDiff, reduceCtorEq, Nat.reduceAdd, Nat.reduceMul, Nat.reduceLeDiff, zfu, Int.mul_def, Int.add_def, zfv, cond_false, cond_true, isub, ti2, ti3, ti4, ti22, ti23, s1, s9, s10, s11, s5, r5, hi2]
    exact i64c (by omega)
  · rintro sl ro gn ⟨s1, s9, s10, s11, s5, r5⟩
    dsimp only at s1 s9 s10 s11 s5 r5
    have hi' : ¬ (A.length : Int) < A.length := by omega
    simp (config := { maxSteps := 10000000 }) (disch := first | omega | assumption) only [go_sem, ↓reduceIte, Nat.reduceEqDiff, reduceCtorEq, Nat.reduceAdd, Nat.reduceMul, Nat.reduceLeDiff, zfu, Int.mul_def, Int.add_def, zfv, cond_false, cond_true, isub, ti2, ti3, ti4, ti22, ti23, s1, s9, s10, s11, s5, r5, hi']
    simp only [zbj, zbk, retR, resL, outT, zes, zez, oneV, ↓zcy, ↓zcz, ↓reduceIte, Nat.reduceEqDiff, Option.some.injEq, AV.sc.injEq, Value.bool.injEq, Value.int.injEq, outL, outT, zft, zcp, zed, zef, zei, zeh, List.length_cons, List.length_nil, Nat.reduceAdd, Nat.zero_add, Nat.reduceLeDiff, List.drop_zero, List.take_succ_cons, List.take_zero, zfi, zfh, Ro.dl, zdb, zda, zfe, and_self, and_true, true_and, eq_self, List.append_nil, List.nil_append, List.cons_append, ne_eq, not_false_eq_true, and_false, false_and, Bool.false_eq_true, St.ev, zes, zfn, r5]

/-- The transpose. -/
def trp (A : List (List Int)) : List (List Int) := rws (fun j => rws (fun i => atI (row A i) j) A.length) (row A 0).length

set_option maxRecDepth 1000000 in
set_option maxHeartbeats 10000000 in
theorem c120 {a : AV} {A : List (List Int)} (ha : isLL a A) (h0 : 0 < A.length) (hA : A.length ≤ maxN) (hA2 : (row A 0).length ≤ maxN) (hl : ∀ i, i < A.length → (row A i).length = (row A 0).length) : CallOK Try.prog 120 [a] (rowLL (trp A)) := by
  have e0 : rowLL (trp A) = .row (rws (fun r => .row (rws (fun c => i64 (if c < A.length ∨ (c = A.length ∧ r < 0) then atI (row A c) r else 0)) A.length)) (row A 0).length) := by
    simp only [rowLL, rowL, trp, rws_map]
    congr 1
    refine rws_congr fun r hr => ?_
    congr 1
    refine rws_congr fun c hc => ?_
    rw [if_pos (.inl hc)]
  refine call_of (fn := Try.f120) (code := bodyOf Try.f120) Try.func120 rfl (by kernel_rfl) (noRef_rowLL _) ?_
  rw [e0]
  intro sl hs
  have s0 : sl 0 = a := hs 0
  have hA' : A.length ≤ 4294967296 := hA
  have hA2' : (row A 0).length ≤ 4294967296 := hA2
  have h1 := isLL_row ha h0
  simp only [Try.f120, bodyOf, Option.getD, go_sem, ↓reduceIte, Nat.reduceEqDiff, reduceCtorEq, Nat.reduceAdd, Nat.reduceMul, Nat.reduceLeDiff, ti2, ti3, ti4, ti22, ti23, s0, isLL_len ha, isLL_idx0 ha h0, isL_len h1]
  refine CLL_pure _ (c126 hA2 hA) rfl rfl rfl ?_
  simp only [go_sem, ↓reduceIte, Nat.reduceEqDiff, reduceCtorEq, Nat.reduceAdd, Nat.reduceMul, Nat.reduceLeDiff, ti2, ti3, ti4, ti22, ti23, s0, isLL_len ha, impE_row, List.length_map]
  refine WK_for (fun i st => st.sl 15 = a ∧ st.sl 16 = i64 (A.length : Int) ∧ st.sl 17 = i64 (i : Int) ∧ st.sl 3 = .ref 8288 (st.gn 8288) [] 0 (row A 0).length ∧
    st.ro 8288 (st.gn 8288) = some (.row (rws (fun r => .row (rws (fun c => i64 (if c < i ∨ (c = i ∧ r < 0) then atI (row A c) r else 0)) A.length)) (row A 0).length))) A.length ?_ ?_ ?_
  · simp only [↓zcy, ↓zcz, ↓zda, ↓zdb, ↓reduceIte, Nat.reduceEqDiff, and_true, true_and, and_self, ne_eq, not_false_eq_true, eq_self, false_and, and_false, reduceCtorEq, s0]
    simp only [rowL, rws_map, Nat.not_lt_zero, and_false, or_self, if_false]
    exact ⟨rfl, trivial⟩
  · rintro i sl ro gn hi ⟨s15, s16, s17, s3, r3⟩
    dsimp only at s15 s16 s17 s3 r3
    have hi' : (i : Int) < A.length := by omega
    have hi2 : i + 1 ≤ 4294967296 := by omega
    have h2 := isLL_row ha hi
    have hli := hl i hi
    simp (config := { maxSteps := 10000000 }) (disch := first | omega | assumption) only [go_sem, ↓reduceIte, Nat.reduceEqDiff, reduceCtorEq, Nat.reduceAdd, Nat.reduceMul, Nat.reduceLeDiff, zfu, Int.mul_def, Int.add_def, zfv, cond_false, cond_true, isub, ti2, ti3, ti4, ti22, ti23, s15, s16, s17, s3, r3, hi', isLL_idx ha hi, isL_len h2, hli]
    refine WK_for (fun j st => st.sl 15 = a ∧ st.sl 16 = i64 (A.length : Int) ∧ st.sl 17 = i64 (i : Int) ∧ st.sl 4 = i64 (i : Int) ∧ st.sl 3 = .ref 8288 (st.gn 8288) [] 0 (row A 0).length ∧ st.sl 22 = atA a i ∧ st.sl 23 = i64 ((row A 0).length : Int) ∧ st.sl 24 = i64 (j : Int) ∧
      st.ro 8288 (st.gn 8288) = some (.row (rws (fun r => .row (rws (fun c => i64 (if c < i ∨ (c = i ∧ r < j) then atI (row A c) r else 0)) A.length)) (row A 0).length))) (row A 0).length ?_ ?_ ?_
    · simp only [↓zcy, ↓zcz, ↓zda, ↓zdb, ↓reduceIte, Nat.reduceEqDiff, and_true, true_and, and_self, ne_eq, not_false_eq_true, eq_self, false_and, and_false, reduceCtorEq, s15, s16, s17, s3, r3]
      rfl
    · rintro j sl ro gn hj ⟨s15, s16, s17, s4, s3, s22, s23, s24, r3⟩
      dsimp only at s15 s16 s17 s4 s3 s22 s23 s24 r3
      have hj' : (j : Int) < (row A 0).length := by omega
      have hg := rws_get (fun r => AV.row (rws (fun c => i64 (if c < i ∨ (c = i ∧ r < j) then atI (row A c) r else 0)) A.length)) (row A 0).length j hj
      have hii : i + 1 ≤ A.length := hi
      simp (config := { maxSteps := 10000000 }) (disch := first | omega | assumption) only [go_sem, ↓reduceIte, Nat.reduceEqDiff, reduceCtorEq, Nat.reduceAdd, Nat.reduceMul, Nat.reduceLeDiff, zfu, Int.mul_def, Int.add_def, zfv, cond_false, cond_true, isub, ti2, ti3, ti4, ti22, ti23, s15, s16, s17, s4, s3, s22, s23, s24, r3, hj', hj, hi, hii, isL_idx h2 (hli.symm ▸ hj), hg, inO_row, rowO_row, isBx_one, bx1_row hg, wr_one, wr1_row hg, zfp]
      refine ⟨i64c (by omega), congrArg (fun x => some (AV.row x)) ?_⟩
      rw [rws_set, rws_set]
      refine rws_congr fun r hr => ?_
      by_cases hrj : r = j
      · subst hrj
        rw [if_pos rfl]
        refine congrArg AV.row (rws_congr fun c hc => ?_)
        by_cases hci : c = i
        · subst hci
          rw [if_pos rfl, if_pos (.inr ⟨rfl, by omega⟩)]
        · rw [if_neg hci]
          have e : (c < i ∨ c = i ∧ r < r) ↔ (c < i ∨ c = i ∧ r < r + 1) := by omega
          simp only [e]
      · rw [if_neg hrj]
        refine congrArg AV.row (rws_congr fun c hc => ?_)
        have e : (c < i ∨ c = i ∧ r < j) ↔ (c < i ∨ c = i ∧ r < j + 1) := by omega
        simp only [e]
    · rintro sl ro gn ⟨s15, s16, s17, s4, s3, s22, s23, s24, r3⟩
      dsimp only at s15 s16 s17 s4 s3 s22 s23 s24 r3
      have hj' : ¬ ((row A 0).length : Int) < (row A 0).length := by omega
      simp (config := { maxSteps := 10000000 }) (disch := first | omega | assumption) only [go_sem, ↓reduceIte, Nat.reduceEqDiff, reduceCtorEq, Nat.reduceAdd, Nat.reduceMul, Nat.reduceLeDiff, zfu, Int.mul_def, Int.add_def, zfv, cond_false, cond_true, isub, ti2, ti3, ti4, ti22, ti23, s15, s16, s17, s4, s3, s22, s23, s24, r3, hj']
      refine ⟨i64c (by omega), congrArg (fun x => some (AV.row x)) (rws_congr fun r hr => congrArg AV.row (rws_congr fun c hc => ?_))⟩
      have e : (c < i ∨ c = i ∧ r < (row A 0).length) ↔ (c < i + 1 ∨ c = i + 1 ∧ r < 0) := by omega
      simp only [e]
  · rintro sl ro gn ⟨s15, s16, s17, s3, r3⟩
    dsimp only at s15 s16 s17 s3 r3
    have hi' : ¬ (A.length : Int) < A.length := by omega
    simp (config := { maxSteps := 10000000 }) (disch := first | omega | assumption) only [go_sem, ↓reduceIte, Nat.reduceEqDiff, reduceCtorEq, Nat.reduceAdd, Nat.reduceMul, Nat.reduceLeDiff, zfu, Int.mul_def, Int.add_def, zfv, cond_false, cond_true, isub, ti2, ti3, ti4, ti22, ti23, s15, s16, s17, s3, r3, hi']
    simp only [zbj, zbk, retR, resL, outT, zes, zez, oneV, ↓zcy, ↓zcz, ↓reduceIte, Nat.reduceEqDiff, Option.some.injEq, AV.sc.injEq, Value.bool.injEq, Value.int.injEq, outL, outT, zft, zcp, zed, zef, zei, zeh, List.length_cons, List.length_nil, Nat.reduceAdd, Nat.zero_add, Nat.reduceLeDiff, List.drop_zero, List.take_succ_cons, List.take_zero, zfi, zfh, Ro.dl, zdb, zda, zfe, and_self, and_true, true_and, eq_self, List.append_nil, List.nil_append, List.cons_append, ne_eq, not_false_eq_true, and_false, false_and, Bool.false_eq_true, St.ev, zes, zfn, r3]

/-- The product, as the program has it. -/
def mul (A B : List (List Int)) : List (List Int) := rws (fun i => apl (trp B) (row A i)) A.length
theorem row_rws (f : Nat → List Int) {n k : Nat} (h : k < n) : row (rws f n) k = f k := by
  unfold row; rw [List.getD_eq_getElem?_getD, rws_get f n k h]; rfl
theorem atI_rws (f : Nat → Int) {n k : Nat} (h : k < n) : atI (rws f n) k = f k := by
  unfold atI; rw [List.getD_eq_getElem?_getD, rws_get f n k h]; rfl
theorem row_out {A : List (List Int)} {k : Nat} (h : A.length ≤ k) : row A k = [] := by
  unfold row; rw [List.getD_eq_getElem?_getD, List.getElem?_eq_none h]; rfl
theorem atI_out {xs : List Int} {k : Nat} (h : xs.length ≤ k) : atI xs k = 0 := by
  unfold atI; rw [List.getD_eq_getElem?_getD, List.getElem?_eq_none h]; rfl
theorem numL_rws (f : Nat → Int) (n : Nat) (h : ∀ i, i < n → num (f i)) : numL (rws f n) := by
  intro j
  rcases Nat.lt_or_ge j n with hj | hj
  · rw [atI_rws f hj]; exact h j hj
  · rw [atI_out (by rw [zfe]; exact hj)]; exact ⟨by decide, by decide⟩
theorem numLL_rws (f : Nat → List Int) (n : Nat) (h : ∀ i, i < n → numL (f i)) : numLL (rws f n) := by
  intro j
  rcases Nat.lt_or_ge j n with hj | hj
  · rw [row_rws f hj]; exact h j hj
  · rw [row_out (by rw [zfe]; exact hj)]; intro i; rw [atI_out (Nat.zero_le _)]; exact ⟨by decide, by decide⟩
theorem numLL_trp {A : List (List Int)} (h : numLL A) : numLL (trp A) := numLL_rws _ _ fun j _ => numL_rws _ _ fun i _ => h i j
theorem trp_len (A : List (List Int)) : (trp A).length = (row A 0).length := zfe _ _
theorem trp_row {A : List (List Int)} {j : Nat} (hj : j < (row A 0).length) : row (trp A) j = rws (fun i => atI (row A i) j) A.length := row_rws _ hj
theorem mul_eq {A B : List (List Int)} (h : ∀ i, i < B.length → (row B i).length = B.length) (hB : 0 < B.length) : mul A B = tms A B := by
  have h0 := h 0 hB
  unfold mul tms
  refine rws_congr fun i hi => ?_
  unfold apl
  rw [trp_len, h0]
  refine rws_congr fun j hj => ?_
  have hj2 : j < (row B 0).length := by omega
  rw [trp_row hj2, zfe]
  unfold tmE
  refine congrArg (· % 55441) (sm_congr fun k hk => ?_)
  rw [atI_rws _ hk, Int.mul_comm]

theorem ex_immLL {ro : Ro} (k : Nat) (xss : List (List Int)) : ex ro (k + 3) (immLL xss) = immLL xss := by
  show AV.imm ((xss.map immL).map (ex ro (k + 2))) = _
  rw [List.map_map]
  refine congrArg AV.imm (List.map_congr_left fun xs _ => ?_)
  show AV.imm ((xs.map i64).map (ex ro (k + 1))) = _
  rw [ex_map]
theorem isL_ex8 {a : AV} {xs : List Int} (ro : Ro) (h : isL a xs) : ex ro 8 a = a := isL_ex ro 6 h

set_option maxRecDepth 1000000 in
theorem c92 {a b : AV} {A B : List (List Int)} (ha : isLL a A) (hb : isLL b B) (h0 : 0 < B.length) (hA : A.length ≤ maxN) (hB : B.length ≤ maxN) (hl : ∀ i, i < B.length → (row B i).length = B.length) (lA : ∀ i, i < A.length → B.length ≤ (row A i).length) (nA : numLL A) (nB : numLL B) : CallOK Try.prog 92 [a, b] (rowLL (tms A B)) := by
  rw [← mul_eq hl h0]
  have e0 : rowLL (mul A B) = .row (rws (fun i => rowL (apl (trp B) (row A i))) A.length) := by simp only [rowLL, mul, rws_map]
  refine call_of (fn := Try.f92) (code := bodyOf Try.f92) Try.func92 rfl (by kernel_rfl) (noRef_rowLL _) ?_
  rw [e0]
  intro sl hs
  have s0 : sl 0 = a := hs 0
  have s1 : sl 1 = b := hs 1
  have hA' : A.length ≤ 4294967296 := hA
  have hB0 := hl 0 h0
  simp only [Try.f92, bodyOf, Option.getD, go_sem, ↓reduceIte, Nat.reduceEqDiff, reduceCtorEq, Nat.reduceAdd, Nat.reduceMul, Nat.reduceLeDiff, ti2, ti3, ti4, ti22, ti23, s0, s1]
  refine CLL_pure _ (c120 hb h0 hB (by omega) (fun i hi => by rw [hl i hi, hB0])) (by simp only [pureL, isLL_pure hb, Bool.and_self]) rfl rfl ?_
  simp only [go_sem, ↓reduceIte, Nat.reduceEqDiff, reduceCtorEq, Nat.reduceAdd, Nat.reduceMul, Nat.reduceLeDiff, ti2, ti3, ti4, ti22, ti23, s0, s1, isLL_len ha, impE_row, List.length_map]
  refine WK_for (fun i st => st.sl 12 = a ∧ st.sl 13 = i64 (A.length : Int) ∧ st.sl 14 = i64 (i : Int) ∧ st.sl 5 = .ref 8208 1 [] 0 (trp B).length ∧ st.ro 8208 1 = some (rowLL (trp B)) ∧
    st.sl 6 = .ref 12288 (st.gn 12288) [] 0 i ∧ st.ro 12288 (st.gn 12288) = some (.row (rws (fun i => rowL (apl (trp B) (row A i))) i))) A.length ?_ ?_ ?_
  · simp only [↓zcy, ↓zcz, ↓zda, ↓zdb, ↓reduceIte, Nat.reduceEqDiff, and_true, true_and, and_self, ne_eq, not_false_eq_true, eq_self, false_and, and_false, reduceCtorEq, s0, rws_zero]
    rfl
  · rintro i sl ro gn hi ⟨s12, s13, s14, s5, r5, s6, r6⟩
    dsimp only at s12 s13 s14 s5 r5 s6 r6
    have hi' : (i : Int) < A.length := by omega
    have hi2 : i + 1 ≤ 4294967296 := by omega
    have h1 := isLL_row ha hi
    simp (config := { maxSteps := 10000000 }) (disch := first | omega | assumption) only [go_sem, ↓reduceIte, Nat.reduceEqDiff, reduceCtorEq, Nat.reduceAdd, Nat.reduceMul, Nat.reduceLeDiff, zfu, Int.mul_def, Int.add_def, zfv, cond_false, cond_true, isub, ti2, ti3, ti4, ti22, ti23, s12, s13, s14, s5, r5, s6, r6, hi', isLL_idx ha hi]
    have hax : argsX ro [.ref 8208 1 [] 0 (trp B).length, atA a i] = [immLL (trp B), atA a i] := by
      have hp : pureL [.ref 8208 1 [] 0 (trp B).length, atA a i] = false := rfl
      unfold argsX
      rw [hp, if_neg Bool.false_ne_true]
      show [ex ro 8 _, ex ro 8 _] = _
      rw [ex_refLL r5 5, isL_ex8 ro h1]
    refine CLL_args _ (c121 (isLL_imm (trp B)) h1 (by rw [trp_len]; omega) (fun j hj => by rw [trp_len] at hj; rw [trp_row hj, zfe]; exact hB) (fun j hj => by rw [trp_len] at hj; rw [trp_row hj, zfe]; exact lA i hi) (numLL_trp nB) (nA i)) hax rfl rfl (noI_rowL _) ?_
    · simp (config := { maxSteps := 10000000 }) (disch := first | omega | assumption) only [go_sem, ↓reduceIte, Nat.reduceEqDiff, reduceCtorEq, Nat.reduceAdd, Nat.reduceMul, Nat.reduceLeDiff, zfu, Int.mul_def, Int.add_def, zfv, cond_false, cond_true, isub, ti2, ti3, ti4, ti22, ti23, s12, s13, s14, s5, r5, s6, r6, hi2, impE_row, List.length_map]
      exact i64c (by omega)
  · rintro sl ro gn ⟨s12, s13, s14, s5, r5, s6, r6⟩
    dsimp only at s12 s13 s14 s5 r5 s6 r6
    have hi' : ¬ (A.length : Int) < A.length := by omega
    simp (config := { maxSteps := 10000000 }) (disch := first | omega | assumption) only [go_sem, ↓reduceIte, Nat.reduceEqDiff, reduceCtorEq, Nat.reduceAdd, Nat.reduceMul, Nat.reduceLeDiff, zfu, Int.mul_def, Int.add_def, zfv, cond_false, cond_true, isub, ti2, ti3, ti4, ti22, ti23, s12, s13, s14, s5, r5, s6, r6, hi']
    simp only [zbj, zbk, retR, resL, outT, zes, zez, oneV, ↓zcy, ↓zcz, ↓reduceIte, Nat.reduceEqDiff, Option.some.injEq, AV.sc.injEq, Value.bool.injEq, Value.int.injEq, outL, outT, zft, zcp, zed, zef, zei, zeh, List.length_cons, List.length_nil, Nat.reduceAdd, Nat.zero_add, Nat.reduceLeDiff, List.drop_zero, List.take_succ_cons, List.take_zero, zfi, zfh, Ro.dl, zdb, zda, zfe, and_self, and_true, true_and, eq_self, List.append_nil, List.nil_append, List.cons_append, ne_eq, not_false_eq_true, and_false, false_and, Bool.false_eq_true, St.ev, zes, zfn, r6]
end Go.Proofs.Ytifgeenipinnmaa
