/- Texts joined: S0. -/
import Derived.Test.YtbopenehooiekaaGreatMl
set_option linter.all false
/- Copies of lists: of the reference's and of the library's. -/
namespace Go.Proofs.YtbopenehooiekaaGreat
open Go.RowKit
set_option maxRecDepth 1000000

theorem noRef_tupD (S : List (List Int)) (T : List Int) (v : Value) : noRef (.tup [.agg [rowLL S, rowL T], .sc v]) = true := by
  have h1 := noRef_rowLL S
  have h2 := noRef_rowL T
  simp only [noRef, noRefL, Bool.and_true] at h1 h2 ⊢
  rw [h1, h2]; rfl
theorem noI_dat (S : List (List Int)) (T : List Int) (v : Value) : noI (.tup [.agg [rowLL S, rowL T], .sc v]) = true := by
  simp only [noI, noIL, Bool.and_true, Bool.and_eq_true]
  exact ⟨noI_rowLL _, noI_rowL _⟩
theorem appSrc_isL {a : AV} {xs : List Int} (h : isL a xs) (ro : Ro) : zeu ro a = some (xs.map i64, []) := by
  rcases h with rfl | ⟨rfl, rfl⟩
  · show (if (xs.map i64).all zez then _ else _) = _
    rw [if_pos]
    rw [List.all_eq_true]
    intro x hx
    obtain ⟨y, -, rfl⟩ := List.mem_map.1 hx
    rfl
  · rfl
theorem cOwn1 {xs : List Int} (hx : xs.length ≤ maxN) : CallOK Tryz.prog 102 [immL xs] (rowL xs) := by
  have hx' : 0 + xs.length ≤ 4294967296 := by have : xs.length ≤ 4294967296 := hx; omega
  have hall : (xs.map i64).all zez = true := List.all_eq_true.2 fun x hx => by obtain ⟨y, -, rfl⟩ := List.mem_map.1 hx; rfl
  refine call_of (fn := Tryz.f102) (code := bodyOf Tryz.f102) Tryz.func102 rfl (by kernel_rfl) (noRef_rowL _) ?_
  intro sl hs
  have s0 : sl 0 = immL xs := hs 0
  dsimp only [Tryz.f102, bodyOf, Option.getD]
  simp (config := { maxSteps := 10000000 }) (disch := first | assumption | omega) only [go_sem, ↓reduceIte, Nat.reduceEqDiff, reduceCtorEq, Nat.reduceAdd, Nat.reduceMul, Nat.reduceLeDiff, zfu, Int.mul_def, Int.add_def, zfv, cond_false, cond_true, isub, Int.reduceToNat, s0, hall, List.length_map, hx']
  simp only [zbj, zbk, retR, resL, outT, zes, zez, oneV, ↓zcy, ↓zcz, ↓reduceIte, Nat.reduceEqDiff, Option.some.injEq, AV.sc.injEq, Value.bool.injEq, Value.int.injEq, outL, outT, zft, zcp, zed, zef, zei, zeh, List.length_cons, List.length_nil, Nat.reduceAdd, Nat.zero_add, Nat.reduceLeDiff, List.drop_zero, List.take_succ_cons, List.take_zero, zfi, zfh, Ro.dl, zdb, zda, zfe, and_self, and_true, true_and, eq_self, List.append_nil, List.nil_append, List.cons_append, ne_eq, not_false_eq_true, and_false, false_and, Bool.false_eq_true, St.ev, zes, zfn, zhk, List.length_map]
theorem cOwn0 : CallOK Tryz.prog 102 [nilA] (rowL []) := by
  have hnil : isNilV (Value.slice none 0 0) = true := rfl
  refine call_of (fn := Tryz.f102) (code := bodyOf Tryz.f102) Tryz.func102 rfl (by kernel_rfl) (noRef_rowL _) ?_
  intro sl hs
  have s0 : sl 0 = nilA := hs 0
  dsimp only [Tryz.f102, bodyOf, Option.getD]
  simp (config := { maxSteps := 10000000 }) (disch := first | assumption | omega) only [go_sem, ↓reduceIte, Nat.reduceEqDiff, reduceCtorEq, Nat.reduceAdd, Nat.reduceMul, Nat.reduceLeDiff, zfu, Int.mul_def, Int.add_def, zfv, cond_false, cond_true, isub, Int.reduceToNat, s0, hnil]
  simp only [zbj, zbk, retR, resL, outT, zes, zez, oneV, ↓zcy, ↓zcz, ↓reduceIte, Nat.reduceEqDiff, Option.some.injEq, AV.sc.injEq, Value.bool.injEq, Value.int.injEq, outL, outT, zft, zcp, zed, zef, zei, zeh, List.length_cons, List.length_nil, Nat.reduceAdd, Nat.zero_add, Nat.reduceLeDiff, List.drop_zero, List.take_succ_cons, List.take_zero, zfi, zfh, Ro.dl, zdb, zda, zfe, and_self, and_true, true_and, eq_self, List.append_nil, List.nil_append, List.cons_append, ne_eq, not_false_eq_true, and_false, false_and, Bool.false_eq_true, St.ev, zes, zfn, zhk, List.length_map]
  rfl
theorem cOwn {a : AV} {xs : List Int} (ha : isL a xs) (hx : xs.length ≤ maxN) : CallOK Tryz.prog 102 [a] (rowL xs) := by
  rcases ha with rfl | ⟨rfl, rfl⟩
  · exact cOwn1 hx
  · exact cOwn0
theorem cClo {xs : List Int} (hx : xs.length ≤ maxN) : CallOK Tryz.prog 61 [immL xs] (rowL xs) := by
  have hx' : 0 + xs.length ≤ 4294967296 := by have : xs.length ≤ 4294967296 := hx; omega
  have hall : (xs.map i64).all zez = true := List.all_eq_true.2 fun x hx => by obtain ⟨y, -, rfl⟩ := List.mem_map.1 hx; rfl
  refine call_of (fn := Tryz.f61) (code := bodyOf Tryz.f61) Tryz.func61 rfl (by kernel_rfl) (noRef_rowL _) ?_
  intro sl hs
  have s0 : sl 0 = immL xs := hs 0
  dsimp only [Tryz.f61, bodyOf, Option.getD]
  simp (config := { maxSteps := 10000000 }) (disch := first | assumption | omega) only [go_sem, ↓reduceIte, Nat.reduceEqDiff, reduceCtorEq, Nat.reduceAdd, Nat.reduceMul, Nat.reduceLeDiff, zfu, Int.mul_def, Int.add_def, zfv, cond_false, cond_true, isub, Int.reduceToNat, s0, hall, List.length_map, hx']
  simp only [zbj, zbk, retR, resL, outT, zes, zez, oneV, ↓zcy, ↓zcz, ↓reduceIte, Nat.reduceEqDiff, Option.some.injEq, AV.sc.injEq, Value.bool.injEq, Value.int.injEq, outL, outT, zft, zcp, zed, zef, zei, zeh, List.length_cons, List.length_nil, Nat.reduceAdd, Nat.zero_add, Nat.reduceLeDiff, List.drop_zero, List.take_succ_cons, List.take_zero, zfi, zfh, Ro.dl, zdb, zda, zfe, and_self, and_true, true_and, eq_self, List.append_nil, List.nil_append, List.cons_append, ne_eq, not_false_eq_true, and_false, false_and, Bool.false_eq_true, St.ev, zes, zfn, zhk, List.length_map]
theorem cCloP {a : AV} {xs : List Int} (ha : isL a xs) (hx : xs.length ≤ maxN) (hp : 0 < xs.length) : CallOK Tryz.prog 61 [a] (rowL xs) := by
  rcases ha with rfl | ⟨rfl, rfl⟩
  · exact cClo hx
  · exact absurd hp (by decide)
theorem cOwn2 {a : AV} {S : List (List Int)} (ha : isLL a S) (hS : S.length ≤ maxN) (hR : ∀ i, i < S.length → (row S i).length ≤ maxN) : CallOK Tryz.prog 108 [a] (.row (rws (fun x => rowL (row S x)) S.length)) := by
  have hS' : S.length ≤ 4294967296 := hS
  refine call_of (fn := Tryz.f108) (code := bodyOf Tryz.f108) Tryz.func108 rfl (by kernel_rfl) (noRef_row _ (noRefL_rws _ _ fun _ => noRef_rowL _)) ?_
  intro sl hs
  have s0 : sl 0 = a := hs 0
  dsimp only [Tryz.f108, bodyOf, Option.getD]
  simp (config := { maxSteps := 10000000 }) (disch := first | assumption | omega) only [go_sem, ↓reduceIte, Nat.reduceEqDiff, reduceCtorEq, Nat.reduceAdd, Nat.reduceMul, Nat.reduceLeDiff, zfu, Int.mul_def, Int.add_def, zfv, cond_false, cond_true, isub, Int.reduceToNat, s0]
  refine WK_for (fun i st => st.sl 0 = a ∧ st.sl 3 = .ref 8192 (st.gn 8192) [] 0 i ∧ st.ro 8192 (st.gn 8192) = some (.row (rws (fun x => rowL (row S x)) i)) ∧ st.sl 4 = i64 (i : Int)) S.length ?_ ?_ ?_
  · simp only [↓zcy, ↓zcz, ↓zda, ↓zdb, ↓reduceIte, Nat.reduceEqDiff, and_true, true_and, and_self, ne_eq, not_false_eq_true, eq_self, false_and, and_false, reduceCtorEq, rws_zero, s0]
    exact rfl
  · rintro i sl ro gn hi ⟨s0, s3, r8192, s4⟩
    dsimp only at s0 s3 r8192 s4
    have hi' : (i : Int) < (S.length : Nat) := by omega
    have hi2 : i + 1 ≤ 4294967296 := by omega
    have hr := isLL_row ha hi
    simp (config := { maxSteps := 10000000 }) (disch := first | assumption | omega) only [go_sem, ↓reduceIte, Nat.reduceEqDiff, reduceCtorEq, Nat.reduceAdd, Nat.reduceMul, Nat.reduceLeDiff, zfu, Int.mul_def, Int.add_def, zfv, cond_false, cond_true, isub, Int.reduceToNat, s0, s3, r8192, s4, hi', hi]
    refine CLL_pure _ (cOwn hr (hR i hi)) (by simp (disch := assumption) only [pureL, pureA, isL_pure, isLL_pure, isLLL_pure, pureL_map, Bool.and_self, Bool.and_true]) rfl rfl ?_
    simp (config := { maxSteps := 10000000 }) (disch := first | assumption | omega) only [go_sem, ↓reduceIte, Nat.reduceEqDiff, reduceCtorEq, Nat.reduceAdd, Nat.reduceMul, Nat.reduceLeDiff, zfu, Int.mul_def, Int.add_def, zfv, cond_false, cond_true, isub, Int.reduceToNat, s0, s3, r8192, s4, hi', hi, hi2]
    exact i64c (by omega)
  · rintro sl ro gn ⟨s0, s3, r8192, s4⟩
    dsimp only at s0 s3 r8192 s4
    have hi' : ¬ ((S.length : Nat) : Int) < (S.length : Nat) := by omega
    simp (config := { maxSteps := 10000000 }) (disch := first | assumption | omega) only [go_sem, ↓reduceIte, Nat.reduceEqDiff, reduceCtorEq, Nat.reduceAdd, Nat.reduceMul, Nat.reduceLeDiff, zfu, Int.mul_def, Int.add_def, zfv, cond_false, cond_true, isub, Int.reduceToNat, s0, s3, r8192, s4, hi']
    simp only [zbj, zbk, retR, resL, outT, zes, zez, oneV, ↓zcy, ↓zcz, ↓reduceIte, Nat.reduceEqDiff, Option.some.injEq, AV.sc.injEq, Value.bool.injEq, Value.int.injEq, outL, outT, zft, zcp, zed, zef, zei, zeh, List.length_cons, List.length_nil, Nat.reduceAdd, Nat.zero_add, Nat.reduceLeDiff, List.drop_zero, List.take_succ_cons, List.take_zero, zfi, zfh, Ro.dl, zdb, zda, zfe, and_self, and_true, true_and, eq_self, List.append_nil, List.nil_append, List.cons_append, ne_eq, not_false_eq_true, and_false, false_and, Bool.false_eq_true, St.ev, zes, zfn, zhk, List.length_map, r8192]
end Go.Proofs.YtbopenehooiekaaGreat
