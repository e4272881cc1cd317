/- Texts joined: TE TF TG. -/
import Derived.Test.YtkimbjcaoolfpaaGreatDoorTd
set_option linter.all false
/- Data and the matrices of words: the contracts of WordMatrix and WordTrace. -/
namespace Go.Proofs.YtkimbjcaoolfpaaGreatDoor
open Go.RowKit
set_option maxRecDepth 1000000
section
variable {S : List (List Int)} {T : List Int}
theorem Dat.matS (D : Dat S T) : S = matL (ss S) T.length T.length := by
 have h := D.shp
 have e : S = rws (fun i => row S i) S.length := by
  apply List.ext_getElem?
  intro i
  by_cases hi : i < S.length
  ·rw [rws_get _ _ _ hi]
   unfold row
   rw [List.getD_eq_getElem?_getD, List.getElem?_eq_getElem hi]
   rfl
  ·rw [List.getElem?_eq_none (by omega), List.getElem?_eq_none (by rw [zfe]; omega)]
 conv => lhs; rw [e]
 rw [h.lS]
 unfold matL
 refine rws_congr fun i hi => ?_
 refine eq_of_atI (by rw [h.lR i hi, zfe]) fun j hj => ?_
 rw [h.lR i hi] at hj
 rw [atI_rws _ hj]
theorem MM_can {a x : Int} (ha : num a) (h0 : ¬ MM a 0) (h : MM (a * x) 0) : MM x 0 := by
 have hne : a ≠ 0 := fun e => h0 (by rw [e]; exact MM.rfl)
 have h1 := inv_mul ha hne
 have h2 : MM (pw a 55439 * (a * x)) (pw a 55439 * 0) := MM.mul MM.rfl h
 rw [Int.mul_zero, ← Int.mul_assoc] at h2
 have h3 : MM (pw a 55439 * a * x) (1 * x) := MM.mul h1 MM.rfl
 rw [Int.one_mul] at h3
 exact h3.symm.trans h2
theorem Dat.inj (D : Dat S T) : Inj (ss S) T.length := by
 intro x hx
 have key : ∀ l, l < T.length → MM (x (sg S T l)) 0 := by
  intro l hl
  have hs := (D.sgA hl).2.1
  have h1 : MM (sm (fun i => ss S l i * sm (fun j => ss S i j * x j) T.length) T.length) 0 := by
   have := sm_MM (f := fun i => ss S l i * sm (fun j => ss S i j * x j) T.length) (g := fun _ => 0) (n := T.length) fun i hi => by
    have := MM.mul (MM.rfl (a := ss S l i)) (hx i hi)
    rwa [Int.mul_zero] at this
   rwa [sm_zero fun _ _ => rfl] at this
  have h2 : sm (fun i => ss S l i * sm (fun j => ss S i j * x j) T.length) T.length = sm (fun j => sm (fun i => ss S l i * ss S j i) T.length * x j) T.length := by
   have e1 : sm (fun i => ss S l i * sm (fun j => ss S i j * x j) T.length) T.length = sm (fun i => sm (fun j => ss S l i * ss S j i * x j) T.length) T.length := sm_congr fun i hi => by
    rw [Int.mul_comm, sm_mul]
    refine sm_congr fun j hj => ?_
    rw [D.sym hi hj]
    simp only [Int.mul_comm, Int.mul_left_comm]
   rw [e1, sm_comm]
   exact sm_congr fun j _ => (sm_mul _ _ _).symm
  rw [h2] at h1
  have h3 : MM (sm (fun j => sm (fun i => ss S l i * ss S j i) T.length * x j) T.length) (Go.Proofs.YtkimbjcaoolfpaaGreatDoor.whl S T.length * x (sg S T l)) := by
   have := sm_MM (f := fun j => sm (fun i => ss S l i * ss S j i) T.length * x j) (g := fun j => if j = sg S T l then Go.Proofs.YtkimbjcaoolfpaaGreatDoor.whl S T.length * x (sg S T l) else 0) (n := T.length) fun j hj => by
    have := MM.mul (D.sq hl hj) (MM.rfl (a := x j))
    by_cases e : j = sg S T l
    ·rw [if_pos e] at this ⊢; rw [← e]; exact this
    ·rw [if_neg e] at this ⊢; rwa [Int.zero_mul] at this
   rwa [sm_at hs] at this
  exact MM_can (num_whl S T.length) D.whM (h3.symm.trans h1)
 intro j hj
 have := key _ (D.sgA hj).2.1
 rwa [D.sgsg hj] at this
theorem Dat.numS (D : Dat S T) : numM (ss S) := fun i j => D.num i j
def wdD (S : List (List Int)) (T : List Int) (s : ByteArray) : Nat → Nat → Int := wdG T.length (ss S) (atI T) (ivM (ss S) T.length) s s.size
theorem exq_str {n : Nat} {ro : Ro} {t g : Nat} {s : ByteArray} (h : ro t g = some (.row [stA s])) (hn : 2 ≤ n) : exq n ro (.ref t g [] 0 1) (immS [s]) := by
 refine ⟨fun j hj => ?_, fun hp => by simp [pureA] at hp⟩
 obtain ⟨j, rfl⟩ : ∃ i, j = i + 2 := ⟨j - 2, by omega⟩
 show (match ro.cells t g [] with | some cs => AV.imm (((cs.drop 0).take 1).map (ex ro (j + 1))) | none => .dead) = _
 rw [zef, h]
 rfl
end
section
variable {a b : AV} {S : List (List Int)} {T : List Int} {s : ByteArray}
theorem cWMS0 (ha : isLL a S) (hb : isL b T) (D : Dat S T) (hw : WordP s) : CallOK Tryz.prog 26 [.agg [a, b], stA s] (matA (wdD S T s) T.length T.length) := by
 have hI := ivt_of D.numS D.inj
 rw [D.matS] at ha
 exact cMatS ha hb rfl D.shp.pos (Nat.le_trans D.m16 (by decide)) D.numS D.shp.nT hI.1 hI.2.1 hw.1 hw
theorem cWMI0 (ha : isLL a S) (hb : isL b T) (D : Dat S T) (hw : WordP s) : CallOK Tryz.prog 34 [.agg [a, b], stA s] (matA (wdD S T s) T.length T.length) := by
 have hI := ivt_of D.numS D.inj
 rw [D.matS] at ha
 exact cMatI ha hb rfl D.shp.pos (Nat.le_trans D.m16 (by decide)) D.numS D.shp.nT hI.1 hI.2.1 hw.1 hw
end
end Go.Proofs.YtkimbjcaoolfpaaGreatDoor
/- WordMatrix and WordTrace: contracts. -/
namespace Go.Proofs.YtkimbjcaoolfpaaGreatDoor
open Go.RowKit
set_option maxRecDepth 1000000
section
variable {a b : AV} {S : List (List Int)} {T : List Int} {s : ByteArray}
theorem cdW_cases : (cdW S T [s] = 0 ∧ DataP S T ∧ WordP s) ∨ (cdW S T [s] = 1 ∧ ¬ DataP S T) ∨ (cdW S T [s] = 6 ∧ ¬ WordP s) := by
 unfold cdW
 by_cases h : DataP S T
 ·rw [if_pos h]
  by_cases h2 : WordP s
  ·exact .inl ⟨if_pos (fun w hw => by rw [List.mem_singleton.1 hw]; exact h2), h, h2⟩
  ·exact .inr (.inr ⟨if_neg (fun hw => h2 (hw s (List.mem_singleton.2 rfl))), h2⟩)
 ·exact .inr (.inl ⟨if_neg h, h⟩)
theorem cdW_0 (h : cdW S T [s] = 0) : DataP S T ∧ WordP s := by
 rcases cdW_cases (S := S) (T := T) (s := s) with h1 | h1 | h1
 ·exact h1.2
 ·rw [h1.1] at h; cases h
 ·rw [h1.1] at h; cases h
theorem noRef_two {x : AV} {v : Value} (h : noRef x = true) : noRef (.tup [x, .sc v]) = true := by
 simp only [noRef, noRefL, h, Bool.and_true]
theorem cWMS (ha : isLL a S) (hb : isL b T) (hS : S.length ≤ maxN) (hT : T.length ≤ maxN) (hR : ∀ i, i < S.length → (row S i).length ≤ maxN) (hz : s.size < 2^63) (h0 : cdW S T [s] = 0) : CallOK Tryz.prog 14 [.agg [a, b], stA s] (.tup [matA (wdD S T s) T.length T.length, i64 0]) := by
 have cc := cCodeS (ws := [s]) ha hb hS hT hR (Nat.le_of_ble_eq_true rfl) (fun w hw => by rw [List.mem_singleton.1 hw]; exact hz)
 obtain ⟨hD, hW⟩ := cdW_0 h0
 have cM := cWMS0 ha hb hD.dat hW
 rw [h0] at cc
 refine call_of (fn := Tryz.f14) (code := bodyOf Tryz.f14) Tryz.func14 rfl (by kernel_rfl) (noRef_two (noRef_mat _ _ _)) ?_
 intro sl hs
 have s0 : sl 0 = .agg [a, b] := hs 0
 have s1 : sl 1 = stA s := hs 1
 dsimp only [Tryz.f14, bodyOf, Option.getD]
 simp (maxSteps := 10000000) (disch := first | assumption | omega) only [go_sem, ↓reduceIte, Nat.reduceEqDiff, reduceCtorEq, Nat.reduceAdd, Nat.reduceMul, Nat.reduceLeDiff, zc, Int.reduceToNat, s0, s1, tiSS, ti9]
 refine CLL_q _ cc (.cons (exq_agg (.cons (exq_LL ha (by decide)) (.cons (exq_L hb (by decide)) .nil))) (.cons (exq_str Ur (by decide)) .nil)) rfl rfl rfl ?_
 simp (maxSteps := 10000000) (disch := first | assumption | omega) only [go_sem, ↓reduceIte, Nat.reduceEqDiff, reduceCtorEq, Nat.reduceAdd, Nat.reduceMul, Nat.reduceLeDiff, zc, Int.reduceToNat, s0, s1, tiSS, ti9]
 refine CLL_pure _ cM PUt rfl rfl ?_
 simp (maxSteps := 10000000) (disch := first | assumption | omega) only [go_sem, ↓reduceIte, Nat.reduceEqDiff, reduceCtorEq, Nat.reduceAdd, Nat.reduceMul, Nat.reduceLeDiff, zc, Int.reduceToNat, s0, s1, impE_row]
 simp only [zr, zb, retR, resL, outT, outL, zes, zez, oneV, zcp, zed, zfi, Ro.dl, St.ev, zhk, ↓za, ↓reduceIte, Nat.reduceEqDiff, Nat.reduceAdd, Nat.reduceLeDiff]
theorem cWMS1 (ha : isLL a S) (hb : isL b T) (hS : S.length ≤ maxN) (hT : T.length ≤ maxN) (hR : ∀ i, i < S.length → (row S i).length ≤ maxN) (hz : s.size < 2^63) (h0 : cdW S T [s] ≠ 0) : CallOK Tryz.prog 14 [.agg [a, b], stA s] (.tup [nilA, i64 (cdW S T [s])]) := by
 have cc := cCodeS (ws := [s]) ha hb hS hT hR (Nat.le_of_ble_eq_true rfl) (fun w hw => by rw [List.mem_singleton.1 hw]; exact hz)
 refine call_of (fn := Tryz.f14) (code := bodyOf Tryz.f14) Tryz.func14 rfl (by kernel_rfl) (rfl) ?_
 intro sl hs
 have s0 : sl 0 = .agg [a, b] := hs 0
 have s1 : sl 1 = stA s := hs 1
 dsimp only [Tryz.f14, bodyOf, Option.getD]
 simp (maxSteps := 10000000) (disch := first | assumption | omega) only [go_sem, ↓reduceIte, Nat.reduceEqDiff, reduceCtorEq, Nat.reduceAdd, Nat.reduceMul, Nat.reduceLeDiff, zc, Int.reduceToNat, s0, s1, tiSS, ti9]
 refine CLL_q _ cc (.cons (exq_agg (.cons (exq_LL ha (by decide)) (.cons (exq_L hb (by decide)) .nil))) (.cons (exq_str Ur (by decide)) .nil)) rfl rfl rfl ?_
 simp (maxSteps := 10000000) (disch := first | assumption | omega) only [go_sem, ↓reduceIte, Nat.reduceEqDiff, reduceCtorEq, Nat.reduceAdd, Nat.reduceMul, Nat.reduceLeDiff, zc, Int.reduceToNat, s0, s1, tiSS, ti9, eq_false h0]
 simp only [zr, zb, retR, resL, outT, outL, zes, zez, oneV, zcp, zed, zfi, Ro.dl, St.ev, zhk, ↓za, ↓reduceIte, Nat.reduceEqDiff, Nat.reduceAdd, Nat.reduceLeDiff]
theorem cWMI (ha : isLL a S) (hb : isL b T) (hS : S.length ≤ maxN) (hT : T.length ≤ maxN) (hR : ∀ i, i < S.length → (row S i).length ≤ maxN) (hz : s.size < 2^63) (h0 : cdW S T [s] = 0) : CallOK Tryz.prog 15 [.agg [a, b], stA s] (.tup [matA (wdD S T s) T.length T.length, i64 0]) := by
 have cc := cCodeI (ws := [s]) ha hb hS hT hR (Nat.le_of_ble_eq_true rfl) (fun w hw => by rw [List.mem_singleton.1 hw]; exact hz)
 obtain ⟨hD, hW⟩ := cdW_0 h0
 have cM := cWMI0 ha hb hD.dat hW
 rw [h0] at cc
 refine call_of (fn := Tryz.f15) (code := bodyOf Tryz.f15) Tryz.func15 rfl (by kernel_rfl) (noRef_two (noRef_mat _ _ _)) ?_
 intro sl hs
 have s0 : sl 0 = .agg [a, b] := hs 0
 have s1 : sl 1 = stA s := hs 1
 dsimp only [Tryz.f15, bodyOf, Option.getD]
 simp (maxSteps := 10000000) (disch := first | assumption | omega) only [go_sem, ↓reduceIte, Nat.reduceEqDiff, reduceCtorEq, Nat.reduceAdd, Nat.reduceMul, Nat.reduceLeDiff, zc, Int.reduceToNat, s0, s1, tiSS, ti9]
 refine CLL_q _ cc (.cons (exq_agg (.cons (exq_LL ha (by decide)) (.cons (exq_L hb (by decide)) .nil))) (.cons (exq_str Ur (by decide)) .nil)) rfl rfl rfl ?_
 simp (maxSteps := 10000000) (disch := first | assumption | omega) only [go_sem, ↓reduceIte, Nat.reduceEqDiff, reduceCtorEq, Nat.reduceAdd, Nat.reduceMul, Nat.reduceLeDiff, zc, Int.reduceToNat, s0, s1, tiSS, ti9]
 refine CLL_pure _ cM PUt rfl rfl ?_
 simp (maxSteps := 10000000) (disch := first | assumption | omega) only [go_sem, ↓reduceIte, Nat.reduceEqDiff, reduceCtorEq, Nat.reduceAdd, Nat.reduceMul, Nat.reduceLeDiff, zc, Int.reduceToNat, s0, s1, impE_row]
 simp only [zr, zb, retR, resL, outT, outL, zes, zez, oneV, zcp, zed, zfi, Ro.dl, St.ev, zhk, ↓za, ↓reduceIte, Nat.reduceEqDiff, Nat.reduceAdd, Nat.reduceLeDiff]
theorem cWMI1 (ha : isLL a S) (hb : isL b T) (hS : S.length ≤ maxN) (hT : T.length ≤ maxN) (hR : ∀ i, i < S.length → (row S i).length ≤ maxN) (hz : s.size < 2^63) (h0 : cdW S T [s] ≠ 0) : CallOK Tryz.prog 15 [.agg [a, b], stA s] (.tup [nilA, i64 (cdW S T [s])]) := by
 have cc := cCodeI (ws := [s]) ha hb hS hT hR (Nat.le_of_ble_eq_true rfl) (fun w hw => by rw [List.mem_singleton.1 hw]; exact hz)
 refine call_of (fn := Tryz.f15) (code := bodyOf Tryz.f15) Tryz.func15 rfl (by kernel_rfl) (rfl) ?_
 intro sl hs
 have s0 : sl 0 = .agg [a, b] := hs 0
 have s1 : sl 1 = stA s := hs 1
 dsimp only [Tryz.f15, bodyOf, Option.getD]
 simp (maxSteps := 10000000) (disch := first | assumption | omega) only [go_sem, ↓reduceIte, Nat.reduceEqDiff, reduceCtorEq, Nat.reduceAdd, Nat.reduceMul, Nat.reduceLeDiff, zc, Int.reduceToNat, s0, s1, tiSS, ti9]
 refine CLL_q _ cc (.cons (exq_agg (.cons (exq_LL ha (by decide)) (.cons (exq_L hb (by decide)) .nil))) (.cons (exq_str Ur (by decide)) .nil)) rfl rfl rfl ?_
 simp (maxSteps := 10000000) (disch := first | assumption | omega) only [go_sem, ↓reduceIte, Nat.reduceEqDiff, reduceCtorEq, Nat.reduceAdd, Nat.reduceMul, Nat.reduceLeDiff, zc, Int.reduceToNat, s0, s1, tiSS, ti9, eq_false h0]
 simp only [zr, zb, retR, resL, outT, outL, zes, zez, oneV, zcp, zed, zfi, Ro.dl, St.ev, zhk, ↓za, ↓reduceIte, Nat.reduceEqDiff, Nat.reduceAdd, Nat.reduceLeDiff]
def trD (S : List (List Int)) (T : List Int) (s : ByteArray) : Int := sm (fun i => wdD S T s i i) T.length % 55441
theorem num_wdD : numM (wdD S T s) := num_wdG _ _
theorem tr_mat : sm (fun i => atI (row (matL (wdD S T s) T.length T.length) i) i) (matL (wdD S T s) T.length T.length).length % 55441 = trD S T s := by
 unfold trD
 rw [matL_len2]
 refine congrArg (· % 55441) (sm_congr fun i hi => ?_)
 unfold matL
 rw [row_rws _ hi, atI_rws _ hi]
theorem trS0 (D : Dat S T) : CallOK Tryz.prog 25 [immLL (matL (wdD S T s) T.length T.length)] (i64 (trD S T s)) := by
 have c := cTrS (isLL_mat (wdD S T s) T.length T.length) (by rw [matL_len2]; exact D.shp.max) (fun i hi => by rw [matL_len2] at hi; rw [matL_row2 hi]; exact hi) (numLL_mat fun i j _ _ => num_wdD i j)
 rwa [tr_mat] at c
theorem trI0 (D : Dat S T) : CallOK Tryz.prog 29 [immLL (matL (wdD S T s) T.length T.length)] (i64 (trD S T s)) := by
 have c := cTrI (isLL_mat (wdD S T s) T.length T.length) (by rw [matL_len2]; exact Nat.le_trans D.m16 (by decide)) (fun i hi => by rw [matL_len2] at hi; rw [matL_row2 hi]; exact hi) (numLL_mat fun i j _ _ => num_wdD i j)
 rwa [tr_mat] at c
theorem trI1 : CallOK Tryz.prog 29 [nilA] (i64 0) := by
 have c := cTrI (a := nilA) (A := []) (.inr ⟨rfl, rfl⟩) (by decide) (fun i hi => by cases hi) (show numLL (rws (fun _ => []) 0) from numLL_rws _ _ fun i hi => absurd hi (Nat.not_lt_zero _))
 exact c
theorem cWTS (ha : isLL a S) (hb : isL b T) (hS : S.length ≤ maxN) (hT : T.length ≤ maxN) (hR : ∀ i, i < S.length → (row S i).length ≤ maxN) (hz : s.size < 2^63) (h0 : cdW S T [s] = 0) : CallOK Tryz.prog 8 [.agg [a, b], stA s] (.tup [i64 (trD S T s), i64 0]) := by
 have cc := cCodeS (ws := [s]) ha hb hS hT hR (Nat.le_of_ble_eq_true rfl) (fun w hw => by rw [List.mem_singleton.1 hw]; exact hz)
 obtain ⟨hD, hW⟩ := cdW_0 h0
 have cM := cWMS0 ha hb hD.dat hW
 have ct := trS0 (s := s) hD.dat
 rw [h0] at cc
 refine call_of (fn := Tryz.f8) (code := bodyOf Tryz.f8) Tryz.func8 rfl (by kernel_rfl) (rfl) ?_
 intro sl hs
 have s0 : sl 0 = .agg [a, b] := hs 0
 have s1 : sl 1 = stA s := hs 1
 dsimp only [Tryz.f8, bodyOf, Option.getD]
 simp (maxSteps := 10000000) (disch := first | assumption | omega) only [go_sem, ↓reduceIte, Nat.reduceEqDiff, reduceCtorEq, Nat.reduceAdd, Nat.reduceMul, Nat.reduceLeDiff, zc, Int.reduceToNat, s0, s1, tiSS, ti9]
 refine CLL_q _ cc (.cons (exq_agg (.cons (exq_LL ha (by decide)) (.cons (exq_L hb (by decide)) .nil))) (.cons (exq_str Ur (by decide)) .nil)) rfl rfl rfl ?_
 simp (maxSteps := 10000000) (disch := first | assumption | omega) only [go_sem, ↓reduceIte, Nat.reduceEqDiff, reduceCtorEq, Nat.reduceAdd, Nat.reduceMul, Nat.reduceLeDiff, zc, Int.reduceToNat, s0, s1, tiSS, ti9]
 refine CLL_pure _ cM PUt rfl rfl ?_
 simp (maxSteps := 10000000) (disch := first | assumption | omega) only [go_sem, ↓reduceIte, Nat.reduceEqDiff, reduceCtorEq, Nat.reduceAdd, Nat.reduceMul, Nat.reduceLeDiff, zc, Int.reduceToNat, s0, s1, impE_row]
 refine CLL_q _ ct (.cons (exq_mat Ur (by decide)) .nil) rfl rfl rfl ?_
 simp (maxSteps := 10000000) (disch := first | assumption | omega) only [go_sem, ↓reduceIte, Nat.reduceEqDiff, reduceCtorEq, Nat.reduceAdd, Nat.reduceMul, Nat.reduceLeDiff, zc, Int.reduceToNat, s0, s1]
 simp only [zr, zb, retR, resL, outT, outL, zes, zez, oneV, zcp, zed, zfi, Ro.dl, St.ev, zhk, ↓za, ↓reduceIte, Nat.reduceEqDiff, Nat.reduceAdd, Nat.reduceLeDiff]
theorem cWTS1 (ha : isLL a S) (hb : isL b T) (hS : S.length ≤ maxN) (hT : T.length ≤ maxN) (hR : ∀ i, i < S.length → (row S i).length ≤ maxN) (hz : s.size < 2^63) (h0 : cdW S T [s] ≠ 0) : CallOK Tryz.prog 8 [.agg [a, b], stA s] (.tup [i64 0, i64 (cdW S T [s])]) := by
 have cc := cCodeS (ws := [s]) ha hb hS hT hR (Nat.le_of_ble_eq_true rfl) (fun w hw => by rw [List.mem_singleton.1 hw]; exact hz)
 refine call_of (fn := Tryz.f8) (code := bodyOf Tryz.f8) Tryz.func8 rfl (by kernel_rfl) (rfl) ?_
 intro sl hs
 have s0 : sl 0 = .agg [a, b] := hs 0
 have s1 : sl 1 = stA s := hs 1
 dsimp only [Tryz.f8, bodyOf, Option.getD]
 simp (maxSteps := 10000000) (disch := first | assumption | omega) only [go_sem, ↓reduceIte, Nat.reduceEqDiff, reduceCtorEq, Nat.reduceAdd, Nat.reduceMul, Nat.reduceLeDiff, zc, Int.reduceToNat, s0, s1, tiSS, ti9]
 refine CLL_q _ cc (.cons (exq_agg (.cons (exq_LL ha (by decide)) (.cons (exq_L hb (by decide)) .nil))) (.cons (exq_str Ur (by decide)) .nil)) rfl rfl rfl ?_
 simp (maxSteps := 10000000) (disch := first | assumption | omega) only [go_sem, ↓reduceIte, Nat.reduceEqDiff, reduceCtorEq, Nat.reduceAdd, Nat.reduceMul, Nat.reduceLeDiff, zc, Int.reduceToNat, s0, s1, tiSS, ti9, eq_false h0]
 simp only [zr, zb, retR, resL, outT, outL, zes, zez, oneV, zcp, zed, zfi, Ro.dl, St.ev, zhk, ↓za, ↓reduceIte, Nat.reduceEqDiff, Nat.reduceAdd, Nat.reduceLeDiff]
theorem cWTI (ha : isLL a S) (hb : isL b T) (hS : S.length ≤ maxN) (hT : T.length ≤ maxN) (hR : ∀ i, i < S.length → (row S i).length ≤ maxN) (hz : s.size < 2^63) (h0 : cdW S T [s] = 0) : CallOK Tryz.prog 10 [.agg [a, b], stA s] (.tup [i64 (trD S T s), i64 0]) := by
 have cc := cWMI ha hb hS hT hR hz h0
 obtain ⟨hD, hW⟩ := cdW_0 h0
 have ct := trI0 (s := s) hD.dat
 have nt : Int.tmod (trD S T s) 55441 = trD S T s := by have := num_mod (sm (fun i => wdD S T s i i) T.length); exact Int.tmod_eq_of_lt this.1 this.2
 refine call_of (fn := Tryz.f10) (code := bodyOf Tryz.f10) Tryz.func10 rfl (by kernel_rfl) (rfl) ?_
 intro sl hs
 have s0 : sl 0 = .agg [a, b] := hs 0
 have s1 : sl 1 = stA s := hs 1
 dsimp only [Tryz.f10, bodyOf, Option.getD]
 simp (maxSteps := 10000000) (disch := first | assumption | omega) only [go_sem, ↓reduceIte, Nat.reduceEqDiff, reduceCtorEq, Nat.reduceAdd, Nat.reduceMul, Nat.reduceLeDiff, zc, Int.reduceToNat, s0, s1, ti9]
 refine CLL_pure _ cc PUt rfl rfl ?_
 simp (maxSteps := 10000000) (disch := first | assumption | omega) only [go_sem, ↓reduceIte, Nat.reduceEqDiff, reduceCtorEq, Nat.reduceAdd, Nat.reduceMul, Nat.reduceLeDiff, zc, Int.reduceToNat, s0, s1, impE_tupM]
 refine CLL_q _ ct (.cons (exq_mat Ur (by decide)) .nil) rfl rfl rfl ?_
 simp (maxSteps := 10000000) (disch := first | assumption | omega) only [go_sem, ↓reduceIte, Nat.reduceEqDiff, reduceCtorEq, Nat.reduceAdd, Nat.reduceMul, Nat.reduceLeDiff, zc, Int.reduceToNat, s0, s1]
 simp only [zr, zb, retR, resL, outT, outL, zes, zez, oneV, zcp, zed, zfi, Ro.dl, St.ev, zhk, ↓za, ↓reduceIte, Nat.reduceEqDiff, Nat.reduceAdd, Nat.reduceLeDiff]
 rw [nt]
theorem cWTI1 (ha : isLL a S) (hb : isL b T) (hS : S.length ≤ maxN) (hT : T.length ≤ maxN) (hR : ∀ i, i < S.length → (row S i).length ≤ maxN) (hz : s.size < 2^63) (h0 : cdW S T [s] ≠ 0) : CallOK Tryz.prog 10 [.agg [a, b], stA s] (.tup [i64 0, i64 (cdW S T [s])]) := by
 have cc := cWMI1 ha hb hS hT hR hz h0
 refine call_of (fn := Tryz.f10) (code := bodyOf Tryz.f10) Tryz.func10 rfl (by kernel_rfl) (rfl) ?_
 intro sl hs
 have s0 : sl 0 = .agg [a, b] := hs 0
 have s1 : sl 1 = stA s := hs 1
 dsimp only [Tryz.f10, bodyOf, Option.getD]
 simp (maxSteps := 10000000) (disch := first | assumption | omega) only [go_sem, ↓reduceIte, Nat.reduceEqDiff, reduceCtorEq, Nat.reduceAdd, Nat.reduceMul, Nat.reduceLeDiff, zc, Int.reduceToNat, s0, s1, ti9]
 refine CLL_pure _ cc PUt rfl rfl ?_
 simp (maxSteps := 10000000) (disch := first | assumption | omega) only [go_sem, ↓reduceIte, Nat.reduceEqDiff, reduceCtorEq, Nat.reduceAdd, Nat.reduceMul, Nat.reduceLeDiff, zc, Int.reduceToNat, s0, s1]
 refine CLL_pure _ trI1 rfl rfl rfl ?_
 simp (maxSteps := 10000000) (disch := first | assumption | omega) only [go_sem, ↓reduceIte, Nat.reduceEqDiff, reduceCtorEq, Nat.reduceAdd, Nat.reduceMul, Nat.reduceLeDiff, zc, Int.reduceToNat, s0, s1]
 simp only [zr, zb, retR, resL, outT, outL, zes, zez, oneV, zcp, zed, zfi, Ro.dl, St.ev, zhk, ↓za, ↓reduceIte, Nat.reduceEqDiff, Nat.reduceAdd, Nat.reduceLeDiff]
 rfl
end
end Go.Proofs.YtkimbjcaoolfpaaGreatDoor
/- The law of WordTrace. -/
namespace Go.Proofs.YtkimbjcaoolfpaaGreatDoor
open Go.RowKit
set_option maxRecDepth 1000000
theorem cLWT {a b : AV} {S : List (List Int)} {T : List Int} {s : ByteArray} (ha : isLLw a S) (hb : isLw b T) (l1 : S.length < 2^63) (l2 : ∀ i, (row S i).length < 2^63) (l3 : T.length < 2^63) (ls : s.size < 2^63) : CallOK Tryz.prog 3 [.agg [a, b], stA s] (bo true) := by
 have cZ := c25 (left := 1048576) ha hb l1 (fun i _ => l2 i) l3 (by decide) (by decide)
 refine call_of (fn := Tryz.f3) (code := bodyOf Tryz.f3) Tryz.func3 rfl (by kernel_rfl) (rfl) ?_
 intro sl hs
 have s0 : sl 0 = .agg [a, b] := hs 0
 have s1 : sl 1 = stA s := hs 1
 by_cases hlen : (1048576 : Int) < (s.size : Int)
 ·dsimp only [Tryz.f3, bodyOf, Option.getD]
  simp (maxSteps := 10000000) (disch := first | assumption | omega) only [go_sem, ↓reduceIte, Nat.reduceEqDiff, reduceCtorEq, Nat.reduceAdd, Nat.reduceMul, Nat.reduceLeDiff, zc, Int.reduceToNat, s0, s1, ti9, kLen_str, eq_true hlen]
  simp only [zr, zb, retR, resL, outT, outL, zes, zez, oneV, zcp, zed, zfi, Ro.dl, St.ev, zhk, ↓za, ↓reduceIte, Nat.reduceEqDiff, Nat.reduceAdd, Nat.reduceLeDiff]
 by_cases hz : szD S T 1048576 < 0
 ·dsimp only [Tryz.f3, bodyOf, Option.getD]
  simp (maxSteps := 10000000) (disch := first | assumption | omega) only [go_sem, ↓reduceIte, Nat.reduceEqDiff, reduceCtorEq, Nat.reduceAdd, Nat.reduceMul, Nat.reduceLeDiff, zc, Int.reduceToNat, s0, s1, ti9, kLen_str, eq_false hlen]
  refine CLL_pure _ cZ (by simp (disch := assumption) only [pureL, pureA, isLw_pure, isLLw_pure, pureL_map, Bool.and_self, Bool.and_true]) rfl rfl ?_
  simp (maxSteps := 10000000) (disch := first | assumption | omega) only [go_sem, ↓reduceIte, Nat.reduceEqDiff, reduceCtorEq, Nat.reduceAdd, Nat.reduceMul, Nat.reduceLeDiff, zc, Int.reduceToNat, s0, s1, hz]
  simp only [zr, zb, retR, resL, outT, outL, zes, zez, oneV, zcp, zed, zfi, Ro.dl, St.ev, zhk, ↓za, ↓reduceIte, Nat.reduceEqDiff, Nat.reduceAdd, Nat.reduceLeDiff]
 ·obtain ⟨z1, z2, z3⟩ := szD_ok hz
  have hS := maxN_of z1
  have hT := maxN_of z2
  have hR : ∀ i, i < S.length → (row S i).length ≤ maxN := fun i hi => maxN_of (z3 i hi)
  have cT := c27 ha hb hS hT hR
  have cE := c12 (isLL_imm S) (isLL_imm S) (isL_imm T) (isL_imm T) hS (row_max hR) hT
  rw [decide_eq_true ⟨rfl, rfl⟩] at cE
  obtain ⟨x, y, hL, hI⟩ : ∃ x y : Int, CallOK Tryz.prog 8 [.agg [immLL S, immL T], stA s] (.tup [i64 x, i64 y]) ∧ CallOK Tryz.prog 10 [.agg [immLL S, immL T], stA s] (.tup [i64 x, i64 y]) := by
   by_cases h0 : cdW S T [s] = 0
   ·exact ⟨_, _, cWTS (isLL_imm S) (isL_imm T) hS hT hR ls h0, cWTI (isLL_imm S) (isL_imm T) hS hT hR ls h0⟩
   ·exact ⟨_, _, cWTS1 (isLL_imm S) (isL_imm T) hS hT hR ls h0, cWTI1 (isLL_imm S) (isL_imm T) hS hT hR ls h0⟩
  dsimp only [Tryz.f3, bodyOf, Option.getD]
  simp (maxSteps := 10000000) (disch := first | assumption | omega) only [go_sem, ↓reduceIte, Nat.reduceEqDiff, reduceCtorEq, Nat.reduceAdd, Nat.reduceMul, Nat.reduceLeDiff, zc, Int.reduceToNat, s0, s1, ti9, kLen_str, eq_false hlen]
  refine CLL_pure _ cZ (by simp (disch := assumption) only [pureL, pureA, isLw_pure, isLLw_pure, pureL_map, Bool.and_self, Bool.and_true]) rfl rfl ?_
  simp (maxSteps := 10000000) (disch := first | assumption | omega) only [go_sem, ↓reduceIte, Nat.reduceEqDiff, reduceCtorEq, Nat.reduceAdd, Nat.reduceMul, Nat.reduceLeDiff, zc, Int.reduceToNat, s0, s1, hz]
  refine CLL_pure _ cT (by simp (disch := assumption) only [pureL, pureA, isLw_pure, isLLw_pure, pureL_map, Bool.and_self, Bool.and_true]) rfl rfl ?_
  simp (maxSteps := 10000000) (disch := first | assumption | omega) only [go_sem, ↓reduceIte, Nat.reduceEqDiff, reduceCtorEq, Nat.reduceAdd, Nat.reduceMul, Nat.reduceLeDiff, zc, Int.reduceToNat, s0, s1]
  refine CLL_q _ hL (by repeat' first | exact exqL.nil | refine exqL.cons ?_ ?_ | exact exq_sc _ _ _ (by decide) | exact exq_L (by first | assumption | exact isL_imm _) (by decide) | exact exq_LL (by assumption) (by decide) | exact exq_LLL (by assumption) (by decide) | exact exq_refL (by first | assumption | (simp only [↓za, ↓reduceIte, Nat.reduceEqDiff, zb, reduceCtorEq]; done) | (simp only [↓za, ↓reduceIte, Nat.reduceEqDiff, zb, reduceCtorEq]; first | rfl | assumption)) (by first | rfl | (simp only [zfe, List.length_map, tms_len]; done)) (by decide) | exact exq_refLL (by first | assumption | (simp only [↓za, ↓reduceIte, Nat.reduceEqDiff, zb, reduceCtorEq]; done) | (simp only [↓za, ↓reduceIte, Nat.reduceEqDiff, zb, reduceCtorEq]; first | rfl | assumption)) (by first | rfl | (simp only [zfe, List.length_map, tms_len]; done)) (by decide) | exact exq_cube (by first | assumption | (simp only [↓za, ↓reduceIte, Nat.reduceEqDiff, zb, reduceCtorEq]; done) | (simp only [↓za, ↓reduceIte, Nat.reduceEqDiff, zb, reduceCtorEq]; first | rfl | assumption)) (by decide) | exact exq_mat (by first | assumption | (simp only [↓za, ↓reduceIte, Nat.reduceEqDiff, zb, reduceCtorEq]; done) | (simp only [↓za, ↓reduceIte, Nat.reduceEqDiff, zb, reduceCtorEq]; first | rfl | assumption)) (by decide) | refine exq_agg ?_) rfl rfl rfl ?_
  simp (maxSteps := 10000000) (disch := first | assumption | omega) only [go_sem, ↓reduceIte, Nat.reduceEqDiff, reduceCtorEq, Nat.reduceAdd, Nat.reduceMul, Nat.reduceLeDiff, zc, Int.reduceToNat, s0, s1]
  refine CLL_pure _ cT (by simp (disch := assumption) only [pureL, pureA, isLw_pure, isLLw_pure, pureL_map, Bool.and_self, Bool.and_true]) rfl rfl ?_
  simp (maxSteps := 10000000) (disch := first | assumption | omega) only [go_sem, ↓reduceIte, Nat.reduceEqDiff, reduceCtorEq, Nat.reduceAdd, Nat.reduceMul, Nat.reduceLeDiff, zc, Int.reduceToNat, s0, s1]
  refine CLL_q _ hI (by repeat' first | exact exqL.nil | refine exqL.cons ?_ ?_ | exact exq_sc _ _ _ (by decide) | exact exq_L (by first | assumption | exact isL_imm _) (by decide) | exact exq_LL (by assumption) (by decide) | exact exq_LLL (by assumption) (by decide) | exact exq_refL (by first | assumption | (simp only [↓za, ↓reduceIte, Nat.reduceEqDiff, zb, reduceCtorEq]; done) | (simp only [↓za, ↓reduceIte, Nat.reduceEqDiff, zb, reduceCtorEq]; first | rfl | assumption)) (by first | rfl | (simp only [zfe, List.length_map, tms_len]; done)) (by decide) | exact exq_refLL (by first | assumption | (simp only [↓za, ↓reduceIte, Nat.reduceEqDiff, zb, reduceCtorEq]; done) | (simp only [↓za, ↓reduceIte, Nat.reduceEqDiff, zb, reduceCtorEq]; first | rfl | assumption)) (by first | rfl | (simp only [zfe, List.length_map, tms_len]; done)) (by decide) | exact exq_cube (by first | assumption | (simp only [↓za, ↓reduceIte, Nat.reduceEqDiff, zb, reduceCtorEq]; done) | (simp only [↓za, ↓reduceIte, Nat.reduceEqDiff, zb, reduceCtorEq]; first | rfl | assumption)) (by decide) | exact exq_mat (by first | assumption | (simp only [↓za, ↓reduceIte, Nat.reduceEqDiff, zb, reduceCtorEq]; done) | (simp only [↓za, ↓reduceIte, Nat.reduceEqDiff, zb, reduceCtorEq]; first | rfl | assumption)) (by decide) | refine exq_agg ?_) rfl rfl rfl ?_
  simp (maxSteps := 10000000) (disch := first | assumption | omega) only [go_sem, ↓reduceIte, Nat.reduceEqDiff, reduceCtorEq, Nat.reduceAdd, Nat.reduceMul, Nat.reduceLeDiff, zc, Int.reduceToNat, s0, s1]
  refine CLLD_pure _ cT (by simp (disch := assumption) only [pureL, pureA, isLw_pure, isLLw_pure, pureL_map, Bool.and_self, Bool.and_true]) rfl ?_
  simp (maxSteps := 10000000) (disch := first | assumption | omega) only [go_sem, ↓reduceIte, Nat.reduceEqDiff, reduceCtorEq, Nat.reduceAdd, Nat.reduceMul, Nat.reduceLeDiff, zc, Int.reduceToNat, s0, s1]
  refine CLLD_q _ cE (by repeat' first | exact exqL.nil | refine exqL.cons ?_ ?_ | exact exq_sc _ _ _ (by decide) | exact exq_L (by first | assumption | exact isL_imm _) (by decide) | exact exq_LL (by assumption) (by decide) | exact exq_LLL (by assumption) (by decide) | exact exq_refL (by first | assumption | (simp only [↓za, ↓reduceIte, Nat.reduceEqDiff, zb, reduceCtorEq]; done) | (simp only [↓za, ↓reduceIte, Nat.reduceEqDiff, zb, reduceCtorEq]; first | rfl | assumption)) (by first | rfl | (simp only [zfe, List.length_map, tms_len]; done)) (by decide) | exact exq_refLL (by first | assumption | (simp only [↓za, ↓reduceIte, Nat.reduceEqDiff, zb, reduceCtorEq]; done) | (simp only [↓za, ↓reduceIte, Nat.reduceEqDiff, zb, reduceCtorEq]; first | rfl | assumption)) (by first | rfl | (simp only [zfe, List.length_map, tms_len]; done)) (by decide) | exact exq_cube (by first | assumption | (simp only [↓za, ↓reduceIte, Nat.reduceEqDiff, zb, reduceCtorEq]; done) | (simp only [↓za, ↓reduceIte, Nat.reduceEqDiff, zb, reduceCtorEq]; first | rfl | assumption)) (by decide) | exact exq_mat (by first | assumption | (simp only [↓za, ↓reduceIte, Nat.reduceEqDiff, zb, reduceCtorEq]; done) | (simp only [↓za, ↓reduceIte, Nat.reduceEqDiff, zb, reduceCtorEq]; first | rfl | assumption)) (by decide) | refine exq_agg ?_) rfl rfl ?_
  simp (maxSteps := 10000000) (disch := first | assumption | omega) only [go_sem, ↓reduceIte, Nat.reduceEqDiff, reduceCtorEq, Nat.reduceAdd, Nat.reduceMul, Nat.reduceLeDiff, zc, Int.reduceToNat, s0, s1]
  refine FIN_of (by kernel_rfl) ?_
  simp (maxSteps := 10000000) (disch := first | assumption | omega) only [go_sem, ↓reduceIte, Nat.reduceEqDiff, reduceCtorEq, Nat.reduceAdd, Nat.reduceMul, Nat.reduceLeDiff, zc, Int.reduceToNat, s0, s1]
  simp only [zr, zb, retR, resL, outT, outL, zes, zez, oneV, zcp, zed, zfi, Ro.dl, St.ev, zhk, ↓za, ↓reduceIte, Nat.reduceEqDiff, Nat.reduceAdd, Nat.reduceLeDiff]
end Go.Proofs.YtkimbjcaoolfpaaGreatDoor
