/- Texts joined: TN TO TP. -/
import Derived.Test.YtkimbjcaoolfpaaGreatDoorTg
set_option linter.all false
/- Powers of a word's matrix: when are they multiples of the unit? -/
namespace Go.Proofs.YtkimbjcaoolfpaaGreatDoor
open Go.RowKit
set_option maxRecDepth 1000000
section
variable {M : Nat → Nat → Int} {n : Nat}
def pwM (M : Nat → Nat → Int) (n : Nat) : Nat → Nat → Nat → Int
 | 0 => unM
 | k + 1 => mulM n (pwM M n k) M
theorem num_pwM : ∀ k, numM (pwM M n k)
 | 0 => fun i j => by show num (unM i j); unfold unM num; split <;> decide
 | k + 1 => num_mulM _ _ _
theorem pwM_one (hM : numM M) {i j : Nat} (hi : i < n) (hj : j < n) : pwM M n 1 i j = M i j := by
 show sm (fun l => unM i l * M l j) n % 55441 = M i j
 rw [sm_pick (v := M i j) hi fun l _ => by
  unfold unM
  by_cases h : l = i
  ·subst h; simp
  ·rw [if_neg h]; first | (rw [if_neg (Ne.symm h), Int.zero_mul]) | (rw [if_neg h, Int.zero_mul])]
 have := hM i j; unfold num at this; omega
theorem pwM_row (h0 : 0 < n) (hM : RInj M n) : ∀ k, ∃ j, j < n ∧ ¬ MM (pwM M n k 0 j) 0
 | 0 => ⟨0, h0, by
   show ¬ MM (unM 0 0) 0
   have : unM 0 0 = 1 := rfl
   rw [this]; unfold MM; decide⟩
 | k + 1 => by
  obtain ⟨j, hj, hne⟩ := pwM_row h0 hM k
  refine Classical.byContradiction fun hall => hne (hM (fun i => pwM M n k 0 i) (fun i hi => ?_) j hj)
  refine Classical.byContradiction fun h => hall ⟨i, hi, fun h2 => h ?_⟩
  have e : pwM M n (k + 1) 0 i = sm (fun l => pwM M n k 0 l * M l i) n % 55441 := rfl
  rw [e] at h2
  exact (MM.mod _).symm.trans h2
def PrX (A B : Nat → Nat → Int) (n : Nat) : Prop := ∃ c, num c ∧ c ≠ 0 ∧ RowsP A B n c
theorem PrP_iff {A B : Nat → Nat → Int} {K : Nat} (hA : numM A) (hB : numM B) (h0 : 0 < n) (hK : K < n) (hk : A 0 K ≠ 0) : PrP A B n K ↔ PrX A B n := by
 constructor
 ·rintro ⟨hb, hr⟩
  exact ⟨_, num_fc 0 K, fc_ne hA hB hk hb, hr⟩
 ·rintro ⟨c, hc, hc0, hr⟩
  have e := fc_of hA hc hk (hr 0 h0 K hK)
  refine ⟨fun hb => ?_, by rw [e]; exact hr⟩
  have : fcP A B 0 K = 0 := by unfold fcP qt; rw [hb, Int.zero_mul]; rfl
  exact hc0 (e.symm.trans this)
theorem PrX_swap {A B : Nat → Nat → Int} (hA : numM A) (h : PrX A B n) : PrX B A n := by
 obtain ⟨c, hc, hc0, hr⟩ := h
 have h1 := inv_mul hc hc0
 have hp := num_pw c 55439
 refine ⟨pw c 55439, hp, fun e => ?_, fun i hi j hj => ?_⟩
 ·rw [e, Int.zero_mul] at h1; exact absurd h1 (by unfold MM; decide)
 ·rw [← hr i hi j hj]
  refine num_eqM (num_mod _) (hA i j) ?_
  have h2 : MM (A i j * c % 55441 * pw c 55439 % 55441) (A i j * c * pw c 55439) := (MM.mod _).trans (MM.mul (MM.mod _) MM.rfl)
  refine h2.trans ?_
  have h3 : MM (A i j * (pw c 55439 * c)) (A i j * 1) := MM.mul MM.rfl h1
  rw [Int.mul_one] at h3
  rwa [show A i j * c * pw c 55439 = A i j * (pw c 55439 * c) by rw [Int.mul_assoc, Int.mul_comm c]]
def UnP (M : Nat → Nat → Int) (n k : Nat) : Prop := PrX (pwM M n k) unM n
end
end Go.Proofs.YtkimbjcaoolfpaaGreatDoor
/- The projective order: contracts. -/
namespace Go.Proofs.YtkimbjcaoolfpaaGreatDoor
open Go.RowKit
set_option maxRecDepth 1000000
section
variable {M : Nat → Nat → Int} {n : Nat}
theorem rinj_un : RInj unM n := fun x hx i hi => by
 have h1 := hx i hi
 have e : sm (fun k => x k * unM k i) n = x i := sm_pick hi fun k _ => by
  unfold unM
  by_cases h : k = i
  ·subst h; simp
  ·rw [if_neg h]; first | (rw [if_neg (Ne.symm h), Int.mul_zero]) | (rw [if_neg h, Int.mul_zero])
 rwa [e] at h1
theorem rinj_mul {G L : Nat → Nat → Int} (hG : RInj G n) (hL : RInj L n) : RInj (mulM n G L) n := fun x hx => by
 refine hG x fun l hl => hL (fun l => sm (fun i => x i * G i l) n) (fun j hj => ?_) l hl
 have h1 := hx j hj
 have e1 : MM (sm (fun i => x i * mulM n G L i j) n) (sm (fun i => x i * sm (fun l => G i l * L l j) n) n) := sm_MM fun i _ => MM.mul MM.rfl (MM.mod _)
 have e2 : sm (fun i => x i * sm (fun l => G i l * L l j) n) n = sm (fun l => sm (fun i => x i * G i l) n * L l j) n := by
  have e3 : sm (fun i => x i * sm (fun l => G i l * L l j) n) n = sm (fun i => sm (fun l => x i * G i l * L l j) n) n := sm_congr fun i _ => by
   rw [Int.mul_comm, sm_mul]
   exact sm_congr fun l _ => by rw [Int.mul_comm, Int.mul_assoc]
  rw [e3, sm_comm]
  exact sm_congr fun l _ => (sm_mul _ _ _).symm
 rw [e2] at e1
 exact e1.symm.trans h1
theorem wd_rinj {S E : Nat → Nat → Int} {t : Nat → Int} {s : ByteArray} (hL : ∀ b, LetP b → RInj (letM S t E b) n) (hw : ∀ b, b ∈ s.data.toList → LetP b) : ∀ k, k ≤ s.size → RInj (wdG n S t E s k) n
 | 0, _ => rinj_un
 | k + 1, hk => rinj_mul (wd_rinj hL hw k (by omega)) (hL _ (hw _ (byAt_mem (show k < s.size by omega))))
theorem Dat.wdR {S : List (List Int)} {T : List Int} (D : Dat S T) {s : ByteArray} (hw : WordP s) : RInj (wdD S T s) T.length := by
 have hI := ivt_of D.numS D.inj
 have ht : ∀ i, i < T.length → MM (pw (atI T i) 55439 * atI T i) 1 := fun i hi => inv_mul (D.shp.nT i) (D.t0 hi)
 exact wd_rinj (s := s) (S := ss S) (E := ivM (ss S) T.length) (t := atI T) (fun b hb => by
  unfold letM
  by_cases h1 : b.toNat = 115
  ·rw [if_pos h1]; exact rinj_S D
  ·rw [if_neg h1]
   by_cases h2 : b.toNat = 116
   ·rw [if_pos h2]; exact rinj_D fun i hi => ⟨_, ht i hi⟩
   ·rw [if_neg h2]
    by_cases h3 : b.toNat = 83
    ·rw [if_pos h3]; exact rinj_E hI.2.2
    ·rw [if_neg h3]; exact rinj_D fun i hi => ⟨atI T i, by have := ht i hi; rwa [Int.mul_comm] at this⟩) hw.2 s.size (Nat.le_refl _)
def OrdR (M : Nat → Nat → Int) (n : Nat) (x y : Int) : Prop :=
 (∃ K : Nat, 1 ≤ K ∧ K ≤ 2000 ∧ x = K ∧ y = 0 ∧ UnP M n K ∧ ∀ k, 1 ≤ k → k < K → ¬ UnP M n k) ∨ (x = 0 ∧ y = 3 ∧ ∀ k, 1 ≤ k → k ≤ 2000 → ¬ UnP M n k)
theorem ordR_ex (M : Nat → Nat → Int) (n : Nat) : ∃ x y, OrdR M n x y := by
 by_cases h : ∃ K, 1 ≤ K ∧ K ≤ 2000 ∧ UnP M n K
 ·obtain ⟨K, ⟨h1, h2, h3⟩, hm⟩ := exists_least h
  exact ⟨_, _, .inl ⟨K, h1, h2, rfl, rfl, h3, fun k hk hk2 hu => by have := hm k ⟨hk, by omega, hu⟩; omega⟩⟩
 ·exact ⟨_, _, .inr ⟨rfl, rfl, fun k h1 h2 hu => h ⟨k, h1, h2, hu⟩⟩⟩
theorem OrdR.at {x y : Int} (h : OrdR M n x y) {k : Nat} (h1 : 1 ≤ k) (h2 : k ≤ 2000) (hu : UnP M n k) (hn : ∀ j, 1 ≤ j → j < k → ¬ UnP M n j) : x = k ∧ y = 0 := by
 rcases h with ⟨K, g1, g2, rfl, rfl, g3, g4⟩ | ⟨-, -, g⟩
 ·rcases Nat.lt_trichotomy k K with h | h | h
  ·exact absurd hu (g4 k h1 h)
  ·subst h; exact ⟨rfl, rfl⟩
  ·exact absurd g3 (hn K g1 h)
 ·exact absurd hu (g k h1 h2)
theorem OrdR.none {x y : Int} (h : OrdR M n x y) (hn : ∀ j, 1 ≤ j → j ≤ 2000 → ¬ UnP M n j) : x = 0 ∧ y = 3 := by
 rcases h with ⟨K, g1, g2, -, -, g3, -⟩ | ⟨h1, h2, -⟩
 ·exact absurd g3 (hn K g1 g2)
 ·exact ⟨h1, h2⟩
theorem nu_unM : numM unM := num_pwM (M := unM) (n := 0) 0
theorem unS (h0 : 0 < n) (hn : n ≤ 16) (hM : RInj M n) (k : Nat) {t : Bool} (ht : t = true ↔ UnP M n k) : CallOK Tryz.prog 31 [immLL (matL (pwM M n k) n n), immLL (matL unM n n)] (bo t) := by
 obtain ⟨K, hK, hk⟩ := pwM_row h0 hM k
 have hk' : pwM M n k 0 K ≠ 0 := fun e => hk (by rw [e]; exact MM.rfl)
 exact cPrS (isLL_mat _ _ _) (isLL_mat _ _ _) (num_pwM k) nu_unM h0 hn hK hk' (ht.trans (PrP_iff (num_pwM k) nu_unM h0 hK hk').symm)
theorem unI (h0 : 0 < n) (hn : n ≤ 16) (k : Nat) {t : Bool} (ht : t = true ↔ UnP M n k) : CallOK Tryz.prog 33 [immLL (matL unM n n), immLL (matL (pwM M n k) n n)] (bo t) := by
 have h1 : unM 0 0 ≠ 0 := by show (1 : Int) ≠ 0; decide
 refine cPrI (K := 0) (isLL_mat _ _ _) (isLL_mat _ _ _) nu_unM (num_pwM k) h0 hn h0 h1 (fun j hj => absurd hj (Nat.not_lt_zero _)) (ht.trans ?_)
 rw [PrP_iff nu_unM (num_pwM k) h0 h0 h1]
 exact ⟨fun h => PrX_swap (num_pwM k) h, fun h => PrX_swap nu_unM h⟩
end
end Go.Proofs.YtkimbjcaoolfpaaGreatDoor
/- ProjectiveOrder: contracts. -/
namespace Go.Proofs.YtkimbjcaoolfpaaGreatDoor
open Go.RowKit
set_option maxRecDepth 1000000
section
variable {a b : AV} {S : List (List Int)} {T : List Int} {s : ByteArray}
theorem cPOS (ha : isLL a S) (hb : isL b T) (hS : S.length ≤ maxN) (hT : T.length ≤ maxN) (hR : ∀ i, i < S.length → (row S i).length ≤ maxN) (hz : s.size < 2^63) (h0 : cdW S T [s] = 0) {x y : Int} (ho : OrdR (wdD S T s) T.length x y) : CallOK Tryz.prog 20 [.agg [a, b], stA s] (.tup [i64 x, i64 y]) := by
 classical
 have cc := cCodeS (ws := [s]) ha hb hS hT hR (Nat.le_of_ble_eq_true rfl) (fun w hw => by rw [List.mem_singleton.1 hw]; exact hz)
 obtain ⟨hD, hW⟩ := cdW_0 h0
 have D := hD.dat
 have cM := cWMS0 ha hb D hW
 have cU := cUnit (n := T.length) (Nat.le_trans D.m16 (by decide))
 rw [h0] at cc
 have hM := D.wdR hW
 have hp := D.shp.pos
 have h16 := D.m16
 refine call_of (fn := Tryz.f20) (code := bodyOf Tryz.f20) Tryz.func20 rfl (by kernel_rfl) (rfl) ?_
 intro sl hs
 have s0 : sl 0 = .agg [a, b] := hs 0
 have s1 : sl 1 = stA s := hs 1
 dsimp only [Tryz.f20, bodyOf, Option.getD]
 simp (maxSteps := 10000000) (disch := first | assumption | omega) only [go_sem, ↓reduceIte, Nat.reduceEqDiff, reduceCtorEq, Nat.reduceAdd, Nat.reduceMul, Nat.reduceLeDiff, zc, Int.reduceToNat, s0, s1, tiSS, ti9]
 refine CLL_q _ cc (.cons (exq_agg (.cons (exq_LL ha (by decide)) (.cons (exq_L hb (by decide)) .nil))) (.cons (exq_str Ur (by decide)) .nil)) rfl rfl rfl ?_
 simp (maxSteps := 10000000) (disch := first | assumption | omega) only [go_sem, ↓reduceIte, Nat.reduceEqDiff, reduceCtorEq, Nat.reduceAdd, Nat.reduceMul, Nat.reduceLeDiff, zc, Int.reduceToNat, s0, s1, tiSS, ti9, ti25, isL_len hb]
 refine CLLD_pure _ cU PUt rfl ?_
 simp (maxSteps := 10000000) (disch := first | assumption | omega) only [go_sem, ↓reduceIte, Nat.reduceEqDiff, reduceCtorEq, Nat.reduceAdd, Nat.reduceMul, Nat.reduceLeDiff, zc, Int.reduceToNat, s0, s1, impE_row, ti25]
 refine CLLD_pure _ cM PUt rfl ?_
 simp (maxSteps := 10000000) (disch := first | assumption | omega) only [go_sem, ↓reduceIte, Nat.reduceEqDiff, reduceCtorEq, Nat.reduceAdd, Nat.reduceMul, Nat.reduceLeDiff, zc, Int.reduceToNat, s0, s1, impE_row]
 refine FIN_of (by kernel_rfl) ?_
 simp (maxSteps := 10000000) (disch := first | assumption | omega) only [go_sem, ↓reduceIte, Nat.reduceEqDiff, reduceCtorEq, Nat.reduceAdd, Nat.reduceMul, Nat.reduceLeDiff, zc, Int.reduceToNat, s0, s1]
 refine WK_loopG (fun k st => st.sl 7 = .ref 20528 1 [] 0 T.length ∧ st.ro 20528 1 = some (matA unM T.length T.length) ∧ st.sl 8 = .ref 20576 1 [] 0 T.length ∧ st.ro 20576 1 = some (matA (wdD S T s) T.length T.length) ∧ st.sl 9 = i64 ((k : Int) + 1) ∧ (∃ u v, st.sl 10 = .ref u v [] 0 T.length ∧ st.ro u v = some (matA (pwM (wdD S T s) T.length (k + 1)) T.length T.length)) ∧ ∀ j, 1 ≤ j → j ≤ k → ¬ UnP (wdD S T s) T.length j) 1999 .refl ?_ ?_
 ·simp only [↓za, ↓reduceIte, Nat.reduceEqDiff, zb, reduceCtorEq]
  refine ⟨rfl, ⟨20576, 1, rfl, ?_⟩, fun j h1 h2 => by omega⟩
  rw [if_pos ⟨rfl, rfl⟩]
  exact congrArg some (mat_congr fun i j hi hj => (pwM_one num_wdD hi hj).symm)
 ·rintro k sl ro gn hk ⟨s7, r7, s8, r8, s9, ⟨u, v, s10, r10⟩, hn⟩
  dsimp only at s7 r7 s8 r8 s9 s10 r10
  by_cases hu : UnP (wdD S T s) T.length (k + 1)
  ·have c := unS hp h16 hM (k + 1) (t := true) (by simp [hu])
   simp (maxSteps := 10000000) (disch := first | assumption | omega) only [go_sem, ↓reduceIte, Nat.reduceEqDiff, reduceCtorEq, Nat.reduceAdd, Nat.reduceMul, Nat.reduceLeDiff, zc, Int.reduceToNat, s0, s1, s7, s10]
   refine CLL_q _ c (.cons (exq_mat r10 (by decide)) (.cons (exq_mat r7 (by decide)) .nil)) rfl rfl rfl ?_
   simp (maxSteps := 10000000) (disch := first | assumption | omega) only [go_sem, ↓reduceIte, Nat.reduceEqDiff, reduceCtorEq, Nat.reduceAdd, Nat.reduceMul, Nat.reduceLeDiff, zc, Int.reduceToNat, s0, s1, s9]
   simp only [zr, zb, retR, resL, outT, outL, zes, zez, oneV, zcp, zed, zfi, Ro.dl, St.ev, zhk, ↓za, ↓reduceIte, Nat.reduceEqDiff, Nat.reduceAdd, Nat.reduceLeDiff]
   obtain ⟨hx, hy⟩ := ho.at (k := k + 1) (by omega) (by omega) hu (fun j h1 h2 => hn j h1 (by omega))
   rw [hx, hy]; rfl
  ·have c := unS hp h16 hM (k + 1) (t := false) (by simp [hu])
   have hn' : ∀ j, 1 ≤ j → j ≤ k + 1 → ¬ UnP (wdD S T s) T.length j := fun j h1 h2 => by
    rcases Nat.lt_or_ge j (k + 1) with h | h
    ·exact hn j h1 (by omega)
    ·rw [show j = k + 1 by omega]; exact hu
   by_cases hk2 : k + 1 < 2000
   ·have hk3 : ¬ (2000 : Int) < (k : Int) + 1 + 1 := by omega
    have cX := cTimesM (isLL_mat (pwM (wdD S T s) T.length (k + 1)) T.length T.length) (isLL_mat (wdD S T s) T.length T.length) hp (by omega) (num_pwM (k + 1)) num_wdD
    simp (maxSteps := 10000000) (disch := first | assumption | omega) only [go_sem, ↓reduceIte, Nat.reduceEqDiff, reduceCtorEq, Nat.reduceAdd, Nat.reduceMul, Nat.reduceLeDiff, zc, Int.reduceToNat, s0, s1, s7, s10]
    refine CLL_q _ c (.cons (exq_mat r10 (by decide)) (.cons (exq_mat r7 (by decide)) .nil)) rfl rfl rfl ?_
    simp (maxSteps := 10000000) (disch := first | assumption | omega) only [go_sem, ↓reduceIte, Nat.reduceEqDiff, reduceCtorEq, Nat.reduceAdd, Nat.reduceMul, Nat.reduceLeDiff, zc, Int.reduceToNat, s0, s1, s9, s8, s10, hk3]
    refine CLL_q _ cX (.cons (exq_mat r10 (by decide)) (.cons (exq_mat r8 (by decide)) .nil)) rfl rfl (noI_mat _ _ _) ?_
    simp (maxSteps := 10000000) (disch := first | assumption | omega) only [go_sem, ↓reduceIte, Nat.reduceEqDiff, reduceCtorEq, Nat.reduceAdd, Nat.reduceMul, Nat.reduceLeDiff, zc, Int.reduceToNat, s0, s1, impE_row]
    exact ⟨by omega, s7, r7, s8, r8, rfl, ⟨32800, gn 32800 + 1, rfl, if_pos ⟨rfl, rfl⟩⟩, hn'⟩
   ·have hk3 : (2000 : Int) < (k : Int) + 1 + 1 := by omega
    simp (maxSteps := 10000000) (disch := first | assumption | omega) only [go_sem, ↓reduceIte, Nat.reduceEqDiff, reduceCtorEq, Nat.reduceAdd, Nat.reduceMul, Nat.reduceLeDiff, zc, Int.reduceToNat, s0, s1, s7, s10]
    refine CLL_q _ c (.cons (exq_mat r10 (by decide)) (.cons (exq_mat r7 (by decide)) .nil)) rfl rfl rfl ?_
    simp (maxSteps := 10000000) (disch := first | assumption | omega) only [go_sem, ↓reduceIte, Nat.reduceEqDiff, reduceCtorEq, Nat.reduceAdd, Nat.reduceMul, Nat.reduceLeDiff, zc, Int.reduceToNat, s0, s1, s9, hk3]
    simp only [zr, zb, retR, resL, outT, outL, zes, zez, oneV, zcp, zed, zfi, Ro.dl, St.ev, zhk, ↓za, ↓reduceIte, Nat.reduceEqDiff, Nat.reduceAdd, Nat.reduceLeDiff]
    obtain ⟨hx, hy⟩ := ho.none fun j h1 h2 => hn' j h1 (by omega)
    rw [hx, hy]
theorem cPOS1 (ha : isLL a S) (hb : isL b T) (hS : S.length ≤ maxN) (hT : T.length ≤ maxN) (hR : ∀ i, i < S.length → (row S i).length ≤ maxN) (hz : s.size < 2^63) (h0 : cdW S T [s] ≠ 0) : CallOK Tryz.prog 20 [.agg [a, b], stA s] (.tup [i64 0, i64 (cdW S T [s])]) := by
 have cc := cCodeS (ws := [s]) ha hb hS hT hR (Nat.le_of_ble_eq_true rfl) (fun w hw => by rw [List.mem_singleton.1 hw]; exact hz)
 refine call_of (fn := Tryz.f20) (code := bodyOf Tryz.f20) Tryz.func20 rfl (by kernel_rfl) (rfl) ?_
 intro sl hs
 have s0 : sl 0 = .agg [a, b] := hs 0
 have s1 : sl 1 = stA s := hs 1
 dsimp only [Tryz.f20, bodyOf, Option.getD]
 simp (maxSteps := 10000000) (disch := first | assumption | omega) only [go_sem, ↓reduceIte, Nat.reduceEqDiff, reduceCtorEq, Nat.reduceAdd, Nat.reduceMul, Nat.reduceLeDiff, zc, Int.reduceToNat, s0, s1, tiSS, ti9]
 refine CLL_q _ cc (.cons (exq_agg (.cons (exq_LL ha (by decide)) (.cons (exq_L hb (by decide)) .nil))) (.cons (exq_str Ur (by decide)) .nil)) rfl rfl rfl ?_
 simp (maxSteps := 10000000) (disch := first | assumption | omega) only [go_sem, ↓reduceIte, Nat.reduceEqDiff, reduceCtorEq, Nat.reduceAdd, Nat.reduceMul, Nat.reduceLeDiff, zc, Int.reduceToNat, s0, s1, tiSS, ti9, eq_false h0]
 simp only [zr, zb, retR, resL, outT, outL, zes, zez, oneV, zcp, zed, zfi, Ro.dl, St.ev, zhk, ↓za, ↓reduceIte, Nat.reduceEqDiff, Nat.reduceAdd, Nat.reduceLeDiff]
theorem cPOI1 (ha : isLL a S) (hb : isL b T) (hS : S.length ≤ maxN) (hT : T.length ≤ maxN) (hR : ∀ i, i < S.length → (row S i).length ≤ maxN) (hz : s.size < 2^63) (h0 : cdW S T [s] ≠ 0) : CallOK Tryz.prog 21 [.agg [a, b], stA s] (.tup [i64 0, i64 (cdW S T [s])]) := by
 have cc := cCodeI (ws := [s]) ha hb hS hT hR (Nat.le_of_ble_eq_true rfl) (fun w hw => by rw [List.mem_singleton.1 hw]; exact hz)
 refine call_of (fn := Tryz.f21) (code := bodyOf Tryz.f21) Tryz.func21 rfl (by kernel_rfl) (rfl) ?_
 intro sl hs
 have s0 : sl 0 = .agg [a, b] := hs 0
 have s1 : sl 1 = stA s := hs 1
 dsimp only [Tryz.f21, bodyOf, Option.getD]
 simp (maxSteps := 10000000) (disch := first | assumption | omega) only [go_sem, ↓reduceIte, Nat.reduceEqDiff, reduceCtorEq, Nat.reduceAdd, Nat.reduceMul, Nat.reduceLeDiff, zc, Int.reduceToNat, s0, s1, tiSS, ti9]
 refine CLL_q _ cc (.cons (exq_agg (.cons (exq_LL ha (by decide)) (.cons (exq_L hb (by decide)) .nil))) (.cons (exq_str Ur (by decide)) .nil)) rfl rfl rfl ?_
 simp (maxSteps := 10000000) (disch := first | assumption | omega) only [go_sem, ↓reduceIte, Nat.reduceEqDiff, reduceCtorEq, Nat.reduceAdd, Nat.reduceMul, Nat.reduceLeDiff, zc, Int.reduceToNat, s0, s1, tiSS, ti9, eq_false h0]
 simp only [zr, zb, retR, resL, outT, outL, zes, zez, oneV, zcp, zed, zfi, Ro.dl, St.ev, zhk, ↓za, ↓reduceIte, Nat.reduceEqDiff, Nat.reduceAdd, Nat.reduceLeDiff]
theorem cPOI (ha : isLL a S) (hb : isL b T) (hS : S.length ≤ maxN) (hT : T.length ≤ maxN) (hR : ∀ i, i < S.length → (row S i).length ≤ maxN) (hz : s.size < 2^63) (h0 : cdW S T [s] = 0) {x y : Int} (ho : OrdR (wdD S T s) T.length x y) : CallOK Tryz.prog 21 [.agg [a, b], stA s] (.tup [i64 x, i64 y]) := by
 classical
 have cc := cCodeI (ws := [s]) ha hb hS hT hR (Nat.le_of_ble_eq_true rfl) (fun w hw => by rw [List.mem_singleton.1 hw]; exact hz)
 obtain ⟨hD, hW⟩ := cdW_0 h0
 have D := hD.dat
 have cM := cWMI0 ha hb D hW
 have cU := cUnitI (n := T.length) (Nat.le_trans D.m16 (by decide))
 rw [h0] at cc
 have hp := D.shp.pos
 have h16 := D.m16
 refine call_of (fn := Tryz.f21) (code := bodyOf Tryz.f21) Tryz.func21 rfl (by kernel_rfl) (rfl) ?_
 intro sl hs
 have s0 : sl 0 = .agg [a, b] := hs 0
 have s1 : sl 1 = stA s := hs 1
 dsimp only [Tryz.f21, bodyOf, Option.getD]
 simp (maxSteps := 10000000) (disch := first | assumption | omega) only [go_sem, ↓reduceIte, Nat.reduceEqDiff, reduceCtorEq, Nat.reduceAdd, Nat.reduceMul, Nat.reduceLeDiff, zc, Int.reduceToNat, s0, s1, tiSS, ti9]
 refine CLL_q _ cc (.cons (exq_agg (.cons (exq_LL ha (by decide)) (.cons (exq_L hb (by decide)) .nil))) (.cons (exq_str Ur (by decide)) .nil)) rfl rfl rfl ?_
 simp (maxSteps := 10000000) (disch := first | assumption | omega) only [go_sem, ↓reduceIte, Nat.reduceEqDiff, reduceCtorEq, Nat.reduceAdd, Nat.reduceMul, Nat.reduceLeDiff, zc, Int.reduceToNat, s0, s1, tiSS, ti9, ti25, isL_len hb]
 refine CLLD_pure _ cM PUt rfl ?_
 simp (maxSteps := 10000000) (disch := first | assumption | omega) only [go_sem, ↓reduceIte, Nat.reduceEqDiff, reduceCtorEq, Nat.reduceAdd, Nat.reduceMul, Nat.reduceLeDiff, zc, Int.reduceToNat, s0, s1, impE_row, ti25, isL_len hb]
 refine CLLD_pure _ cU PUt rfl ?_
 simp (maxSteps := 10000000) (disch := first | assumption | omega) only [go_sem, ↓reduceIte, Nat.reduceEqDiff, reduceCtorEq, Nat.reduceAdd, Nat.reduceMul, Nat.reduceLeDiff, zc, Int.reduceToNat, s0, s1, impE_row]
 refine FIN_of (by kernel_rfl) ?_
 simp (maxSteps := 10000000) (disch := first | assumption | omega) only [go_sem, ↓reduceIte, Nat.reduceEqDiff, reduceCtorEq, Nat.reduceAdd, Nat.reduceMul, Nat.reduceLeDiff, zc, Int.reduceToNat, s0, s1]
 refine WK_loopG (fun k st => st.sl 7 = .ref 20512 1 [] 0 T.length ∧ st.ro 20512 1 = some (matA (wdD S T s) T.length T.length) ∧ st.sl 8 = .ref 20576 1 [] 0 T.length ∧ st.ro 20576 1 = some (matA unM T.length T.length) ∧ st.sl 10 = i64 ((k : Int) + 1) ∧ (∃ u v, st.sl 9 = .ref u v [] 0 T.length ∧ st.gn u ≥ v ∧ st.ro u v = some (matA (pwM (wdD S T s) T.length k) T.length T.length)) ∧ ∀ j, 1 ≤ j → j ≤ k → ¬ UnP (wdD S T s) T.length j) 2000 .refl ?_ ?_
 ·simp only [↓za, ↓reduceIte, Nat.reduceEqDiff, zb, reduceCtorEq]
  exact ⟨rfl, ⟨20576, 1, rfl, by rw [if_pos rfl]; exact Nat.le_refl _, if_pos ⟨rfl, rfl⟩⟩, fun j h1 h2 => by omega⟩
 ·rintro k sl ro gn hk ⟨s7, r7, s8, r8, s10, ⟨u, v, s9, g9, r9⟩, hn⟩
  dsimp only at s7 r7 s8 r8 s9 g9 s10 r9
  by_cases hk2 : k < 2000
  ·have hk3 : (k : Int) + 1 ≤ 2000 := by omega
   have cX := cMulM (isLL_mat (pwM (wdD S T s) T.length k) T.length T.length) (isLL_mat (wdD S T s) T.length T.length) hp (by omega) (num_pwM k) num_wdD
   by_cases hu : UnP (wdD S T s) T.length (k + 1)
   ·have c := unI (M := wdD S T s) hp h16 (k + 1) (t := true) (by simp [hu])
    simp (maxSteps := 10000000) (disch := first | assumption | omega) only [go_sem, ↓reduceIte, Nat.reduceEqDiff, reduceCtorEq, Nat.reduceAdd, Nat.reduceMul, Nat.reduceLeDiff, zc, Int.reduceToNat, s0, s1, s10, hk3, s9, s7]
    refine CLL_q _ cX (.cons (exq_mat r9 (by decide)) (.cons (exq_mat r7 (by decide)) .nil)) rfl rfl (noI_mat _ _ _) ?_
    simp (maxSteps := 10000000) (disch := first | assumption | omega) only [go_sem, ↓reduceIte, Nat.reduceEqDiff, reduceCtorEq, Nat.reduceAdd, Nat.reduceMul, Nat.reduceLeDiff, zc, Int.reduceToNat, s0, s1, impE_row, s8]
    refine CLL_q _ c (.cons (exq_mat r8 (by decide)) (.cons (exq_mat (by simp only [↓za, ↓reduceIte, Nat.reduceEqDiff, zb, reduceCtorEq]; rfl) (by decide)) .nil)) rfl rfl rfl ?_
    simp (maxSteps := 10000000) (disch := first | assumption | omega) only [go_sem, ↓reduceIte, Nat.reduceEqDiff, reduceCtorEq, Nat.reduceAdd, Nat.reduceMul, Nat.reduceLeDiff, zc, Int.reduceToNat, s0, s1, s10]
    simp only [zr, zb, retR, resL, outT, outL, zes, zez, oneV, zcp, zed, zfi, Ro.dl, St.ev, zhk, ↓za, ↓reduceIte, Nat.reduceEqDiff, Nat.reduceAdd, Nat.reduceLeDiff]
    obtain ⟨hx, hy⟩ := ho.at (k := k + 1) (by omega) (by omega) hu (fun j h1 h2 => hn j h1 (by omega))
    rw [hx, hy]; rfl
   ·have c := unI (M := wdD S T s) hp h16 (k + 1) (t := false) (by simp [hu])
    simp (maxSteps := 10000000) (disch := first | assumption | omega) only [go_sem, ↓reduceIte, Nat.reduceEqDiff, reduceCtorEq, Nat.reduceAdd, Nat.reduceMul, Nat.reduceLeDiff, zc, Int.reduceToNat, s0, s1, s10, hk3, s9, s7]
    refine CLL_q _ cX (.cons (exq_mat r9 (by decide)) (.cons (exq_mat r7 (by decide)) .nil)) rfl rfl (noI_mat _ _ _) ?_
    simp (maxSteps := 10000000) (disch := first | assumption | omega) only [go_sem, ↓reduceIte, Nat.reduceEqDiff, reduceCtorEq, Nat.reduceAdd, Nat.reduceMul, Nat.reduceLeDiff, zc, Int.reduceToNat, s0, s1, impE_row, s8]
    refine CLL_q _ c (.cons (exq_mat r8 (by decide)) (.cons (exq_mat (by simp only [↓za, ↓reduceIte, Nat.reduceEqDiff, zb, reduceCtorEq]; rfl) (by decide)) .nil)) rfl rfl rfl ?_
    simp (maxSteps := 10000000) (disch := first | assumption | omega) only [go_sem, ↓reduceIte, Nat.reduceEqDiff, reduceCtorEq, Nat.reduceAdd, Nat.reduceMul, Nat.reduceLeDiff, zc, Int.reduceToNat, s0, s1, s10]
    refine ⟨by omega, s7, r7, s8, r8, rfl, ⟨40992, gn 40992 + 1, rfl, by rw [if_pos rfl]; exact Nat.le_refl _, if_pos ⟨rfl, rfl⟩⟩, fun j h1 h2 => ?_⟩
    rcases Nat.lt_or_ge j (k + 1) with h | h
    ·exact hn j h1 (by omega)
    ·rw [show j = k + 1 by omega]; exact hu
  ·have hk3 : ¬ (k : Int) + 1 ≤ 2000 := by omega
   simp (maxSteps := 10000000) (disch := first | assumption | omega) only [go_sem, ↓reduceIte, Nat.reduceEqDiff, reduceCtorEq, Nat.reduceAdd, Nat.reduceMul, Nat.reduceLeDiff, zc, Int.reduceToNat, s0, s1, s10, hk3]
   simp only [zr, zb, retR, resL, outT, outL, zes, zez, oneV, zcp, zed, zfi, Ro.dl, St.ev, zhk, ↓za, ↓reduceIte, Nat.reduceEqDiff, Nat.reduceAdd, Nat.reduceLeDiff]
   obtain ⟨hx, hy⟩ := ho.none fun j h1 h2 => hn j h1 (by omega)
   rw [hx, hy]
end
theorem cLPO {a b : AV} {S : List (List Int)} {T : List Int} {s : ByteArray} (ha : isLLw a S) (hb : isLw b T) (l1 : S.length < 2^63) (l2 : ∀ i, (row S i).length < 2^63) (l3 : T.length < 2^63) (ls : s.size < 2^63) : CallOK Tryz.prog 6 [.agg [a, b], stA s] (bo true) := by
 have cZ := c25 (left := 1048576) ha hb l1 (fun i _ => l2 i) l3 (by decide) (by decide)
 refine call_of (fn := Tryz.f6) (code := bodyOf Tryz.f6) Tryz.func6 rfl (by kernel_rfl) (rfl) ?_
 intro sl hs
 have s0 : sl 0 = .agg [a, b] := hs 0
 have s1 : sl 1 = stA s := hs 1
 by_cases hlen : (1048576 : Int) < (s.size : Int)
 ·dsimp only [Tryz.f6, bodyOf, Option.getD]
  simp (maxSteps := 10000000) (disch := first | assumption | omega) only [go_sem, ↓reduceIte, Nat.reduceEqDiff, reduceCtorEq, Nat.reduceAdd, Nat.reduceMul, Nat.reduceLeDiff, zc, Int.reduceToNat, s0, s1, ti9, kLen_str, eq_true hlen]
  simp only [zr, zb, retR, resL, outT, outL, zes, zez, oneV, zcp, zed, zfi, Ro.dl, St.ev, zhk, ↓za, ↓reduceIte, Nat.reduceEqDiff, Nat.reduceAdd, Nat.reduceLeDiff]
 by_cases hz : szD S T 1048576 < 0
 ·dsimp only [Tryz.f6, bodyOf, Option.getD]
  simp (maxSteps := 10000000) (disch := first | assumption | omega) only [go_sem, ↓reduceIte, Nat.reduceEqDiff, reduceCtorEq, Nat.reduceAdd, Nat.reduceMul, Nat.reduceLeDiff, zc, Int.reduceToNat, s0, s1, ti9, kLen_str, eq_false hlen]
  refine CLL_pure _ cZ (by simp (disch := assumption) only [pureL, pureA, isLw_pure, isLLw_pure, pureL_map, Bool.and_self, Bool.and_true]) rfl rfl ?_
  simp (maxSteps := 10000000) (disch := first | assumption | omega) only [go_sem, ↓reduceIte, Nat.reduceEqDiff, reduceCtorEq, Nat.reduceAdd, Nat.reduceMul, Nat.reduceLeDiff, zc, Int.reduceToNat, s0, s1, hz]
  simp only [zr, zb, retR, resL, outT, outL, zes, zez, oneV, zcp, zed, zfi, Ro.dl, St.ev, zhk, ↓za, ↓reduceIte, Nat.reduceEqDiff, Nat.reduceAdd, Nat.reduceLeDiff]
 ·obtain ⟨z1, z2, z3⟩ := szD_ok hz
  have hS := maxN_of z1
  have hT := maxN_of z2
  have hR : ∀ i, i < S.length → (row S i).length ≤ maxN := fun i hi => maxN_of (z3 i hi)
  have cT := c27 ha hb hS hT hR
  have cE := c12 (isLL_imm S) (isLL_imm S) (isL_imm T) (isL_imm T) hS (row_max hR) hT
  rw [decide_eq_true ⟨rfl, rfl⟩] at cE
  obtain ⟨x, y, hL, hI⟩ : ∃ x y : Int, CallOK Tryz.prog 20 [.agg [immLL S, immL T], stA s] (.tup [i64 x, i64 y]) ∧ CallOK Tryz.prog 21 [.agg [immLL S, immL T], stA s] (.tup [i64 x, i64 y]) := by
   by_cases h0 : cdW S T [s] = 0
   ·obtain ⟨x, y, ho⟩ := ordR_ex (wdD S T s) T.length
    exact ⟨_, _, cPOS (isLL_imm S) (isL_imm T) hS hT hR ls h0 ho, cPOI (isLL_imm S) (isL_imm T) hS hT hR ls h0 ho⟩
   ·exact ⟨_, _, cPOS1 (isLL_imm S) (isL_imm T) hS hT hR ls h0, cPOI1 (isLL_imm S) (isL_imm T) hS hT hR ls h0⟩
  dsimp only [Tryz.f6, bodyOf, Option.getD]
  simp (maxSteps := 10000000) (disch := first | assumption | omega) only [go_sem, ↓reduceIte, Nat.reduceEqDiff, reduceCtorEq, Nat.reduceAdd, Nat.reduceMul, Nat.reduceLeDiff, zc, Int.reduceToNat, s0, s1, ti9, kLen_str, eq_false hlen]
  refine CLL_pure _ cZ (by simp (disch := assumption) only [pureL, pureA, isLw_pure, isLLw_pure, pureL_map, Bool.and_self, Bool.and_true]) rfl rfl ?_
  simp (maxSteps := 10000000) (disch := first | assumption | omega) only [go_sem, ↓reduceIte, Nat.reduceEqDiff, reduceCtorEq, Nat.reduceAdd, Nat.reduceMul, Nat.reduceLeDiff, zc, Int.reduceToNat, s0, s1, hz]
  refine CLL_pure _ cT (by simp (disch := assumption) only [pureL, pureA, isLw_pure, isLLw_pure, pureL_map, Bool.and_self, Bool.and_true]) rfl rfl ?_
  simp (maxSteps := 10000000) (disch := first | assumption | omega) only [go_sem, ↓reduceIte, Nat.reduceEqDiff, reduceCtorEq, Nat.reduceAdd, Nat.reduceMul, Nat.reduceLeDiff, zc, Int.reduceToNat, s0, s1]
  refine CLL_q _ hL (by repeat' first | exact exqL.nil | refine exqL.cons ?_ ?_ | exact exq_sc _ _ _ (by decide) | exact exq_L (by first | assumption | exact isL_imm _) (by decide) | exact exq_LL (by assumption) (by decide) | exact exq_LLL (by assumption) (by decide) | exact exq_refL (by first | assumption | (simp only [↓za, ↓reduceIte, Nat.reduceEqDiff, zb, reduceCtorEq]; done) | (simp only [↓za, ↓reduceIte, Nat.reduceEqDiff, zb, reduceCtorEq]; first | rfl | assumption)) (by first | rfl | (simp only [zfe, List.length_map, tms_len]; done)) (by decide) | exact exq_refLL (by first | assumption | (simp only [↓za, ↓reduceIte, Nat.reduceEqDiff, zb, reduceCtorEq]; done) | (simp only [↓za, ↓reduceIte, Nat.reduceEqDiff, zb, reduceCtorEq]; first | rfl | assumption)) (by first | rfl | (simp only [zfe, List.length_map, tms_len]; done)) (by decide) | exact exq_cube (by first | assumption | (simp only [↓za, ↓reduceIte, Nat.reduceEqDiff, zb, reduceCtorEq]; done) | (simp only [↓za, ↓reduceIte, Nat.reduceEqDiff, zb, reduceCtorEq]; first | rfl | assumption)) (by decide) | exact exq_mat (by first | assumption | (simp only [↓za, ↓reduceIte, Nat.reduceEqDiff, zb, reduceCtorEq]; done) | (simp only [↓za, ↓reduceIte, Nat.reduceEqDiff, zb, reduceCtorEq]; first | rfl | assumption)) (by decide) | refine exq_agg ?_) rfl rfl rfl ?_
  simp (maxSteps := 10000000) (disch := first | assumption | omega) only [go_sem, ↓reduceIte, Nat.reduceEqDiff, reduceCtorEq, Nat.reduceAdd, Nat.reduceMul, Nat.reduceLeDiff, zc, Int.reduceToNat, s0, s1]
  refine CLL_pure _ cT (by simp (disch := assumption) only [pureL, pureA, isLw_pure, isLLw_pure, pureL_map, Bool.and_self, Bool.and_true]) rfl rfl ?_
  simp (maxSteps := 10000000) (disch := first | assumption | omega) only [go_sem, ↓reduceIte, Nat.reduceEqDiff, reduceCtorEq, Nat.reduceAdd, Nat.reduceMul, Nat.reduceLeDiff, zc, Int.reduceToNat, s0, s1]
  refine CLL_q _ hI (by repeat' first | exact exqL.nil | refine exqL.cons ?_ ?_ | exact exq_sc _ _ _ (by decide) | exact exq_L (by first | assumption | exact isL_imm _) (by decide) | exact exq_LL (by assumption) (by decide) | exact exq_LLL (by assumption) (by decide) | exact exq_refL (by first | assumption | (simp only [↓za, ↓reduceIte, Nat.reduceEqDiff, zb, reduceCtorEq]; done) | (simp only [↓za, ↓reduceIte, Nat.reduceEqDiff, zb, reduceCtorEq]; first | rfl | assumption)) (by first | rfl | (simp only [zfe, List.length_map, tms_len]; done)) (by decide) | exact exq_refLL (by first | assumption | (simp only [↓za, ↓reduceIte, Nat.reduceEqDiff, zb, reduceCtorEq]; done) | (simp only [↓za, ↓reduceIte, Nat.reduceEqDiff, zb, reduceCtorEq]; first | rfl | assumption)) (by first | rfl | (simp only [zfe, List.length_map, tms_len]; done)) (by decide) | exact exq_cube (by first | assumption | (simp only [↓za, ↓reduceIte, Nat.reduceEqDiff, zb, reduceCtorEq]; done) | (simp only [↓za, ↓reduceIte, Nat.reduceEqDiff, zb, reduceCtorEq]; first | rfl | assumption)) (by decide) | exact exq_mat (by first | assumption | (simp only [↓za, ↓reduceIte, Nat.reduceEqDiff, zb, reduceCtorEq]; done) | (simp only [↓za, ↓reduceIte, Nat.reduceEqDiff, zb, reduceCtorEq]; first | rfl | assumption)) (by decide) | refine exq_agg ?_) rfl rfl rfl ?_
  simp (maxSteps := 10000000) (disch := first | assumption | omega) only [go_sem, ↓reduceIte, Nat.reduceEqDiff, reduceCtorEq, Nat.reduceAdd, Nat.reduceMul, Nat.reduceLeDiff, zc, Int.reduceToNat, s0, s1]
  refine CLLD_pure _ cT (by simp (disch := assumption) only [pureL, pureA, isLw_pure, isLLw_pure, pureL_map, Bool.and_self, Bool.and_true]) rfl ?_
  simp (maxSteps := 10000000) (disch := first | assumption | omega) only [go_sem, ↓reduceIte, Nat.reduceEqDiff, reduceCtorEq, Nat.reduceAdd, Nat.reduceMul, Nat.reduceLeDiff, zc, Int.reduceToNat, s0, s1]
  refine CLLD_q _ cE (by repeat' first | exact exqL.nil | refine exqL.cons ?_ ?_ | exact exq_sc _ _ _ (by decide) | exact exq_L (by first | assumption | exact isL_imm _) (by decide) | exact exq_LL (by assumption) (by decide) | exact exq_LLL (by assumption) (by decide) | exact exq_refL (by first | assumption | (simp only [↓za, ↓reduceIte, Nat.reduceEqDiff, zb, reduceCtorEq]; done) | (simp only [↓za, ↓reduceIte, Nat.reduceEqDiff, zb, reduceCtorEq]; first | rfl | assumption)) (by first | rfl | (simp only [zfe, List.length_map, tms_len]; done)) (by decide) | exact exq_refLL (by first | assumption | (simp only [↓za, ↓reduceIte, Nat.reduceEqDiff, zb, reduceCtorEq]; done) | (simp only [↓za, ↓reduceIte, Nat.reduceEqDiff, zb, reduceCtorEq]; first | rfl | assumption)) (by first | rfl | (simp only [zfe, List.length_map, tms_len]; done)) (by decide) | exact exq_cube (by first | assumption | (simp only [↓za, ↓reduceIte, Nat.reduceEqDiff, zb, reduceCtorEq]; done) | (simp only [↓za, ↓reduceIte, Nat.reduceEqDiff, zb, reduceCtorEq]; first | rfl | assumption)) (by decide) | exact exq_mat (by first | assumption | (simp only [↓za, ↓reduceIte, Nat.reduceEqDiff, zb, reduceCtorEq]; done) | (simp only [↓za, ↓reduceIte, Nat.reduceEqDiff, zb, reduceCtorEq]; first | rfl | assumption)) (by decide) | refine exq_agg ?_) rfl rfl ?_
  simp (maxSteps := 10000000) (disch := first | assumption | omega) only [go_sem, ↓reduceIte, Nat.reduceEqDiff, reduceCtorEq, Nat.reduceAdd, Nat.reduceMul, Nat.reduceLeDiff, zc, Int.reduceToNat, s0, s1]
  refine FIN_of (by kernel_rfl) ?_
  simp (maxSteps := 10000000) (disch := first | assumption | omega) only [go_sem, ↓reduceIte, Nat.reduceEqDiff, reduceCtorEq, Nat.reduceAdd, Nat.reduceMul, Nat.reduceLeDiff, zc, Int.reduceToNat, s0, s1]
  simp only [zr, zb, retR, resL, outT, outL, zes, zez, oneV, zcp, zed, zfi, Ro.dl, St.ev, zhk, ↓za, ↓reduceIte, Nat.reduceEqDiff, Nat.reduceAdd, Nat.reduceLeDiff]
end Go.Proofs.YtkimbjcaoolfpaaGreatDoor
