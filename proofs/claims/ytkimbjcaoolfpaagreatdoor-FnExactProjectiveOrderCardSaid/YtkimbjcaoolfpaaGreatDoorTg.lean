/- Texts joined: TI TJ TK TL TM. -/
import Derived.Test.YtkimbjcaoolfpaaGreatDoorTe
set_option linter.all false
/- The first row of a word's matrix is not nought. -/
namespace Go.Proofs.YtkimbjcaoolfpaaGreatDoor
open Go.RowKit
set_option maxRecDepth 1000000
def RInj (L : Nat → Nat → Int) (n : Nat) : Prop := ∀ x : Nat → Int, (∀ j, j < n → MM (sm (fun i => x i * L i j) n) 0) → ∀ i, i < n → MM (x i) 0
section
variable {S : List (List Int)} {T : List Int}
theorem rinj_S (D : Dat S T) : RInj (ss S) T.length := fun x hx => D.inj x fun i hi => by
 have := hx i hi
 rwa [sm_congr (g := fun j => ss S i j * x j) fun j hj => by rw [D.sym hj hi, Int.mul_comm]] at this
theorem rinj_D {f : Nat → Int} {n : Nat} (hf : ∀ i, i < n → ∃ v, MM (v * f i) 1) : RInj (dgM f) n := fun x hx i hi => by
 have h1 := hx i hi
 have e : sm (fun k => x k * dgM f k i) n = x i * f i := sm_pick hi fun k hk => by
  unfold dgM
  by_cases h : i = k
  ·subst h; rw [if_pos rfl, if_pos rfl]
  ·rw [if_neg h, if_neg (Ne.symm h), Int.mul_zero]
 rw [e] at h1
 obtain ⟨v, hv⟩ := hf i hi
 have h2 : MM (v * f i * x i) (1 * x i) := MM.mul hv MM.rfl
 have h3 : MM (v * (x i * f i)) (v * 0) := MM.mul MM.rfl h1
 rw [Int.mul_zero] at h3
 rw [Int.one_mul] at h2
 rw [show v * (x i * f i) = v * f i * x i by rw [Int.mul_comm (x i), Int.mul_assoc]] at h3
 exact h2.symm.trans h3
theorem rinj_E {S E : Nat → Nat → Int} {n : Nat} (h : ∀ i, i < n → ∀ j, j < n → MM (sm (fun l => E i l * S l j) n) (if j = i then 1 else 0)) : RInj E n := fun x hx i hi => by
 have h1 : MM (sm (fun l => sm (fun k => x k * E k l) n * S l i) n) 0 := by
  have := sm_MM (f := fun l => sm (fun k => x k * E k l) n * S l i) (g := fun _ => 0) (n := n) fun l hl => by
   have := MM.mul (hx l hl) (MM.rfl (a := S l i))
   rwa [Int.zero_mul] at this
  rwa [sm_zero fun _ _ => rfl] at this
 have e1 : sm (fun l => sm (fun k => x k * E k l) n * S l i) n = sm (fun k => x k * sm (fun l => E k l * S l i) n) n := by
  have e2 : sm (fun l => sm (fun k => x k * E k l) n * S l i) n = sm (fun l => sm (fun k => x k * (E k l * S l i)) n) n := sm_congr fun l _ => by
   rw [sm_mul]; exact sm_congr fun k _ => Int.mul_assoc _ _ _
  rw [e2, sm_comm]
  exact sm_congr fun k _ => by rw [Int.mul_comm, sm_mul]; exact sm_congr fun l _ => Int.mul_comm _ _
 rw [e1] at h1
 have h2 : MM (sm (fun k => x k * sm (fun l => E k l * S l i) n) n) (x i) := by
  have := sm_MM (f := fun k => x k * sm (fun l => E k l * S l i) n) (g := fun k => if k = i then x i else 0) (n := n) fun k hk => by
   have := MM.mul (MM.rfl (a := x k)) (h k hk i hi)
   by_cases hki : k = i
   ·subst hki; rw [if_pos rfl, Int.mul_one] at this; rw [if_pos rfl]; exact this
   ·rw [if_neg (Ne.symm hki), Int.mul_zero] at this; rw [if_neg hki]; exact this
  rwa [sm_at hi] at this
 exact h2.symm.trans h1
theorem wdRow0 {n : Nat} {S E : Nat → Nat → Int} {t : Nat → Int} {s : ByteArray} (h0 : 0 < n) (hL : ∀ b, LetP b → RInj (letM S t E b) n) (hw : ∀ b, b ∈ s.data.toList → LetP b) : ∀ k, k ≤ s.size → ∃ j, j < n ∧ ¬ MM (wdG n S t E s k 0 j) 0
 | 0, _ => ⟨0, h0, by
   show ¬ MM (unM 0 0) 0
   have : unM 0 0 = 1 := rfl
   rw [this]; unfold MM; decide⟩
 | k + 1, hk => by
  obtain ⟨j, hj, hne⟩ := wdRow0 h0 hL hw k (by omega)
  refine Classical.byContradiction fun hall => ?_
  refine hne (hL _ (hw _ (byAt_mem (show k < s.size by omega))) (fun i => wdG n S t E s k 0 i) (fun i hi => ?_) j hj)
  refine Classical.byContradiction fun h => hall ⟨i, hi, fun h2 => h ?_⟩
  have e : wdG n S t E s (k + 1) 0 i = sm (fun l => wdG n S t E s k 0 l * letM S t E (byAt s k) l i) n % 55441 := rfl
  rw [e] at h2
  exact (MM.mod _).symm.trans h2
theorem Dat.wd0 (D : Dat S T) {s : ByteArray} (hw : WordP s) : ∃ j, j < T.length ∧ wdD S T s 0 j ≠ 0 := by
 have hI := ivt_of D.numS D.inj
 have ht : ∀ i, i < T.length → MM (pw (atI T i) 55439 * atI T i) 1 := fun i hi => inv_mul (D.shp.nT i) (D.t0 hi)
 obtain ⟨j, hj, h⟩ := wdRow0 (s := s) (S := ss S) (E := ivM (ss S) T.length) (t := atI T) D.shp.pos (fun b hb => by
  unfold letM
  by_cases h1 : b.toNat = 115
  ·rw [if_pos h1]; exact rinj_S D
  ·rw [if_neg h1]
   by_cases h2 : b.toNat = 116
   ·rw [if_pos h2]; exact rinj_D fun i hi => ⟨_, ht i hi⟩
   ·rw [if_neg h2]
    by_cases h3 : b.toNat = 83
    ·rw [if_pos h3]; exact rinj_E hI.2.2
    ·rw [if_neg h3]; exact rinj_D fun i hi => ⟨atI T i, by have := ht i hi; rwa [Int.mul_comm] at this⟩) hw.2 s.size (Nat.le_refl _)
 exact ⟨j, hj, fun e => h (by show MM (wdD S T s 0 j) 0; rw [e]; exact MM.rfl)⟩
end
end Go.Proofs.YtkimbjcaoolfpaaGreatDoor
/- Proportional matrices. -/
namespace Go.Proofs.YtkimbjcaoolfpaaGreatDoor
open Go.RowKit
set_option maxRecDepth 1000000
theorem cSameT {o o' : AV} {O O' : List Int} (ho : isL o O) (ho' : isL o' O') (hO : O.length ≤ maxN) (hO' : O'.length ≤ maxN) {t : Bool} (ht : t = true ↔ O = O') : CallOK Tryz.prog 46 [o, o'] (bo t) := by
 have hx2 : O.length ≤ 4294967296 := hO
 by_cases h1 : O.length = O'.length
 ·have h1' : (O.length : Int) = O'.length := by omega
  refine call_of (fn := Tryz.f46) (code := bodyOf Tryz.f46) Tryz.func46 rfl (by kernel_rfl) (rfl) ?_
  intro sl hs
  have s0 : sl 0 = o := hs 0
  have s1 : sl 1 = o' := hs 1
  dsimp only [Tryz.f46, bodyOf, Option.getD]
  simp (maxSteps := 10000000) (disch := first | assumption | omega) only [go_sem, ↓reduceIte, Nat.reduceEqDiff, reduceCtorEq, Nat.reduceAdd, Nat.reduceMul, Nat.reduceLeDiff, zc, Int.reduceToNat, s0, s1, eq_true h1']
  refine WK_for (fun x st => st.sl 0 = o ∧ st.sl 1 = o' ∧ st.sl 5 = i64 (x : Int) ∧ (∀ j, j < x → atI O j = atI O' j)) O.length ?_ ?_ ?_
  ·simp only [↓za, ↓reduceIte, Nat.reduceEqDiff, zb, reduceCtorEq, rws_zero, s0, s1]
   exact ⟨rfl, fun x' h => absurd h (Nat.not_lt_zero _)⟩
  ·rintro x sl ro gn hx ⟨s0, s1, s5, q⟩
   dsimp only at s0 s1 s5
   have hx' : (x : Int) < (O.length : Nat) := by omega
   have hx2 : x < O'.length := by omega
   by_cases h2 : atI O x = atI O' x
   ·simp (maxSteps := 10000000) (disch := first | assumption | omega) only [go_sem, ↓reduceIte, Nat.reduceEqDiff, reduceCtorEq, Nat.reduceAdd, Nat.reduceMul, Nat.reduceLeDiff, zc, Int.reduceToNat, s0, s1, s5, hx', hx]
    refine FIN_of (by kernel_rfl) ?_
    simp (maxSteps := 10000000) (disch := first | assumption | omega) only [go_sem, ↓reduceIte, Nat.reduceEqDiff, reduceCtorEq, Nat.reduceAdd, Nat.reduceMul, Nat.reduceLeDiff, zc, Int.reduceToNat, s0, s1, s5, hx', hx, eq_true h2]
    refine ⟨i64c (by omega), fun y' h => ?_⟩
    rcases Nat.lt_or_ge y' x with h' | h'
    ·exact q y' h'
    ·rw [show y' = x by omega]; exact h2
   ·simp (maxSteps := 10000000) (disch := first | assumption | omega) only [go_sem, ↓reduceIte, Nat.reduceEqDiff, reduceCtorEq, Nat.reduceAdd, Nat.reduceMul, Nat.reduceLeDiff, zc, Int.reduceToNat, s0, s1, s5, hx', hx]
    refine FIN_of (by kernel_rfl) ?_
    simp (maxSteps := 10000000) (disch := first | assumption | omega) only [go_sem, ↓reduceIte, Nat.reduceEqDiff, reduceCtorEq, Nat.reduceAdd, Nat.reduceMul, Nat.reduceLeDiff, zc, Int.reduceToNat, s0, s1, s5, hx', hx, eq_false h2]
    simp only [zr, zb, retR, resL, outT, outL, zes, zez, oneV, zcp, zed, zfi, Ro.dl, St.ev, zhk, ↓za, ↓reduceIte, Nat.reduceEqDiff, Nat.reduceAdd, Nat.reduceLeDiff]
    exact bool_false ht fun h => h2 (by rw [h])
  ·rintro sl ro gn ⟨s0, s1, s5, q⟩
   dsimp only at s0 s1 s5
   have hx' : ¬ ((O.length : Nat) : Int) < (O.length : Nat) := by omega
   simp (maxSteps := 10000000) (disch := first | assumption | omega) only [go_sem, ↓reduceIte, Nat.reduceEqDiff, reduceCtorEq, Nat.reduceAdd, Nat.reduceMul, Nat.reduceLeDiff, zc, Int.reduceToNat, s0, s1, s5, hx']
   simp only [zr, zb, retR, resL, outT, outL, zes, zez, oneV, zcp, zed, zfi, Ro.dl, St.ev, zhk, ↓za, ↓reduceIte, Nat.reduceEqDiff, Nat.reduceAdd, Nat.reduceLeDiff]
   exact (ht.2 (eq_of_atI h1 q)).symm
 ·have h1' : ¬ (O.length : Int) = O'.length := by omega
  refine call_of (fn := Tryz.f46) (code := bodyOf Tryz.f46) Tryz.func46 rfl (by kernel_rfl) (rfl) ?_
  intro sl hs
  have s0 : sl 0 = o := hs 0
  have s1 : sl 1 = o' := hs 1
  dsimp only [Tryz.f46, bodyOf, Option.getD]
  simp (maxSteps := 10000000) (disch := first | assumption | omega) only [go_sem, ↓reduceIte, Nat.reduceEqDiff, reduceCtorEq, Nat.reduceAdd, Nat.reduceMul, Nat.reduceLeDiff, zc, Int.reduceToNat, s0, s1, eq_false h1']
  simp only [zr, zb, retR, resL, outT, outL, zes, zez, oneV, zcp, zed, zfi, Ro.dl, St.ev, zhk, ↓za, ↓reduceIte, Nat.reduceEqDiff, Nat.reduceAdd, Nat.reduceLeDiff]
  exact bool_false ht fun h => h1 (by rw [h])
section
variable {A B : Nat → Nat → Int} {n K : Nat}
def fcP (A B : Nat → Nat → Int) (i j : Nat) : Int := qt (B i j) (A i j)
theorem num_fc (i j : Nat) : num (fcP A B i j) := num_mod _
theorem num_zero {x : Int} (h : num x) (h0 : MM x 0) : x = 0 := by
 unfold MM at h0; unfold num at h; omega
theorem num_eqM {x y : Int} (hx : num x) (hy : num y) (h : MM x y) : x = y := by
 unfold MM at h; unfold num at hx hy; omega
def RowsP (A B : Nat → Nat → Int) (n : Nat) (f : Int) : Prop := ∀ i, i < n → ∀ j, j < n → A i j * f % 55441 = B i j
theorem fc_of {f : Int} (hA : numM A) (hf : num f) {i j : Nat} (h0 : A i j ≠ 0) (h : A i j * f % 55441 = B i j) : fcP A B i j = f := by
 have h1 := inv_mul (hA i j) h0
 refine num_eqM (num_fc i j) hf ?_
 unfold fcP qt
 rw [← h]
 have h2 : MM (A i j * f % 55441 * pw (A i j) 55439 % 55441) (A i j * f * pw (A i j) 55439) := (MM.mod _).trans (MM.mul (MM.mod _) MM.rfl)
 refine h2.trans ?_
 have h3 : MM (pw (A i j) 55439 * A i j * f) (1 * f) := MM.mul h1 MM.rfl
 rw [Int.one_mul] at h3
 rwa [show A i j * f * pw (A i j) 55439 = pw (A i j) 55439 * A i j * f by rw [Int.mul_comm (A i j * f), Int.mul_assoc]]
theorem fc_ne (hA : numM A) (hB : numM B) {i j : Nat} (h0 : A i j ≠ 0) (hb : B i j ≠ 0) : fcP A B i j ≠ 0 := by
 intro e
 have h1 := inv_mul (hA i j) h0
 refine hb (num_zero (hB i j) ?_)
 have h2 : MM (B i j * pw (A i j) 55439) 0 := by
  have : MM (fcP A B i j) 0 := by rw [e]; exact MM.rfl
  exact (MM.mod _).symm.trans this
 have h3 : MM (B i j * pw (A i j) 55439 * A i j) (0 * A i j) := MM.mul h2 MM.rfl
 rw [Int.zero_mul, Int.mul_assoc] at h3
 have h4 : MM (B i j * (pw (A i j) 55439 * A i j)) (B i j * 1) := MM.mul MM.rfl h1
 rw [Int.mul_one] at h4
 exact h4.symm.trans h3
def PrP (A B : Nat → Nat → Int) (n K : Nat) : Prop := B 0 K ≠ 0 ∧ RowsP A B n (fcP A B 0 K)
def Sch (A B : Nat → Nat → Int) (n i j : Nat) (f : Int) : Prop :=
 (f = 0 ∧ (∀ i', i' < i → ∀ j', j' < n → A i' j' ≠ 0 → fcP A B i' j' = 0) ∧ ∀ j', j' < j → A i j' ≠ 0 → fcP A B i j' = 0) ∨
 (f ≠ 0 ∧ ∃ i0 j0, i0 < n ∧ j0 < n ∧ A i0 j0 ≠ 0 ∧ f = fcP A B i0 j0)
theorem Sch.num {i j : Nat} {f : Int} (h : Sch A B n i j f) : num f := by
 rcases h with ⟨rfl, -, -⟩ | ⟨-, i0, j0, -, -, -, rfl⟩
 ·unfold Go.Proofs.YtkimbjcaoolfpaaGreatDoor.num; decide
 ·exact num_fc _ _
theorem Sch.zero (hA : numM A) (hB : numM B) (h0 : 0 < n) (hK : K < n) (hk : A 0 K ≠ 0) (h : Sch A B n n 0 0) : ¬ PrP A B n K := by
 rintro ⟨hb, -⟩
 rcases h with ⟨-, h, -⟩ | ⟨h, -⟩
 ·exact fc_ne hA hB hk hb (h 0 h0 K hK hk)
 ·exact h rfl
theorem Sch.rows {f : Int} (hA : numM A) (h0 : 0 < n) (hK : K < n) (hk : A 0 K ≠ 0) (h : Sch A B n n 0 f) (hf : f ≠ 0) : RowsP A B n f ↔ PrP A B n K := by
 have hn := h.num
 rcases h with ⟨h, -⟩ | ⟨-, i0, j0, hi0, hj0, ha, hfe⟩
 ·exact absurd h hf
 constructor
 ·intro hr
  have e := fc_of hA hn hk (hr 0 h0 K hK)
  refine ⟨fun hb => ?_, by rw [e]; exact hr⟩
  have : fcP A B 0 K = 0 := by unfold fcP qt; rw [hb, Int.zero_mul]; rfl
  exact hf (e.symm.trans this)
 ·rintro ⟨-, hr⟩
  have e := fc_of hA (num_fc 0 K) ha (hr i0 hi0 j0 hj0)
  rw [hfe, e]; exact hr
end
end Go.Proofs.YtkimbjcaoolfpaaGreatDoor
/- Proportional matrices: the program's function. -/
namespace Go.Proofs.YtkimbjcaoolfpaaGreatDoor
open Go.RowKit
set_option maxRecDepth 1000000
section
variable {A B : Nat → Nat → Int} {n K : Nat} {a b : AV}
theorem cNz (x : Int) : CallOK Tryz.prog 51 (i64 x :: []) (bo (decide (x ≠ 0))) := by
 refine call_of (fn := Tryz.f51) (code := bodyOf Tryz.f51) Tryz.func51 rfl (by kernel_rfl) (rfl) ?_
 intro sl hs
 have s0 : sl 0 = i64 x := hs 0
 dsimp only [Tryz.f51, bodyOf, Option.getD]
 simp (maxSteps := 10000000) (disch := first | assumption | omega) only [go_sem, ↓reduceIte, Nat.reduceEqDiff, reduceCtorEq, Nat.reduceAdd, Nat.reduceMul, Nat.reduceLeDiff, zc, Int.reduceToNat, s0]
 simp only [zr, zb, retR, resL, outT, outL, zes, zez, oneV, zcp, zed, zfi, Ro.dl, St.ev, zhk, ↓za, ↓reduceIte, Nat.reduceEqDiff, Nat.reduceAdd, Nat.reduceLeDiff]
 by_cases h : x = 0
 ·subst h; rfl
 ·rw [decide_eq_false h, decide_eq_true h]; rfl
theorem row_matL0 {A : Nat → Nat → Int} {n : Nat} (h : 0 < n) : row (matL A n n) 0 = rws (A 0) n := by unfold matL; rw [row_rws _ h]
theorem sclL_mat {A : Nat → Nat → Int} {n : Nat} {w : Int} : sclL (matL A n n) w = matL (fun i j => A i j * w % 55441) n n := by
 unfold sclL
 rw [matL_len2]
 show _ = rws _ n
 refine rws_congr fun i hi => ?_
 rw [matL_row2 hi]
 refine rws_congr fun j hj => ?_
 rw [show row (matL A n n) i = rws (A i) n from row_rws _ hi, atI_rws _ hj]
theorem mat_eq {f g : Nat → Nat → Int} {n : Nat} : matL f n n = matL g n n ↔ ∀ i, i < n → ∀ j, j < n → f i j = g i j := by
 constructor
 ·intro h i hi j hj
  have e : ∀ f : Nat → Nat → Int, atI (row (matL f n n) i) j = f i j := fun f => by rw [show row (matL f n n) i = rws (f i) n from row_rws _ hi, atI_rws _ hj]
  rw [← e f, ← e g, h]
 ·intro h
  exact rws_congr fun i hi => rws_congr fun j hj => h i hi j hj
theorem cPrI (ha : isLL a (matL A n n)) (hb : isLL b (matL B n n)) (hA : numM A) (hB : numM B) (h0 : 0 < n) (hn : n ≤ 16) (hK : K < n) (hk : A 0 K ≠ 0) (hm : ∀ j, j < K → A 0 j = 0) {t : Bool} (ht : t = true ↔ PrP A B n K) : CallOK Tryz.prog 33 [a, b] (bo t) := by
 have hN : n ≤ maxN := Nat.le_trans hn (by decide)
 have la : (matL A n n).length = n := matL_len2 _ _ _
 have lb : (matL B n n).length = n := matL_len2 _ _ _
 have hx : (row (matL A n n) 0).length ≤ maxN := by rw [row_matL0 h0, zfe]; exact hN
 have cI := c93 (p := fun x => decide (x ≠ 0)) (isLL_row ha (by rw [la]; exact h0)) hx rfl rfl cNz
 have e : ixp (fun x => decide (x ≠ 0)) (row (matL A n n) 0) 0 = (K : Int) := by
  rw [ixp_some 0 (k := K) (by rw [row_matL0 h0, zfe]; exact hK) (by rw [row_matL0 h0, atI_rws _ hK]; exact decide_eq_true hk) (fun j hj => by rw [row_matL0 h0, atI_rws _ (by omega)]; simp [hm j hj]), Nat.zero_add]
 rw [e] at cI
 refine call_of (fn := Tryz.f33) (code := bodyOf Tryz.f33) Tryz.func33 rfl (by kernel_rfl) (rfl) ?_
 intro sl hs
 have s0 : sl 0 = a := hs 0
 have s1 : sl 1 = b := hs 1
 have hra : isL (atA a 0) (rws (A 0) n) := by have := isLL_row ha (k := 0) (by rw [la]; exact h0); rwa [row_matL0 h0] at this
 have hrb : isL (atA b 0) (rws (B 0) n) := by have := isLL_row hb (k := 0) (by rw [lb]; exact h0); rwa [row_matL0 h0] at this
 have la0 : 0 < (matL A n n).length := by rw [la]; exact h0
 have lb0 : 0 < (matL B n n).length := by rw [lb]; exact h0
 have lrA : K < (rws (A 0) n).length := by rw [zfe]; exact hK
 have lrB : K < (rws (B 0) n).length := by rw [zfe]; exact hK
 have eA : atI (rws (A 0) n) K = A 0 K := atI_rws _ hK
 have eB : atI (rws (B 0) n) K = B 0 K := atI_rws _ hK
 dsimp only [Tryz.f33, bodyOf, Option.getD]
 simp (maxSteps := 10000000) (disch := first | assumption | omega) only [go_sem, ↓reduceIte, Nat.reduceEqDiff, reduceCtorEq, Nat.reduceAdd, Nat.reduceMul, Nat.reduceLeDiff, zc, Int.reduceToNat, s0, s1, isLL_idx0 ha la0]
 refine CLL_pure _ cI PUt rfl rfl ?_
 by_cases hbk : B 0 K = 0
 ·simp (maxSteps := 10000000) (disch := first | assumption | omega) only [go_sem, ↓reduceIte, Nat.reduceEqDiff, reduceCtorEq, Nat.reduceAdd, Nat.reduceMul, Nat.reduceLeDiff, zc, Int.reduceToNat, s0, s1, isLL_idx0 ha la0, isLL_idx0 hb lb0, isL_idx hra lrA, isL_idx hrb lrB, eA, eB, hbk]
  refine FIN_of (by kernel_rfl) ?_
  simp (maxSteps := 10000000) (disch := first | assumption | omega) only [go_sem, ↓reduceIte, Nat.reduceEqDiff, reduceCtorEq, Nat.reduceAdd, Nat.reduceMul, Nat.reduceLeDiff, zc, Int.reduceToNat, s0, s1]
  simp only [zr, zb, retR, resL, outT, outL, zes, zez, oneV, zcp, zed, zfi, Ro.dl, St.ev, zhk, ↓za, ↓reduceIte, Nat.reduceEqDiff, Nat.reduceAdd, Nat.reduceLeDiff]
  exact bool_false ht fun h => h.1 hbk
 ·have c5 := c65 (hB 0 K).1 (hB 0 K).2 (hA 0 K).1 (hA 0 K).2
  have cS := c144 (w := fcP A B 0 K) ha (by rw [la]; exact hN) (fun i hi => by rw [la] at hi; rw [matL_row2 hi]; exact hN) (numLL_mat fun i j _ _ => hA i j) (num_fc 0 K)
  have cQ := c141 (isLL_imm (sclL (matL A n n) (fcP A B 0 K))) hb (by rw [sclL, zfe, la]; exact hN) (fun i hi => by rw [sclL, zfe, la] at hi; rw [sclL, row_rws _ (by rw [la]; exact hi), zfe, matL_row2 hi]; exact hN)
  simp (maxSteps := 10000000) (disch := first | assumption | omega) only [go_sem, ↓reduceIte, Nat.reduceEqDiff, reduceCtorEq, Nat.reduceAdd, Nat.reduceMul, Nat.reduceLeDiff, zc, Int.reduceToNat, s0, s1, isLL_idx0 ha la0, isLL_idx0 hb lb0, isL_idx hra lrA, isL_idx hrb lrB, eA, eB, eq_false hbk]
  refine CLLD_pure _ c5 PUt rfl ?_
  simp (maxSteps := 10000000) (disch := first | assumption | omega) only [go_sem, ↓reduceIte, Nat.reduceEqDiff, reduceCtorEq, Nat.reduceAdd, Nat.reduceMul, Nat.reduceLeDiff, zc, Int.reduceToNat, s0, s1]
  refine CLLD_pure _ cS PUt rfl ?_
  simp (maxSteps := 10000000) (disch := first | assumption | omega) only [go_sem, ↓reduceIte, Nat.reduceEqDiff, reduceCtorEq, Nat.reduceAdd, Nat.reduceMul, Nat.reduceLeDiff, zc, Int.reduceToNat, s0, s1, impE_row]
  refine CLLD_q _ cQ (.cons (exq_refLL Ur (by simp only [rowLL, List.length_map]) (by decide)) (.cons (exq_LL hb (by decide)) .nil)) rfl rfl ?_
  simp (maxSteps := 10000000) (disch := first | assumption | omega) only [go_sem, ↓reduceIte, Nat.reduceEqDiff, reduceCtorEq, Nat.reduceAdd, Nat.reduceMul, Nat.reduceLeDiff, zc, Int.reduceToNat, s0, s1]
  refine FIN_of (by kernel_rfl) ?_
  simp (maxSteps := 10000000) (disch := first | assumption | omega) only [go_sem, ↓reduceIte, Nat.reduceEqDiff, reduceCtorEq, Nat.reduceAdd, Nat.reduceMul, Nat.reduceLeDiff, zc, Int.reduceToNat, s0, s1]
  simp only [zr, zb, retR, resL, outT, outL, zes, zez, oneV, zcp, zed, zfi, Ro.dl, St.ev, zhk, ↓za, ↓reduceIte, Nat.reduceEqDiff, Nat.reduceAdd, Nat.reduceLeDiff]
  have hq : sclL (matL A n n) (fcP A B 0 K) = matL B n n ↔ PrP A B n K := by
   rw [sclL_mat, mat_eq]
   exact ⟨fun h => ⟨hbk, h⟩, fun h => h.2⟩
  cases t with
  | true => exact decide_eq_true (hq.2 (ht.1 rfl))
  | false => exact decide_eq_false fun h => by cases ht.2 (hq.1 h)
end
end Go.Proofs.YtkimbjcaoolfpaaGreatDoor
/- Proportional matrices: the reference's function. -/
namespace Go.Proofs.YtkimbjcaoolfpaaGreatDoor
open Go.RowKit
set_option maxRecDepth 1000000
section
variable {A B : Nat → Nat → Int} {n K : Nat} {a b : AV}
theorem Sch.skip {i j : Nat} {f : Int} (h : Sch A B n i j f) (h1 : A i j ≠ 0 → fcP A B i j = 0) : Sch A B n i (j + 1) f := by
 rcases h with ⟨h2, h3, h4⟩ | h
 ·refine .inl ⟨h2, h3, fun j' hj' ha => ?_⟩
  rcases Nat.lt_or_ge j' j with h | h
  ·exact h4 j' h ha
  ·have : j' = j := by omega
   subst this; exact h1 ha
 ·exact .inr h
theorem Sch.keep {i j i' j' : Nat} {f : Int} (h : Sch A B n i j f) (hf : f ≠ 0) : Sch A B n i' j' f := by
 rcases h with ⟨h, -⟩ | h
 ·exact absurd h hf
 ·exact .inr h
theorem Sch.next {i : Nat} {f : Int} (h : Sch A B n i n f) : Sch A B n (i + 1) 0 f := by
 rcases h with ⟨h2, h3, h4⟩ | h
 ·refine .inl ⟨h2, fun i' hi' j' hj' ha => ?_, fun j' h => absurd h (Nat.not_lt_zero _)⟩
  rcases Nat.lt_or_ge i' i with h | h
  ·exact h3 i' h j' hj' ha
  ·have : i' = i := by omega
   subst this; exact h4 j' hj' ha
 ·exact .inr h
theorem Sch.take {i j : Nat} (h : Sch A B n i j 0) (hi : i < n) (hj : j < n) (h1 : A i j ≠ 0) : Sch A B n i (j + 1) (B i j * pw (A i j) 55439 % 55441) := by
 by_cases h0 : fcP A B i j = 0
 ·have e : B i j * pw (A i j) 55439 % 55441 = 0 := h0
  rw [e]
  exact h.skip fun _ => h0
 ·exact .inr ⟨h0, i, j, hi, hj, h1, rfl⟩
theorem isL_immE {a : AV} {xs : List Int} (h : isL a xs) (h0 : 0 < xs.length) : ∃ c, a = .imm c := by
 rcases h with ⟨cs, rfl, -⟩ | ⟨rfl, -⟩
 ·exact ⟨_, rfl⟩
 ·exact absurd h0 (by simp)
theorem cPrS (ha : isLL a (matL A n n)) (hb : isLL b (matL B n n)) (hA : numM A) (hB : numM B) (h0 : 0 < n) (hn : n ≤ 16) (hK : K < n) (hk : A 0 K ≠ 0) {t : Bool} (ht : t = true ↔ PrP A B n K) : CallOK Tryz.prog 31 [a, b] (bo t) := by
 have hN : n ≤ maxN := Nat.le_trans hn (by decide)
 have la : (matL A n n).length = n := matL_len2 _ _ _
 have lb : (matL B n n).length = n := matL_len2 _ _ _
 have hra : ∀ i, i < n → isL (atA a i) (rws (A i) n) := fun i hi => by have := isLL_row ha (k := i) (by rw [la]; exact hi); rwa [show row (matL A n n) i = rws (A i) n from row_rws _ hi] at this
 have hrb : ∀ i, i < n → isL (atA b i) (rws (B i) n) := fun i hi => by have := isLL_row hb (k := i) (by rw [lb]; exact hi); rwa [show row (matL B n n) i = rws (B i) n from row_rws _ hi] at this
 refine call_of (fn := Tryz.f31) (code := bodyOf Tryz.f31) Tryz.func31 rfl (by kernel_rfl) (rfl) ?_
 intro sl hs
 have s0 : sl 0 = a := hs 0
 have s1 : sl 1 = b := hs 1
 dsimp only [Tryz.f31, bodyOf, Option.getD]
 simp (maxSteps := 10000000) (disch := first | assumption | omega) only [go_sem, ↓reduceIte, Nat.reduceEqDiff, reduceCtorEq, Nat.reduceAdd, Nat.reduceMul, Nat.reduceLeDiff, zc, Int.reduceToNat, s0, s1]
 refine WK_for (fun i st => st.sl 0 = a ∧ st.sl 1 = b ∧ st.sl 6 = i64 (i : Int) ∧ (∃ f, st.sl 5 = i64 f ∧ Sch A B n i 0 f)) n ?_ ?_ ?_
 ·simp only [↓za, ↓reduceIte, Nat.reduceEqDiff, zb, reduceCtorEq, rws_zero, s0, s1]
  exact ⟨rfl, 0, rfl, .inl ⟨rfl, fun i' h => absurd h (Nat.not_lt_zero _), fun j' h => absurd h (Nat.not_lt_zero _)⟩⟩
 ·rintro i sl ro gn hi ⟨s0, s1, s6, q⟩
  dsimp only at s0 s1 s6
  have hi' : (i : Int) < (n : Nat) := by omega
  have hia : i < (matL A n n).length := by rw [la]; exact hi
  have hib : i < (matL B n n).length := by rw [lb]; exact hi
  obtain ⟨ci, hci⟩ : ∃ c, atA a i = .imm c := isL_immE (hra i hi) (by rw [zfe]; exact h0)
  obtain ⟨cj, hcj⟩ : ∃ c, atA b i = .imm c := isL_immE (hrb i hi) (by rw [zfe]; exact h0)
  have hra' : isL (.imm ci) (rws (A i) n) := hci ▸ hra i hi
  have hrb' : isL (.imm cj) (rws (B i) n) := hcj ▸ hrb i hi
  simp (maxSteps := 10000000) (disch := first | assumption | omega) only [go_sem, ↓reduceIte, Nat.reduceEqDiff, reduceCtorEq, Nat.reduceAdd, Nat.reduceMul, Nat.reduceLeDiff, zc, Int.reduceToNat, s0, s1, s6, hi', hi, isLL_len ha, la]
  refine WK_for (fun j st => st.sl 0 = a ∧ st.sl 1 = b ∧ st.sl 6 = i64 (i : Int) ∧ st.sl 7 = i64 (j : Int) ∧ (∃ f, st.sl 5 = i64 f ∧ Sch A B n i j f)) n ?_ ?_ ?_
  ·simp only [↓za, ↓reduceIte, Nat.reduceEqDiff, zb, reduceCtorEq, rws_zero, s0, s1, s6, hi', hi]
   obtain ⟨f, s5, hq⟩ := q
   dsimp only at s5
   exact ⟨rfl, f, s5, hq⟩
  ·rintro j sl ro gn hj ⟨s0, s1, s6, s7, q⟩
   dsimp only at s0 s1 s6 s7
   have hj' : (j : Int) < (n : Nat) := by omega
   obtain ⟨f, s5, hq⟩ := q
   dsimp only at s5
   have hja : j < (rws (A i) n).length := by rw [zfe]; exact hj
   have hjb : j < (rws (B i) n).length := by rw [zfe]; exact hj
   have eA : atI (rws (A i) n) j = A i j := atI_rws _ hj
   have eB : atI (rws (B i) n) j = B i j := atI_rws _ hj
   by_cases hf : f = 0
   ·subst hf
    by_cases h1 : A i j = 0
    ·simp (maxSteps := 10000000) (disch := first | assumption | omega) only [go_sem, ↓reduceIte, Nat.reduceEqDiff, reduceCtorEq, Nat.reduceAdd, Nat.reduceMul, Nat.reduceLeDiff, zc, Int.reduceToNat, s0, s1, s6, s7, hj', hj, isLL_idx ha hia, hci, isL_len hra', zfe, isL_idx hra' hja, eA, s5, h1]
     refine ⟨i64c (by omega), 0, rfl, hq.skip fun h => absurd h1 h⟩
    ·have c5 := c59 (hA i j).1 (hA i j).2
     have hb1 := num_mul (hB i j) (num_pw (A i j) 55439)
     simp (maxSteps := 10000000) (disch := first | assumption | omega) only [go_sem, ↓reduceIte, Nat.reduceEqDiff, reduceCtorEq, Nat.reduceAdd, Nat.reduceMul, Nat.reduceLeDiff, zc, Int.reduceToNat, s0, s1, s6, s7, hj', hj, isLL_idx ha hia, hci, isL_len hra', zfe, isL_idx hra' hja, eA, s5, eq_false h1, isLL_idx hb hib, hcj, isL_idx hrb' hjb, eB]
     refine CLLD_pure _ c5 rfl rfl ?_
     simp (maxSteps := 10000000) (disch := first | assumption | omega) only [go_sem, ↓reduceIte, Nat.reduceEqDiff, reduceCtorEq, Nat.reduceAdd, Nat.reduceMul, Nat.reduceLeDiff, zc, Int.reduceToNat, s0, s1, s6, s7, hj', hj]
     refine FIN_of (by kernel_rfl) ?_
     simp (maxSteps := 10000000) (disch := first | assumption | omega) only [go_sem, ↓reduceIte, Nat.reduceEqDiff, reduceCtorEq, Nat.reduceAdd, Nat.reduceMul, Nat.reduceLeDiff, zc, Int.reduceToNat, s0, s1, s6, s7, hj', hj]
     refine ⟨i64c (by omega), _, rfl, ?_⟩
     rw [Int.tmod_eq_emod_of_nonneg hb1.1]
     exact hq.take hi hj h1
   ·simp (maxSteps := 10000000) (disch := first | assumption | omega) only [go_sem, ↓reduceIte, Nat.reduceEqDiff, reduceCtorEq, Nat.reduceAdd, Nat.reduceMul, Nat.reduceLeDiff, zc, Int.reduceToNat, s0, s1, s6, s7, hj', hj, isLL_idx ha hia, hci, isL_len hra', zfe, s5, eq_false hf]
    exact ⟨i64c (by omega), f, rfl, hq.keep hf⟩
  ·rintro sl ro gn ⟨s0, s1, s6, s7, q⟩
   dsimp only at s0 s1 s6 s7
   have hj' : ¬ ((n : Nat) : Int) < (n : Nat) := by omega
   obtain ⟨f, s5, hq⟩ := q
   dsimp only at s5
   simp (maxSteps := 10000000) (disch := first | assumption | omega) only [go_sem, ↓reduceIte, Nat.reduceEqDiff, reduceCtorEq, Nat.reduceAdd, Nat.reduceMul, Nat.reduceLeDiff, zc, Int.reduceToNat, s0, s1, s6, s7, hj', isLL_idx ha hia, hci, isL_len hra', zfe]
   exact ⟨i64c (by omega), f, s5, hq.next⟩
 ·rintro sl ro gn ⟨s0, s1, s6, q⟩
  dsimp only at s0 s1 s6
  have hi' : ¬ ((n : Nat) : Int) < (n : Nat) := by omega
  obtain ⟨f, s5, hq⟩ := q
  dsimp only at s5
  by_cases hf : f = 0
  ·subst hf
   simp (maxSteps := 10000000) (disch := first | assumption | omega) only [go_sem, ↓reduceIte, Nat.reduceEqDiff, reduceCtorEq, Nat.reduceAdd, Nat.reduceMul, Nat.reduceLeDiff, zc, Int.reduceToNat, s0, s1, s6, hi', isLL_len ha, la, s5]
   simp only [zr, zb, retR, resL, outT, outL, zes, zez, oneV, zcp, zed, zfi, Ro.dl, St.ev, zhk, ↓za, ↓reduceIte, Nat.reduceEqDiff, Nat.reduceAdd, Nat.reduceLeDiff]
   exact bool_false ht (hq.zero hA hB h0 hK hk)
  ·simp (maxSteps := 10000000) (disch := first | assumption | omega) only [go_sem, ↓reduceIte, Nat.reduceEqDiff, reduceCtorEq, Nat.reduceAdd, Nat.reduceMul, Nat.reduceLeDiff, zc, Int.reduceToNat, s0, s1, s6, hi', isLL_len ha, la, s5, eq_false hf]
   have nf := hq.num
   have hr := hq.rows hA h0 hK hk hf
   refine WK_for (fun i st => st.sl 0 = a ∧ st.sl 1 = b ∧ st.sl 5 = i64 f ∧ st.sl 8 = i64 (i : Int) ∧ (∀ i', i' < i → ∀ j, j < n → A i' j * f % 55441 = B i' j)) n ?_ ?_ ?_
   ·simp only [↓za, ↓reduceIte, Nat.reduceEqDiff, zb, reduceCtorEq, rws_zero, s0, s1, s6, hi']
    exact ⟨s5, rfl, fun i' h => absurd h (Nat.not_lt_zero _)⟩
   ·rintro i sl ro gn hi ⟨s0, s1, s5, s8, q⟩
    dsimp only at s0 s1 s5 s8
    have hi' : (i : Int) < (n : Nat) := by omega
    have hia : i < (matL A n n).length := by rw [la]; exact hi
    have hib : i < (matL B n n).length := by rw [lb]; exact hi
    obtain ⟨ci, hci⟩ : ∃ c, atA a i = .imm c := isL_immE (hra i hi) (by rw [zfe]; exact h0)
    obtain ⟨cj, hcj⟩ : ∃ c, atA b i = .imm c := isL_immE (hrb i hi) (by rw [zfe]; exact h0)
    have hra' : isL (.imm ci) (rws (A i) n) := hci ▸ hra i hi
    have hrb' : isL (.imm cj) (rws (B i) n) := hcj ▸ hrb i hi
    have hpc : pureL ci = true := by have := isL_pure hra'; simpa only [pureA] using this
    have cS := cScale hra' (by rw [zfe]; exact hN) (numL_rws _ _ fun j _ => hA i j) nf
    rw [zfe] at cS
    simp (maxSteps := 10000000) (disch := first | assumption | omega) only [go_sem, ↓reduceIte, Nat.reduceEqDiff, reduceCtorEq, Nat.reduceAdd, Nat.reduceMul, Nat.reduceLeDiff, zc, Int.reduceToNat, s0, s1, s5, s8, hi', hi, isLL_len ha, la, isLL_idx ha hia, hci, isLL_idx hb hib, hcj]
    refine CLLD_pure _ cS (by simp only [pureL, pureA, hpc, Bool.and_self, Bool.and_true]) rfl ?_
    simp (maxSteps := 10000000) (disch := first | assumption | omega) only [go_sem, ↓reduceIte, Nat.reduceEqDiff, reduceCtorEq, Nat.reduceAdd, Nat.reduceMul, Nat.reduceLeDiff, zc, Int.reduceToNat, s0, s1, s5, s8, hi', hi, impE_row, isLL_idx hb hib, hcj]
    have cQ := fun t (ht : t = true ↔ rws (fun k => atI (rws (A i) n) k * f % 55441) n = rws (B i) n) => cSameT (isL_imm (rws (fun k => atI (rws (A i) n) k * f % 55441) n)) hrb' (by rw [zfe]; exact hN) (by rw [zfe]; exact hN) ht
    have hrow : rws (fun k => atI (rws (A i) n) k * f % 55441) n = rws (B i) n ↔ ∀ j, j < n → A i j * f % 55441 = B i j := by
     constructor
     ·intro h j hj
      have e1 := congrArg (fun l => atI l j) h
      rw [atI_rws _ hj, atI_rws _ hj, atI_rws _ hj] at e1
      exact e1
     ·intro h
      exact rws_congr fun j hj => by rw [atI_rws _ hj]; exact h j hj
    by_cases hrr : ∀ j, j < n → A i j * f % 55441 = B i j
    ·have c := cQ true (by simp only [true_iff]; exact hrow.2 hrr)
     refine CLLD_q _ c (.cons (exq_refL (by simp only [↓za, ↓reduceIte, Nat.reduceEqDiff, zb, reduceCtorEq]; rw [rowL, rws_map]) (by rw [zfe]) (by decide)) (.cons (exq_L hrb' (by decide)) .nil)) rfl rfl ?_
     simp (maxSteps := 10000000) (disch := first | assumption | omega) only [go_sem, ↓reduceIte, Nat.reduceEqDiff, reduceCtorEq, Nat.reduceAdd, Nat.reduceMul, Nat.reduceLeDiff, zc, Int.reduceToNat, s0, s1, s5, s8, hi', hi]
     refine FIN_of (by kernel_rfl) ?_
     simp (maxSteps := 10000000) (disch := first | assumption | omega) only [go_sem, ↓reduceIte, Nat.reduceEqDiff, reduceCtorEq, Nat.reduceAdd, Nat.reduceMul, Nat.reduceLeDiff, zc, Int.reduceToNat, s0, s1, s5, s8, hi', hi]
     refine ⟨i64c (by omega), fun i' h => ?_⟩
     rcases Nat.lt_or_ge i' i with h' | h'
     ·exact q i' h'
     ·rw [show i' = i by omega]; exact hrr
    ·have c := cQ false (by simp only [Bool.false_eq_true, false_iff]; exact fun h => hrr (hrow.1 h))
     refine CLLD_q _ c (.cons (exq_refL (by simp only [↓za, ↓reduceIte, Nat.reduceEqDiff, zb, reduceCtorEq]; rw [rowL, rws_map]) (by rw [zfe]) (by decide)) (.cons (exq_L hrb' (by decide)) .nil)) rfl rfl ?_
     simp (maxSteps := 10000000) (disch := first | assumption | omega) only [go_sem, ↓reduceIte, Nat.reduceEqDiff, reduceCtorEq, Nat.reduceAdd, Nat.reduceMul, Nat.reduceLeDiff, zc, Int.reduceToNat, s0, s1, s5, s8, hi', hi]
     refine FIN_of (by kernel_rfl) ?_
     simp (maxSteps := 10000000) (disch := first | assumption | omega) only [go_sem, ↓reduceIte, Nat.reduceEqDiff, reduceCtorEq, Nat.reduceAdd, Nat.reduceMul, Nat.reduceLeDiff, zc, Int.reduceToNat, s0, s1, s5, s8, hi', hi]
     simp only [zr, zb, retR, resL, outT, outL, zes, zez, oneV, zcp, zed, zfi, Ro.dl, St.ev, zhk, ↓za, ↓reduceIte, Nat.reduceEqDiff, Nat.reduceAdd, Nat.reduceLeDiff]
     exact bool_false ht fun h => hrr (hr.2 h i hi)
   ·rintro sl ro gn ⟨s0, s1, s5, s8, q⟩
    dsimp only at s0 s1 s5 s8
    have hi' : ¬ ((n : Nat) : Int) < (n : Nat) := by omega
    simp (maxSteps := 10000000) (disch := first | assumption | omega) only [go_sem, ↓reduceIte, Nat.reduceEqDiff, reduceCtorEq, Nat.reduceAdd, Nat.reduceMul, Nat.reduceLeDiff, zc, Int.reduceToNat, s0, s1, s5, s8, hi', isLL_len ha, la]
    simp only [zr, zb, retR, resL, outT, outL, zes, zez, oneV, zcp, zed, zfi, Ro.dl, St.ev, zhk, ↓za, ↓reduceIte, Nat.reduceEqDiff, Nat.reduceAdd, Nat.reduceLeDiff]
    exact (ht.2 (hr.1 q)).symm
end
end Go.Proofs.YtkimbjcaoolfpaaGreatDoor
/- AreProportional: the contracts and the law. -/
namespace Go.Proofs.YtkimbjcaoolfpaaGreatDoor
open Go.RowKit
set_option maxRecDepth 1000000
theorem exq_str2 {n : Nat} {ro : Ro} {t g : Nat} {u v : ByteArray} (h : ro t g = some (.row [stA u, stA v])) (hn : 2 ≤ n) : exq n ro (.ref t g [] 0 2) (immS [u, v]) := by
 refine ⟨fun j hj => ?_, fun hp => by simp [pureA] at hp⟩
 obtain ⟨j, rfl⟩ : ∃ i, j = i + 2 := ⟨j - 2, by omega⟩
 show (match ro.cells t g [] with | some cs => AV.imm (((cs.drop 0).take 2).map (ex ro (j + 1))) | none => .dead) = _
 rw [zef, h]
 rfl
section
variable {a b : AV} {S : List (List Int)} {T : List Int} {u v : ByteArray}
theorem cdW_02 (h : cdW S T [u, v] = 0) : DataP S T ∧ WordP u ∧ WordP v := by
 unfold cdW at h
 by_cases hd : DataP S T
 ·rw [if_pos hd] at h
  by_cases hw : ∀ w, w ∈ [u, v] → WordP w
  ·exact ⟨hd, hw u (by simp), hw v (by simp)⟩
  ·rw [if_neg hw] at h; cases h
 ·rw [if_neg hd] at h; cases h
theorem pr_ex (D : Dat S T) (hu : WordP u) : ∃ t : Bool, CallOK Tryz.prog 31 [immLL (matL (wdD S T u) T.length T.length), immLL (matL (wdD S T v) T.length T.length)] (bo t) ∧ CallOK Tryz.prog 33 [immLL (matL (wdD S T u) T.length T.length), immLL (matL (wdD S T v) T.length T.length)] (bo t) := by
 classical
 obtain ⟨K, ⟨hK, hk⟩, hm⟩ := exists_least (D.wd0 hu)
 have hmin : ∀ j, j < K → wdD S T u 0 j = 0 := fun j hj => Classical.byContradiction fun h => by have := hm j ⟨by omega, h⟩; omega
 refine ⟨decide (PrP (wdD S T u) (wdD S T v) T.length K), ?_, ?_⟩
 ·exact cPrS (isLL_mat _ _ _) (isLL_mat _ _ _) num_wdD num_wdD D.shp.pos D.m16 hK hk (by simp)
 ·exact cPrI (isLL_mat _ _ _) (isLL_mat _ _ _) num_wdD num_wdD D.shp.pos D.m16 hK hk hmin (by simp)
theorem cAPS (ha : isLL a S) (hb : isL b T) (hS : S.length ≤ maxN) (hT : T.length ≤ maxN) (hR : ∀ i, i < S.length → (row S i).length ≤ maxN) (hu : u.size < 2^63) (hv : v.size < 2^63) (h0 : cdW S T [u, v] = 0) {t : Bool} (cp : CallOK Tryz.prog 31 [immLL (matL (wdD S T u) T.length T.length), immLL (matL (wdD S T v) T.length T.length)] (bo t)) : CallOK Tryz.prog 12 [.agg [a, b], stA u, stA v] (.tup [bo t, i64 0]) := by
 have cc := cCodeS (ws := [u, v]) ha hb hS hT hR (Nat.le_of_ble_eq_true rfl) (fun w hw => by simp only [List.mem_cons, List.not_mem_nil, or_false] at hw; rcases hw with rfl | rfl; exact hu; exact hv)
 obtain ⟨hD, hWu, hWv⟩ := cdW_02 h0
 have cM := cWMS0 ha hb hD.dat hWu
 have cN := cWMS0 ha hb hD.dat hWv
 rw [h0] at cc
 refine call_of (fn := Tryz.f12) (code := bodyOf Tryz.f12) Tryz.func12 rfl (by kernel_rfl) (rfl) ?_
 intro sl hs
 have s0 : sl 0 = .agg [a, b] := hs 0
 have s1 : sl 1 = stA u := hs 1
 have s2 : sl 2 = stA v := hs 2
 dsimp only [Tryz.f12, bodyOf, Option.getD]
 simp (maxSteps := 10000000) (disch := first | assumption | omega) only [go_sem, ↓reduceIte, Nat.reduceEqDiff, reduceCtorEq, Nat.reduceAdd, Nat.reduceMul, Nat.reduceLeDiff, zc, Int.reduceToNat, s0, s1, s2, tiSS, ti9]
 refine CLL_q _ cc (.cons (exq_agg (.cons (exq_LL ha (by decide)) (.cons (exq_L hb (by decide)) .nil))) (.cons (exq_str2 Ur (by decide)) .nil)) rfl rfl rfl ?_
 simp (maxSteps := 10000000) (disch := first | assumption | omega) only [go_sem, ↓reduceIte, Nat.reduceEqDiff, reduceCtorEq, Nat.reduceAdd, Nat.reduceMul, Nat.reduceLeDiff, zc, Int.reduceToNat, s0, s1, s2, tiSS, ti9]
 refine CLLD_pure _ cM PUt rfl ?_
 simp (maxSteps := 10000000) (disch := first | assumption | omega) only [go_sem, ↓reduceIte, Nat.reduceEqDiff, reduceCtorEq, Nat.reduceAdd, Nat.reduceMul, Nat.reduceLeDiff, zc, Int.reduceToNat, s0, s1, s2, impE_row]
 refine CLLD_pure _ cN PUt rfl ?_
 simp (maxSteps := 10000000) (disch := first | assumption | omega) only [go_sem, ↓reduceIte, Nat.reduceEqDiff, reduceCtorEq, Nat.reduceAdd, Nat.reduceMul, Nat.reduceLeDiff, zc, Int.reduceToNat, s0, s1, s2, impE_row]
 refine CLLD_q _ cp (.cons (exq_mat Ur (by decide)) (.cons (exq_mat Ur (by decide)) .nil)) rfl rfl ?_
 simp (maxSteps := 10000000) (disch := first | assumption | omega) only [go_sem, ↓reduceIte, Nat.reduceEqDiff, reduceCtorEq, Nat.reduceAdd, Nat.reduceMul, Nat.reduceLeDiff, zc, Int.reduceToNat, s0, s1, s2]
 refine FIN_of (by kernel_rfl) ?_
 simp (maxSteps := 10000000) (disch := first | assumption | omega) only [go_sem, ↓reduceIte, Nat.reduceEqDiff, reduceCtorEq, Nat.reduceAdd, Nat.reduceMul, Nat.reduceLeDiff, zc, Int.reduceToNat, s0, s1, s2]
 simp only [zr, zb, retR, resL, outT, outL, zes, zez, oneV, zcp, zed, zfi, Ro.dl, St.ev, zhk, ↓za, ↓reduceIte, Nat.reduceEqDiff, Nat.reduceAdd, Nat.reduceLeDiff]
theorem cAPS1 (ha : isLL a S) (hb : isL b T) (hS : S.length ≤ maxN) (hT : T.length ≤ maxN) (hR : ∀ i, i < S.length → (row S i).length ≤ maxN) (hu : u.size < 2^63) (hv : v.size < 2^63) (h0 : cdW S T [u, v] ≠ 0) : CallOK Tryz.prog 12 [.agg [a, b], stA u, stA v] (.tup [bo false, i64 (cdW S T [u, v])]) := by
 have cc := cCodeS (ws := [u, v]) ha hb hS hT hR (Nat.le_of_ble_eq_true rfl) (fun w hw => by simp only [List.mem_cons, List.not_mem_nil, or_false] at hw; rcases hw with rfl | rfl; exact hu; exact hv)
 refine call_of (fn := Tryz.f12) (code := bodyOf Tryz.f12) Tryz.func12 rfl (by kernel_rfl) (rfl) ?_
 intro sl hs
 have s0 : sl 0 = .agg [a, b] := hs 0
 have s1 : sl 1 = stA u := hs 1
 have s2 : sl 2 = stA v := hs 2
 dsimp only [Tryz.f12, bodyOf, Option.getD]
 simp (maxSteps := 10000000) (disch := first | assumption | omega) only [go_sem, ↓reduceIte, Nat.reduceEqDiff, reduceCtorEq, Nat.reduceAdd, Nat.reduceMul, Nat.reduceLeDiff, zc, Int.reduceToNat, s0, s1, s2, tiSS, ti9]
 refine CLL_q _ cc (.cons (exq_agg (.cons (exq_LL ha (by decide)) (.cons (exq_L hb (by decide)) .nil))) (.cons (exq_str2 Ur (by decide)) .nil)) rfl rfl rfl ?_
 simp (maxSteps := 10000000) (disch := first | assumption | omega) only [go_sem, ↓reduceIte, Nat.reduceEqDiff, reduceCtorEq, Nat.reduceAdd, Nat.reduceMul, Nat.reduceLeDiff, zc, Int.reduceToNat, s0, s1, s2, tiSS, ti9, eq_false h0]
 simp only [zr, zb, retR, resL, outT, outL, zes, zez, oneV, zcp, zed, zfi, Ro.dl, St.ev, zhk, ↓za, ↓reduceIte, Nat.reduceEqDiff, Nat.reduceAdd, Nat.reduceLeDiff]
theorem cAPI (ha : isLL a S) (hb : isL b T) (hS : S.length ≤ maxN) (hT : T.length ≤ maxN) (hR : ∀ i, i < S.length → (row S i).length ≤ maxN) (hu : u.size < 2^63) (hv : v.size < 2^63) (h0 : cdW S T [u, v] = 0) {t : Bool} (cp : CallOK Tryz.prog 33 [immLL (matL (wdD S T u) T.length T.length), immLL (matL (wdD S T v) T.length T.length)] (bo t)) : CallOK Tryz.prog 13 [.agg [a, b], stA u, stA v] (.tup [bo t, i64 0]) := by
 have cc := cCodeI (ws := [u, v]) ha hb hS hT hR (Nat.le_of_ble_eq_true rfl) (fun w hw => by simp only [List.mem_cons, List.not_mem_nil, or_false] at hw; rcases hw with rfl | rfl; exact hu; exact hv)
 obtain ⟨hD, hWu, hWv⟩ := cdW_02 h0
 have cM := cWMI0 ha hb hD.dat hWu
 have cN := cWMI0 ha hb hD.dat hWv
 rw [h0] at cc
 refine call_of (fn := Tryz.f13) (code := bodyOf Tryz.f13) Tryz.func13 rfl (by kernel_rfl) (rfl) ?_
 intro sl hs
 have s0 : sl 0 = .agg [a, b] := hs 0
 have s1 : sl 1 = stA u := hs 1
 have s2 : sl 2 = stA v := hs 2
 dsimp only [Tryz.f13, bodyOf, Option.getD]
 simp (maxSteps := 10000000) (disch := first | assumption | omega) only [go_sem, ↓reduceIte, Nat.reduceEqDiff, reduceCtorEq, Nat.reduceAdd, Nat.reduceMul, Nat.reduceLeDiff, zc, Int.reduceToNat, s0, s1, s2, tiSS, ti9]
 refine CLL_q _ cc (.cons (exq_agg (.cons (exq_LL ha (by decide)) (.cons (exq_L hb (by decide)) .nil))) (.cons (exq_str2 Ur (by decide)) .nil)) rfl rfl rfl ?_
 simp (maxSteps := 10000000) (disch := first | assumption | omega) only [go_sem, ↓reduceIte, Nat.reduceEqDiff, reduceCtorEq, Nat.reduceAdd, Nat.reduceMul, Nat.reduceLeDiff, zc, Int.reduceToNat, s0, s1, s2, tiSS, ti9]
 refine CLLD_pure _ cM PUt rfl ?_
 simp (maxSteps := 10000000) (disch := first | assumption | omega) only [go_sem, ↓reduceIte, Nat.reduceEqDiff, reduceCtorEq, Nat.reduceAdd, Nat.reduceMul, Nat.reduceLeDiff, zc, Int.reduceToNat, s0, s1, s2, impE_row]
 refine CLLD_pure _ cN PUt rfl ?_
 simp (maxSteps := 10000000) (disch := first | assumption | omega) only [go_sem, ↓reduceIte, Nat.reduceEqDiff, reduceCtorEq, Nat.reduceAdd, Nat.reduceMul, Nat.reduceLeDiff, zc, Int.reduceToNat, s0, s1, s2, impE_row]
 refine CLLD_q _ cp (.cons (exq_mat Ur (by decide)) (.cons (exq_mat Ur (by decide)) .nil)) rfl rfl ?_
 simp (maxSteps := 10000000) (disch := first | assumption | omega) only [go_sem, ↓reduceIte, Nat.reduceEqDiff, reduceCtorEq, Nat.reduceAdd, Nat.reduceMul, Nat.reduceLeDiff, zc, Int.reduceToNat, s0, s1, s2]
 refine FIN_of (by kernel_rfl) ?_
 simp (maxSteps := 10000000) (disch := first | assumption | omega) only [go_sem, ↓reduceIte, Nat.reduceEqDiff, reduceCtorEq, Nat.reduceAdd, Nat.reduceMul, Nat.reduceLeDiff, zc, Int.reduceToNat, s0, s1, s2]
 simp only [zr, zb, retR, resL, outT, outL, zes, zez, oneV, zcp, zed, zfi, Ro.dl, St.ev, zhk, ↓za, ↓reduceIte, Nat.reduceEqDiff, Nat.reduceAdd, Nat.reduceLeDiff]
theorem cAPI1 (ha : isLL a S) (hb : isL b T) (hS : S.length ≤ maxN) (hT : T.length ≤ maxN) (hR : ∀ i, i < S.length → (row S i).length ≤ maxN) (hu : u.size < 2^63) (hv : v.size < 2^63) (h0 : cdW S T [u, v] ≠ 0) : CallOK Tryz.prog 13 [.agg [a, b], stA u, stA v] (.tup [bo false, i64 (cdW S T [u, v])]) := by
 have cc := cCodeI (ws := [u, v]) ha hb hS hT hR (Nat.le_of_ble_eq_true rfl) (fun w hw => by simp only [List.mem_cons, List.not_mem_nil, or_false] at hw; rcases hw with rfl | rfl; exact hu; exact hv)
 refine call_of (fn := Tryz.f13) (code := bodyOf Tryz.f13) Tryz.func13 rfl (by kernel_rfl) (rfl) ?_
 intro sl hs
 have s0 : sl 0 = .agg [a, b] := hs 0
 have s1 : sl 1 = stA u := hs 1
 have s2 : sl 2 = stA v := hs 2
 dsimp only [Tryz.f13, bodyOf, Option.getD]
 simp (maxSteps := 10000000) (disch := first | assumption | omega) only [go_sem, ↓reduceIte, Nat.reduceEqDiff, reduceCtorEq, Nat.reduceAdd, Nat.reduceMul, Nat.reduceLeDiff, zc, Int.reduceToNat, s0, s1, s2, tiSS, ti9]
 refine CLL_q _ cc (.cons (exq_agg (.cons (exq_LL ha (by decide)) (.cons (exq_L hb (by decide)) .nil))) (.cons (exq_str2 Ur (by decide)) .nil)) rfl rfl rfl ?_
 simp (maxSteps := 10000000) (disch := first | assumption | omega) only [go_sem, ↓reduceIte, Nat.reduceEqDiff, reduceCtorEq, Nat.reduceAdd, Nat.reduceMul, Nat.reduceLeDiff, zc, Int.reduceToNat, s0, s1, s2, tiSS, ti9, eq_false h0]
 simp only [zr, zb, retR, resL, outT, outL, zes, zez, oneV, zcp, zed, zfi, Ro.dl, St.ev, zhk, ↓za, ↓reduceIte, Nat.reduceEqDiff, Nat.reduceAdd, Nat.reduceLeDiff]
end
theorem cLAP {a b : AV} {S : List (List Int)} {T : List Int} {u v : ByteArray} (ha : isLLw a S) (hb : isLw b T) (l1 : S.length < 2^63) (l2 : ∀ i, (row S i).length < 2^63) (l3 : T.length < 2^63) (lu : u.size < 2^63) (lv : v.size < 2^63) : CallOK Tryz.prog 4 [.agg [a, b], stA u, stA v] (bo true) := by
 have cZ := c25 (left := 1048576) ha hb l1 (fun i _ => l2 i) l3 (by decide) (by decide)
 refine call_of (fn := Tryz.f4) (code := bodyOf Tryz.f4) Tryz.func4 rfl (by kernel_rfl) (rfl) ?_
 intro sl hs
 have s0 : sl 0 = .agg [a, b] := hs 0
 have s1 : sl 1 = stA u := hs 1
 have s2 : sl 2 = stA v := hs 2
 by_cases hlen : (1048576 : Int) < (u.size : Int)
 ·dsimp only [Tryz.f4, bodyOf, Option.getD]
  simp (maxSteps := 10000000) (disch := first | assumption | omega) only [go_sem, ↓reduceIte, Nat.reduceEqDiff, reduceCtorEq, Nat.reduceAdd, Nat.reduceMul, Nat.reduceLeDiff, zc, Int.reduceToNat, s0, s1, s2, ti9, kLen_str, eq_true hlen]
  simp only [zr, zb, retR, resL, outT, outL, zes, zez, oneV, zcp, zed, zfi, Ro.dl, St.ev, zhk, ↓za, ↓reduceIte, Nat.reduceEqDiff, Nat.reduceAdd, Nat.reduceLeDiff]
 by_cases hlen2 : (1048576 : Int) < (v.size : Int)
 ·dsimp only [Tryz.f4, bodyOf, Option.getD]
  simp (maxSteps := 10000000) (disch := first | assumption | omega) only [go_sem, ↓reduceIte, Nat.reduceEqDiff, reduceCtorEq, Nat.reduceAdd, Nat.reduceMul, Nat.reduceLeDiff, zc, Int.reduceToNat, s0, s1, s2, ti9, kLen_str, eq_false hlen, eq_true hlen2]
  simp only [zr, zb, retR, resL, outT, outL, zes, zez, oneV, zcp, zed, zfi, Ro.dl, St.ev, zhk, ↓za, ↓reduceIte, Nat.reduceEqDiff, Nat.reduceAdd, Nat.reduceLeDiff]
 by_cases hz : szD S T 1048576 < 0
 ·dsimp only [Tryz.f4, bodyOf, Option.getD]
  simp (maxSteps := 10000000) (disch := first | assumption | omega) only [go_sem, ↓reduceIte, Nat.reduceEqDiff, reduceCtorEq, Nat.reduceAdd, Nat.reduceMul, Nat.reduceLeDiff, zc, Int.reduceToNat, s0, s1, s2, ti9, kLen_str, eq_false hlen, eq_false hlen2]
  refine CLL_pure _ cZ (by simp (disch := assumption) only [pureL, pureA, isLw_pure, isLLw_pure, pureL_map, Bool.and_self, Bool.and_true]) rfl rfl ?_
  simp (maxSteps := 10000000) (disch := first | assumption | omega) only [go_sem, ↓reduceIte, Nat.reduceEqDiff, reduceCtorEq, Nat.reduceAdd, Nat.reduceMul, Nat.reduceLeDiff, zc, Int.reduceToNat, s0, s1, s2, hz]
  simp only [zr, zb, retR, resL, outT, outL, zes, zez, oneV, zcp, zed, zfi, Ro.dl, St.ev, zhk, ↓za, ↓reduceIte, Nat.reduceEqDiff, Nat.reduceAdd, Nat.reduceLeDiff]
 ·obtain ⟨z1, z2, z3⟩ := szD_ok hz
  have hS := maxN_of z1
  have hT := maxN_of z2
  have hR : ∀ i, i < S.length → (row S i).length ≤ maxN := fun i hi => maxN_of (z3 i hi)
  have cT := c27 ha hb hS hT hR
  have cE := c12 (isLL_imm S) (isLL_imm S) (isL_imm T) (isL_imm T) hS (row_max hR) hT
  rw [decide_eq_true ⟨rfl, rfl⟩] at cE
  obtain ⟨x, y, hL, hI⟩ : ∃ (x : Bool) (y : Int), CallOK Tryz.prog 12 [.agg [immLL S, immL T], stA u, stA v] (.tup [bo x, i64 y]) ∧ CallOK Tryz.prog 13 [.agg [immLL S, immL T], stA u, stA v] (.tup [bo x, i64 y]) := by
   by_cases h0 : cdW S T [u, v] = 0
   ·obtain ⟨t, p1, p2⟩ := pr_ex (v := v) (cdW_02 h0).1.dat (cdW_02 h0).2.1
    exact ⟨_, _, cAPS (isLL_imm S) (isL_imm T) hS hT hR lu lv h0 p1, cAPI (isLL_imm S) (isL_imm T) hS hT hR lu lv h0 p2⟩
   ·exact ⟨_, _, cAPS1 (isLL_imm S) (isL_imm T) hS hT hR lu lv h0, cAPI1 (isLL_imm S) (isL_imm T) hS hT hR lu lv h0⟩
  dsimp only [Tryz.f4, bodyOf, Option.getD]
  simp (maxSteps := 10000000) (disch := first | assumption | omega) only [go_sem, ↓reduceIte, Nat.reduceEqDiff, reduceCtorEq, Nat.reduceAdd, Nat.reduceMul, Nat.reduceLeDiff, zc, Int.reduceToNat, s0, s1, s2, ti9, kLen_str, eq_false hlen, eq_false hlen2]
  refine CLL_pure _ cZ (by simp (disch := assumption) only [pureL, pureA, isLw_pure, isLLw_pure, pureL_map, Bool.and_self, Bool.and_true]) rfl rfl ?_
  simp (maxSteps := 10000000) (disch := first | assumption | omega) only [go_sem, ↓reduceIte, Nat.reduceEqDiff, reduceCtorEq, Nat.reduceAdd, Nat.reduceMul, Nat.reduceLeDiff, zc, Int.reduceToNat, s0, s1, s2, hz]
  refine CLL_pure _ cT (by simp (disch := assumption) only [pureL, pureA, isLw_pure, isLLw_pure, pureL_map, Bool.and_self, Bool.and_true]) rfl rfl ?_
  simp (maxSteps := 10000000) (disch := first | assumption | omega) only [go_sem, ↓reduceIte, Nat.reduceEqDiff, reduceCtorEq, Nat.reduceAdd, Nat.reduceMul, Nat.reduceLeDiff, zc, Int.reduceToNat, s0, s1, s2]
  refine CLL_q _ hL (by repeat' first | exact exqL.nil | refine exqL.cons ?_ ?_ | exact exq_sc _ _ _ (by decide) | exact exq_L (by first | assumption | exact isL_imm _) (by decide) | exact exq_LL (by assumption) (by decide) | exact exq_LLL (by assumption) (by decide) | exact exq_refL (by first | assumption | (simp only [↓za, ↓reduceIte, Nat.reduceEqDiff, zb, reduceCtorEq]; done) | (simp only [↓za, ↓reduceIte, Nat.reduceEqDiff, zb, reduceCtorEq]; first | rfl | assumption)) (by first | rfl | (simp only [zfe, List.length_map, tms_len]; done)) (by decide) | exact exq_refLL (by first | assumption | (simp only [↓za, ↓reduceIte, Nat.reduceEqDiff, zb, reduceCtorEq]; done) | (simp only [↓za, ↓reduceIte, Nat.reduceEqDiff, zb, reduceCtorEq]; first | rfl | assumption)) (by first | rfl | (simp only [zfe, List.length_map, tms_len]; done)) (by decide) | exact exq_cube (by first | assumption | (simp only [↓za, ↓reduceIte, Nat.reduceEqDiff, zb, reduceCtorEq]; done) | (simp only [↓za, ↓reduceIte, Nat.reduceEqDiff, zb, reduceCtorEq]; first | rfl | assumption)) (by decide) | exact exq_mat (by first | assumption | (simp only [↓za, ↓reduceIte, Nat.reduceEqDiff, zb, reduceCtorEq]; done) | (simp only [↓za, ↓reduceIte, Nat.reduceEqDiff, zb, reduceCtorEq]; first | rfl | assumption)) (by decide) | refine exq_agg ?_) rfl rfl rfl ?_
  simp (maxSteps := 10000000) (disch := first | assumption | omega) only [go_sem, ↓reduceIte, Nat.reduceEqDiff, reduceCtorEq, Nat.reduceAdd, Nat.reduceMul, Nat.reduceLeDiff, zc, Int.reduceToNat, s0, s1, s2]
  refine CLL_pure _ cT (by simp (disch := assumption) only [pureL, pureA, isLw_pure, isLLw_pure, pureL_map, Bool.and_self, Bool.and_true]) rfl rfl ?_
  simp (maxSteps := 10000000) (disch := first | assumption | omega) only [go_sem, ↓reduceIte, Nat.reduceEqDiff, reduceCtorEq, Nat.reduceAdd, Nat.reduceMul, Nat.reduceLeDiff, zc, Int.reduceToNat, s0, s1, s2]
  refine CLL_q _ hI (by repeat' first | exact exqL.nil | refine exqL.cons ?_ ?_ | exact exq_sc _ _ _ (by decide) | exact exq_L (by first | assumption | exact isL_imm _) (by decide) | exact exq_LL (by assumption) (by decide) | exact exq_LLL (by assumption) (by decide) | exact exq_refL (by first | assumption | (simp only [↓za, ↓reduceIte, Nat.reduceEqDiff, zb, reduceCtorEq]; done) | (simp only [↓za, ↓reduceIte, Nat.reduceEqDiff, zb, reduceCtorEq]; first | rfl | assumption)) (by first | rfl | (simp only [zfe, List.length_map, tms_len]; done)) (by decide) | exact exq_refLL (by first | assumption | (simp only [↓za, ↓reduceIte, Nat.reduceEqDiff, zb, reduceCtorEq]; done) | (simp only [↓za, ↓reduceIte, Nat.reduceEqDiff, zb, reduceCtorEq]; first | rfl | assumption)) (by first | rfl | (simp only [zfe, List.length_map, tms_len]; done)) (by decide) | exact exq_cube (by first | assumption | (simp only [↓za, ↓reduceIte, Nat.reduceEqDiff, zb, reduceCtorEq]; done) | (simp only [↓za, ↓reduceIte, Nat.reduceEqDiff, zb, reduceCtorEq]; first | rfl | assumption)) (by decide) | exact exq_mat (by first | assumption | (simp only [↓za, ↓reduceIte, Nat.reduceEqDiff, zb, reduceCtorEq]; done) | (simp only [↓za, ↓reduceIte, Nat.reduceEqDiff, zb, reduceCtorEq]; first | rfl | assumption)) (by decide) | refine exq_agg ?_) rfl rfl rfl ?_
  simp (maxSteps := 10000000) (disch := first | assumption | omega) only [go_sem, ↓reduceIte, Nat.reduceEqDiff, reduceCtorEq, Nat.reduceAdd, Nat.reduceMul, Nat.reduceLeDiff, zc, Int.reduceToNat, s0, s1, s2, beq_self_eq_true, Bool.not_true, Bool.not_false]
  refine CLLD_pure _ cT (by simp (disch := assumption) only [pureL, pureA, isLw_pure, isLLw_pure, pureL_map, Bool.and_self, Bool.and_true]) rfl ?_
  simp (maxSteps := 10000000) (disch := first | assumption | omega) only [go_sem, ↓reduceIte, Nat.reduceEqDiff, reduceCtorEq, Nat.reduceAdd, Nat.reduceMul, Nat.reduceLeDiff, zc, Int.reduceToNat, s0, s1, s2]
  refine CLLD_q _ cE (by repeat' first | exact exqL.nil | refine exqL.cons ?_ ?_ | exact exq_sc _ _ _ (by decide) | exact exq_L (by first | assumption | exact isL_imm _) (by decide) | exact exq_LL (by assumption) (by decide) | exact exq_LLL (by assumption) (by decide) | exact exq_refL (by first | assumption | (simp only [↓za, ↓reduceIte, Nat.reduceEqDiff, zb, reduceCtorEq]; done) | (simp only [↓za, ↓reduceIte, Nat.reduceEqDiff, zb, reduceCtorEq]; first | rfl | assumption)) (by first | rfl | (simp only [zfe, List.length_map, tms_len]; done)) (by decide) | exact exq_refLL (by first | assumption | (simp only [↓za, ↓reduceIte, Nat.reduceEqDiff, zb, reduceCtorEq]; done) | (simp only [↓za, ↓reduceIte, Nat.reduceEqDiff, zb, reduceCtorEq]; first | rfl | assumption)) (by first | rfl | (simp only [zfe, List.length_map, tms_len]; done)) (by decide) | exact exq_cube (by first | assumption | (simp only [↓za, ↓reduceIte, Nat.reduceEqDiff, zb, reduceCtorEq]; done) | (simp only [↓za, ↓reduceIte, Nat.reduceEqDiff, zb, reduceCtorEq]; first | rfl | assumption)) (by decide) | exact exq_mat (by first | assumption | (simp only [↓za, ↓reduceIte, Nat.reduceEqDiff, zb, reduceCtorEq]; done) | (simp only [↓za, ↓reduceIte, Nat.reduceEqDiff, zb, reduceCtorEq]; first | rfl | assumption)) (by decide) | refine exq_agg ?_) rfl rfl ?_
  simp (maxSteps := 10000000) (disch := first | assumption | omega) only [go_sem, ↓reduceIte, Nat.reduceEqDiff, reduceCtorEq, Nat.reduceAdd, Nat.reduceMul, Nat.reduceLeDiff, zc, Int.reduceToNat, s0, s1, s2]
  refine FIN_of (by kernel_rfl) ?_
  simp (maxSteps := 10000000) (disch := first | assumption | omega) only [go_sem, ↓reduceIte, Nat.reduceEqDiff, reduceCtorEq, Nat.reduceAdd, Nat.reduceMul, Nat.reduceLeDiff, zc, Int.reduceToNat, s0, s1, s2]
  simp only [zr, zb, retR, resL, outT, outL, zes, zez, oneV, zcp, zed, zfi, Ro.dl, St.ev, zhk, ↓za, ↓reduceIte, Nat.reduceEqDiff, Nat.reduceAdd, Nat.reduceLeDiff]
end Go.Proofs.YtkimbjcaoolfpaaGreatDoor
