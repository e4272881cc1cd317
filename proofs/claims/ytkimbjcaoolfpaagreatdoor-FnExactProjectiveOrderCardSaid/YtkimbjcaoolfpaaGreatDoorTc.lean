/- Texts joined: T8 T9 TA TB. -/
import Derived.MapKept
import Derived.Test.YtkimbjcaoolfpaaGreatDoorTb
set_option linter.all false
/- Words, and their codes. -/
namespace Go.Proofs.YtkimbjcaoolfpaaGreatDoor
open Go.RowKit
set_option maxRecDepth 1000000
theorem ti9 : ti0 9 = some ⟨1, false, [Value.string ⟨#[]⟩], none, [], none, true, false⟩ := by kernel_rfl
theorem ti5w : ti0 5 = some ⟨1, false, [Value.int .u8 0], none, [], some .u8, false, false⟩ := by kernel_rfl
def LetP (b : UInt8) : Prop := b.toNat = 115 ∨ b.toNat = 116 ∨ b.toNat = 83 ∨ b.toNat = 84
instance (b : UInt8) : Decidable (LetP b) := by unfold LetP; infer_instance
def WordP (s : ByteArray) : Prop := s.size ≤ 60 ∧ ∀ b, b ∈ s.data.toList → LetP b
abbrev stA (s : ByteArray) : AV := .sc (.string s)
def byAt (s : ByteArray) (k : Nat) : UInt8 := s.data.toList.getD k 0
def kSt : Option TI → AV → AV → Option Eff
 | some inf, x, ix => match inf.str, x, ix with
  | true, .sc (.string s), .sc (.int _ i) => if 0 ≤ i then (match s[i.toNat]? with
    | some u => some ⟨.sc (.int .u8 u.toNat), none, [], []⟩
    | none => none) else none
  | _, _, _ => none
 | none, _, _ => none
theorem opK_index {ti : Nat → Option TI} {b : Nat} {ro : Ro} {gn : Nat → Nat} {ev : Operand → AV} (t : TypeId) (x ix : Operand) : opK ti b ro gn ev (.index t x ix) = kSt (ti t) (ev x) (ev ix) := by
 show opC ti b ro gn ev (.index t x ix) = _
 simp only [opC, kSt]
 cases ti t <;> rfl
theorem kSt_at {s : ByteArray} {k : Nat} (h : k < s.size) {a1 : Nat} {a2 : Bool} {a3 : List Value} {a4 : Option Nat} {a5 : List (Nat × Nat)} {a6 : Option IntKind} {a8 : Bool} : kSt (some ⟨a1, a2, a3, a4, a5, a6, true, a8⟩) (stA s) (i64 (k : Int)) = some ⟨.sc (.int .u8 (byAt s k).toNat), none, [], []⟩ := by
 have e : s[k]? = some (byAt s k) := by
  have h' : k < s.data.toList.length := by rw [Array.length_toList]; exact h
  have e1 : s[k]? = some s[k] := getElem?_pos s k h
  rw [e1]
  congr 1
  unfold byAt
  rw [List.getD_eq_getElem?_getD, List.getElem?_eq_getElem h']
  rfl
 simp only [kSt, Int.natCast_nonneg, if_true, Int.toNat_natCast, e]
theorem kLen_str {s : ByteArray} {ro : Ro} {a1 : Nat} {a2 : Bool} {a3 : List Value} {a4 : Option Nat} {a5 : List (Nat × Nat)} {a6 : Option IntKind} {a8 : Bool} : kLen1 (some ⟨a1, a2, a3, a4, a5, a6, true, a8⟩) ro (stA s) = some ⟨i64 (s.size : Nat), none, [], []⟩ := nr _
theorem kBin_u8 {a b : Int} {ro : Ro} {inf : TI} : kBin0 (some inf) ro .eql (.sc (.int .u8 a)) (.sc (.int .u8 b)) = some ⟨bo (decide (a = b)), none, [], []⟩ := by
 unfold kBin0
 simp only [zee, if_true, binA]
 have : semPure (binOp .eql 0 (.int .u8 a) (.int .u8 b)) = some (.bool (decide (a = b))) := by
  simp only [binOp, ne_eq, not_true_eq_false, if_false, Op.intArith, Op.intCmp]
  first | rfl | (simp [semPure, pure]; done)
 rw [this]
theorem byAt_mem {s : ByteArray} {k : Nat} (h : k < s.size) : byAt s k ∈ s.data.toList := by
 have h' : k < s.data.toList.length := by rw [Array.length_toList]; exact h
 unfold byAt
 rw [List.getD_eq_getElem?_getD, List.getElem?_eq_getElem h']
 exact List.getElem_mem h'
theorem mem_byAt {s : ByteArray} {b : UInt8} (h : b ∈ s.data.toList) : ∃ k, k < s.size ∧ byAt s k = b := by
 obtain ⟨k, hk, e⟩ := List.mem_iff_getElem.1 h
 refine ⟨k, by rw [Array.length_toList] at hk; exact hk, ?_⟩
 unfold byAt
 rw [List.getD_eq_getElem?_getD, List.getElem?_eq_getElem hk]
 exact e
theorem cWordS {s : ByteArray} (hs : s.size < 2^63) {t : Bool} (ht : t = true ↔ WordP s) : CallOK Tryz.prog 42 [stA s] (bo t) := by
 refine call_of (fn := Tryz.f42) (code := bodyOf Tryz.f42) Tryz.func42 rfl (by kernel_rfl) (rfl) ?_
 intro sl hs
 have s0 : sl 0 = stA s := hs 0
 dsimp only [Tryz.f42, bodyOf, Option.getD]
 simp (maxSteps := 10000000) (disch := first | assumption | omega) only [go_sem, ↓reduceIte, Nat.reduceEqDiff, reduceCtorEq, Nat.reduceAdd, Nat.reduceMul, Nat.reduceLeDiff, zc, Int.reduceToNat, s0, ti9, ti5w, kLen_str, opK_index]
 refine WK_for (fun k st => st.sl 0 = stA s ∧ st.sl 3 = i64 (k : Int) ∧ (∀ j, j < k → LetP (byAt s j))) s.size ?_ ?_ ?_
 ·simp only [↓za, ↓reduceIte, Nat.reduceEqDiff, zb, reduceCtorEq, rws_zero, s0]
  exact ⟨rfl, fun j hj => absurd hj (Nat.not_lt_zero _)⟩
 ·rintro k sl ro gn hk ⟨s0, s3, q⟩
  dsimp only at s0 s3
  have hk' : (k : Int) < (s.size : Nat) := by omega
  simp (maxSteps := 10000000) (disch := first | assumption | omega) only [go_sem, ↓reduceIte, Nat.reduceEqDiff, reduceCtorEq, Nat.reduceAdd, Nat.reduceMul, Nat.reduceLeDiff, zc, Int.reduceToNat, s0, s3, hk', hk, ti9, ti5w, kLen_str, opK_index, kSt_at]
  have key : LetP (byAt s k) → ∀ j, j < k + 1 → LetP (byAt s j) := fun h j hj => by
   rcases Nat.lt_or_ge j k with h1 | h1
   ·exact q j h1
   ·rw [show j = k by omega]; exact h
  by_cases h1 : (byAt s k).toNat = 115
  ·have h1' : ((byAt s k).toNat : Int) = 115 := by omega
   simp (maxSteps := 10000000) (disch := first | assumption | omega) only [go_sem, ↓reduceIte, Nat.reduceEqDiff, reduceCtorEq, Nat.reduceAdd, Nat.reduceMul, Nat.reduceLeDiff, zc, Int.reduceToNat, s0, s3, hk', hk, ti5w, kBin_u8, eq_true h1']
   exact ⟨i64c (by omega), key (.inl h1)⟩
  ·have h1' : ¬ ((byAt s k).toNat : Int) = 115 := by omega
   by_cases h2 : (byAt s k).toNat = 116
   ·have h2' : ((byAt s k).toNat : Int) = 116 := by omega
    simp (maxSteps := 10000000) (disch := first | assumption | omega) only [go_sem, ↓reduceIte, Nat.reduceEqDiff, reduceCtorEq, Nat.reduceAdd, Nat.reduceMul, Nat.reduceLeDiff, zc, Int.reduceToNat, s0, s3, hk', hk, ti5w, kBin_u8, eq_false h1', eq_true h2']
    exact ⟨i64c (by omega), key (.inr (.inl h2))⟩
   ·have h2' : ¬ ((byAt s k).toNat : Int) = 116 := by omega
    by_cases h3 : (byAt s k).toNat = 83
    ·have h3' : ((byAt s k).toNat : Int) = 83 := by omega
     simp (maxSteps := 10000000) (disch := first | assumption | omega) only [go_sem, ↓reduceIte, Nat.reduceEqDiff, reduceCtorEq, Nat.reduceAdd, Nat.reduceMul, Nat.reduceLeDiff, zc, Int.reduceToNat, s0, s3, hk', hk, ti5w, kBin_u8, h1', h2', eq_true h3']
     exact ⟨i64c (by omega), key (.inr (.inr (.inl h3)))⟩
    ·have h3' : ¬ ((byAt s k).toNat : Int) = 83 := by omega
     by_cases h4 : (byAt s k).toNat = 84
     ·have h4' : ((byAt s k).toNat : Int) = 84 := by omega
      simp (maxSteps := 10000000) (disch := first | assumption | omega) only [go_sem, ↓reduceIte, Nat.reduceEqDiff, reduceCtorEq, Nat.reduceAdd, Nat.reduceMul, Nat.reduceLeDiff, zc, Int.reduceToNat, s0, s3, hk', hk, ti5w, kBin_u8, h1', h2', h3', eq_true h4']
      exact ⟨i64c (by omega), key (.inr (.inr (.inr h4)))⟩
     ·have h4' : ¬ ((byAt s k).toNat : Int) = 84 := by omega
      simp (maxSteps := 10000000) (disch := first | assumption | omega) only [go_sem, ↓reduceIte, Nat.reduceEqDiff, reduceCtorEq, Nat.reduceAdd, Nat.reduceMul, Nat.reduceLeDiff, zc, Int.reduceToNat, s0, s3, hk', hk, ti5w, kBin_u8, h1', h2', h3', h4']
      simp only [zr, zb, retR, resL, outT, outL, zes, zez, oneV, zcp, zed, zfi, Ro.dl, St.ev, zhk, ↓za, ↓reduceIte, Nat.reduceEqDiff, Nat.reduceAdd, Nat.reduceLeDiff]
      refine bool_false ht fun hw => ?_
      have := hw.2 _ (byAt_mem hk)
      rcases this with h | h | h | h
      ·exact h1 h
      ·exact h2 h
      ·exact h3 h
      ·exact h4 h
 ·rintro sl ro gn ⟨s0, s3, q⟩
  dsimp only at s0 s3
  have hk' : ¬ ((s.size : Nat) : Int) < (s.size : Nat) := by omega
  simp (maxSteps := 10000000) (disch := first | assumption | omega) only [go_sem, ↓reduceIte, Nat.reduceEqDiff, reduceCtorEq, Nat.reduceAdd, Nat.reduceMul, Nat.reduceLeDiff, zc, Int.reduceToNat, s0, s3, hk', ti9, ti5w, kLen_str, opK_index]
  simp only [zr, zb, retR, resL, outT, outL, zes, zez, oneV, zcp, zed, zfi, Ro.dl, St.ev, zhk, ↓za, ↓reduceIte, Nat.reduceEqDiff, Nat.reduceAdd, Nat.reduceLeDiff]
  have hw : WordP s ↔ s.size ≤ 60 := ⟨fun h => h.1, fun h => ⟨h, fun b hb => by obtain ⟨k, hk, rfl⟩ := mem_byAt hb; exact q k hk⟩⟩
  rw [hw] at ht
  by_cases h : s.size ≤ 60
  ·rw [ht.2 h, decide_eq_false (by omega)]; rfl
  ·rw [← bool_false ht h, decide_eq_true (by omega)]; rfl
theorem trim_nil {l cs : List UInt8} : Go.Lib.trimS l cs = [] ↔ ∀ b, b ∈ l → cs.contains b = true := by
 have dw : ∀ (p : UInt8 → Bool) (l : List UInt8), l.dropWhile p = [] ↔ ∀ b, b ∈ l → p b = true := by
  intro p l
  induction l with
  | nil => simp
  | cons a l ih =>
   rw [List.dropWhile_cons]
   by_cases h : p a = true
   ·rw [if_pos h, ih]; simp [h]
   ·rw [if_neg h]; simp [h]
 unfold Go.Lib.trimS Go.Lib.trimLeftS Go.Lib.trimRightS
 rw [dw]
 constructor
 ·intro h
  have h1 : ∀ b, b ∈ l.reverse.dropWhile (cs.contains ·) → cs.contains b = true := fun b hb => h b (List.mem_reverse.2 hb)
  have h2 : l.reverse.dropWhile (cs.contains ·) = [] := by
   cases hd : l.reverse.dropWhile (cs.contains ·) with
   | nil => rfl
   | cons a t =>
    have h3 := List.head?_dropWhile_not (fun x => cs.contains x) l.reverse
    rw [hd] at h3
    have h4 := h1 a (by rw [hd]; simp)
    simp only [List.head?_cons] at h3
    rw [h4] at h3; cases h3
  intro b hb
  exact (dw _ _).1 h2 b (List.mem_reverse.2 hb)
 ·intro h b hb
  have hs := List.dropWhile_sublist (fun x => cs.contains x) (l := l.reverse)
  exact h b (List.mem_reverse.1 (hs.subset (List.mem_reverse.1 hb)))
theorem cWordI {s : ByteArray} (hs : s.size < 2^63) {t : Bool} (ht : t = true ↔ WordP s) : CallOK Tryz.prog 49 [stA s] (bo t) := by
 refine call_of (fn := Tryz.f49) (code := bodyOf Tryz.f49) Tryz.func49 rfl (by kernel_rfl) (rfl) ?_
 intro sl hs
 have s0 : sl 0 = stA s := hs 0
 by_cases h : s.size ≤ 60
 ·have h' : ¬ (60 : Int) < s.size := by omega
  dsimp only [Tryz.f49, bodyOf, Option.getD]
  simp (maxSteps := 10000000) (disch := first | assumption | omega) only [go_sem, ↓reduceIte, Nat.reduceEqDiff, reduceCtorEq, Nat.reduceAdd, Nat.reduceMul, Nat.reduceLeDiff, zc, Int.reduceToNat, s0, ti9, kLen_str, h']
  refine CLL_pure _ (cTrim s h) PUt rfl rfl ?_
  have hb : ∀ a b : ByteArray, ∀ ro : Ro, ∀ inf : TI, kBin0 (some inf) ro .eql (stA a) (stA b) = some ⟨bo (decide (a = b)), none, [], []⟩ := fun a b ro inf => by
   unfold kBin0
   simp only [zee, if_true, binA]
   have : semPure (binOp .eql 0 (.string a) (.string b)) = some (.bool (decide (a = b))) := by
    simp only [binOp, ne_eq, not_true_eq_false, if_false]
    show some (Value.bool (a.toList == b.toList)) = _
    rw [Go.Lib.toList_data, Go.Lib.toList_data]
    congr 2
    by_cases e : a = b
    ·rw [decide_eq_true e]; exact beq_iff_eq.2 (by rw [e])
    ·rw [decide_eq_false e]; exact beq_eq_false_iff_ne.2 fun h => e (by
      cases a with | mk x => cases b with | mk y => exact congrArg ByteArray.mk (Array.toList_inj.1 h))
   rw [this]
  have hd : decide ((⟨(Go.Lib.trimS s.data.toList [115, 116, 83, 84]).toArray⟩ : ByteArray) = ⟨#[]⟩) = t := by
   have hw : WordP s ↔ (⟨(Go.Lib.trimS s.data.toList [115, 116, 83, 84]).toArray⟩ : ByteArray) = ⟨#[]⟩ := by
    have e : ((⟨(Go.Lib.trimS s.data.toList [115, 116, 83, 84]).toArray⟩ : ByteArray) = ⟨#[]⟩) ↔ Go.Lib.trimS s.data.toList [115, 116, 83, 84] = [] := by
     rw [ByteArray.mk.injEq]
     exact ⟨fun h => by simpa using congrArg Array.toList h, fun h => by rw [h]⟩
    rw [e, trim_nil]
    have lp : ∀ b : UInt8, LetP b ↔ [115, 116, 83, 84].contains b = true := fun b => by
     rw [List.contains_iff_mem]
     simp only [List.mem_cons, List.not_mem_nil, or_false]
     unfold LetP
     have q : ∀ c : UInt8, b = c ↔ b.toNat = c.toNat := fun c => ⟨fun h => by rw [h], fun h => UInt8.toNat_inj.1 h⟩
     rw [q 115, q 116, q 83, q 84]
     rfl
    exact ⟨fun h b hb => (lp b).1 (h.2 b hb), fun h' => ⟨h, fun b hb => (lp b).2 (h' b hb)⟩⟩
   by_cases hw' : WordP s
   ·rw [ht.2 hw', decide_eq_true (hw.1 hw')]
   ·rw [← bool_false ht hw', decide_eq_false fun e => hw' (hw.2 e)]
  simp (maxSteps := 10000000) (disch := first | assumption | omega) only [go_sem, ↓reduceIte, Nat.reduceEqDiff, reduceCtorEq, Nat.reduceAdd, Nat.reduceMul, Nat.reduceLeDiff, zc, Int.reduceToNat, s0, ti9, hb, hd]
  simp only [zr, zb, retR, resL, outT, outL, zes, zez, oneV, zcp, zed, zfi, Ro.dl, St.ev, zhk, ↓za, ↓reduceIte, Nat.reduceEqDiff, Nat.reduceAdd, Nat.reduceLeDiff]
 ·have h' : (60 : Int) < s.size := by omega
  dsimp only [Tryz.f49, bodyOf, Option.getD]
  simp (maxSteps := 10000000) (disch := first | assumption | omega) only [go_sem, ↓reduceIte, Nat.reduceEqDiff, reduceCtorEq, Nat.reduceAdd, Nat.reduceMul, Nat.reduceLeDiff, zc, Int.reduceToNat, s0, ti9, kLen_str, h']
  simp only [zr, zb, retR, resL, outT, outL, zes, zez, oneV, zcp, zed, zfi, Ro.dl, St.ev, zhk, ↓za, ↓reduceIte, Nat.reduceEqDiff, Nat.reduceAdd, Nat.reduceLeDiff]
  exact bool_false ht fun hw => h hw.1
end Go.Proofs.YtkimbjcaoolfpaaGreatDoor
/- The matrices of words by the reference. -/
namespace Go.Proofs.YtkimbjcaoolfpaaGreatDoor
open Go.RowKit
set_option maxRecDepth 1000000
def mulM (n : Nat) (A B : Nat → Nat → Int) (i k : Nat) : Int := sm (fun j => A i j * B j k) n % 55441
theorem num_mulM (n : Nat) (A B : Nat → Nat → Int) : numM (mulM n A B) := fun _ _ => num_mod _
theorem cTimesM {a b : AV} {n : Nat} {A B : Nat → Nat → Int} (ha : isLL a (matL A n n)) (hb : isLL b (matL B n n)) (h0 : 0 < n) (hn : n ≤ 65536) (hA : numM A) (hB : numM B) : CallOK Tryz.prog 38 [a, b] (matA (mulM n A B) n n) := by
 have hN : n ≤ maxN := Nat.le_trans hn (by decide)
 have h := cTimes ha hb (by rw [matL_len2]; exact hN) (by rw [matL_len2]; exact hN) (by rw [matL_len2]; exact h0) (by rw [matL_row2 h0]; exact hN)
  (fun i hi => by rw [matL_len2] at hi ⊢; rw [matL_row2 hi]; exact Nat.le_refl _) (fun i hi => by rw [matL_len2] at hi; rw [matL_row2 h0, matL_row2 hi]; exact Nat.le_refl _) (numLL_mat fun i j _ _ => hA i j) (numLL_mat fun i j _ _ => hB i j)
 rw [matL_len2, matL_row2 h0] at h
 have e : matA (tmG (matL A n n) (matL B n n)) n n = matA (mulM n A B) n n := mat_congr fun i j hi hj => by
  unfold tmG mulM
  rw [matL_len2]
  exact congrArg (· % 55441) (sm_congr fun k hk => by rw [matL_at hi hk, matL_at hk hj])
 rw [e] at h; exact h
theorem cMulM {a b : AV} {n : Nat} {A B : Nat → Nat → Int} (ha : isLL a (matL A n n)) (hb : isLL b (matL B n n)) (h0 : 0 < n) (hn : n ≤ 65536) (hA : numM A) (hB : numM B) : CallOK Tryz.prog 40 [a, b] (matA (mulM n A B) n n) := by
 have hN : n ≤ maxN := Nat.le_trans hn (by decide)
 have h := c92 ha hb (by rw [matL_len2]; exact h0) (by rw [matL_len2]; exact hN) (by rw [matL_len2]; exact hN) (fun i hi => by rw [matL_len2] at hi ⊢; rw [matL_row2 hi]) (fun i hi => by rw [matL_len2] at hi ⊢; rw [matL_row2 hi]; exact Nat.le_refl _) (numLL_mat fun i j _ _ => hA i j) (numLL_mat fun i j _ _ => hB i j)
 have e : rowLL (tms (matL A n n) (matL B n n)) = matA (mulM n A B) n n := by
  show rowLL (matL (fun i j => tmE (matL A n n) (matL B n n) i j) (matL A n n).length (matL B n n).length) = _
  rw [rowLL_mat, matL_len2, matL_len2]
  refine mat_congr fun i j hi hj => ?_
  unfold tmE mulM
  rw [matL_len2]
  exact congrArg (· % 55441) (sm_congr fun k hk => by rw [matL_at hi hk, matL_at hk hj])
 rw [e] at h; exact h
def dgM (f : Nat → Int) (i j : Nat) : Int := if j = i then f i else 0
theorem num_dgM {f : Nat → Int} (h : ∀ i, num (f i)) : numM (dgM f) := fun i j => by unfold dgM; split; exact h i; unfold num; decide
theorem cRaise1 {x : Int} (h : num x) : CallOK Tryz.prog 65 [i64 x, i64 1] (i64 x) := by
 have c := c74 (a := x) (k := 1) h.1 h.2 (by decide) (by decide)
 have e : x ^ (1 : Int).toNat % 55441 = x := by
  show x ^ 1 % 55441 = x
  rw [Int.pow_succ, Int.pow_zero, Int.one_mul]; exact Int.emod_eq_of_lt h.1 h.2
 rw [e] at c
 refine call_of (fn := Tryz.f65) (code := bodyOf Tryz.f65) Tryz.func65 rfl (by kernel_rfl) (rfl) ?_
 intro sl hs
 have s0 : sl 0 = i64 x := hs 0
 have s1 : sl 1 = i64 1 := hs 1
 dsimp only [Tryz.f65, bodyOf, Option.getD]
 simp (maxSteps := 10000000) (disch := first | assumption | omega) only [go_sem, ↓reduceIte, Nat.reduceEqDiff, reduceCtorEq, Nat.reduceAdd, Nat.reduceMul, Nat.reduceLeDiff, zc, Int.reduceToNat, s0, s1]
 refine CLL_pure _ c PUt rfl rfl ?_
 simp (maxSteps := 10000000) (disch := first | assumption | omega) only [go_sem, ↓reduceIte, Nat.reduceEqDiff, reduceCtorEq, Nat.reduceAdd, Nat.reduceMul, Nat.reduceLeDiff, zc, Int.reduceToNat, s0, s1]
 simp only [zr, zb, retR, resL, outT, outL, zes, zez, oneV, zcp, zed, zfi, Ro.dl, St.ev, zhk, ↓za, ↓reduceIte, Nat.reduceEqDiff, Nat.reduceAdd, Nat.reduceLeDiff]
theorem cRaiseN {x : Int} (h : num x) : CallOK Tryz.prog 65 [i64 x, i64 (-1)] (i64 (pw x 55439)) := by
 have hp := num_pw x 55439
 have c := c74 (a := pw x 55439) (k := 1) hp.1 hp.2 (by decide) (by decide)
 have e : pw x 55439 ^ (1 : Int).toNat % 55441 = pw x 55439 := by
  show pw x 55439 ^ 1 % 55441 = _
  rw [Int.pow_succ, Int.pow_zero, Int.one_mul]; exact Int.emod_eq_of_lt hp.1 hp.2
 rw [e] at c
 refine call_of (fn := Tryz.f65) (code := bodyOf Tryz.f65) Tryz.func65 rfl (by kernel_rfl) (rfl) ?_
 intro sl hs
 have s0 : sl 0 = i64 x := hs 0
 have s1 : sl 1 = i64 (-1) := hs 1
 dsimp only [Tryz.f65, bodyOf, Option.getD]
 simp (maxSteps := 10000000) (disch := first | assumption | omega) only [go_sem, ↓reduceIte, Nat.reduceEqDiff, reduceCtorEq, Nat.reduceAdd, Nat.reduceMul, Nat.reduceLeDiff, zc, Int.reduceToNat, s0, s1]
 refine CLL_pure _ (c59 h.1 h.2) PUt rfl rfl ?_
 simp (maxSteps := 10000000) (disch := first | assumption | omega) only [go_sem, ↓reduceIte, Nat.reduceEqDiff, reduceCtorEq, Nat.reduceAdd, Nat.reduceMul, Nat.reduceLeDiff, zc, Int.reduceToNat, s0, s1]
 refine CLL_pure _ c PUt rfl rfl ?_
 simp (maxSteps := 10000000) (disch := first | assumption | omega) only [go_sem, ↓reduceIte, Nat.reduceEqDiff, reduceCtorEq, Nat.reduceAdd, Nat.reduceMul, Nat.reduceLeDiff, zc, Int.reduceToNat, s0, s1]
 simp only [zr, zb, retR, resL, outT, outL, zes, zez, oneV, zcp, zed, zfi, Ro.dl, St.ev, zhk, ↓za, ↓reduceIte, Nat.reduceEqDiff, Nat.reduceAdd, Nat.reduceLeDiff]
theorem cDiagS {a : AV} {xs : List Int} {k : Int} {f : Nat → Int} (ha : isL a xs) (hx : xs.length ≤ 65536) (hk : k = 1 ∨ k = -1) (hf : ∀ i, i < xs.length → CallOK Tryz.prog 65 [i64 (atI xs i), i64 k] (i64 (f i))) :
  CallOK Tryz.prog 44 [a, i64 k] (matA (dgM f) xs.length xs.length) := by
 have hn' : xs.length ≤ 4294967296 := by omega
 have hm' : (xs.length : Int) ≤ ((4294967296 : Nat) : Int) := by omega
 refine call_of (fn := Tryz.f44) (code := bodyOf Tryz.f44) Tryz.func44 rfl (by kernel_rfl) (noRef_mat _ _ _) ?_
 intro sl hs
 have s0 : sl 0 = a := hs 0
 have s1 : sl 1 = i64 k := hs 1
 dsimp only [Tryz.f44, bodyOf, Option.getD]
 simp (maxSteps := 10000000) (disch := first | assumption | omega) only [go_sem, ↓reduceIte, Nat.reduceEqDiff, reduceCtorEq, Nat.reduceAdd, Nat.reduceMul, Nat.reduceLeDiff, zc, Int.reduceToNat, s0, s1]
 refine WK_for (fun i st => st.sl 0 = a ∧ st.sl 1 = i64 k ∧ st.sl 6 = i64 (i : Int) ∧ st.sl 5 = .ref 8192 (st.gn 8192) [] 0 i ∧ st.ro 8192 (st.gn 8192) = some (.row (rws (fun i => .row (rws (fun j => i64 (dgM f i j)) xs.length)) i))) xs.length ?_ ?_ ?_
 ·simp only [↓za, ↓reduceIte, Nat.reduceEqDiff, zb, reduceCtorEq, rws_zero, s0, s1]
  rfl
 ·rintro i sl ro gn hi ⟨s0, s1, s6, s5, r8192⟩
  dsimp only at s0 s1 s6 s5 r8192
  have hi' : (i : Int) < (xs.length : Nat) := by omega
  have hi2 : i + 1 ≤ 4294967296 := by omega
  have e0 : (rws (fun _ => i64 0) xs.length).set i (i64 (f i)) = rws (fun j => i64 (dgM f i j)) xs.length := by
   rw [rws_set]
   refine rws_congr fun j _ => ?_
   unfold dgM
   split <;> rfl
  simp (maxSteps := 10000000) (disch := first | assumption | omega) only [go_sem, ↓reduceIte, Nat.reduceEqDiff, reduceCtorEq, Nat.reduceAdd, Nat.reduceMul, Nat.reduceLeDiff, zc, Int.reduceToNat, s0, s1, s6, s5, r8192, hi', hi, isL_len ha, isL_idx ha hi, kMake, Int.natCast_nonneg, Int.le_refl, hm', List.getD_cons_zero, rep_rws]
  refine CLL_pure _ (hf i hi) PUt rfl rfl ?_
  simp (maxSteps := 10000000) (disch := first | assumption | omega) only [go_sem, ↓reduceIte, Nat.reduceEqDiff, reduceCtorEq, Nat.reduceAdd, Nat.reduceMul, Nat.reduceLeDiff, zc, Int.reduceToNat, s0, s1, s6, s5, r8192, hi', hi, zfe, hi, hi2, e0]
  exact i64c (by omega)
 ·rintro sl ro gn ⟨s0, s1, s6, s5, r8192⟩
  dsimp only at s0 s1 s6 s5 r8192
  have hi' : ¬ ((xs.length : Nat) : Int) < (xs.length : Nat) := by omega
  simp (maxSteps := 10000000) (disch := first | assumption | omega) only [go_sem, ↓reduceIte, Nat.reduceEqDiff, reduceCtorEq, Nat.reduceAdd, Nat.reduceMul, Nat.reduceLeDiff, zc, Int.reduceToNat, s0, s1, s6, s5, r8192, hi', isL_len ha]
  simp only [zr, zb, retR, resL, outT, outL, zes, zez, oneV, zcp, zed, zfi, Ro.dl, St.ev, zhk, ↓za, ↓reduceIte, Nat.reduceEqDiff, Nat.reduceAdd, Nat.reduceLeDiff, r8192]
theorem upr_old {ro : Ro} {gn : Nat → Nat} {T u v : Nat} {x : AV} (h : v ≤ gn u) : upr ro T (gn T + 1) x u v = ro u v := by
 unfold upr
 rw [if_neg]
 rintro ⟨rfl, rfl⟩
 omega
def letM (S : Nat → Nat → Int) (T : Nat → Int) (E : Nat → Nat → Int) (b : UInt8) : Nat → Nat → Int :=
 if b.toNat = 115 then S else if b.toNat = 116 then dgM T else if b.toNat = 83 then E else dgM fun i => pw (T i) 55439
def wdG (n : Nat) (S : Nat → Nat → Int) (T : Nat → Int) (E : Nat → Nat → Int) (s : ByteArray) : Nat → Nat → Nat → Int
 | 0 => unM
 | k + 1 => mulM n (wdG n S T E s k) (letM S T E (byAt s k))
theorem num_unM : numM unM := fun i j => by unfold unM; split <;> (unfold num; decide)
theorem num_wdG {n : Nat} {S : Nat → Nat → Int} {T : Nat → Int} {E : Nat → Nat → Int} (s : ByteArray) : ∀ k, numM (wdG n S T E s k)
 | 0 => num_unM
 | k + 1 => num_mulM _ _ _
theorem cMatS {a b : AV} {n : Nat} {S : Nat → Nat → Int} {T : List Int} {s : ByteArray} (ha : isLL a (matL S n n)) (hb : isL b T) (hT : T.length = n) (h0 : 0 < n) (hn : n ≤ 4096) (hS : numM S) (hTn : numL T) (hI : Ivt S n) (hE : numM (ivM S n)) (hs : s.size ≤ 60) (hw : WordP s) :
  CallOK Tryz.prog 26 [.agg [a, b], stA s] (matA (wdG n S (atI T) (ivM S n) s s.size) n n) := by
 have cI := cInvS ha h0 hn hS hI
 have cU := cUnit (n := n) (Nat.le_trans hn (by decide))
 have cD1 : CallOK Tryz.prog 44 [b, i64 1] (matA (dgM (atI T)) n n) := by
  have := cDiagS (f := atI T) hb (by omega) (.inl rfl) (fun i _ => cRaise1 (hTn i))
  rw [hT] at this; exact this
 have cD2 : CallOK Tryz.prog 44 [b, i64 (-1)] (matA (dgM fun i => pw (atI T i) 55439) n n) := by
  have := cDiagS (f := fun i => pw (atI T i) 55439) hb (by omega) (.inr rfl) (fun i _ => cRaiseN (hTn i))
  rw [hT] at this; exact this
 refine call_of (fn := Tryz.f26) (code := bodyOf Tryz.f26) Tryz.func26 rfl (by kernel_rfl) (noRef_mat _ _ _) ?_
 intro sl hs
 have s0 : sl 0 = .agg [a, b] := hs 0
 have s1 : sl 1 = stA s := hs 1
 dsimp only [Tryz.f26, bodyOf, Option.getD]
 simp (maxSteps := 10000000) (disch := first | assumption | omega) only [go_sem, ↓reduceIte, Nat.reduceEqDiff, reduceCtorEq, Nat.reduceAdd, Nat.reduceMul, Nat.reduceLeDiff, zc, Int.reduceToNat, s0, s1, isL_len hb, hT]
 refine CLLD_pure _ cU PUt rfl ?_
 simp (maxSteps := 10000000) (disch := first | assumption | omega) only [go_sem, ↓reduceIte, Nat.reduceEqDiff, reduceCtorEq, Nat.reduceAdd, Nat.reduceMul, Nat.reduceLeDiff, zc, Int.reduceToNat, s0, s1, impE_row]
 refine CLLD_pure _ cI PUt rfl ?_
 simp (maxSteps := 10000000) (disch := first | assumption | omega) only [go_sem, ↓reduceIte, Nat.reduceEqDiff, reduceCtorEq, Nat.reduceAdd, Nat.reduceMul, Nat.reduceLeDiff, zc, Int.reduceToNat, s0, s1, impE_row]
 refine FIN_of (by kernel_rfl) ?_
 simp (maxSteps := 10000000) (disch := first | assumption | omega) only [go_sem, ↓reduceIte, Nat.reduceEqDiff, reduceCtorEq, Nat.reduceAdd, Nat.reduceMul, Nat.reduceLeDiff, zc, Int.reduceToNat, s0, s1, impE_row, ti9, ti5w, kLen_str, opK_index]
 refine WK_for (fun k st => st.sl 1 = stA s ∧ st.sl 2 = .ptr 4096 1 [] 0 ∧ st.ro 4096 1 = some (.bx [a, b]) ∧ st.sl 6 = .ref 8288 1 [] 0 n ∧ st.ro 8288 1 = some (matA (ivM S n) n n) ∧ st.sl 7 = i64 (k : Int) ∧ (∃ u v, st.sl 5 = .ref u v [] 0 n ∧ v ≤ st.gn u ∧ st.ro u v = some (matA (wdG n S (atI T) (ivM S n) s k) n n))) s.size ?_ ?_ ?_
 ·simp only [↓za, ↓reduceIte, Nat.reduceEqDiff, zb, reduceCtorEq, rws_zero, s0, s1]
  exact ⟨rfl, 8240, 1, rfl, by simp only [↓za, ↓reduceIte, Nat.reduceEqDiff, zb, reduceCtorEq]; exact Nat.le_refl _, by simp only [↓za, ↓reduceIte, Nat.reduceEqDiff, zb, reduceCtorEq]; rfl⟩
 ·rintro k sl ro gn hk ⟨s1, s2, r4096, s6, r8288, s7, q⟩
  dsimp only at s1 s2 r4096 s6 r8288 s7
  have hk' : (k : Int) < (s.size : Nat) := by omega
  obtain ⟨u, v, s5, g5, r5⟩ := q
  dsimp only at s5 g5 r5
  have hWk := num_wdG (n := n) (S := S) (T := atI T) (E := ivM S n) s k
  have hLk := hw.2 _ (byAt_mem hk)
  by_cases h1 : (byAt s k).toNat = 115
  ·have h1' : ((byAt s k).toNat : Int) = 115 := by omega
   have e : letM S (atI T) (ivM S n) (byAt s k) = S := if_pos h1
   have c := cTimesM (isLL_mat (wdG n S (atI T) (ivM S n) s k) n n) ha h0 (by omega) hWk hS
   simp (maxSteps := 10000000) (disch := first | assumption | omega) only [go_sem, ↓reduceIte, Nat.reduceEqDiff, reduceCtorEq, Nat.reduceAdd, Nat.reduceMul, Nat.reduceLeDiff, zc, Int.reduceToNat, s1, s2, r4096, s6, r8288, s7, hk', hk, ti9, ti5w, kLen_str, opK_index, kSt_at, kBin_u8, eq_true h1', s5]
   refine CLL_q _ c (.cons (exq_mat r5 (by decide)) (.cons (exq_LL ha (by decide)) .nil)) rfl rfl (noI_mat _ _ _) ?_
   simp (maxSteps := 10000000) (disch := first | assumption | omega) only [go_sem, ↓reduceIte, Nat.reduceEqDiff, reduceCtorEq, Nat.reduceAdd, Nat.reduceMul, Nat.reduceLeDiff, zc, Int.reduceToNat, s1, s2, r4096, s6, r8288, s7, hk', hk, impE_row]
   refine ⟨i64c (by omega), 32816, gn 32816 + 1, rfl, by simp only [↓za, ↓reduceIte, Nat.reduceEqDiff, zb, reduceCtorEq]; exact Nat.le_refl _, ?_⟩
   simp only [↓za, ↓reduceIte, Nat.reduceEqDiff, zb, reduceCtorEq, wdG, e]
  ·have h1' : ¬ ((byAt s k).toNat : Int) = 115 := by omega
   by_cases h2 : (byAt s k).toNat = 116
   ·have h2' : ((byAt s k).toNat : Int) = 116 := by omega
    have e : letM S (atI T) (ivM S n) (byAt s k) = dgM (atI T) := by unfold letM; rw [if_neg h1, if_pos h2]
    have c := cTimesM (isLL_mat (wdG n S (atI T) (ivM S n) s k) n n) (isLL_mat (dgM (atI T)) n n) h0 (by omega) hWk (num_dgM hTn)
    simp (maxSteps := 10000000) (disch := first | assumption | omega) only [go_sem, ↓reduceIte, Nat.reduceEqDiff, reduceCtorEq, Nat.reduceAdd, Nat.reduceMul, Nat.reduceLeDiff, zc, Int.reduceToNat, s1, s2, r4096, s6, r8288, s7, hk', hk, ti9, ti5w, kLen_str, opK_index, kSt_at, kBin_u8, eq_false h1', eq_true h2', s5]
    refine CLL_pure _ cD1 PUt rfl rfl ?_
    simp (maxSteps := 10000000) (disch := first | assumption | omega) only [go_sem, ↓reduceIte, Nat.reduceEqDiff, reduceCtorEq, Nat.reduceAdd, Nat.reduceMul, Nat.reduceLeDiff, zc, Int.reduceToNat, s1, s2, r4096, s6, r8288, s7, hk', hk, impE_row, s5]
    refine CLL_q _ c (.cons (exq_mat ((upr_old g5).trans r5) (by decide)) (.cons (exq_mat Ur (by decide)) .nil)) rfl rfl (noI_mat _ _ _) ?_
    simp (maxSteps := 10000000) (disch := first | assumption | omega) only [go_sem, ↓reduceIte, Nat.reduceEqDiff, reduceCtorEq, Nat.reduceAdd, Nat.reduceMul, Nat.reduceLeDiff, zc, Int.reduceToNat, s1, s2, r4096, s6, r8288, s7, hk', hk, impE_row]
    refine ⟨i64c (by omega), 41024, gn 41024 + 1, rfl, by simp only [↓za, ↓reduceIte, Nat.reduceEqDiff, zb, reduceCtorEq]; exact Nat.le_refl _, ?_⟩
    simp only [↓za, ↓reduceIte, Nat.reduceEqDiff, zb, reduceCtorEq, wdG, e]
   ·have h2' : ¬ ((byAt s k).toNat : Int) = 116 := by omega
    by_cases h3 : (byAt s k).toNat = 83
    ·have h3' : ((byAt s k).toNat : Int) = 83 := by omega
     have e : letM S (atI T) (ivM S n) (byAt s k) = ivM S n := by unfold letM; rw [if_neg h1, if_neg h2, if_pos h3]
     have c := cTimesM (isLL_mat (wdG n S (atI T) (ivM S n) s k) n n) (isLL_mat (ivM S n) n n) h0 (by omega) hWk hE
     simp (maxSteps := 10000000) (disch := first | assumption | omega) only [go_sem, ↓reduceIte, Nat.reduceEqDiff, reduceCtorEq, Nat.reduceAdd, Nat.reduceMul, Nat.reduceLeDiff, zc, Int.reduceToNat, s1, s2, r4096, s6, r8288, s7, hk', hk, ti9, ti5w, kLen_str, opK_index, kSt_at, kBin_u8, eq_false h1', eq_false h2', eq_true h3', s5]
     refine CLL_q _ c (.cons (exq_mat r5 (by decide)) (.cons (exq_mat r8288 (by decide)) .nil)) rfl rfl (noI_mat _ _ _) ?_
     simp (maxSteps := 10000000) (disch := first | assumption | omega) only [go_sem, ↓reduceIte, Nat.reduceEqDiff, reduceCtorEq, Nat.reduceAdd, Nat.reduceMul, Nat.reduceLeDiff, zc, Int.reduceToNat, s1, s2, r4096, s6, r8288, s7, hk', hk, impE_row]
     refine ⟨i64c (by omega), 49184, gn 49184 + 1, rfl, by simp only [↓za, ↓reduceIte, Nat.reduceEqDiff, zb, reduceCtorEq]; exact Nat.le_refl _, ?_⟩
     simp only [↓za, ↓reduceIte, Nat.reduceEqDiff, zb, reduceCtorEq, wdG, e]
    ·have h3' : ¬ ((byAt s k).toNat : Int) = 83 := by omega
     have h4 : (byAt s k).toNat = 84 := by
      rcases hLk with h | h | h | h
      ·exact absurd h h1
      ·exact absurd h h2
      ·exact absurd h h3
      ·exact h
     have h4' : ((byAt s k).toNat : Int) = 84 := by omega
     have e : letM S (atI T) (ivM S n) (byAt s k) = dgM fun i => pw (atI T i) 55439 := by unfold letM; rw [if_neg h1, if_neg h2, if_neg h3]
     have c := cTimesM (isLL_mat (wdG n S (atI T) (ivM S n) s k) n n) (isLL_mat (dgM fun i => pw (atI T i) 55439) n n) h0 (by omega) hWk (num_dgM fun i => num_pw _ _)
     simp (maxSteps := 10000000) (disch := first | assumption | omega) only [go_sem, ↓reduceIte, Nat.reduceEqDiff, reduceCtorEq, Nat.reduceAdd, Nat.reduceMul, Nat.reduceLeDiff, zc, Int.reduceToNat, s1, s2, r4096, s6, r8288, s7, hk', hk, ti9, ti5w, kLen_str, opK_index, kSt_at, kBin_u8, eq_false h1', eq_false h2', eq_false h3', eq_true h4', s5]
     refine CLL_pure _ cD2 PUt rfl rfl ?_
     simp (maxSteps := 10000000) (disch := first | assumption | omega) only [go_sem, ↓reduceIte, Nat.reduceEqDiff, reduceCtorEq, Nat.reduceAdd, Nat.reduceMul, Nat.reduceLeDiff, zc, Int.reduceToNat, s1, s2, r4096, s6, r8288, s7, hk', hk, impE_row, s5]
     refine CLL_q _ c (.cons (exq_mat ((upr_old g5).trans r5) (by decide)) (.cons (exq_mat Ur (by decide)) .nil)) rfl rfl (noI_mat _ _ _) ?_
     simp (maxSteps := 10000000) (disch := first | assumption | omega) only [go_sem, ↓reduceIte, Nat.reduceEqDiff, reduceCtorEq, Nat.reduceAdd, Nat.reduceMul, Nat.reduceLeDiff, zc, Int.reduceToNat, s1, s2, r4096, s6, r8288, s7, hk', hk, impE_row]
     refine ⟨i64c (by omega), 57408, gn 57408 + 1, rfl, by simp only [↓za, ↓reduceIte, Nat.reduceEqDiff, zb, reduceCtorEq]; exact Nat.le_refl _, ?_⟩
     simp only [↓za, ↓reduceIte, Nat.reduceEqDiff, zb, reduceCtorEq, wdG, e]
 ·rintro sl ro gn ⟨s1, s2, r4096, s6, r8288, s7, q⟩
  dsimp only at s1 s2 r4096 s6 r8288 s7
  have hk' : ¬ ((s.size : Nat) : Int) < (s.size : Nat) := by omega
  obtain ⟨u, v, s5, g5, r5⟩ := q
  dsimp only at s5 g5 r5
  simp (maxSteps := 10000000) (disch := first | assumption | omega) only [go_sem, ↓reduceIte, Nat.reduceEqDiff, reduceCtorEq, Nat.reduceAdd, Nat.reduceMul, Nat.reduceLeDiff, zc, Int.reduceToNat, s1, s2, r4096, s6, r8288, s7, hk', ti9, ti5w, kLen_str, opK_index, s5]
  simp only [zr, zb, retR, resL, outT, outL, zes, zez, oneV, zcp, zed, zfi, Ro.dl, St.ev, zhk, ↓za, ↓reduceIte, Nat.reduceEqDiff, Nat.reduceAdd, Nat.reduceLeDiff, r5]
end Go.Proofs.YtkimbjcaoolfpaaGreatDoor
/- The codes of data and words. -/
namespace Go.Proofs.YtkimbjcaoolfpaaGreatDoor
open Go.RowKit
set_option maxRecDepth 1000000
theorem tiSS : ti0 52 = some ⟨1, false, [Value.slice none 0 0], some 9, [], none, false, false⟩ := by kernel_rfl
abbrev immS (ws : List ByteArray) : AV := .imm (ws.map stA)
def wAt (ws : List ByteArray) (k : Nat) : ByteArray := ws.getD k ⟨#[]⟩
theorem immS_idx {ws : List ByteArray} {k : Nat} (h : k < ws.length) {ro : Ro} {a1 : Nat} {a2 : Bool} {a3 : List Value} {e : Nat} {a5 : List (Nat × Nat)} {a6 : Option IntKind} {a7 a8 : Bool} : kIdx (some ⟨a1, a2, a3, some e, a5, a6, a7, a8⟩) ro (immS ws) (i64 (k : Int)) = some ⟨.iptr [stA (wAt ws k)], none, [], []⟩ := by
 have e1 : (ws.map stA)[k]? = some (stA (wAt ws k)) := by
  rw [List.getElem?_map, List.getElem?_eq_getElem h]
  simp only [Option.map_some]
  unfold wAt
  rw [List.getD_eq_getElem?_getD, List.getElem?_eq_getElem h]
  rfl
 simp only [kIdx, Int.natCast_nonneg, if_true, Int.toNat_natCast, e1]
theorem immS_len {ws : List ByteArray} {ro : Ro} {a1 : Nat} {a2 : Bool} {a3 : List Value} {e : Nat} {a5 : List (Nat × Nat)} {a6 : Option IntKind} {a7 a8 : Bool} : kLen1 (some ⟨a1, a2, a3, some e, a5, a6, a7, a8⟩) ro (immS ws) = some ⟨i64 ((ws.length : Nat) : Int), none, [], []⟩ := by
 have : kLen1 (some ⟨a1, a2, a3, some e, a5, a6, a7, a8⟩) ro (immS ws) = some ⟨i64 (((ws.map stA).length : Nat) : Int), none, [], []⟩ := nr _
 rw [this, List.length_map]
theorem immS_pure (ws : List ByteArray) : pureA (immS ws) = true := by
 simp only [pureA]
 induction ws with
 | nil => rfl
 | cons w ws ih => simpa [pureL, pureA] using ih
theorem wAt_mem {ws : List ByteArray} {k : Nat} (h : k < ws.length) : wAt ws k ∈ ws := by
 unfold wAt
 rw [List.getD_eq_getElem?_getD, List.getElem?_eq_getElem h]
 exact List.getElem_mem h
theorem mem_wAt {ws : List ByteArray} {w : ByteArray} (h : w ∈ ws) : ∃ k, k < ws.length ∧ wAt ws k = w := by
 obtain ⟨k, hk, e⟩ := List.mem_iff_getElem.1 h
 refine ⟨k, hk, ?_⟩
 unfold wAt
 rw [List.getD_eq_getElem?_getD, List.getElem?_eq_getElem hk]
 exact e
open Classical in
noncomputable def cdW (S : List (List Int)) (T : List Int) (ws : List ByteArray) : Int := if DataP S T then (if ∀ w, w ∈ ws → WordP w then 0 else 6) else 1
section
variable {a b : AV} {S : List (List Int)} {T : List Int} {ws : List ByteArray}
theorem cCodeS (ha : isLL a S) (hb : isL b T) (hS : S.length ≤ maxN) (hT : T.length ≤ maxN) (hR : ∀ i, i < S.length → (row S i).length ≤ maxN) (hl : ws.length ≤ 65536) (hw : ∀ w, w ∈ ws → w.size < 2^63) : CallOK Tryz.prog 24 [.agg [a, b], immS ws] (i64 (cdW S T ws)) := by
 classical
 have hA := isLL_pure ha
 have hB := isL_pure hb
 have hP := immS_pure ws
 refine call_of (fn := Tryz.f24) (code := bodyOf Tryz.f24) Tryz.func24 rfl (by kernel_rfl) (rfl) ?_
 intro sl hs
 have s0 : sl 0 = .agg [a, b] := hs 0
 have s1 : sl 1 = immS ws := hs 1
 by_cases hd : DataP S T
 ·have e : cdW S T ws = if ∀ w, w ∈ ws → WordP w then 0 else 6 := if_pos hd
  dsimp only [Tryz.f24, bodyOf, Option.getD]
  simp (maxSteps := 10000000) (disch := first | assumption | omega) only [go_sem, ↓reduceIte, Nat.reduceEqDiff, reduceCtorEq, Nat.reduceAdd, Nat.reduceMul, Nat.reduceLeDiff, zc, Int.reduceToNat, s0, s1]
  refine CLL_pure _ (c66t ha hb hS hT hR hd) PUt rfl rfl ?_
  simp (maxSteps := 10000000) (disch := first | assumption | omega) only [go_sem, ↓reduceIte, Nat.reduceEqDiff, reduceCtorEq, Nat.reduceAdd, Nat.reduceMul, Nat.reduceLeDiff, zc, Int.reduceToNat, s0, s1, tiSS]
  refine WK_for (fun k st => st.sl 1 = immS ws ∧ st.sl 5 = i64 (k : Int) ∧ (∀ j, j < k → WordP (wAt ws j))) ws.length ?_ ?_ ?_
  ·simp only [↓za, ↓reduceIte, Nat.reduceEqDiff, zb, reduceCtorEq, rws_zero, s0, s1]
   exact ⟨rfl, fun j hj => absurd hj (Nat.not_lt_zero _)⟩
  ·rintro k sl ro gn hk ⟨s1, s5, q⟩
   dsimp only at s1 s5
   have hk' : (k : Int) < (ws.length : Nat) := by omega
   by_cases h1 : WordP (wAt ws k)
   ·simp (maxSteps := 10000000) (disch := first | assumption | omega) only [go_sem, ↓reduceIte, Nat.reduceEqDiff, reduceCtorEq, Nat.reduceAdd, Nat.reduceMul, Nat.reduceLeDiff, zc, Int.reduceToNat, s1, s5, hk', hk, tiSS, ti9, immS_idx, immS_len]
    refine CLL_pure _ (cWordS (t := true) (hw _ (wAt_mem hk)) (by simp [h1])) PUt rfl rfl ?_
    simp (maxSteps := 10000000) (disch := first | assumption | omega) only [go_sem, ↓reduceIte, Nat.reduceEqDiff, reduceCtorEq, Nat.reduceAdd, Nat.reduceMul, Nat.reduceLeDiff, zc, Int.reduceToNat, s1, s5, hk', hk, tiSS, ti9]
    refine ⟨i64c (by omega), fun j hj => ?_⟩
    rcases Nat.lt_or_ge j k with h | h
    ·exact q j h
    ·rw [show j = k by omega]; exact h1
   ·simp (maxSteps := 10000000) (disch := first | assumption | omega) only [go_sem, ↓reduceIte, Nat.reduceEqDiff, reduceCtorEq, Nat.reduceAdd, Nat.reduceMul, Nat.reduceLeDiff, zc, Int.reduceToNat, s1, s5, hk', hk, tiSS, ti9, immS_idx, immS_len]
    refine CLL_pure _ (cWordS (t := false) (hw _ (wAt_mem hk)) (by simp [h1])) PUt rfl rfl ?_
    simp (maxSteps := 10000000) (disch := first | assumption | omega) only [go_sem, ↓reduceIte, Nat.reduceEqDiff, reduceCtorEq, Nat.reduceAdd, Nat.reduceMul, Nat.reduceLeDiff, zc, Int.reduceToNat, s1, s5, hk', hk, tiSS, ti9]
    simp only [zr, zb, retR, resL, outT, outL, zes, zez, oneV, zcp, zed, zfi, Ro.dl, St.ev, zhk, ↓za, ↓reduceIte, Nat.reduceEqDiff, Nat.reduceAdd, Nat.reduceLeDiff]
    rw [e, if_neg fun h => h1 (h _ (wAt_mem hk))]
  ·rintro sl ro gn ⟨s1, s5, q⟩
   dsimp only at s1 s5
   have hk' : ¬ ((ws.length : Nat) : Int) < (ws.length : Nat) := by omega
   simp (maxSteps := 10000000) (disch := first | assumption | omega) only [go_sem, ↓reduceIte, Nat.reduceEqDiff, reduceCtorEq, Nat.reduceAdd, Nat.reduceMul, Nat.reduceLeDiff, zc, Int.reduceToNat, s1, s5, hk', tiSS, immS_len]
   simp only [zr, zb, retR, resL, outT, outL, zes, zez, oneV, zcp, zed, zfi, Ro.dl, St.ev, zhk, ↓za, ↓reduceIte, Nat.reduceEqDiff, Nat.reduceAdd, Nat.reduceLeDiff]
   rw [e, if_pos fun w hw => by obtain ⟨k, hk, rfl⟩ := mem_wAt hw; exact q k hk]
 ·have e : cdW S T ws = 1 := if_neg hd
  dsimp only [Tryz.f24, bodyOf, Option.getD]
  simp (maxSteps := 10000000) (disch := first | assumption | omega) only [go_sem, ↓reduceIte, Nat.reduceEqDiff, reduceCtorEq, Nat.reduceAdd, Nat.reduceMul, Nat.reduceLeDiff, zc, Int.reduceToNat, s0, s1]
  refine CLL_pure _ (c66f ha hb hS hT hR hd) PUt rfl rfl ?_
  simp (maxSteps := 10000000) (disch := first | assumption | omega) only [go_sem, ↓reduceIte, Nat.reduceEqDiff, reduceCtorEq, Nat.reduceAdd, Nat.reduceMul, Nat.reduceLeDiff, zc, Int.reduceToNat, s0, s1]
  simp only [zr, zb, retR, resL, outT, outL, zes, zez, oneV, zcp, zed, zfi, Ro.dl, St.ev, zhk, ↓za, ↓reduceIte, Nat.reduceEqDiff, Nat.reduceAdd, Nat.reduceLeDiff]
  rw [e]
theorem cCodeI (ha : isLL a S) (hb : isL b T) (hS : S.length ≤ maxN) (hT : T.length ≤ maxN) (hR : ∀ i, i < S.length → (row S i).length ≤ maxN) (hl : ws.length ≤ 65536) (hw : ∀ w, w ∈ ws → w.size < 2^63) : CallOK Tryz.prog 32 [.agg [a, b], immS ws] (i64 (cdW S T ws)) := by
 classical
 have hA := isLL_pure ha
 have hB := isL_pure hb
 have hP := immS_pure ws
 refine call_of (fn := Tryz.f32) (code := bodyOf Tryz.f32) Tryz.func32 rfl (by kernel_rfl) (rfl) ?_
 intro sl hs
 have s0 : sl 0 = .agg [a, b] := hs 0
 have s1 : sl 1 = immS ws := hs 1
 by_cases hd : DataP S T
 ·have e : cdW S T ws = if ∀ w, w ∈ ws → WordP w then 0 else 6 := if_pos hd
  dsimp only [Tryz.f32, bodyOf, Option.getD]
  simp (maxSteps := 10000000) (disch := first | assumption | omega) only [go_sem, ↓reduceIte, Nat.reduceEqDiff, reduceCtorEq, Nat.reduceAdd, Nat.reduceMul, Nat.reduceLeDiff, zc, Int.reduceToNat, s0, s1]
  refine CLL_pure _ (c62t ha hb hS hT hR hd) PUt rfl rfl ?_
  simp (maxSteps := 10000000) (disch := first | assumption | omega) only [go_sem, ↓reduceIte, Nat.reduceEqDiff, reduceCtorEq, Nat.reduceAdd, Nat.reduceMul, Nat.reduceLeDiff, zc, Int.reduceToNat, s0, s1, tiSS, immS_len]
  refine WK_for (fun k st => st.sl 10 = immS ws ∧ st.sl 11 = i64 (ws.length : Nat) ∧ st.sl 12 = i64 (k : Int) ∧ (∀ j, j < k → WordP (wAt ws j))) ws.length ?_ ?_ ?_
  ·simp only [↓za, ↓reduceIte, Nat.reduceEqDiff, zb, reduceCtorEq, rws_zero, s0, s1]
   exact ⟨rfl, fun j hj => absurd hj (Nat.not_lt_zero _)⟩
  ·rintro k sl ro gn hk ⟨s10, s11, s12, q⟩
   dsimp only at s10 s11 s12
   have hk' : (k : Int) < (ws.length : Nat) := by omega
   by_cases h1 : WordP (wAt ws k)
   ·simp (maxSteps := 10000000) (disch := first | assumption | omega) only [go_sem, ↓reduceIte, Nat.reduceEqDiff, reduceCtorEq, Nat.reduceAdd, Nat.reduceMul, Nat.reduceLeDiff, zc, Int.reduceToNat, s10, s11, s12, hk', hk, tiSS, ti9, immS_idx, immS_len]
    refine CLL_pure _ (cWordI (t := true) (hw _ (wAt_mem hk)) (by simp [h1])) PUt rfl rfl ?_
    simp (maxSteps := 10000000) (disch := first | assumption | omega) only [go_sem, ↓reduceIte, Nat.reduceEqDiff, reduceCtorEq, Nat.reduceAdd, Nat.reduceMul, Nat.reduceLeDiff, zc, Int.reduceToNat, s10, s11, s12, hk', hk, tiSS, ti9]
    refine ⟨i64c (by omega), fun j hj => ?_⟩
    rcases Nat.lt_or_ge j k with h | h
    ·exact q j h
    ·rw [show j = k by omega]; exact h1
   ·simp (maxSteps := 10000000) (disch := first | assumption | omega) only [go_sem, ↓reduceIte, Nat.reduceEqDiff, reduceCtorEq, Nat.reduceAdd, Nat.reduceMul, Nat.reduceLeDiff, zc, Int.reduceToNat, s10, s11, s12, hk', hk, tiSS, ti9, immS_idx, immS_len]
    refine CLL_pure _ (cWordI (t := false) (hw _ (wAt_mem hk)) (by simp [h1])) PUt rfl rfl ?_
    simp (maxSteps := 10000000) (disch := first | assumption | omega) only [go_sem, ↓reduceIte, Nat.reduceEqDiff, reduceCtorEq, Nat.reduceAdd, Nat.reduceMul, Nat.reduceLeDiff, zc, Int.reduceToNat, s10, s11, s12, hk', hk, tiSS, ti9]
    simp only [zr, zb, retR, resL, outT, outL, zes, zez, oneV, zcp, zed, zfi, Ro.dl, St.ev, zhk, ↓za, ↓reduceIte, Nat.reduceEqDiff, Nat.reduceAdd, Nat.reduceLeDiff]
    rw [e, if_neg fun h => h1 (h _ (wAt_mem hk))]
  ·rintro sl ro gn ⟨s10, s11, s12, q⟩
   dsimp only at s10 s11 s12
   have hk' : ¬ ((ws.length : Nat) : Int) < (ws.length : Nat) := by omega
   simp (maxSteps := 10000000) (disch := first | assumption | omega) only [go_sem, ↓reduceIte, Nat.reduceEqDiff, reduceCtorEq, Nat.reduceAdd, Nat.reduceMul, Nat.reduceLeDiff, zc, Int.reduceToNat, s10, s11, s12, hk', tiSS, immS_len]
   simp only [zr, zb, retR, resL, outT, outL, zes, zez, oneV, zcp, zed, zfi, Ro.dl, St.ev, zhk, ↓za, ↓reduceIte, Nat.reduceEqDiff, Nat.reduceAdd, Nat.reduceLeDiff]
   rw [e, if_pos fun w hw => by obtain ⟨k, hk, rfl⟩ := mem_wAt hw; exact q k hk]
 ·have e : cdW S T ws = 1 := if_neg hd
  dsimp only [Tryz.f32, bodyOf, Option.getD]
  simp (maxSteps := 10000000) (disch := first | assumption | omega) only [go_sem, ↓reduceIte, Nat.reduceEqDiff, reduceCtorEq, Nat.reduceAdd, Nat.reduceMul, Nat.reduceLeDiff, zc, Int.reduceToNat, s0, s1]
  refine CLL_pure _ (c62f ha hb hS hT hR hd) PUt rfl rfl ?_
  simp (maxSteps := 10000000) (disch := first | assumption | omega) only [go_sem, ↓reduceIte, Nat.reduceEqDiff, reduceCtorEq, Nat.reduceAdd, Nat.reduceMul, Nat.reduceLeDiff, zc, Int.reduceToNat, s0, s1]
  simp only [zr, zb, retR, resL, outT, outL, zes, zez, oneV, zcp, zed, zfi, Ro.dl, St.ev, zhk, ↓za, ↓reduceIte, Nat.reduceEqDiff, Nat.reduceAdd, Nat.reduceLeDiff]
  rw [e]
end
end Go.Proofs.YtkimbjcaoolfpaaGreatDoor
/- Maps beside the machine: operations in whatever order; a map that is filled, and looked up. -/
namespace Go.Proofs.YtkimbjcaoolfpaaGreatDoor
open Go.RowKit
set_option maxRecDepth 1000000
section
variable {C : Cfg} {w0 : World} {A0 : Nat → Prop} {F0 : List Nat} {cS : Cx} {n : Nat}
theorem cell_mapw {w w' : World} {r : Nat} {o o' : Obj} (hw : ∀ b, b ≠ r → w'.heap[b]? = w.heap[b]?) (hr : w.heap[r]? = some o) (hr' : w'.heap[r]? = some o') (hm : ∃ es cl, o = .map es cl) (hm' : ∃ es cl, o' = .map es cl) (g i : Nat) : w'.cell? ⟨g, i, none⟩ = w.cell? ⟨g, i, none⟩ := by
 by_cases e : g = r
 ·subst e
  obtain ⟨es, cl, rfl⟩ := hm
  obtain ⟨es', cl', rfl⟩ := hm'
  simp [World.cell?, hr, hr']
 ·exact cell_of_heap (hw g e)
structure MapW (w w' : World) (r : Nat) : Prop where
 oth : ∀ b, b ≠ r → w'.heap[b]? = w.heap[b]?
 old : ∃ es cl, w.heap[r]? = some (.map es cl)
 new : ∃ es cl, w'.heap[r]? = some (.map es cl)
 size : w'.heap.size = w.heap.size
theorem MapW.cell {w w' : World} {r : Nat} (h : MapW w w' r) (g i : Nat) : w'.cell? ⟨g, i, none⟩ = w.cell? ⟨g, i, none⟩ := by
 obtain ⟨es, cl, e⟩ := h.old
 obtain ⟨es', cl', e'⟩ := h.new
 exact cell_mapw h.oth e e' ⟨es, cl, rfl⟩ ⟨es', cl', rfl⟩ g i
theorem MapW.cells {w w' : World} {r g : Nat} {arr : Array Value} {E : TypeId} {fr : Nat × Nat} (h : MapW w w' r) (hg : w.heap[g]? = some (.cells arr E fr)) : w'.heap[g]? = some (.cells arr E fr) := by
 obtain ⟨es, cl, e⟩ := h.old
 rw [h.oth g fun e2 => by subst e2; rw [e] at hg; cases hg]; exact hg
theorem MapW.locp {w w' : World} {r : Nat} (h : MapW w w' r) : ∀ (p : List Nat) (x : Nat × Nat), Go.Proofs.YtkimbjcaoolfpaaGreatDoor.locp w' p x = Go.Proofs.YtkimbjcaoolfpaaGreatDoor.locp w p x
 | [], _ => rfl
 | i :: q, x => by
  simp only [Go.Proofs.YtkimbjcaoolfpaaGreatDoor.locp, h.cell]
  split
  ·split
   ·exact h.locp q _
   ·rfl
  ·rfl
theorem RelL.mapw {c : Cx} {w' : World} {r : Nat} (m : MapW c.w w' r) {xs : List AV} {vs : List Value} {G : List Nat} (h : RelL c xs vs G) : RelL { c with w := w' } xs vs G := by
 have hin : ∀ g b us, c.inW g b us → Cx.inW { c with w := w' } g b us := fun g b us hi => ⟨hi.1, by show g < w'.heap.size; rw [m.size]; exact hi.2.1, fun i u hu => by show w'.cell? _ = _; rw [m.cell]; exact hi.2.2 i u hu⟩
 have hown : ∀ g b us cap, ownB c.w g b us cap → ownB w' g b us cap := by
  rintro g b us cap ⟨arr, E, h1, h2⟩
  exact ⟨arr, E, m.cells h1, h2⟩
 induction h with
 | nil => exact .nil
 | sc v _ ih => exact .sc v ih
 | dead v _ ih => exact .dead v ih
 | imm g b cap _ h2 h3 _ ih1 ih => exact .imm g b cap ih1 (hin _ _ _ h2) h3 ih
 | row g b cap _ h2 h3 h4 _ ih1 ih => exact .row g b cap ih1 (hown _ _ _ _ h2) h3 h4 ih
 | bx g b cap _ h2 h3 h4 _ ih1 ih => exact .bx g b cap ih1 (hown _ _ _ _ h2) h3 h4 ih
 | ref s g p off n v h1 h2 _ ih =>
  refine .ref s g p off n v h1 (fun cs hcs => ?_) ih
  obtain ⟨x, hx, ⟨b', cap, arr, E, e1, e2, e3, e4⟩, hl⟩ := h2 cs hcs
  exact ⟨x, (m.locp p _).trans hx, ⟨b', cap, arr, E, e1, e2, m.cells e3, e4⟩, hl⟩
 | ptr s g p i v h1 h2 _ ih =>
  refine .ptr s g p i v h1 (fun cs hcs => ?_) ih
  obtain ⟨x, hx, hv⟩ := h2 cs hcs
  exact ⟨x, (m.locp p _).trans hx, hv⟩
 | iptr g b _ h2 _ ih1 ih => exact .iptr g b ih1 (hin _ _ _ h2) ih
 | agg _ h2 _ ih1 ih => exact .agg ih1 h2 ih
 | tup _ h2 _ ih1 ih => exact .tup ih1 h2 ih
 | fn f _ _ ih1 ih => exact .fn f ih1 ih
theorem SR.mapw {st : St} {a : Act} {c : Cx} {Φ : Nat → Nat → List Nat} (h : SR w0 A0 F0 cS n st a c Φ) {w' : World} {r : Nat} (m : MapW c.w w' r) (hr : w0.heap.size ≤ r) (hos : w'.os = c.w.os) (htp : w'.tape = c.w.tape) (hout : w'.output = c.w.output) :
  SR w0 A0 F0 { c with w := w' } n st a { c with w := w' } Φ := by
 refine ⟨⟨fun s g a ha => ?_, h.sim.no, h.sim.dj, h.sim.own, h.sim.rd, h.sim.rown, h.sim.a0, fun x hx => by show x < w'.heap.size; rw [m.size]; exact h.sim.al x hx, ⟨hos.trans h.sim.bw.os, htp.trans h.sim.bw.tape, hout.trans h.sim.bw.output, by show _ ≤ w'.heap.size; rw [m.size]; exact h.sim.bw.size, fun k hk hF => ?_⟩⟩, Keep.refl _, h.ro, h.gn, fun k => (h.sl k).mapw m, h.df, h.sz⟩
 ·obtain ⟨h1, v, h2, h3⟩ := h.sim.rt s g a ha
  exact ⟨h1, v, RelL.mapw m h2, h3⟩
 ·show w'.heap[k]? = _
  rw [m.oth k (by omega)]; exact h.sim.bw.block k hk hF
theorem SR.reroot {st : St} {a : Act} {c : Cx} {Φ : Nat → Nat → List Nat} (h : SR w0 A0 F0 cS n st a c Φ) : SR w0 A0 F0 c n st a c Φ := ⟨h.sim, Keep.refl _, h.ro, h.gn, h.sl, h.df, h.sz⟩
theorem wpAny_inv {P : Program} {ops : Array Oper} {Q : Exit → Act → World → Prop} (J : Array Bool → Act → World → Prop)
  (hstep : ∀ (listed : Array Bool) a w i, listed.size = ops.size → J listed a w → i ∈ Region.ready .any ops listed → wpOp P ops Q i (J (listed.setIfInBounds i true)) a w)
  (hend : ∀ (listed : Array Bool) a w, listed.size = ops.size → J listed a w → Region.ready .any ops listed = [] → Q .normal a w) :
  ∀ (fuel : Nat) (listed : Array Bool) a w, listed.size = ops.size → listed.toList.countP (fun b => !b) ≤ fuel → J listed a w → wpAny P .any ops Q fuel listed a w
 | 0, listed, a, w, hs, hc, hJ => by
  have hall : ∀ b, b ∈ listed.toList → b = true := fun b hb => by
   have := List.countP_eq_zero.1 (Nat.le_zero.1 hc) b hb
   simpa using this
  have hr : Region.ready .any ops listed = [] := by
   unfold Region.ready
   rw [List.filter_eq_nil_iff]
   intro i hi
   have hi' : i < listed.size := by rw [hs]; simpa using hi
   have : listed.getD i true = true := by
    rw [Array.getD_eq_getD_getElem?, Array.getElem?_eq_getElem hi']
    exact hall _ (Array.getElem_mem_toList hi')
   simp [this]
  exact ⟨hr, hend listed a w hs hJ hr⟩
 | fuel + 1, listed, a, w, hs, hc, hJ => by
  refine ⟨fun hr => hend listed a w hs hJ hr, fun i hi => ?_⟩
  refine wpOp_mono (fun a' w' hJ' => wpAny_inv J hstep hend fuel _ a' w' (by rw [Array.size_setIfInBounds]; exact hs) ?_ hJ') (hstep listed a w i hs hJ hi)
  unfold Region.ready at hi
  rw [List.mem_filter] at hi
  obtain ⟨h1, h2⟩ := hi
  have hi' : i < listed.size := by rw [hs]; simpa using h1
  have hf : listed[i] = false := by
   rw [Bool.and_eq_true] at h2
   have := h2.1
   rw [Array.getD_eq_getD_getElem?, Array.getElem?_eq_getElem hi'] at this
   simpa using this
  have e : (listed.setIfInBounds i true).toList = listed.toList.set i true := by simp
  rw [e]
  have hlt : i < listed.toList.length := by rw [Array.length_toList]; exact hi'
  rw [List.countP_set hlt]
  have hf' : listed.toList[i] = false := by rw [Array.getElem_toList]; exact hf
  have hpos : 0 < listed.toList.countP (fun b => !b) := List.countP_pos_iff.2 ⟨_, List.getElem_mem hlt, by rw [hf']; rfl⟩
  simp only [hf', Bool.not_false, if_true, Bool.not_true]
  simp only [Bool.false_eq_true, if_false]
  omega
theorem ready_dep {ops : Array Oper} {listed : Array Bool} {i : Nat} (h : i ∈ Region.ready .any ops listed) (k : Nat) (hk : (match ops[i]? with | some o => o.after.toList.any (fun e => Region.binds .any e && e.on == k) | none => false) = true) : listed.getD k false = true := by
 unfold Region.ready at h
 rw [List.mem_filter, Bool.and_eq_true] at h
 have h2 := h.2.2
 cases ho : ops[i]? with
 | none => rw [ho] at hk; cases hk
 | some o =>
  rw [ho] at h2 hk
  simp only [Option.map_some, Option.getD_some] at h2
  obtain ⟨e, he, hb⟩ := List.any_eq_true.1 hk
  rw [Bool.and_eq_true] at hb
  have h3 := Array.all_eq_true_iff_forall_mem.1 h2 e (by simpa using he)
  rw [hb.1] at h3
  have h4 : e.on = k := by simpa using hb.2
  rw [h4] at h3
  simpa using h3
theorem ready_not {ops : Array Oper} {listed : Array Bool} {i : Nat} (h : i ∈ Region.ready .any ops listed) : i < ops.size ∧ (listed.size = ops.size → listed.getD i false = false) := by
 unfold Region.ready at h
 rw [List.mem_filter, Bool.and_eq_true] at h
 have hi : i < ops.size := by simpa using h.1
 refine ⟨hi, fun hs => ?_⟩
 have := h.2.1
 have hi' : i < listed.size := by omega
 rw [Array.getD_eq_getD_getElem?, Array.getElem?_eq_getElem hi'] at this ⊢
 simpa using this
theorem ready_nil {ops : Array Oper} {listed : Array Bool} (h : Region.ready .any ops listed = []) (hs : listed.size = ops.size) (hb : (List.range ops.size).all (fun i => match ops[i]? with | some o => o.after.toList.all fun e => !Region.binds .any e || decide (e.on < i) | none => true) = true) : ∀ k, k < ops.size → listed.getD k false = true := by
 intro k
 induction k using Nat.strongRecOn with
 | ind k ih =>
  intro hk
  cases hl : listed.getD k false with
  | true => rfl
  | false =>
   exfalso
   have hmem : k ∈ Region.ready .any ops listed := by
    unfold Region.ready
    rw [List.mem_filter]
    refine ⟨by simpa using hk, ?_⟩
    have hk' : k < listed.size := by omega
    rw [Bool.and_eq_true]
    refine ⟨?_, ?_⟩
    ·rw [Array.getD_eq_getD_getElem?, Array.getElem?_eq_getElem hk'] at hl ⊢
     simpa using hl
    ·have hb1 := List.all_eq_true.1 hb k (by simpa using hk)
     have ho : ops[k]? = some ops[k] := Array.getElem?_eq_getElem hk
     rw [ho] at hb1 ⊢
     simp only [Option.map_some, Option.getD_some]
     rw [Array.all_eq_true_iff_forall_mem]
     intro e he
     have h2 := List.all_eq_true.1 hb1 e (by simpa using he)
     rw [Bool.or_eq_true] at h2 ⊢
     rcases h2 with h2 | h2
     ·exact .inl h2
     ·have hlt : e.on < k := by simpa using h2
      exact .inr (ih _ hlt (by omega))
   rw [h] at hmem
   cases hmem
theorem op_any (T : TOK C.P C.ti) (hI : InlOK C) {rid : Nat} {ops : Array Oper} {i : Nat} {o : Oper} (ho : ops[i]? = some o) {Q : St → Prop} {st : St} {a : Act} {c : Cx} {Φ : Nat → Nat → List Nat} (h : SR w0 A0 F0 cS n st a c Φ)
  (hd : ∀ t, o.dst = some t → t < n) (hq : opsW C rid ops [o] i Q st) {K : Act → World → Prop} {QQ : Exit → Act → World → Prop} (hK : ∀ st' a' c' Φ', SR w0 A0 F0 cS n st' a' c' Φ' → Q st' → K a' c'.w) : wpOp C.P ops QQ i K a c.w := by
 unfold wpOp
 rw [ho]
 dsimp only
 have main : ∀ st', stepR C rid ops i o st st' → Q st' → (if Region.wanted o (yielded ops a.tmps) then o.wp C.P a c.w K QQ ∨ (o.asks C.P a c.w ∧ LetsOut QQ) else K (a.put o.dst undef) c.w) := by
  intro st' hs hQ
  have := step_ok (w0 := w0) (A0 := A0) (F0 := F0) T h hd hs (K := K) (Q := QQ) (fun a' c' Φ' h' => hK _ _ _ _ h' hQ)
  split
  ·rename_i hw; rw [if_pos hw] at this; exact .inl this
  ·rename_i hw; rw [if_neg hw] at this; exact this
 simp only [opsW] at hq
 cases hw : zbl ops o st with
 | none => simp [hw] at hq
 | some t =>
  cases t
  ·simp only [hw] at hq; exact main _ (by unfold stepR; rw [hw]) hq
  ·simp only [hw] at hq
   rcases hq with ⟨e, h1, h2⟩ | ⟨Po, h1, h2⟩
   ·exact main _ (by unfold stepR; rw [hw]; exact ⟨e, h1, rfl⟩) h2
   ·have := step_in_ok (w0 := w0) (A0 := A0) (F0 := F0) (o := o) hI h hd h1 (K := K) (Q := QQ) (fun r ro' gn' hP a' c' Φ' h' => hK _ _ _ _ h' (h2 r ro' gn' hP))
    rw [if_pos (want_ok h hw)]
    exact .inl this
theorem opsW_chunk (T : TOK C.P C.ti) (hI : InlOK C) (rid : Nat) (ops : Array Oper) {K : Exit → Act → World → Prop} {l2 : List Oper} : ∀ (l : List Oper) (i : Nat) {Q : St → Prop} {st : St} {a : Act} {c : Cx} {Φ : Nat → Nat → List Nat}, SR w0 A0 F0 cS n st a c Φ →
  (∀ o, o ∈ l → ∀ t, o.dst = some t → t < n) → opsW C rid ops l i Q st → (∀ st' a' c' Φ', SR w0 A0 F0 cS n st' a' c' Φ' → Q st' → wpList C.P ops K l2 a' c'.w) → wpList C.P ops K (l ++ l2) a c.w
 | [], i, Q, st, a, c, Φ, h, _, hq, hK => hK _ _ _ _ h hq
 | o :: rest, i, Q, st, a, c, Φ, h, hd, hq, hK => by
  have main : ∀ st', stepR C rid ops i o st st' → opsW C rid ops rest (i + 1) Q st' → wpList C.P ops K (o :: (rest ++ l2)) a c.w := by
   intro st' hs hrest
   have := step_ok (w0 := w0) (A0 := A0) (F0 := F0) T h (hd o (by simp)) hs (K := wpList C.P ops K (rest ++ l2)) (Q := K) (fun a' c' Φ' h' => opsW_chunk T hI rid ops rest (i + 1) h' (fun o ho => hd o (by simp [ho])) hrest hK)
   unfold wpList
   split
   ·rename_i hw; rw [if_pos hw] at this; exact .inl this
   ·rename_i hw; rw [if_neg hw] at this; exact this
  simp only [opsW] at hq
  cases hw : zbl ops o st with
  | none => simp [hw] at hq
  | some t =>
   cases t
   ·simp only [hw] at hq; exact main _ (by unfold stepR; rw [hw]) hq
   ·simp only [hw] at hq
    rcases hq with ⟨e, h1, h2⟩ | ⟨Po, h1, h2⟩
    ·exact main _ (by unfold stepR; rw [hw]; exact ⟨e, h1, rfl⟩) h2
    ·have := step_in_ok (w0 := w0) (A0 := A0) (F0 := F0) (o := o) hI h (hd o (by simp)) h1 (K := wpList C.P ops K (rest ++ l2)) (Q := K) (fun r ro' gn' hP a' c' Φ' h' => opsW_chunk T hI rid ops rest (i + 1) h' (fun o ho => hd o (by simp [ho])) (h2 r ro' gn' hP) hK)
     show wpList C.P ops K (o :: (rest ++ l2)) a c.w
     unfold wpList
     rw [if_pos (want_ok h hw)]
     exact .inl this
theorem find_none {k : Int} : ∀ {l : List MapEntry} {i : Nat}, (∀ e, e ∈ l → ∃ k', e.key = .int .u8 k' ∧ k' ≠ k) → Instr.findNow (.int .u8) (.int .u8 k) l i = some none
 | [], _, _ => rfl
 | e :: l, i, h => by
  obtain ⟨k', h1, h2⟩ := h e (by simp)
  have hs : Instr.sameNow (.int .u8) (.int .u8 k) e.key = some false := by
   rw [h1]
   show (if IntKind.u8 = IntKind.u8 then some (k == k') else none) = _
   rw [if_pos rfl, beq_eq_false_iff_ne.2 (Ne.symm h2)]
  simp only [Instr.findNow, hs]
  exact find_none fun e he => h e (by simp [he])
theorem find_some {k : Int} {v : Value} : ∀ {l : List MapEntry} {i : Nat}, (∀ e, e ∈ l → ∃ k', e.key = .int .u8 k' ∧ (k' = k → e.val = v)) → (∃ e, e ∈ l ∧ e.key = .int .u8 k) → ∃ j, Instr.findNow (.int .u8) (.int .u8 k) l i = some (some (j, v))
 | [], _, _, ⟨_, h, _⟩ => by cases h
 | e :: l, i, h, hx => by
  obtain ⟨k', h1, h2⟩ := h e (by simp)
  by_cases hk : k' = k
  ·have hs : Instr.sameNow (.int .u8) (.int .u8 k) e.key = some true := by
    rw [h1, hk]
    show (if IntKind.u8 = IntKind.u8 then some (k == k) else none) = _
    rw [if_pos rfl, beq_self_eq_true]
   exact ⟨i, by simp only [Instr.findNow, hs, h2 hk]⟩
  ·have hs : Instr.sameNow (.int .u8) (.int .u8 k) e.key = some false := by
    rw [h1]
    show (if IntKind.u8 = IntKind.u8 then some (k == k') else none) = _
    rw [if_pos rfl, beq_eq_false_iff_ne.2 (Ne.symm hk)]
   simp only [Instr.findNow, hs]
   refine find_some (fun e he => h e (by simp [he])) ?_
   obtain ⟨e', he', hk'⟩ := hx
   rcases List.mem_cons.1 he' with rfl | he'
   ·rw [h1] at hk'
    simp only [Value.int.injEq, true_and] at hk'
    exact absurd hk' hk
   ·exact ⟨e', he', hk'⟩
theorem run_insert {P : Program} {mty kt et : TypeId} (hm : P.underlying mty = some (.map kt et)) (hk : P.underlying kt = some (.int .u8)) {w : World} {r : Nat} {es : Array MapEntry} {clock : Nat} (hb : w.heap[r]? = some (.map es clock)) {k : Int} {val : Value} (hn : ∀ e, e ∈ es.toList → ∃ k', e.key = .int .u8 k' ∧ k' ≠ k) :
  (Instr.mapUpdate mty (.map (some r)) (.int .u8 k) val).run P w = .ok () { w with heap := w.heap.setIfInBounds r (.map (es.push { key := .int .u8 k, val, born := clock }) (clock + 1)) } := by
 have hc : (Instr.checkKey false 10000 kt (.int .u8 k)).run P w = .ok () w := MapKept.run_checkKey hk (by simp [MapKept.IsKey]) false 9999
 have hf : (Instr.findKey kt (.int .u8 k) es.toList).run P w = .ok none w := MapKept.run_findKey hk (find_none hn)
 have hg := MapKept.run_getObj_map (P := P) hb
 have hs := MapKept.run_setObj_map (P := P) (.map (es.push { key := .int .u8 k, val, born := clock }) (clock + 1)) hb
 simp [Instr.mapUpdate, run_underlying hm, hg, hc, hf, hs, Result.andThen]
theorem run_look {P : Program} {mty kt et : TypeId} (hm : P.underlying mty = some (.map kt et)) (hk : P.underlying kt = some (.int .u8)) {w : World} {r : Nat} {es : Array MapEntry} {clock : Nat} (hb : w.heap[r]? = some (.map es clock)) {k : Int} {val : Value} (h1 : ∀ e, e ∈ es.toList → ∃ k', e.key = .int .u8 k' ∧ (k' = k → e.val = val)) (h2 : ∃ e, e ∈ es.toList ∧ e.key = .int .u8 k) :
  (Instr.lookup mty (.map (some r)) (.int .u8 k) false).run P w = .ok val w := by
 obtain ⟨j, hj⟩ := find_some (i := 0) h1 h2
 have hc : (Instr.checkKey es.isEmpty 10000 kt (.int .u8 k)).run P w = .ok () w := MapKept.run_checkKey hk (by simp [MapKept.IsKey]) _ 9999
 have hf : (Instr.findKey kt (.int .u8 k) es.toList).run P w = .ok (some (j, val)) w := MapKept.run_findKey hk hj
 have hg := MapKept.run_getObj_map (P := P) hb
 simp [Instr.lookup, run_underlying hm, hg, hc, hf, Result.andThen]
end
end Go.Proofs.YtkimbjcaoolfpaaGreatDoor
