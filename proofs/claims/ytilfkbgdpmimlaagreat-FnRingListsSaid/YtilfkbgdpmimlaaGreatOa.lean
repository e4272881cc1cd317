/- Texts joined: Ea1 Ea2 Ea3. -/
import Derived.Test.YtilfkbgdpmimlaaGreatMi
import Derived.Test.YtilfkbgdpmimlaaGreatMh
set_option linter.all false
/- Enumeration of rings: comparisons of lists, in the order of their numbers. -/
namespace Go.Proofs.YtilfkbgdpmimlaaGreat
open Go.RowKit
set_option maxRecDepth 1000000
structure CmpO {α : Type} (f : α → α → Int) : Prop where
 eq0 : ∀ x y, f x y = 0 ↔ x = y
 anti : ∀ x y, f x y < 0 ↔ 0 < f y x
 trans : ∀ x y z, f x y < 0 → f y z < 0 → f x z < 0
def cmpI (x y : Int) : Int := if x < y then -1 else if y < x then 1 else 0
def cmpG {α : Type} (f : α → α → Int) : List α → List α → Int
 | [], [] => 0
 | [], _ :: _ => -1
 | _ :: _, [] => 1
 | x :: xs, y :: ys => if f x y = 0 then cmpG f xs ys else f x y
theorem cmpI_O : CmpO cmpI := by
 refine ⟨fun x y => ?_, fun x y => ?_, fun x y z => ?_⟩ <;> unfold cmpI <;> repeat' split <;> omega
theorem cmpG_O {α : Type} {f : α → α → Int} (h : CmpO f) : CmpO (cmpG f) := by
 refine ⟨fun x => ?_, fun x => ?_, fun x => ?_⟩
 ·induction x with
  | nil => intro y; cases y <;> simp [cmpG]
  | cons a x ih =>
   intro y
   cases y with
   | nil => simp [cmpG]
   | cons b y =>
    simp only [cmpG, List.cons.injEq]
    split
    ·rename_i e; rw [ih, (h.eq0 a b).1 e]; simp
    ·rename_i e; exact ⟨fun e2 => absurd e2 e, fun e2 => absurd ((h.eq0 a b).2 e2.1) e⟩
 ·induction x with
  | nil => intro y; cases y <;> simp [cmpG]
  | cons a x ih =>
   intro y
   cases y with
   | nil => simp [cmpG]
   | cons b y =>
    simp only [cmpG]
    by_cases e : f a b = 0
    ·have e2 := (h.eq0 a b).1 e
     subst e2
     rw [if_pos e, if_pos e]
     exact ih y
    ·have e2 : ¬ f b a = 0 := fun e2 => e ((h.eq0 a b).2 ((h.eq0 b a).1 e2).symm)
     rw [if_neg e, if_neg e2]
     exact h.anti a b
 ·induction x with
  | nil =>
   intro y z h1 h2
   cases y with
   | nil => simp [cmpG] at h1
   | cons b y =>
    cases z with
    | nil => simp [cmpG] at h2
    | cons c z => simp [cmpG]
  | cons a x ih =>
   intro y z h1 h2
   cases y with
   | nil => simp [cmpG] at h1
   | cons b y =>
    cases z with
    | nil => simp [cmpG] at h2
    | cons c z =>
     simp only [cmpG] at h1 h2 ⊢
     by_cases e1 : f a b = 0
     ·have := (h.eq0 a b).1 e1
      subst this
      rw [if_pos e1] at h1
      by_cases e2 : f a c = 0
      ·rw [if_pos e2] at h2 ⊢
       exact ih y z h1 h2
      ·rw [if_neg e2] at h2 ⊢
       exact h2
     ·rw [if_neg e1] at h1
      by_cases e2 : f b c = 0
      ·have := (h.eq0 b c).1 e2
       subst this
       rw [if_neg e1]
       exact h1
      ·rw [if_neg e2] at h2
       have h3 := h.trans a b c h1 h2
       rw [if_neg (by omega)]
       exact h3
abbrev cmp1 : List Int → List Int → Int := cmpG cmpI
abbrev cmp2 : List (List Int) → List (List Int) → Int := cmpG cmp1
abbrev cmp3 : List (List (List Int)) → List (List (List Int)) → Int := cmpG cmp2
theorem cmp1_O : CmpO cmp1 := cmpG_O cmpI_O
theorem cmp2_O : CmpO cmp2 := cmpG_O cmp1_O
theorem cmp3_O : CmpO cmp3 := cmpG_O cmp2_O
theorem cmpG_drop {α : Type} {f : α → α → Int} {xs ys : List α} {i : Nat} {x y : α} (hx : xs[i]? = some x) (hy : ys[i]? = some y) : cmpG f (xs.drop i) (ys.drop i) = if f x y = 0 then cmpG f (xs.drop (i + 1)) (ys.drop (i + 1)) else f x y := by
 obtain ⟨h1, rfl⟩ := List.getElem?_eq_some_iff.1 hx
 obtain ⟨h2, rfl⟩ := List.getElem?_eq_some_iff.1 hy
 rw [List.drop_eq_getElem_cons h1, List.drop_eq_getElem_cons h2]
 rfl
theorem cmpG_short {α : Type} {f : α → α → Int} {xs ys : List α} {i : Nat} (hx : i < xs.length) (hy : ys.length ≤ i) : cmpG f (xs.drop i) (ys.drop i) = 1 := by
 rw [List.drop_eq_getElem_cons hx, List.drop_of_length_le hy]
 rfl
theorem cmpG_end {α : Type} {f : α → α → Int} {xs ys : List α} (hy : xs.length ≤ ys.length) : cmpG f (xs.drop xs.length) (ys.drop xs.length) = if xs.length < ys.length then -1 else 0 := by
 rw [List.drop_of_length_le (Nat.le_refl _)]
 split
 ·rename_i h
  rw [List.drop_eq_getElem_cons h]
  rfl
 ·rw [List.drop_of_length_le (by omega)]
  rfl
theorem getD_some {α : Type} {xs : List α} {i : Nat} (d : α) (h : i < xs.length) : xs[i]? = some (xs.getD i d) := by
 rw [List.getElem?_eq_getElem h, List.getD_eq_getElem?_getD, List.getElem?_eq_getElem h]; rfl
theorem cNaN {x : Int} : CallOK Tryz.prog 113 [i64 x] (bo false) := by
 refine call_of (fn := Tryz.f113) (code := bodyOf Tryz.f113) Tryz.func113 rfl (by kernel_rfl) (rfl) ?_
 intro sl hs
 have s0 : sl 0 = i64 x := hs 0
 dsimp only [Tryz.f113, bodyOf, Option.getD]
 simp (disch := first | assumption | omega) only [go_sem, ↓reduceIte, Nat.reduceEqDiff, Nat.reduceAdd, Nat.reduceMul, zc, s0, eq_true (rfl : x = x)]
 exact Yab
theorem cCmp0 {x y : Int} : CallOK Tryz.prog 93 [i64 x, i64 y] (i64 (cmpI x y)) := by
 unfold cmpI
 by_cases h1 : x < y
 ·refine call_of (fn := Tryz.f93) (code := bodyOf Tryz.f93) Tryz.func93 rfl (by kernel_rfl) (rfl) ?_
  intro sl hs
  have s0 : sl 0 = i64 x := hs 0
  have s1 : sl 1 = i64 y := hs 1
  dsimp only [Tryz.f93, bodyOf, Option.getD]
  refine Yac ?_
  refine CLL_pure _ cNaN PUt rfl rfl ?_
  refine Yac ?_
  refine CLL_pure _ cNaN PUt rfl rfl ?_
  simp (disch := first | assumption | omega) only [go_sem, ↓reduceIte, Nat.reduceEqDiff, Nat.reduceAdd, Nat.reduceMul, zc, s0, s1, eq_true h1]
  exact Yab
 ·by_cases h2 : y < x
  ·refine call_of (fn := Tryz.f93) (code := bodyOf Tryz.f93) Tryz.func93 rfl (by kernel_rfl) (rfl) ?_
   intro sl hs
   have s0 : sl 0 = i64 x := hs 0
   have s1 : sl 1 = i64 y := hs 1
   dsimp only [Tryz.f93, bodyOf, Option.getD]
   refine Yac ?_
   refine CLL_pure _ cNaN PUt rfl rfl ?_
   refine Yac ?_
   refine CLL_pure _ cNaN PUt rfl rfl ?_
   simp (disch := first | assumption | omega) only [go_sem, ↓reduceIte, Nat.reduceEqDiff, Nat.reduceAdd, Nat.reduceMul, zc, s0, s1, eq_false h1, eq_true h2]
   exact Yab
  ·refine call_of (fn := Tryz.f93) (code := bodyOf Tryz.f93) Tryz.func93 rfl (by kernel_rfl) (rfl) ?_
   intro sl hs
   have s0 : sl 0 = i64 x := hs 0
   have s1 : sl 1 = i64 y := hs 1
   dsimp only [Tryz.f93, bodyOf, Option.getD]
   refine Yac ?_
   refine CLL_pure _ cNaN PUt rfl rfl ?_
   refine Yac ?_
   refine CLL_pure _ cNaN PUt rfl rfl ?_
   simp (disch := first | assumption | omega) only [go_sem, ↓reduceIte, Nat.reduceEqDiff, Nat.reduceAdd, Nat.reduceMul, zc, s0, s1, eq_false h1, eq_false h2]
   exact Yab
theorem cCmp1 {a b : AV} {xs ys : List Int} (ha : isL a xs) (hb : isL b ys) (hx : xs.length ≤ maxN) (hy : ys.length ≤ maxN) : CallOK Tryz.prog 68 [a, b] (i64 (cmp1 xs ys)) := by
 have hx2 : xs.length ≤ 4294967296 := hx
 have hy2 : ys.length ≤ 4294967296 := hy
 refine call_of (fn := Tryz.f68) (code := bodyOf Tryz.f68) Tryz.func68 rfl (by kernel_rfl) (rfl) ?_
 intro sl hs
 have s0 : sl 0 = a := hs 0
 have s1 : sl 1 = b := hs 1
 dsimp only [Tryz.f68, bodyOf, Option.getD]
 refine Yac ?_
 refine WK_for (fun i st => st.sl 0 = a ∧ st.sl 1 = b ∧ st.sl 9 = a ∧ st.sl 10 = i64 (xs.length : Nat) ∧ st.sl 11 = i64 (i : Int) ∧ (i ≤ ys.length ∧ cmp1 xs ys = cmp1 (xs.drop i) (ys.drop i))) xs.length ?_ ?_ ?_
 ·refine Yag ?_
  exact ⟨rfl, Nat.zero_le _, rfl⟩
 ·rintro i sl ro gn hi ⟨s0, s1, s9, s10, s11, q⟩
  dsimp only at s0 s1 s9 s10 s11
  have hi' : (i : Int) < (xs.length : Nat) := by omega
  obtain ⟨q1, q2⟩ := q
  by_cases h : (ys.length : Int) ≤ i
  ·simp (disch := first | assumption | omega) only [go_sem, ↓reduceIte, Nat.reduceEqDiff, Nat.reduceAdd, Nat.reduceMul, zc, s0, s1, s9, s10, s11, hi', hi, eq_true h]
   refine Yaa ?_
   rw [q2]
   exact (cmpG_short (f := cmpI) hi (by omega)).symm
  ·have hi3 : i < ys.length := by omega
   have hd := cmpG_drop (f := cmpI) (getD_some (0 : Int) hi) (getD_some (0 : Int) hi3)
   simp (disch := first | assumption | omega) only [go_sem, ↓reduceIte, Nat.reduceEqDiff, Nat.reduceAdd, Nat.reduceMul, zc, s0, s1, s9, s10, s11, hi', hi, eq_false h]
   refine CLL_pure _ cCmp0 PUt rfl rfl ?_
   by_cases h0 : cmpI (atI xs i) (atI ys i) = 0
   ·simp (disch := first | assumption | omega) only [go_sem, ↓reduceIte, Nat.reduceEqDiff, Nat.reduceAdd, Nat.reduceMul, zc, s0, s1, s9, s10, s11, hi', hi, eq_true h0]
    exact ⟨i64c (by omega), by omega, by rw [q2]; refine hd.trans (if_pos ?_); exact h0⟩
   ·simp (disch := first | assumption | omega) only [go_sem, ↓reduceIte, Nat.reduceEqDiff, Nat.reduceAdd, Nat.reduceMul, zc, s0, s1, s9, s10, s11, hi', hi, eq_false h0]
    refine Yaa ?_
    rw [q2]
    refine (hd.trans (if_neg ?_)).symm
    exact h0
 ·rintro sl ro gn ⟨s0, s1, s9, s10, s11, q⟩
  dsimp only at s0 s1 s9 s10 s11
  have hi' : ¬ ((xs.length : Nat) : Int) < (xs.length : Nat) := by omega
  obtain ⟨q1, q2⟩ := q
  by_cases h : (xs.length : Int) < ys.length
  ·simp (disch := first | assumption | omega) only [go_sem, ↓reduceIte, Nat.reduceEqDiff, Nat.reduceAdd, Nat.reduceMul, zc, s0, s1, s9, s10, s11, hi', eq_true h]
   refine Yaa ?_
   rw [q2]
   exact ((cmpG_end (f := cmpI) q1).trans (if_pos (by omega))).symm
  ·simp (disch := first | assumption | omega) only [go_sem, ↓reduceIte, Nat.reduceEqDiff, Nat.reduceAdd, Nat.reduceMul, zc, s0, s1, s9, s10, s11, hi', eq_false h]
   refine Yaa ?_
   rw [q2]
   exact ((cmpG_end (f := cmpI) q1).trans (if_neg (by omega))).symm
theorem cCmp2 {a b : AV} {xs ys : List (List Int)} (ha : isLL a xs) (hb : isLL b ys) (hx : xs.length ≤ maxN) (hy : ys.length ≤ maxN) (hx1 : ∀ i, i < xs.length → (row xs i).length ≤ maxN) (hy1 : ∀ i, i < ys.length → (row ys i).length ≤ maxN) : CallOK Tryz.prog 67 [a, b, .fn 68 []] (i64 (cmp2 xs ys)) := by
 have hx2 : xs.length ≤ 4294967296 := hx
 have hy2 : ys.length ≤ 4294967296 := hy
 refine call_of (fn := Tryz.f67) (code := bodyOf Tryz.f67) Tryz.func67 rfl (by kernel_rfl) (rfl) ?_
 intro sl hs
 have s0 : sl 0 = a := hs 0
 have s1 : sl 1 = b := hs 1
 have s2 : sl 2 = .fn 68 [] := hs 2
 dsimp only [Tryz.f67, bodyOf, Option.getD]
 refine Ybp ?_
 refine WK_for (fun i st => st.sl 0 = a ∧ st.sl 1 = b ∧ st.sl 2 = .fn 68 [] ∧ st.sl 11 = a ∧ st.sl 12 = i64 (xs.length : Nat) ∧ st.sl 13 = i64 (i : Int) ∧ (i ≤ ys.length ∧ cmp2 xs ys = cmp2 (xs.drop i) (ys.drop i))) xs.length ?_ ?_ ?_
 ·refine Ybd ?_
  exact ⟨rfl, Nat.zero_le _, rfl⟩
 ·rintro i sl ro gn hi ⟨s0, s1, s2, s11, s12, s13, q⟩
  dsimp only at s0 s1 s2 s11 s12 s13
  have hi' : (i : Int) < (xs.length : Nat) := by omega
  obtain ⟨q1, q2⟩ := q
  by_cases h : (ys.length : Int) ≤ i
  ·simp (disch := first | assumption | omega) only [go_sem, ↓reduceIte, Nat.reduceEqDiff, Nat.reduceAdd, Nat.reduceMul, zc, s0, s1, s2, s11, s12, s13, hi', hi, eq_true h]
   refine Yaa ?_
   rw [q2]
   exact (cmpG_short (f := cmp1) hi (by omega)).symm
  ·have hi3 : i < ys.length := by omega
   have hd := cmpG_drop (f := cmp1) (getD_some ([] : List Int) hi) (getD_some ([] : List Int) hi3)
   have r1 := isLL_row ha hi
   have r2 := isLL_row hb hi3
   have c := cCmp1 r1 r2 (hx1 i hi) (hy1 i hi3)
   simp (disch := first | assumption | omega) only [go_sem, ↓reduceIte, Nat.reduceEqDiff, Nat.reduceAdd, Nat.reduceMul, zc, s0, s1, s2, s11, s12, s13, hi', hi, eq_false h]
   refine CLL_pure _ c PUt rfl rfl ?_
   by_cases h0 : cmp1 (row xs i) (row ys i) = 0
   ·simp (disch := first | assumption | omega) only [go_sem, ↓reduceIte, Nat.reduceEqDiff, Nat.reduceAdd, Nat.reduceMul, zc, s0, s1, s2, s11, s12, s13, hi', hi, eq_true h0]
    exact ⟨i64c (by omega), by omega, by rw [q2]; refine hd.trans (if_pos ?_); exact h0⟩
   ·simp (disch := first | assumption | omega) only [go_sem, ↓reduceIte, Nat.reduceEqDiff, Nat.reduceAdd, Nat.reduceMul, zc, s0, s1, s2, s11, s12, s13, hi', hi, eq_false h0]
    refine Yaa ?_
    rw [q2]
    refine (hd.trans (if_neg ?_)).symm
    exact h0
 ·rintro sl ro gn ⟨s0, s1, s2, s11, s12, s13, q⟩
  dsimp only at s0 s1 s2 s11 s12 s13
  have hi' : ¬ ((xs.length : Nat) : Int) < (xs.length : Nat) := by omega
  obtain ⟨q1, q2⟩ := q
  by_cases h : (xs.length : Int) < ys.length
  ·simp (disch := first | assumption | omega) only [go_sem, ↓reduceIte, Nat.reduceEqDiff, Nat.reduceAdd, Nat.reduceMul, zc, s0, s1, s2, s11, s12, s13, hi', eq_true h]
   refine Yaa ?_
   rw [q2]
   exact ((cmpG_end (f := cmp1) q1).trans (if_pos (by omega))).symm
  ·simp (disch := first | assumption | omega) only [go_sem, ↓reduceIte, Nat.reduceEqDiff, Nat.reduceAdd, Nat.reduceMul, zc, s0, s1, s2, s11, s12, s13, hi', eq_false h]
   refine Yaa ?_
   rw [q2]
   exact ((cmpG_end (f := cmp1) q1).trans (if_neg (by omega))).symm
theorem cCmp2f {a b : AV} {xs ys : List (List Int)} (ha : isLL a xs) (hb : isLL b ys) (hx : xs.length ≤ maxN) (hy : ys.length ≤ maxN) (hx1 : ∀ i, i < xs.length → (row xs i).length ≤ maxN) (hy1 : ∀ i, i < ys.length → (row ys i).length ≤ maxN) : CallOK Tryz.prog 66 [a, b] (i64 (cmp2 xs ys)) := by
 have c := cCmp2 ha hb hx hy hx1 hy1
 refine call_of (fn := Tryz.f66) (code := bodyOf Tryz.f66) Tryz.func66 rfl (by kernel_rfl) (rfl) ?_
 intro sl hs
 have s0 : sl 0 = a := hs 0
 have s1 : sl 1 = b := hs 1
 dsimp only [Tryz.f66, bodyOf, Option.getD]
 refine Yac ?_
 refine CLL_pure _ c (by simp (disch := assumption) only [pureL, pureA, isLL_pure, Bool.and_self, Bool.and_true]) rfl rfl ?_
 refine Yac ?_
 exact Yab
theorem cCmp3 {a b : AV} {xs ys : List (List (List Int))} (ha : isLLL a xs) (hb : isLLL b ys) (hx : xs.length ≤ maxN) (hy : ys.length ≤ maxN) (hx1 : ∀ i, i < xs.length → (mat xs i).length ≤ maxN) (hy1 : ∀ i, i < ys.length → (mat ys i).length ≤ maxN)
  (hx3 : ∀ i, i < xs.length → ∀ j, j < (mat xs i).length → (row (mat xs i) j).length ≤ maxN) (hy3 : ∀ i, i < ys.length → ∀ j, j < (mat ys i).length → (row (mat ys i) j).length ≤ maxN) : CallOK Tryz.prog 65 [a, b, .fn 66 []] (i64 (cmp3 xs ys)) := by
 have hx2 : xs.length ≤ 4294967296 := hx
 have hy2 : ys.length ≤ 4294967296 := hy
 refine call_of (fn := Tryz.f65) (code := bodyOf Tryz.f65) Tryz.func65 rfl (by kernel_rfl) (rfl) ?_
 intro sl hs
 have s0 : sl 0 = a := hs 0
 have s1 : sl 1 = b := hs 1
 have s2 : sl 2 = .fn 66 [] := hs 2
 dsimp only [Tryz.f65, bodyOf, Option.getD]
 refine Ybp ?_
 refine WK_for (fun i st => st.sl 0 = a ∧ st.sl 1 = b ∧ st.sl 2 = .fn 66 [] ∧ st.sl 11 = a ∧ st.sl 12 = i64 (xs.length : Nat) ∧ st.sl 13 = i64 (i : Int) ∧ (i ≤ ys.length ∧ cmp3 xs ys = cmp3 (xs.drop i) (ys.drop i))) xs.length ?_ ?_ ?_
 ·refine Ybd ?_
  exact ⟨rfl, Nat.zero_le _, rfl⟩
 ·rintro i sl ro gn hi ⟨s0, s1, s2, s11, s12, s13, q⟩
  dsimp only at s0 s1 s2 s11 s12 s13
  have hi' : (i : Int) < (xs.length : Nat) := by omega
  obtain ⟨q1, q2⟩ := q
  by_cases h : (ys.length : Int) ≤ i
  ·simp (disch := first | assumption | omega) only [go_sem, ↓reduceIte, Nat.reduceEqDiff, Nat.reduceAdd, Nat.reduceMul, zc, s0, s1, s2, s11, s12, s13, hi', hi, eq_true h]
   refine Yaa ?_
   rw [q2]
   exact (cmpG_short (f := cmp2) hi (by omega)).symm
  ·have hi3 : i < ys.length := by omega
   have hd := cmpG_drop (f := cmp2) (getD_some ([] : List (List Int)) hi) (getD_some ([] : List (List Int)) hi3)
   have r1 := isLLL_mat ha hi
   have r2 := isLLL_mat hb hi3
   have c := cCmp2f r1 r2 (hx1 i hi) (hy1 i hi3) (hx3 i hi) (hy3 i hi3)
   simp (disch := first | assumption | omega) only [go_sem, ↓reduceIte, Nat.reduceEqDiff, Nat.reduceAdd, Nat.reduceMul, zc, s0, s1, s2, s11, s12, s13, hi', hi, eq_false h]
   refine CLL_pure _ c PUt rfl rfl ?_
   by_cases h0 : cmp2 (mat xs i) (mat ys i) = 0
   ·simp (disch := first | assumption | omega) only [go_sem, ↓reduceIte, Nat.reduceEqDiff, Nat.reduceAdd, Nat.reduceMul, zc, s0, s1, s2, s11, s12, s13, hi', hi, eq_true h0]
    exact ⟨i64c (by omega), by omega, by rw [q2]; refine hd.trans (if_pos ?_); exact h0⟩
   ·simp (disch := first | assumption | omega) only [go_sem, ↓reduceIte, Nat.reduceEqDiff, Nat.reduceAdd, Nat.reduceMul, zc, s0, s1, s2, s11, s12, s13, hi', hi, eq_false h0]
    refine Yaa ?_
    rw [q2]
    refine (hd.trans (if_neg ?_)).symm
    exact h0
 ·rintro sl ro gn ⟨s0, s1, s2, s11, s12, s13, q⟩
  dsimp only at s0 s1 s2 s11 s12 s13
  have hi' : ¬ ((xs.length : Nat) : Int) < (xs.length : Nat) := by omega
  obtain ⟨q1, q2⟩ := q
  by_cases h : (xs.length : Int) < ys.length
  ·simp (disch := first | assumption | omega) only [go_sem, ↓reduceIte, Nat.reduceEqDiff, Nat.reduceAdd, Nat.reduceMul, zc, s0, s1, s2, s11, s12, s13, hi', eq_true h]
   refine Yaa ?_
   rw [q2]
   exact ((cmpG_end (f := cmp2) q1).trans (if_pos (by omega))).symm
  ·simp (disch := first | assumption | omega) only [go_sem, ↓reduceIte, Nat.reduceEqDiff, Nat.reduceAdd, Nat.reduceMul, zc, s0, s1, s2, s11, s12, s13, hi', eq_false h]
   refine Yaa ?_
   rw [q2]
   exact ((cmpG_end (f := cmp2) q1).trans (if_neg (by omega))).symm
theorem cCmpR {a b : AV} {xs ys : List (List (List Int))} (ha : isLLL a xs) (hb : isLLL b ys) (hx : xs.length ≤ maxN) (hy : ys.length ≤ maxN) (hx1 : ∀ i, i < xs.length → (mat xs i).length ≤ maxN) (hy1 : ∀ i, i < ys.length → (mat ys i).length ≤ maxN)
  (hx3 : ∀ i, i < xs.length → ∀ j, j < (mat xs i).length → (row (mat xs i) j).length ≤ maxN) (hy3 : ∀ i, i < ys.length → ∀ j, j < (mat ys i).length → (row (mat ys i) j).length ≤ maxN) : CallOK Tryz.prog 37 [.agg [a], .agg [b]] (i64 (cmp3 xs ys)) := by
 have c := cCmp3 ha hb hx hy hx1 hy1 hx3 hy3
 refine call_of (fn := Tryz.f37) (code := bodyOf Tryz.f37) Tryz.func37 rfl (by kernel_rfl) (rfl) ?_
 intro sl hs
 have s0 : sl 0 = .agg [a] := hs 0
 have s1 : sl 1 = .agg [b] := hs 1
 dsimp only [Tryz.f37, bodyOf, Option.getD]
 simp (disch := first | assumption | omega) only [go_sem, ↓reduceIte, Nat.reduceEqDiff, Nat.reduceAdd, Nat.reduceMul, zc, s0, s1, ti33]
 refine CLL_pure _ c (by simp (disch := assumption) only [pureL, pureA, isLLL_pure, Bool.and_self, Bool.and_true]) rfl rfl ?_
 refine Yac ?_
 exact Yab
theorem noI_aggC (F : Nat → Nat → Nat → Int) (n : Nat) : noI (.agg [cubeA F n]) = true := by
 show (noI (cubeA F n) && true) = true
 rw [noI_cube]
 rfl
theorem rws_self : ∀ (xs : List Int), rws (fun i => atI xs i) xs.length = xs := fun xs => by
 refine eq_of_atI (zfe _ _) fun i hi => ?_
 rw [zfe] at hi
 exact atI_rws _ hi
theorem cOwn1 {xs : List Int} (hx : xs.length ≤ maxN) : CallOK Tryz.prog 80 [immL xs] (rowL xs) := by
 have hx' : 0 + xs.length ≤ 4294967296 := by have : xs.length ≤ 4294967296 := hx; omega
 have hall : (xs.map i64).all zez = true := List.all_eq_true.2 fun x hx => by obtain ⟨y, -, rfl⟩ := List.mem_map.1 hx; rfl
 refine call_of (fn := Tryz.f80) (code := bodyOf Tryz.f80) Tryz.func80 rfl (by kernel_rfl) (noRef_rowL _) ?_
 intro sl hs
 have s0 : sl 0 = immL xs := hs 0
 dsimp only [Tryz.f80, bodyOf, Option.getD]
 simp (disch := first | assumption | omega) only [go_sem, ↓reduceIte, Nat.reduceEqDiff, Nat.reduceAdd, Nat.reduceMul, zc, s0, hall, List.length_map, hx']
 exact Yab
theorem cOwn0 : CallOK Tryz.prog 80 [nilA] (rowL []) := by
 have hnil : isNilV (Value.slice none 0 0) = true := rfl
 refine call_of (fn := Tryz.f80) (code := bodyOf Tryz.f80) Tryz.func80 rfl (by kernel_rfl) (noRef_rowL _) ?_
 intro sl hs
 have s0 : sl 0 = nilA := hs 0
 dsimp only [Tryz.f80, bodyOf, Option.getD]
 simp (disch := first | assumption | omega) only [go_sem, ↓reduceIte, Nat.reduceEqDiff, Nat.reduceAdd, Nat.reduceMul, zc, s0, hnil]
 refine Yaa ?_
 rfl
theorem cOwn {a : AV} {xs : List Int} (ha : isL a xs) (hx : xs.length ≤ maxN) : CallOK Tryz.prog 80 [a] (rowL xs) := by
 rcases ha with rfl | ⟨rfl, rfl⟩
 ·exact cOwn1 hx
 ·exact cOwn0
theorem cOwn2 {a : AV} {S : List (List Int)} (ha : isLL a S) (hS : S.length ≤ maxN) (hR : ∀ i, i < S.length → (row S i).length ≤ maxN) : CallOK Tryz.prog 97 [a] (.row (rws (fun x => rowL (row S x)) S.length)) := by
 have hS' : S.length ≤ 4294967296 := hS
 refine call_of (fn := Tryz.f97) (code := bodyOf Tryz.f97) Tryz.func97 rfl (by kernel_rfl) (noRef_row _ (noRefL_rws _ _ fun _ => noRef_rowL _)) ?_
 intro sl hs
 have s0 : sl 0 = a := hs 0
 dsimp only [Tryz.f97, bodyOf, Option.getD]
 refine Yad ?_
 refine WK_for (fun i st => st.sl 0 = a ∧ st.sl 3 = .ref 8192 (st.gn 8192) [] 0 i ∧ st.ro 8192 (st.gn 8192) = some (.row (rws (fun x => rowL (row S x)) i)) ∧ st.sl 4 = i64 (i : Int)) S.length ?_ ?_ ?_
 ·refine Yam ?_
  exact rfl
 ·rintro i sl ro gn hi ⟨s0, s3, r8192, s4⟩
  dsimp only at s0 s3 r8192 s4
  have hi' : (i : Int) < (S.length : Nat) := by omega
  have hi2 : i + 1 ≤ 4294967296 := by omega
  have hr := isLL_row ha hi
  simp (disch := first | assumption | omega) only [go_sem, ↓reduceIte, Nat.reduceEqDiff, Nat.reduceAdd, Nat.reduceMul, zc, s0, s3, r8192, s4, hi', hi]
  refine CLL_pure _ (cOwn hr (hR i hi)) PUt rfl rfl ?_
  simp (disch := first | assumption | omega) only [go_sem, ↓reduceIte, Nat.reduceEqDiff, Nat.reduceAdd, Nat.reduceMul, zc, s0, s3, r8192, s4, hi', hi, hi2]
  exact i64c (by omega)
 ·rintro sl ro gn ⟨s0, s3, r8192, s4⟩
  dsimp only at s0 s3 r8192 s4
  have hi' : ¬ ((S.length : Nat) : Int) < (S.length : Nat) := by omega
  simp (disch := first | assumption | omega) only [go_sem, ↓reduceIte, Nat.reduceEqDiff, Nat.reduceAdd, Nat.reduceMul, zc, s0, s3, r8192, s4, hi']
  exact Ycl
theorem cOwn3 {a : AV} {T : List (List (List Int))} (ha : isLLL a T) (hT : T.length ≤ maxN) (hT2 : ∀ i, i < T.length → (mat T i).length ≤ maxN ∧ ∀ j, j < (mat T i).length → (row (mat T i) j).length ≤ maxN) : CallOK Tryz.prog 72 [a] (.row (rws (fun x => .row (rws (fun y => rowL (row (mat T x) y)) (mat T x).length)) T.length)) := by
 have hS' : T.length ≤ 4294967296 := hT
 refine call_of (fn := Tryz.f72) (code := bodyOf Tryz.f72) Tryz.func72 rfl (by kernel_rfl) (noRef_row _ (noRefL_rws _ _ fun _ => noRef_row _ (noRefL_rws _ _ fun _ => noRef_rowL _))) ?_
 intro sl hs
 have s0 : sl 0 = a := hs 0
 dsimp only [Tryz.f72, bodyOf, Option.getD]
 refine Yad ?_
 refine WK_for (fun i st => st.sl 0 = a ∧ st.sl 3 = .ref 8192 (st.gn 8192) [] 0 i ∧ st.ro 8192 (st.gn 8192) = some (.row (rws (fun x => .row (rws (fun y => rowL (row (mat T x) y)) (mat T x).length)) i)) ∧ st.sl 4 = i64 (i : Int)) T.length ?_ ?_ ?_
 ·refine Yam ?_
  exact rfl
 ·rintro i sl ro gn hi ⟨s0, s3, r8192, s4⟩
  dsimp only at s0 s3 r8192 s4
  have hi' : (i : Int) < (T.length : Nat) := by omega
  have hi2 : i + 1 ≤ 4294967296 := by omega
  have hr := isLLL_mat ha hi
  simp (disch := first | assumption | omega) only [go_sem, ↓reduceIte, Nat.reduceEqDiff, Nat.reduceAdd, Nat.reduceMul, zc, s0, s3, r8192, s4, hi', hi]
  refine CLL_pure _ (cOwn2 hr (hT2 i hi).1 (hT2 i hi).2) PUt rfl rfl ?_
  simp (disch := first | assumption | omega) only [go_sem, ↓reduceIte, Nat.reduceEqDiff, Nat.reduceAdd, Nat.reduceMul, zc, s0, s3, r8192, s4, hi', hi, hi2]
  exact i64c (by omega)
 ·rintro sl ro gn ⟨s0, s3, r8192, s4⟩
  dsimp only at s0 s3 r8192 s4
  have hi' : ¬ ((T.length : Nat) : Int) < (T.length : Nat) := by omega
  simp (disch := first | assumption | omega) only [go_sem, ↓reduceIte, Nat.reduceEqDiff, Nat.reduceAdd, Nat.reduceMul, zc, s0, s3, r8192, s4, hi']
  exact Ycl
theorem cClo {xs : List Int} (hx : xs.length ≤ maxN) : CallOK Tryz.prog 84 [immL xs] (rowL xs) := by
 have hx' : 0 + xs.length ≤ 4294967296 := by have : xs.length ≤ 4294967296 := hx; omega
 have hall : (xs.map i64).all zez = true := List.all_eq_true.2 fun x hx => by obtain ⟨y, -, rfl⟩ := List.mem_map.1 hx; rfl
 refine call_of (fn := Tryz.f84) (code := bodyOf Tryz.f84) Tryz.func84 rfl (by kernel_rfl) (noRef_rowL _) ?_
 intro sl hs
 have s0 : sl 0 = immL xs := hs 0
 dsimp only [Tryz.f84, bodyOf, Option.getD]
 simp (disch := first | assumption | omega) only [go_sem, ↓reduceIte, Nat.reduceEqDiff, Nat.reduceAdd, Nat.reduceMul, zc, s0, hall, List.length_map, hx']
 exact Yab
theorem cCloP {a : AV} {xs : List Int} (ha : isL a xs) (hx : xs.length ≤ maxN) (hp : 0 < xs.length) : CallOK Tryz.prog 84 [a] (rowL xs) := by
 rcases ha with rfl | ⟨rfl, rfl⟩
 ·exact cClo hx
 ·exact absurd hp (by decide)
theorem cOpp {c : AV} {T : List (List (List Int))} (ha : isLLL c T) (hc : CubeP T) : CallOK Tryz.prog 50 [.agg [c]] (.agg [cubeA (fun i j k => at3 T j i k) T.length]) := by
 obtain ⟨h1, h2, h3⟩ := id hc
 refine call_of (fn := Tryz.f50) (code := bodyOf Tryz.f50) Tryz.func50 rfl (by kernel_rfl) (by have := noRef_cube (fun i j k => at3 T j i k) T.length; simp only [noRef, noRefL, Bool.and_true] at this ⊢; exact this) ?_
 intro sl hs
 have s0 : sl 0 = .agg [c] := hs 0
 dsimp only [Tryz.f50, bodyOf, Option.getD]
 simp (disch := first | assumption | omega) only [go_sem, ↓reduceIte, Nat.reduceEqDiff, Nat.reduceAdd, Nat.reduceMul, zc, s0, ti33, ti31, isLLL_len ha]
 refine WK_for (fun i st => st.sl 1 = .ptr 4096 1 [] 0 ∧ st.ro 4096 1 = some (.bx [c]) ∧ st.sl 2 = .ptr 4112 1 [] 0 ∧ st.ro 4112 1 = some (.bx [nilA]) ∧ st.sl 3 = .ptr 8208 1 [] 0 ∧ st.sl 10 = i64 (T.length : Nat) ∧ st.sl 11 = i64 (i : Int) ∧ ((i = 0 ∧ st.ro 8208 1 = some (.bx [nilA])) ∨ (0 < i ∧ st.ro 8208 1 = some (.bx [.ref 49216 (st.gn 49216) [] 0 i]) ∧ st.ro 49216 (st.gn 49216) = some (.row (rws (fun i => .row (rws (fun j => .row (rws (fun k => i64 (at3 T j i k)) T.length)) T.length)) i))))) T.length ?_ ?_ ?_
 ·refine Yam ?_
  exact ⟨rfl, .inl trivial⟩
 ·rintro i sl ro gn hi ⟨s1, r4096, s2, r4112, s3, s10, s11, q⟩
  dsimp only at s1 r4096 s2 r4112 s3 s10 s11
  have hi' : (i : Int) < (T.length : Nat) := by omega
  dsimp only at q
  simp (disch := first | assumption | omega) only [go_sem, ↓reduceIte, Nat.reduceEqDiff, Nat.reduceAdd, Nat.reduceMul, zc, s1, r4096, s2, r4112, s3, s10, s11, hi', hi, isLLL_len ha]
  refine WK_for (fun j st => st.sl 1 = .ptr 4096 1 [] 0 ∧ st.ro 4096 1 = some (.bx [c]) ∧ st.sl 2 = .ptr 4112 1 [] 0 ∧ st.ro 4112 1 = some (.bx [nilA]) ∧ st.sl 3 = .ptr 8208 1 [] 0 ∧ st.sl 10 = i64 (T.length : Nat) ∧ st.sl 11 = i64 (i : Int) ∧ st.sl 4 = i64 (i : Int) ∧ st.sl 17 = i64 (T.length : Nat) ∧ st.sl 18 = i64 (j : Int) ∧ st.sl 5 = .ref 24576 (st.gn 24576) [] 0 j ∧ st.ro 24576 (st.gn 24576) = some (.row (rws (fun j => .row (rws (fun k => i64 (at3 T j i k)) T.length)) j)) ∧ ((i = 0 ∧ st.ro 8208 1 = some (.bx [nilA])) ∨ (0 < i ∧ st.ro 8208 1 = some (.bx [.ref 49216 (st.gn 49216) [] 0 i]) ∧ st.ro 49216 (st.gn 49216) = some (.row (rws (fun i => .row (rws (fun j => .row (rws (fun k => i64 (at3 T j i k)) T.length)) T.length)) i))))) T.length ?_ ?_ ?_
  ·simp only [↓za, ↓reduceIte, Nat.reduceEqDiff, zb, reduceCtorEq, rws_zero, s1, r4096, s2, r4112, s3, s10, s11, hi', hi]
   exact ⟨rfl, q⟩
  ·rintro j sl ro gn hj ⟨s1, r4096, s2, r4112, s3, s10, s11, s4, s17, s18, s5, r24576, q2⟩
   dsimp only at s1 r4096 s2 r4112 s3 s10 s11 s4 s17 s18 s5 r24576
   have hj' : (j : Int) < (T.length : Nat) := by omega
   dsimp only at q2
   have hj2 : j + 1 ≤ 4294967296 := by omega
   have hm := isLLL_mat ha hj
   have hij : i < (mat T j).length := by rw [(h3 j hj).1]; exact hi
   have hr := isLL_row hm hij
   have lr : (row (mat T j) i).length = T.length := ((h3 j hj).2 i hi).1
   have cl := cCloP hr (by rw [lr]; unfold maxN; omega) (by omega)
   have er : rowL (row (mat T j) i) = .row (rws (fun k => i64 (at3 T j i k)) T.length) := by
    show AV.row ((row (mat T j) i).map i64) = _
    congr 1
    rw [← lr, ← rws_map (fun k => at3 T j i k), rws_self]
   rw [er] at cl
   simp (disch := first | assumption | omega) only [go_sem, ↓reduceIte, Nat.reduceEqDiff, Nat.reduceAdd, Nat.reduceMul, zc, s1, r4096, s2, r4112, s3, s10, s11, s4, s17, s18, s5, r24576, hj', hj]
   refine CLL_pure _ cl PUt rfl rfl ?_
   simp (disch := first | assumption | omega) only [go_sem, ↓reduceIte, Nat.reduceEqDiff, Nat.reduceAdd, Nat.reduceMul, zc, s1, r4096, s2, r4112, s3, s10, s11, s4, s17, s18, s5, r24576, hj', hj, impE_row, zfe, hj2]
   exact ⟨i64c (by omega), q2⟩
  ·rintro sl ro gn ⟨s1, r4096, s2, r4112, s3, s10, s11, s4, s17, s18, s5, r24576, q2⟩
   dsimp only at s1 r4096 s2 r4112 s3 s10 s11 s4 s17 s18 s5 r24576
   have hj' : ¬ ((T.length : Nat) : Int) < (T.length : Nat) := by omega
   dsimp only at q2
   have hi2 : i + 1 ≤ 4294967296 := by omega
   rcases q2 with ⟨hi0, q3⟩ | ⟨hi0, q3, q4⟩
   ·simp (disch := first | assumption | omega) only [go_sem, ↓reduceIte, Nat.reduceEqDiff, Nat.reduceAdd, Nat.reduceMul, zc, s1, r4096, s2, r4112, s3, s10, s11, s4, s17, s18, s5, r24576, hj', q3, zfe]
    refine ⟨i64c (by omega), .inr ⟨by omega, ?_⟩⟩
    subst hi0
    exact ⟨rfl, rfl⟩
   ·simp (disch := first | assumption | omega) only [go_sem, ↓reduceIte, Nat.reduceEqDiff, Nat.reduceAdd, Nat.reduceMul, zc, s1, r4096, s2, r4112, s3, s10, s11, s4, s17, s18, s5, r24576, hj', q3, q4, zfe, hi2]
    exact ⟨i64c (by omega), .inr trivial⟩
 ·rintro sl ro gn ⟨s1, r4096, s2, r4112, s3, s10, s11, q⟩
  dsimp only at s1 r4096 s2 r4112 s3 s10 s11
  have hi' : ¬ ((T.length : Nat) : Int) < (T.length : Nat) := by omega
  dsimp only at q
  rcases q with ⟨hi0, q3⟩ | ⟨hi0, q3, q4⟩
  ·omega
  ·simp (disch := first | assumption | omega) only [go_sem, ↓reduceIte, Nat.reduceEqDiff, Nat.reduceAdd, Nat.reduceMul, zc, s1, r4096, s2, r4112, s3, s10, s11, hi', q3, q4]
   exact Yea
section
variable {F G : Nat → Nat → Nat → Int} {n : Nat} {a b c p : AV}
theorem lenC (F : Nat → Nat → Nat → Int) (n : Nat) : (cubeL F n).length = n := zfe _ _
theorem lenM {i : Nat} (hi : i < n) : (mat (cubeL F n) i).length = n := by rw [mat_cube hi, zfe]
theorem lenR {i j : Nat} (hi : i < n) (hj : j < n) : (row (mat (cubeL F n) i) j).length = n := by rw [mat_cube hi, row_rws _ hj, zfe]
theorem rowC {i j : Nat} (hi : i < n) (hj : j < n) : row (mat (cubeL F n) i) j = rws (fun k => F i j k) n := by rw [mat_cube hi, row_rws _ hj]
theorem cOwnC (ha : isLLL a (cubeL F n)) (hn : n ≤ maxN) : CallOK Tryz.prog 72 [a] (cubeA F n) := by
 have h := cOwn3 ha (by rw [lenC]; exact hn) (fun i hi => by
  rw [lenC] at hi
  rw [lenM hi]
  exact ⟨hn, fun j hj => by rw [lenR hi hj]; exact hn⟩)
 rw [lenC] at h
 have e : AV.row (rws (fun x => .row (rws (fun y => rowL (row (mat (cubeL F n) x) y)) (mat (cubeL F n) x).length)) n) = cubeA F n := by
  refine congrArg AV.row (rws_congr fun i hi => ?_)
  rw [lenM hi]
  refine congrArg AV.row (rws_congr fun j hj => ?_)
  rw [rowC hi hj]
  show AV.row ((rws (fun k => F i j k) n).map i64) = _
  rw [rws_map]
 rw [e] at h
 exact h
theorem cubeP_of (h1 : 1 ≤ n) (h16 : n ≤ 16) (hF : cubeOk F n) : CubeP (cubeL F n) := by
 refine ⟨by rw [lenC]; exact h1, by rw [lenC]; exact h16, fun i hi => ?_⟩
 rw [lenC] at hi ⊢
 refine ⟨lenM hi, fun j hj => ⟨lenR hi hj, fun k hk => ?_⟩⟩
 rw [at3_cube hi hj hk]
 exact hF i hi j hj k hk
theorem cOppC (ha : isLLL c (cubeL F n)) (h1 : 1 ≤ n) (h16 : n ≤ 16) (hF : cubeOk F n) : CallOK Tryz.prog 50 [.agg [c]] (.agg [cubeA (fun i j k => F j i k) n]) := by
 have h := cOpp ha (cubeP_of h1 h16 hF)
 rw [lenC] at h
 have e : cubeA (fun i j k => at3 (cubeL F n) j i k) n = cubeA (fun i j k => F j i k) n := cube_congr fun i j k hi hj hk => at3_cube hj hi hk
 rw [e] at h
 exact h
theorem cCopyR (ha : isLLL c (cubeL F n)) (h1 : 1 ≤ n) (h16 : n ≤ 16) (hF : cubeOk F n) : CallOK Tryz.prog 28 [.agg [c]] (.agg [cubeA F n]) := by
 have q1 := cOppC ha h1 h16 hF
 have q2 := cOppC (F := fun i j k => F j i k) (isLLL_immC (fun i j k => F j i k) n) h1 h16 (fun i hi j hj k hk => hF j hj i hi k hk)
 refine call_of (fn := Tryz.f28) (code := bodyOf Tryz.f28) Tryz.func28 rfl (by kernel_rfl) (noRef_agg1 _ (noRef_cube _ _)) ?_
 intro sl hs
 have s0 : sl 0 = .agg [c] := hs 0
 dsimp only [Tryz.f28, bodyOf, Option.getD]
 simp (disch := first | assumption | omega) only [go_sem, ↓reduceIte, Nat.reduceEqDiff, Nat.reduceAdd, Nat.reduceMul, zc, s0, ti33]
 refine CLL_pure _ q1 PUt rfl rfl ?_
 simp (disch := first | assumption | omega) only [go_sem, ↓reduceIte, Nat.reduceEqDiff, Nat.reduceAdd, Nat.reduceMul, zc, s0, impE_agg1, zfe]
 refine CLL_q _ q2 (.cons (exq_agg (.cons (exq_cube Ur (by decide)) .nil)) .nil) rfl rfl (noI_aggC _ _) ?_
 simp (disch := first | assumption | omega) only [go_sem, ↓reduceIte, Nat.reduceEqDiff, Nat.reduceAdd, Nat.reduceMul, zc, s0, impE_agg1, zfe]
 simp only [zr, zb, retR, resL, outT, outL, zes, zez, oneV, zcp, zed, zfi, Ro.dl, St.ev, zhk, ↓za, ↓reduceIte, Nat.reduceEqDiff, Nat.reduceAdd, Nat.reduceLeDiff, ti33]
theorem cCmpC (ha : isLLL a (cubeL F n)) (hb : isLLL b (cubeL G n)) (hn : n ≤ maxN) : CallOK Tryz.prog 37 [.agg [a], .agg [b]] (i64 (cmp3 (cubeL F n) (cubeL G n))) := by
 refine cCmpR ha hb (by rw [lenC]; exact hn) (by rw [lenC]; exact hn) (fun i hi => ?_) (fun i hi => ?_) (fun i hi j hj => ?_) (fun i hi j hj => ?_)
 ·rw [lenC] at hi; rw [lenM hi]; exact hn
 ·rw [lenC] at hi; rw [lenM hi]; exact hn
 ·rw [lenC] at hi; rw [lenM hi] at hj; rw [lenR hi hj]; exact hn
 ·rw [lenC] at hi; rw [lenM hi] at hj; rw [lenR hi hj]; exact hn
theorem cSame {o o' : AV} {O O' : List Int} (ho : isL o O) (ho' : isL o' O') (hO : O.length ≤ maxN) (hO' : O'.length ≤ maxN) {t : Bool} (ht : t = true ↔ O = O') : CallOK Tryz.prog 73 [o, o'] (bo t) := by
 have hx2 : O.length ≤ 4294967296 := hO
 by_cases h1 : O.length = O'.length
 ·have h1' : (O.length : Int) = O'.length := by omega
  refine call_of (fn := Tryz.f73) (code := bodyOf Tryz.f73) Tryz.func73 rfl (by kernel_rfl) (rfl) ?_
  intro sl hs
  have s0 : sl 0 = o := hs 0
  have s1 : sl 1 = o' := hs 1
  dsimp only [Tryz.f73, bodyOf, Option.getD]
  simp (disch := first | assumption | omega) only [go_sem, ↓reduceIte, Nat.reduceEqDiff, Nat.reduceAdd, Nat.reduceMul, zc, s0, s1, eq_true h1']
  refine WK_for (fun x st => st.sl 0 = o ∧ st.sl 1 = o' ∧ st.sl 5 = i64 (x : Int) ∧ (∀ j, j < x → atI O j = atI O' j)) O.length ?_ ?_ ?_
  ·refine Yag ?_
   exact ⟨rfl, fun x' h => absurd h (Nat.not_lt_zero _)⟩
  ·rintro x sl ro gn hx ⟨s0, s1, s5, q⟩
   dsimp only at s0 s1 s5
   have hx' : (x : Int) < (O.length : Nat) := by omega
   have hx2 : x < O'.length := by omega
   by_cases h2 : atI O x = atI O' x
   ·simp (disch := first | assumption | omega) only [go_sem, ↓reduceIte, Nat.reduceEqDiff, Nat.reduceAdd, Nat.reduceMul, zc, s0, s1, s5, hx', hx]
    refine FIN_of (by kernel_rfl) ?_
    simp (disch := first | assumption | omega) only [go_sem, ↓reduceIte, Nat.reduceEqDiff, Nat.reduceAdd, Nat.reduceMul, zc, s0, s1, s5, hx', hx, eq_true h2]
    refine ⟨i64c (by omega), fun y' h => ?_⟩
    rcases Nat.lt_or_ge y' x with h' | h'
    ·exact q y' h'
    ·rw [show y' = x by omega]; exact h2
   ·simp (disch := first | assumption | omega) only [go_sem, ↓reduceIte, Nat.reduceEqDiff, Nat.reduceAdd, Nat.reduceMul, zc, s0, s1, s5, hx', hx]
    refine FIN_of (by kernel_rfl) ?_
    simp (disch := first | assumption | omega) only [go_sem, ↓reduceIte, Nat.reduceEqDiff, Nat.reduceAdd, Nat.reduceMul, zc, s0, s1, s5, hx', hx, eq_false h2]
    refine Yaa ?_
    exact bool_false ht fun h => h2 (by rw [h])
  ·rintro sl ro gn ⟨s0, s1, s5, q⟩
   dsimp only at s0 s1 s5
   have hx' : ¬ ((O.length : Nat) : Int) < (O.length : Nat) := by omega
   simp (disch := first | assumption | omega) only [go_sem, ↓reduceIte, Nat.reduceEqDiff, Nat.reduceAdd, Nat.reduceMul, zc, s0, s1, s5, hx']
   refine Yaa ?_
   exact (ht.2 (eq_of_atI h1 q)).symm
 ·have h1' : ¬ (O.length : Int) = O'.length := by omega
  refine call_of (fn := Tryz.f73) (code := bodyOf Tryz.f73) Tryz.func73 rfl (by kernel_rfl) (rfl) ?_
  intro sl hs
  have s0 : sl 0 = o := hs 0
  have s1 : sl 1 = o' := hs 1
  dsimp only [Tryz.f73, bodyOf, Option.getD]
  simp (disch := first | assumption | omega) only [go_sem, ↓reduceIte, Nat.reduceEqDiff, Nat.reduceAdd, Nat.reduceMul, zc, s0, s1, eq_false h1']
  refine Yaa ?_
  exact bool_false ht fun h => h1 (by rw [h])
theorem cLess {xs ys : List Int} (ha : isL a xs) (hb : isL b ys) (hl : xs.length = ys.length) (hx : xs.length ≤ maxN) : CallOK Tryz.prog 74 [a, b] (bo (decide (cmp1 xs ys < 0))) := by
 have hx2 : xs.length ≤ 4294967296 := hx
 have hll : (ys.length : Int) = xs.length := by omega
 refine call_of (fn := Tryz.f74) (code := bodyOf Tryz.f74) Tryz.func74 rfl (by kernel_rfl) (rfl) ?_
 intro sl hs
 have s0 : sl 0 = a := hs 0
 have s1 : sl 1 = b := hs 1
 dsimp only [Tryz.f74, bodyOf, Option.getD]
 refine Yac ?_
 refine WK_for (fun i st => st.sl 0 = a ∧ st.sl 1 = b ∧ st.sl 5 = i64 (i : Int) ∧ (cmp1 xs ys = cmp1 (xs.drop i) (ys.drop i))) xs.length ?_ ?_ ?_
 ·refine Yag ?_
  exact ⟨rfl, rfl⟩
 ·rintro i sl ro gn hi ⟨s0, s1, s5, q⟩
  dsimp only at s0 s1 s5
  have hi' : (i : Int) < (xs.length : Nat) := by omega
  have hi3 : i < ys.length := by omega
  have hd := cmpG_drop (f := cmpI) (getD_some (0 : Int) hi) (getD_some (0 : Int) hi3)
  by_cases h : atI xs i = atI ys i
  ·have h0 : cmpI (atI xs i) (atI ys i) = 0 := (cmpI_O.eq0 _ _).2 h
   simp (disch := first | assumption | omega) only [go_sem, ↓reduceIte, Nat.reduceEqDiff, Nat.reduceAdd, Nat.reduceMul, zc, s0, s1, s5, hi', hi, hll]
   refine FIN_of (by kernel_rfl) ?_
   simp (disch := first | assumption | omega) only [go_sem, ↓reduceIte, Nat.reduceEqDiff, Nat.reduceAdd, Nat.reduceMul, zc, s0, s1, s5, hi', hi, eq_true h]
   exact ⟨i64c (by omega), by rw [q]; exact hd.trans (if_pos h0)⟩
  ·have h0 : ¬ cmpI (atI xs i) (atI ys i) = 0 := fun e => h ((cmpI_O.eq0 _ _).1 e)
   have e : cmp1 xs ys = cmpI (atI xs i) (atI ys i) := by rw [q]; exact hd.trans (if_neg h0)
   have e2 : decide (atI xs i < atI ys i) = decide (cmp1 xs ys < 0) := by
    rw [e]
    refine decide_eq_decide.2 ?_
    unfold cmpI
    repeat' split <;> omega
   simp (disch := first | assumption | omega) only [go_sem, ↓reduceIte, Nat.reduceEqDiff, Nat.reduceAdd, Nat.reduceMul, zc, s0, s1, s5, hi', hi, hll]
   refine FIN_of (by kernel_rfl) ?_
   simp (disch := first | assumption | omega) only [go_sem, ↓reduceIte, Nat.reduceEqDiff, Nat.reduceAdd, Nat.reduceMul, zc, s0, s1, s5, hi', hi, eq_false h]
   refine FIN_of (by kernel_rfl) ?_
   refine Yaw ?_
   refine Yaa ?_
   exact e2
 ·rintro sl ro gn ⟨s0, s1, s5, q⟩
  dsimp only at s0 s1 s5
  have hi' : ¬ ((xs.length : Nat) : Int) < (xs.length : Nat) := by omega
  have e : cmp1 xs ys = 0 := by
   rw [q]
   exact (cmpG_end (f := cmpI) (by omega)).trans (if_neg (by omega))
  simp (disch := first | assumption | omega) only [go_sem, ↓reduceIte, Nat.reduceEqDiff, Nat.reduceAdd, Nat.reduceMul, zc, s0, s1, s5, hi', hll]
  exact Ybc
end
section
variable {F G : Nat → Nat → Nat → Int} {n : Nat} {a b c p : AV}
set_option maxHeartbeats 1000000 in
theorem cBefore (ha : isLLL a (cubeL F n)) (hb : isLLL b (cubeL G n)) (hn : n ≤ maxN) : CallOK Tryz.prog 42 [a, b] (bo (decide (cmp3 (cubeL F n) (cubeL G n) < 0))) := by
 have lX : (cubeL F n).length = n := lenC F n
 have lY : (cubeL G n).length = n := lenC G n
 have hn2 : n ≤ 4294967296 := hn
 refine call_of (fn := Tryz.f42) (code := bodyOf Tryz.f42) Tryz.func42 rfl (by kernel_rfl) (rfl) ?_
 intro sl hs
 have s0 : sl 0 = a := hs 0
 have s1 : sl 1 = b := hs 1
 dsimp only [Tryz.f42, bodyOf, Option.getD]
 refine Yac ?_
 refine WK_for (fun i st => st.sl 0 = a ∧ st.sl 1 = b ∧ st.sl 5 = i64 (i : Int) ∧ (cmp3 (cubeL F n) (cubeL G n) = cmp3 ((cubeL F n).drop i) ((cubeL G n).drop i))) n ?_ ?_ ?_
 ·refine Yag ?_
  exact ⟨rfl, rfl⟩
 ·rintro i sl ro gn hi ⟨s0, s1, s5, q⟩
  dsimp only at s0 s1 s5
  have hi' : (i : Int) < (n : Nat) := by omega
  have hm := isLLL_mat ha (k := i) (by omega)
  have hm' := isLLL_mat hb (k := i) (by omega)
  have lm : (mat (cubeL F n) i).length = n := lenM hi
  have lm' : (mat (cubeL G n) i).length = n := lenM hi
  have hd := cmpG_drop (f := cmp2) (getD_some ([] : List (List Int)) (show i < (cubeL F n).length by omega)) (getD_some ([] : List (List Int)) (show i < (cubeL G n).length by omega))
  simp (disch := first | assumption | omega) only [go_sem, ↓reduceIte, Nat.reduceEqDiff, Nat.reduceAdd, Nat.reduceMul, zc, s0, s1, s5, hi', hi, lX]
  refine WK_for (fun j st => st.sl 0 = a ∧ st.sl 1 = b ∧ st.sl 5 = i64 (i : Int) ∧ st.sl 6 = i64 (j : Int) ∧ (cmp2 (mat (cubeL F n) i) (mat (cubeL G n) i) = cmp2 ((mat (cubeL F n) i).drop j) ((mat (cubeL G n) i).drop j))) n ?_ ?_ ?_
  ·simp only [↓za, ↓reduceIte, Nat.reduceEqDiff, zb, reduceCtorEq, rws_zero, s0, s1, s5, hi', hi]
   exact ⟨rfl, rfl⟩
  ·rintro j sl ro gn hj ⟨s0, s1, s5, s6, q2⟩
   dsimp only at s0 s1 s5 s6
   have hj' : (j : Int) < (n : Nat) := by omega
   have hr := isLL_row hm (k := j) (by omega)
   have hr' := isLL_row hm' (k := j) (by omega)
   have lr : (row (mat (cubeL F n) i) j).length = n := lenR hi hj
   have lr' : (row (mat (cubeL G n) i) j).length = n := lenR hi hj
   have hd2 := cmpG_drop (f := cmp1) (getD_some ([] : List Int) (show j < (mat (cubeL F n) i).length by omega)) (getD_some ([] : List Int) (show j < (mat (cubeL G n) i).length by omega))
   have hl1 : (row (mat (cubeL F n) i) j).length ≤ maxN := by rw [lr]; exact hn
   have hl2 : (row (mat (cubeL G n) i) j).length ≤ maxN := by rw [lr']; exact hn
   by_cases h : row (mat (cubeL F n) i) j = row (mat (cubeL G n) i) j
   ·have h0 : cmp1 (row (mat (cubeL F n) i) j) (row (mat (cubeL G n) i) j) = 0 := (cmp1_O.eq0 _ _).2 h
    refine Ycp ?_
    refine CLLD_pure _ (cSame hr hr' hl1 hl2 (t := true) ⟨fun _ => h, fun _ => rfl⟩) PUt rfl ?_
    refine Ybg ?_
    refine FIN_of (by kernel_rfl) ?_
    refine Ybg ?_
    exact ⟨i64c (by omega), by rw [q2]; exact hd2.trans (if_pos h0)⟩
   ·have h0 : ¬ cmp1 (row (mat (cubeL F n) i) j) (row (mat (cubeL G n) i) j) = 0 := fun e => h ((cmp1_O.eq0 _ _).1 e)
    have e2 : cmp2 (mat (cubeL F n) i) (mat (cubeL G n) i) = cmp1 (row (mat (cubeL F n) i) j) (row (mat (cubeL G n) i) j) := by rw [q2]; exact hd2.trans (if_neg h0)
    have e3 : cmp3 (cubeL F n) (cubeL G n) = cmp1 (row (mat (cubeL F n) i) j) (row (mat (cubeL G n) i) j) := by
     rw [q]
     refine hd.trans ((if_neg ?_).trans e2)
     intro e
     exact h0 (e2.symm.trans e)
    refine Ycp ?_
    refine CLLD_pure _ (cSame hr hr' hl1 hl2 (t := false) ⟨fun e => (by cases e), fun e => absurd e h⟩) PUt rfl ?_
    refine Ybg ?_
    refine FIN_of (by kernel_rfl) ?_
    refine Ycp ?_
    refine CLLD_pure _ (cLess hr hr' (by rw [lr, lr']) hl1) PUt rfl ?_
    refine Ybg ?_
    refine FIN_of (by kernel_rfl) ?_
    refine Ybg ?_
    refine Yaa ?_
    rw [e3]
  ·rintro sl ro gn ⟨s0, s1, s5, s6, q2⟩
   dsimp only at s0 s1 s5 s6
   have hj' : ¬ ((n : Nat) : Int) < (n : Nat) := by omega
   have h0 : cmp2 (mat (cubeL F n) i) (mat (cubeL G n) i) = 0 := by
    rw [q2]
    have := cmpG_end (f := cmp1) (xs := mat (cubeL F n) i) (ys := mat (cubeL G n) i) (by omega)
    rw [lm, lm', if_neg (by omega)] at this
    exact this
   simp (disch := first | assumption | omega) only [go_sem, ↓reduceIte, Nat.reduceEqDiff, Nat.reduceAdd, Nat.reduceMul, zc, s0, s1, s5, s6, hj', lX]
   exact ⟨i64c (by omega), by rw [q]; exact hd.trans (if_pos h0)⟩
 ·rintro sl ro gn ⟨s0, s1, s5, q⟩
  dsimp only at s0 s1 s5
  have hi' : ¬ ((n : Nat) : Int) < (n : Nat) := by omega
  have e : cmp3 (cubeL F n) (cubeL G n) = 0 := by
   rw [q]
   have := cmpG_end (f := cmp2) (xs := cubeL F n) (ys := cubeL G n) (by omega)
   rw [lX, lY, if_neg (by omega)] at this
   exact this
  simp (disch := first | assumption | omega) only [go_sem, ↓reduceIte, Nat.reduceEqDiff, Nat.reduceAdd, Nat.reduceMul, zc, s0, s1, s5, hi', lX]
  exact Ybc
def sg (xs : List Int) (i : Nat) : Nat := (atI xs i).toNat
structure PrmI (xs : List Int) (n : Nat) : Prop where
 l : xs.length = n
 r : ∀ i, i < n → atI xs i = (sg xs i : Nat) ∧ sg xs i < n
 i : ∀ i, i < n → sg xs (sg xs i) = i
def imgF (xs : List Int) (F : Nat → Nat → Nat → Int) : Nat → Nat → Nat → Int := fun x y z => F (sg xs x) (sg xs y) (sg xs z)
def pgB (xs : List Int) (B F : Nat → Nat → Nat → Int) (i j k : Nat) : Nat → Nat → Nat → Int := fun x y z => if sg xs x < i ∨ (sg xs x = i ∧ (sg xs y < j ∨ (sg xs y = j ∧ sg xs z < k))) then F (sg xs x) (sg xs y) (sg xs z) else B x y z
theorem pgB_step {xs : List Int} (P : PrmI xs n) (B : Nat → Nat → Nat → Int) {i j k : Nat} (hi : i < n) (hj : j < n) (hk : k < n) : cubeA (updF (pgB xs B F i j k) (sg xs i) (sg xs j) (sg xs k) (F i j k)) n = cubeA (pgB xs B F i j (k + 1)) n := by
 refine cube_congr fun x y z hx hy hz => ?_
 have e1 : x = sg xs i ↔ sg xs x = i := ⟨fun h => by rw [h, P.i i hi], fun h => by rw [← h, P.i x hx]⟩
 have e2 : y = sg xs j ↔ sg xs y = j := ⟨fun h => by rw [h, P.i j hj], fun h => by rw [← h, P.i y hy]⟩
 have e3 : z = sg xs k ↔ sg xs z = k := ⟨fun h => by rw [h, P.i k hk], fun h => by rw [← h, P.i z hz]⟩
 unfold updF
 by_cases h : x = sg xs i ∧ y = sg xs j ∧ z = sg xs k
 ·rw [if_pos h]
  obtain ⟨h1, h2, h3⟩ := h
  have h1 := e1.1 h1
  have h2 := e2.1 h2
  have h3 := e3.1 h3
  unfold pgB
  rw [if_pos (by omega), h1, h2, h3]
 ·rw [if_neg h]
  rw [e1, e2, e3] at h
  have e : (sg xs x < i ∨ (sg xs x = i ∧ (sg xs y < j ∨ (sg xs y = j ∧ sg xs z < k)))) ↔ (sg xs x < i ∨ (sg xs x = i ∧ (sg xs y < j ∨ (sg xs y = j ∧ sg xs z < k + 1)))) := by omega
  simp only [pgB, e]
theorem pgB_row {xs : List Int} (P : PrmI xs n) (B : Nat → Nat → Nat → Int) {i j : Nat} : cubeA (pgB xs B F i j n) n = cubeA (pgB xs B F i (j + 1) 0) n := by
 refine cube_congr fun x y z hx hy hz => ?_
 have h := (P.r z hz).2
 have e : (sg xs x < i ∨ (sg xs x = i ∧ (sg xs y < j ∨ (sg xs y = j ∧ sg xs z < n)))) ↔ (sg xs x < i ∨ (sg xs x = i ∧ (sg xs y < j + 1 ∨ (sg xs y = j + 1 ∧ sg xs z < 0)))) := by omega
 simp only [pgB, e]
theorem pgB_mat {xs : List Int} (P : PrmI xs n) (B : Nat → Nat → Nat → Int) {i : Nat} : cubeA (pgB xs B F i n 0) n = cubeA (pgB xs B F (i + 1) 0 0) n := by
 refine cube_congr fun x y z hx hy hz => ?_
 have h := (P.r y hy).2
 have e : (sg xs x < i ∨ (sg xs x = i ∧ (sg xs y < n ∨ (sg xs y = n ∧ sg xs z < 0)))) ↔ (sg xs x < i + 1 ∨ (sg xs x = i + 1 ∧ (sg xs y < 0 ∨ (sg xs y = 0 ∧ sg xs z < 0)))) := by omega
 simp only [pgB, e]
theorem pgB_end {xs : List Int} (P : PrmI xs n) (B : Nat → Nat → Nat → Int) : cubeA (pgB xs B F n 0 0) n = cubeA (imgF xs F) n := by
 refine cube_congr fun x y z hx hy hz => ?_
 have h := (P.r x hx).2
 simp [pgB, imgF, h]
theorem pgB_0 (xs : List Int) (B : Nat → Nat → Nat → Int) : cubeA (pgB xs B F 0 0 0) n = cubeA B n := by
 refine cube_congr fun x y z hx hy hz => ?_
 simp [pgB]
set_option maxHeartbeats 4000000 in
theorem cImage (ha : isLLL a (cubeL F n)) {xs : List Int} (hp : isL p xs) (P : PrmI xs n) (hn : n ≤ maxN) : CallOK Tryz.prog 48 [a, p] (cubeA (imgF xs F) n) := by
 have lX : (cubeL F n).length = n := lenC F n
 have hn2 : n ≤ 4294967296 := hn
 have hl := P.l
 refine call_of (fn := Tryz.f48) (code := bodyOf Tryz.f48) Tryz.func48 rfl (by kernel_rfl) (noRef_cube _ _) ?_
 intro sl hs
 have s0 : sl 0 = a := hs 0
 have s1 : sl 1 = p := hs 1
 dsimp only [Tryz.f48, bodyOf, Option.getD]
 refine Yac ?_
 refine CLL_pure _ (cOwnC ha hn) PUt rfl rfl ?_
 refine Yde ?_
 refine WK_for (fun i st => st.sl 0 = a ∧ st.sl 1 = p ∧ st.sl 5 = .ref 8208 1 [] 0 n ∧ st.sl 6 = i64 (i : Int) ∧ st.ro 8208 1 = some (cubeA (pgB xs F F i 0 0) n)) n ?_ ?_ ?_
 ·refine Yag ?_
  exact ⟨rfl, congrArg some (pgB_0 xs F).symm⟩
 ·rintro i sl ro gn hi ⟨s0, s1, s5, s6, r8208⟩
  dsimp only at s0 s1 s5 s6 r8208
  have hi' : (i : Int) < (n : Nat) := by omega
  have hm := isLLL_mat ha (k := i) (by omega)
  have lm : (mat (cubeL F n) i).length = n := lenM hi
  obtain ⟨p1, p2⟩ := P.r i hi
  simp (disch := first | assumption | omega) only [go_sem, ↓reduceIte, Nat.reduceEqDiff, Nat.reduceAdd, Nat.reduceMul, zc, s0, s1, s5, s6, r8208, hi', hi, lX]
  refine WK_for (fun j st => st.sl 0 = a ∧ st.sl 1 = p ∧ st.sl 5 = .ref 8208 1 [] 0 n ∧ st.sl 6 = i64 (i : Int) ∧ st.sl 7 = i64 (j : Int) ∧ st.ro 8208 1 = some (cubeA (pgB xs F F i j 0) n)) n ?_ ?_ ?_
  ·simp only [↓za, ↓reduceIte, Nat.reduceEqDiff, zb, reduceCtorEq, rws_zero, s0, s1, s5, s6, r8208, hi', hi]
   exact rfl
  ·rintro j sl ro gn hj ⟨s0, s1, s5, s6, s7, r8208⟩
   dsimp only at s0 s1 s5 s6 s7 r8208
   have hj' : (j : Int) < (n : Nat) := by omega
   have hr := isLL_row hm (k := j) (by omega)
   have lr : (row (mat (cubeL F n) i) j).length = n := lenR hi hj
   obtain ⟨p3, p4⟩ := P.r j hj
   simp (disch := first | assumption | omega) only [go_sem, ↓reduceIte, Nat.reduceEqDiff, Nat.reduceAdd, Nat.reduceMul, zc, s0, s1, s5, s6, s7, r8208, hj', hj, lX]
   refine WK_for (fun k st => st.sl 0 = a ∧ st.sl 1 = p ∧ st.sl 5 = .ref 8208 1 [] 0 n ∧ st.sl 6 = i64 (i : Int) ∧ st.sl 7 = i64 (j : Int) ∧ st.sl 8 = i64 (k : Int) ∧ st.ro 8208 1 = some (cubeA (pgB xs F F i j k) n)) n ?_ ?_ ?_
   ·simp only [↓za, ↓reduceIte, Nat.reduceEqDiff, zb, reduceCtorEq, rws_zero, s0, s1, s5, s6, s7, r8208, hj', hj]
    exact rfl
   ·rintro k sl ro gn hk ⟨s0, s1, s5, s6, s7, s8, r8208⟩
    dsimp only at s0 s1 s5 s6 s7 s8 r8208
    have hk' : (k : Int) < (n : Nat) := by omega
    obtain ⟨p5, p6⟩ := P.r k hk
    have v1 : atI (row (mat (cubeL F n) i) j) k = F i j k := at3_cube hi hj hk
    refine Ycj ?_
    refine FIN_of (by kernel_rfl) ?_
    simp (disch := first | assumption | omega) only [go_sem, ↓reduceIte, Nat.reduceEqDiff, Nat.reduceAdd, Nat.reduceMul, zc, s0, s1, s5, s6, s7, s8, r8208, hk', hk]
    exact ⟨i64c (by omega), congrArg some (pgB_step P F hi hj hk)⟩
   ·rintro sl ro gn ⟨s0, s1, s5, s6, s7, s8, r8208⟩
    dsimp only at s0 s1 s5 s6 s7 s8 r8208
    have hk' : ¬ ((n : Nat) : Int) < (n : Nat) := by omega
    simp (disch := first | assumption | omega) only [go_sem, ↓reduceIte, Nat.reduceEqDiff, Nat.reduceAdd, Nat.reduceMul, zc, s0, s1, s5, s6, s7, s8, r8208, hk', lX]
    exact ⟨i64c (by omega), congrArg some (pgB_row P F)⟩
  ·rintro sl ro gn ⟨s0, s1, s5, s6, s7, r8208⟩
   dsimp only at s0 s1 s5 s6 s7 r8208
   have hj' : ¬ ((n : Nat) : Int) < (n : Nat) := by omega
   simp (disch := first | assumption | omega) only [go_sem, ↓reduceIte, Nat.reduceEqDiff, Nat.reduceAdd, Nat.reduceMul, zc, s0, s1, s5, s6, s7, r8208, hj', lX]
   exact ⟨i64c (by omega), congrArg some (pgB_mat P F)⟩
 ·rintro sl ro gn ⟨s0, s1, s5, s6, r8208⟩
  dsimp only at s0 s1 s5 s6 r8208
  have hi' : ¬ ((n : Nat) : Int) < (n : Nat) := by omega
  rw [pgB_end P F] at r8208
  simp (disch := first | assumption | omega) only [go_sem, ↓reduceIte, Nat.reduceEqDiff, Nat.reduceAdd, Nat.reduceMul, zc, s0, s1, s5, s6, r8208, hi', lX]
  simp only [zr, zb, retR, resL, outT, outL, zes, zez, oneV, zcp, zed, zfi, Ro.dl, St.ev, zhk, ↓za, ↓reduceIte, Nat.reduceEqDiff, Nat.reduceAdd, Nat.reduceLeDiff, r8208]
set_option maxHeartbeats 4000000 in
theorem cRenum (ha : isLLL c (cubeL F n)) {xs : List Int} (hp : isL p xs) (P : PrmI xs n) (h0 : 0 < n) (hn : n ≤ maxN) : CallOK Tryz.prog 53 [.agg [c], p] (.agg [cubeA (imgF xs F) n]) := by
 have lX : (cubeL F n).length = n := lenC F n
 have hn2 : n ≤ 4294967296 := hn
 have hl := P.l
 refine call_of (fn := Tryz.f53) (code := bodyOf Tryz.f53) Tryz.func53 rfl (by kernel_rfl) (noRef_agg1 _ (noRef_cube _ _)) ?_
 intro sl hs
 have s0 : sl 0 = .agg [c] := hs 0
 have s1 : sl 1 = p := hs 1
 dsimp only [Tryz.f53, bodyOf, Option.getD]
 simp (disch := first | assumption | omega) only [go_sem, ↓reduceIte, Nat.reduceEqDiff, Nat.reduceAdd, Nat.reduceMul, zc, s0, s1, ti33, lX]
 refine CLL_pure _ (c103 h0 hn) rfl rfl rfl ?_
 simp (disch := first | assumption | omega) only [go_sem, ↓reduceIte, Nat.reduceEqDiff, Nat.reduceAdd, Nat.reduceMul, zc, s0, s1, impE_agg1, zfe, ti33]
 refine WK_for (fun i st => st.sl 1 = p ∧ st.sl 2 = .ptr 4096 1 [] 0 ∧ st.ro 4096 1 = some (.bx [c]) ∧ st.sl 4 = .ptr 4112 1 [] 0 ∧ st.ro 4112 1 = some (.bx [nilA]) ∧ st.sl 5 = .ptr 8256 1 [] 0 ∧ st.ro 8256 1 = some (.bx [.ref 8240 1 [] 0 n]) ∧ st.sl 16 = p ∧ st.sl 17 = i64 (n : Nat) ∧ st.sl 18 = i64 (i : Int) ∧ st.ro 8240 1 = some (cubeA (pgB xs (fun _ _ _ => 0) F i 0 0) n)) n ?_ ?_ ?_
 ·refine Yag ?_
  exact ⟨i64c (by omega), rfl, congrArg some (pgB_0 xs _).symm⟩
 ·rintro i sl ro gn hi ⟨s1, s2, r4096, s4, r4112, s5, r8256, s16, s17, s18, r8240⟩
  dsimp only at s1 s2 r4096 s4 r4112 s5 r8256 s16 s17 s18 r8240
  have hi' : (i : Int) < (n : Nat) := by omega
  have hm := isLLL_mat ha (k := i) (by omega)
  have lm : (mat (cubeL F n) i).length = n := lenM hi
  obtain ⟨p1, p2⟩ := P.r i hi
  simp (disch := first | assumption | omega) only [go_sem, ↓reduceIte, Nat.reduceEqDiff, Nat.reduceAdd, Nat.reduceMul, zc, s1, s2, r4096, s4, r4112, s5, r8256, s16, s17, s18, r8240, hi', hi, hl, p1]
  refine WK_for (fun j st => st.sl 1 = p ∧ st.sl 2 = .ptr 4096 1 [] 0 ∧ st.ro 4096 1 = some (.bx [c]) ∧ st.sl 4 = .ptr 4112 1 [] 0 ∧ st.ro 4112 1 = some (.bx [nilA]) ∧ st.sl 5 = .ptr 8256 1 [] 0 ∧ st.ro 8256 1 = some (.bx [.ref 8240 1 [] 0 n]) ∧ st.sl 16 = p ∧ st.sl 17 = i64 (n : Nat) ∧ st.sl 18 = i64 (i : Int) ∧ st.sl 6 = i64 (i : Int) ∧ st.sl 7 = i64 (sg xs i : Nat) ∧ st.sl 23 = p ∧ st.sl 24 = i64 (n : Nat) ∧ st.sl 25 = i64 (j : Int) ∧ st.ro 8240 1 = some (cubeA (pgB xs (fun _ _ _ => 0) F i j 0) n)) n ?_ ?_ ?_
  ·simp only [↓za, ↓reduceIte, Nat.reduceEqDiff, zb, reduceCtorEq, rws_zero, s1, s2, r4096, s4, r4112, s5, r8256, s16, s17, s18, r8240, hi', hi]
   exact rfl
  ·rintro j sl ro gn hj ⟨s1, s2, r4096, s4, r4112, s5, r8256, s16, s17, s18, s6, s7, s23, s24, s25, r8240⟩
   dsimp only at s1 s2 r4096 s4 r4112 s5 r8256 s16 s17 s18 s6 s7 s23 s24 s25 r8240
   have hj' : (j : Int) < (n : Nat) := by omega
   have hr := isLL_row hm (k := j) (by omega)
   have lr : (row (mat (cubeL F n) i) j).length = n := lenR hi hj
   obtain ⟨p3, p4⟩ := P.r j hj
   simp (disch := first | assumption | omega) only [go_sem, ↓reduceIte, Nat.reduceEqDiff, Nat.reduceAdd, Nat.reduceMul, zc, s1, s2, r4096, s4, r4112, s5, r8256, s16, s17, s18, s6, s7, s23, s24, s25, r8240, hj', hj, hl, p3]
   refine WK_for (fun k st => st.sl 1 = p ∧ st.sl 2 = .ptr 4096 1 [] 0 ∧ st.ro 4096 1 = some (.bx [c]) ∧ st.sl 4 = .ptr 4112 1 [] 0 ∧ st.ro 4112 1 = some (.bx [nilA]) ∧ st.sl 5 = .ptr 8256 1 [] 0 ∧ st.ro 8256 1 = some (.bx [.ref 8240 1 [] 0 n]) ∧ st.sl 16 = p ∧ st.sl 17 = i64 (n : Nat) ∧ st.sl 18 = i64 (i : Int) ∧ st.sl 6 = i64 (i : Int) ∧ st.sl 7 = i64 (sg xs i : Nat) ∧ st.sl 23 = p ∧ st.sl 24 = i64 (n : Nat) ∧ st.sl 25 = i64 (j : Int) ∧ st.sl 8 = i64 (j : Int) ∧ st.sl 9 = i64 (sg xs j : Nat) ∧ st.sl 30 = p ∧ st.sl 31 = i64 (n : Nat) ∧ st.sl 32 = i64 (k : Int) ∧ st.ro 8240 1 = some (cubeA (pgB xs (fun _ _ _ => 0) F i j k) n)) n ?_ ?_ ?_
   ·simp only [↓za, ↓reduceIte, Nat.reduceEqDiff, zb, reduceCtorEq, rws_zero, s1, s2, r4096, s4, r4112, s5, r8256, s16, s17, s18, s6, s7, s23, s24, s25, r8240, hj', hj]
    exact rfl
   ·rintro k sl ro gn hk ⟨s1, s2, r4096, s4, r4112, s5, r8256, s16, s17, s18, s6, s7, s23, s24, s25, s8, s9, s30, s31, s32, r8240⟩
    dsimp only at s1 s2 r4096 s4 r4112 s5 r8256 s16 s17 s18 s6 s7 s23 s24 s25 s8 s9 s30 s31 s32 r8240
    have hk' : (k : Int) < (n : Nat) := by omega
    obtain ⟨p5, p6⟩ := P.r k hk
    have v1 : atI (row (mat (cubeL F n) i) j) k = F i j k := at3_cube hi hj hk
    simp (disch := first | assumption | omega) only [go_sem, ↓reduceIte, Nat.reduceEqDiff, Nat.reduceAdd, Nat.reduceMul, zc, s1, s2, r4096, s4, r4112, s5, r8256, s16, s17, s18, s6, s7, s23, s24, s25, s8, s9, s30, s31, s32, r8240, hk', hk, hl, lX, lm, lr, p5, v1, cube_cells r8240 p2 p4, cube_bx r8240 p2 p4, cube_wr r8240 p2 p4 p6]
    refine FIN_of (by kernel_rfl) ?_
    simp (disch := first | assumption | omega) only [go_sem, ↓reduceIte, Nat.reduceEqDiff, Nat.reduceAdd, Nat.reduceMul, zc, s1, s2, r4096, s4, r4112, s5, r8256, s16, s17, s18, s6, s7, s23, s24, s25, s8, s9, s30, s31, s32, r8240, hk', hk]
    exact ⟨i64c (by omega), congrArg some (pgB_step P _ hi hj hk)⟩
   ·rintro sl ro gn ⟨s1, s2, r4096, s4, r4112, s5, r8256, s16, s17, s18, s6, s7, s23, s24, s25, s8, s9, s30, s31, s32, r8240⟩
    dsimp only at s1 s2 r4096 s4 r4112 s5 r8256 s16 s17 s18 s6 s7 s23 s24 s25 s8 s9 s30 s31 s32 r8240
    have hk' : ¬ ((n : Nat) : Int) < (n : Nat) := by omega
    simp (disch := first | assumption | omega) only [go_sem, ↓reduceIte, Nat.reduceEqDiff, Nat.reduceAdd, Nat.reduceMul, zc, s1, s2, r4096, s4, r4112, s5, r8256, s16, s17, s18, s6, s7, s23, s24, s25, s8, s9, s30, s31, s32, r8240, hk']
    exact ⟨i64c (by omega), congrArg some (pgB_row P _)⟩
  ·rintro sl ro gn ⟨s1, s2, r4096, s4, r4112, s5, r8256, s16, s17, s18, s6, s7, s23, s24, s25, r8240⟩
   dsimp only at s1 s2 r4096 s4 r4112 s5 r8256 s16 s17 s18 s6 s7 s23 s24 s25 r8240
   have hj' : ¬ ((n : Nat) : Int) < (n : Nat) := by omega
   simp (disch := first | assumption | omega) only [go_sem, ↓reduceIte, Nat.reduceEqDiff, Nat.reduceAdd, Nat.reduceMul, zc, s1, s2, r4096, s4, r4112, s5, r8256, s16, s17, s18, s6, s7, s23, s24, s25, r8240, hj']
   exact ⟨i64c (by omega), congrArg some (pgB_mat P _)⟩
 ·rintro sl ro gn ⟨s1, s2, r4096, s4, r4112, s5, r8256, s16, s17, s18, r8240⟩
  dsimp only at s1 s2 r4096 s4 r4112 s5 r8256 s16 s17 s18 r8240
  have hi' : ¬ ((n : Nat) : Int) < (n : Nat) := by omega
  rw [pgB_end P _] at r8240
  simp (disch := first | assumption | omega) only [go_sem, ↓reduceIte, Nat.reduceEqDiff, Nat.reduceAdd, Nat.reduceMul, zc, s1, s2, r4096, s4, r4112, s5, r8256, s16, s17, s18, r8240, hi']
  simp only [zr, zb, retR, resL, outT, outL, zes, zez, oneV, zcp, zed, zfi, Ro.dl, St.ev, zhk, ↓za, ↓reduceIte, Nat.reduceEqDiff, Nat.reduceAdd, Nat.reduceLeDiff, ti33, s4, r8256, r8240]
end
end Go.Proofs.YtilfkbgdpmimlaaGreat
