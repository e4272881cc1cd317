/- Texts joined: Eg1 Eg2 Eg3 Eh1 Eh0 Eh2. -/
import Derived.ChangeOld
import Derived.Below
import Derived.Carry
import Derived.Deep.Slices
import Derived.ChangeSlices
import Derived.Lib.SmallJoins
import Derived.Test.YtilfkbgdpmimlaaGreatMj
import Derived.Test.YtilfkbgdpmimlaaGreatPa
import Derived.Test.YtilfkbgdpmimlaaGreatRa
import Derived.Test.YtilfkbgdpmimlaaGreatRe
import Derived.Test.YtilfkbgdpmimlaaGreatRf
set_option linter.all false
/- Lists of rings, plain: all tables without a fault, each once; what a turned table is like. -/
namespace Go.Proofs.YtilfkbgdpmimlaaGreat
open Go.RowKit
set_option maxRecDepth 1000000
structure FilQ (n m : Nat) (os : List (List T33)) (F : C3) (r : List C3 × C3) : Prop where
 a : agr n os.flatten F r.2
 b : ∀ G, G ∈ r.1 → (RF (cubeL G n)).isNone = true ∧ agr n os.flatten F G ∧ cstP m os G
 c : ∀ G, (RF (cubeL G n)).isNone = true → agr n os.flatten F G → cstP m os G → ∃ G', G' ∈ r.1 ∧ agr n [] G G'
 d : r.1.Pairwise (fun G G' => ¬ agr n [] G G')
theorem filA_all {n m : Nat} : ∀ (os : List (List T33)) (F : C3), OrbOK n os → FilQ n m os F (filA n m os F)
 | [], F, _ => by
  refine ⟨agr_refl _ _ _, fun G hG => ?_, fun G hok hag _ => ?_, ?_⟩
  ·simp only [filA] at hG
   split at hG
   ·rename_i h
    rw [List.mem_singleton] at hG
    subst hG
    exact ⟨h, agr_refl _ _ _, fun o ho => by cases ho⟩
   ·cases hG
  ·refine ⟨F, ?_, agr_symm hag⟩
   simp only [filA]
   rw [if_pos (by rw [cl_eq.2 hag]; exact hok)]
   simp
  ·simp only [filA]
   split
   ·exact List.pairwise_singleton _ _
   ·exact List.Pairwise.nil
 | o :: os, F, h => by
  have hos : OrbOK n os := ⟨fun p hp => h.ne p (by simp [hp]), (List.pairwise_cons.1 h.dj).2, fun p hp => h.lt p (by simp [hp])⟩
  have ih := fun F => filA_all (m := m) os F hos
  have hdj : ∀ t, t ∈ o → t ∉ os.flatten := by
   intro t ht hf
   obtain ⟨p, hp, htp⟩ := List.mem_flatten.1 hf
   exact (List.pairwise_cons.1 h.dj).1 p hp t ht htp
  have hA : ∀ v, agr n (o :: os).flatten F (filK (filA n m os) o F v).2 := by
   intro v
   induction v with
   | zero => exact agr_refl _ _ _
   | succ v ihv =>
    refine agr_trans ihv (agr_trans (agr_mono (agr_set n _ o (v : Int)) fun t ht => by simp [ht]) (agr_mono (ih _).a fun t ht => ?_))
    rw [List.flatten_cons]
    exact List.mem_append_right _ ht
  have hH : ∀ v, agr n (o :: os).flatten F (setT (filK (filA n m os) o F v).2 o (v : Int)) := fun v => agr_trans (hA v) (agr_mono (agr_set n _ o (v : Int)) fun t ht => by simp [ht])
  have hB : ∀ v G, G ∈ (filA n m os (setT (filK (filA n m os) o F v).2 o (v : Int))).1 → ∀ t, t ∈ o → atT G t = v := by
   intro v G hG t ht
   obtain ⟨k1, k2, k3⟩ := h.lt o (by simp) t ht
   have := ((ih _).b G hG).2.1 t.1 t.2.1 t.2.2 k1 k2 k3 (hdj t ht)
   show G t.1 t.2.1 t.2.2 = v
   rw [← this, setT_at, if_pos ht]
  show FilQ n m (o :: os) F (filK (filA n m os) o F (m + 1))
  refine ⟨hA _, fun G hG => ?_, fun G hok hag hc => ?_, ?_⟩
  ·obtain ⟨v, hv, hG⟩ := mem_filK.1 hG
   obtain ⟨b1, b2, b3⟩ := (ih _).b G hG
   refine ⟨b1, agr_trans (hH v) (agr_mono b2 fun t ht => ?_), fun p hp => ?_⟩
   ·rw [List.flatten_cons]; exact List.mem_append_right _ ht
   ·rcases List.mem_cons.1 hp with rfl | hp
    ·exact ⟨v, by omega, hB v G hG⟩
    ·exact b3 p hp
  ·obtain ⟨v, hv, hvo⟩ := hc o (by simp)
   obtain ⟨G', hG', hag'⟩ := (ih (setT (filK (filA n m os) o F v).2 o (v : Int))).c G hok (by
    intro i j k hi hj hk hn
    by_cases ho : (i, j, k) ∈ o
    ·rw [setT_at, if_pos ho]
     exact (hvo _ ho).symm
    ·have hno : (i, j, k) ∉ (o :: os).flatten := by
      rw [List.flatten_cons, List.mem_append]
      rintro (e | e)
      ·exact ho e
      ·exact hn e
     exact ((hH v) i j k hi hj hk hno).symm.trans (hag i j k hi hj hk hno)) (fun p hp => hc p (by simp [hp]))
   exact ⟨G', mem_filK.2 ⟨v, by omega, hG'⟩, hag'⟩
  ·have : ∀ k, (filK (filA n m os) o F k).1.Pairwise (fun G G' => ¬ agr n [] G G') := by
    intro k
    induction k with
    | zero => exact List.Pairwise.nil
    | succ k ihk =>
     refine List.pairwise_append.2 ⟨ihk, (ih _).d, fun G hG G' hG' hag => ?_⟩
     obtain ⟨v, hv, hG⟩ := mem_filK.1 hG
     obtain ⟨t, ht⟩ := List.exists_mem_of_ne_nil _ (h.ne o (by simp))
     obtain ⟨k1, k2, k3⟩ := h.lt o (by simp) t ht
     have e1 := hB v G hG t ht
     have e2 := hB k G' hG' t ht
     have e3 := hag t.1 t.2.1 t.2.2 k1 k2 k3 (by simp)
     have : (v : Int) = k := e1.symm.trans (e3.trans e2)
     omega
   exact this _
def FltP (n : Nat) (x : List Nat) (F : C3) : Prop :=
 (∀ i, i < n → ∀ k, k < n → F 0 i k = dlt i k ∧ F i 0 k = dlt i k) ∧ (∀ i, i < n → x.getD (x.getD i 0) 0 = i) ∧
 (∀ i, i < n → ∀ j, j < n → ∀ k, k < n → F i j k = F (x.getD i 0) k j ∧ F i j k = F k (x.getD j 0) i) ∧
 ∀ i, i < n → ∀ j, j < n → ∀ k, k < n → ∀ l, l < n → sm (fun m => F i j m * F m k l) n = sm (fun m => F j k m * F i m l) n
theorem rf_4 {X : List (List (List Int))} : RF X = none ↔ F1 X = none ∧ F2 X = none ∧ F3 X = none ∧ F4 X = none := by
 unfold RF
 cases F1 X with
 | some v => exact ⟨fun h => (nomatch h), fun h => (nomatch h.1)⟩
 | none =>
  cases F2 X with
  | some v => exact ⟨fun h => (nomatch h), fun h => (nomatch h.2.1)⟩
  | none =>
   cases F3 X with
   | some v => exact ⟨fun h => (nomatch h), fun h => (nomatch h.2.2.1)⟩
   | none => exact ⟨fun h => ⟨rfl, rfl, rfl, h⟩, fun h => h.2.2.2⟩
theorem ite_none {α : Type} {p : Prop} [Decidable p] {v : α} : (if p then none else some v) = none ↔ p := by
 split
 ·rename_i h; exact ⟨fun _ => h, fun _ => rfl⟩
 ·rename_i h; exact ⟨fun e => (nomatch e), fun e => absurd e h⟩
theorem ite_none' {α : Type} {p : Prop} [Decidable p] {v : α} : (if p then some v else none) = none ↔ ¬ p := by
 split
 ·rename_i h; exact ⟨fun e => (nomatch e), fun e => absurd h e⟩
 ·rename_i h; exact ⟨fun _ => h, fun _ => rfl⟩
theorem flt_iff {F : C3} {n : Nat} {x : List Nat} (h1 : 1 ≤ n) (hC : ColP F n x) (hx : ∀ i, i < n → x.getD i 0 < n) : RF (cubeL F n) = none ↔ FltP n x F := by
 have hd : ∀ i, i < n → dlT (cubeL F n) i = (x.getD i 0 : Nat) := fun i hi => dl_of h1 hC hx hi
 rw [rf_4]
 unfold F1 F2 F3 F4 FltP
 simp only [fnd_none, lenC]
 refine and_congr ?_ (and_congr ?_ (and_congr ?_ ?_))
 ·refine forall_congr' fun i => forall_congr' fun hi => forall_congr' fun k => forall_congr' fun hk => ?_
  unfold p1
  rw [ite_none, at3_cube (by omega) hi hk, at3_cube hi (by omega) hk]
 ·refine forall_congr' fun i => forall_congr' fun hi => ?_
  unfold p2
  rw [ite_none', hd i hi, Int.toNat_natCast, hd _ (hx i hi)]
  omega
 ·refine forall_congr' fun i => forall_congr' fun hi => forall_congr' fun j => forall_congr' fun hj => forall_congr' fun k => forall_congr' fun hk => ?_
  unfold p3
  rw [ite_none, hd i hi, hd j hj, Int.toNat_natCast, Int.toNat_natCast, at3_cube hi hj hk, at3_cube (hx i hi) hk hj, at3_cube hk (hx j hj) hi]
 ·refine forall_congr' fun i => forall_congr' fun hi => forall_congr' fun j => forall_congr' fun hj => forall_congr' fun k => forall_congr' fun hk => forall_congr' fun l => forall_congr' fun hl => ?_
  unfold p4
  have e1 : sm (lft (cubeL F n) i j k l) n = sm (fun m => F i j m * F m k l) n := sm_congr fun m hm => by
   unfold lft; rw [at3_cube hi hj hm, at3_cube hm hk hl]
  have e2 : sm (rgt (cubeL F n) i j k l) n = sm (fun m => F j k m * F i m l) n := sm_congr fun m hm => by
   unfold rgt; rw [at3_cube hj hk hm, at3_cube hi hm hl]
  rw [ite_none, lenC, e1, e2]
abbrev s3 (i : Nat) : Nat := sg (zl [0, 2, 1]) i
theorem s3_v : s3 0 = 0 ∧ s3 1 = 2 ∧ s3 2 = 1 := by decide
theorem s3_lt {i : Nat} (h : i < 3) : s3 i < 3 := by
 obtain rfl | rfl | rfl : i = 0 ∨ i = 1 ∨ i = 2 := by omega
 all_goals decide
theorem s3_s3 {i : Nat} (h : i < 3) : s3 (s3 i) = i := by
 obtain rfl | rfl | rfl : i = 0 ∨ i = 1 ∨ i = 2 := by omega
 all_goals decide
structure S3P (x : List Nat) : Prop where
 r : ∀ i, i < 3 → x.getD i 0 < 3
 c : ∀ i, i < 3 → x.getD (s3 i) 0 = s3 (x.getD i 0)
theorem s3_i : S3P [0, 1, 2] := ⟨by decide, by decide⟩
theorem s3_t : S3P [0, 2, 1] := ⟨by decide, by decide⟩
theorem s3_dlt {i k : Nat} (hi : i < 3) (hk : k < 3) : dlt (s3 i) (s3 k) = dlt i k := by
 obtain rfl | rfl | rfl : i = 0 ∨ i = 1 ∨ i = 2 := by omega
 all_goals obtain rfl | rfl | rfl : k = 0 ∨ k = 1 ∨ k = 2 := by omega
 all_goals decide
theorem s3_sm (f : Nat → Int) : sm (fun m => f (s3 m)) 3 = sm f 3 := by
 obtain ⟨e0, e1, e2⟩ := s3_v
 show (0 + f (s3 0) + f (s3 1) + f (s3 2)) = 0 + f 0 + f 1 + f 2
 rw [e0, e1, e2]
 omega
theorem col_img {F : C3} {x : List Nat} (S : S3P x) (hC : ColP F 3 x) : ColP (imgF (zl [0, 2, 1]) F) 3 x := by
 intro i j hi hj
 show F (s3 i) (s3 j) (s3 0) = _
 rw [s3_v.1, hC _ _ (s3_lt hi) (s3_lt hj), S.c i hi]
 have : s3 j = s3 (x.getD i 0) ↔ j = x.getD i 0 := ⟨fun e => by rw [← s3_s3 hj, e, s3_s3 (S.r i hi)], fun e => by rw [e]⟩
 simp only [this]
theorem flt_img {F : C3} {x : List Nat} (S : S3P x) (hC : ColP F 3 x) (h : RF (cubeL F 3) = none) : RF (cubeL (imgF (zl [0, 2, 1]) F) 3) = none := by
 rw [flt_iff (by decide) hC S.r] at h
 rw [flt_iff (by decide) (col_img S hC) S.r]
 obtain ⟨h1, h2, h3, h4⟩ := h
 refine ⟨fun i hi k hk => ?_, h2, fun i hi j hj k hk => ?_, fun i hi j hj k hk l hl => ?_⟩
 ·have := h1 _ (s3_lt hi) _ (s3_lt hk)
  rw [s3_dlt hi hk] at this
  show F (s3 0) _ _ = _ ∧ F _ (s3 0) _ = _
  rw [s3_v.1]
  exact this
 ·have := h3 _ (s3_lt hi) _ (s3_lt hj) _ (s3_lt hk)
  rw [S.c i hi, S.c j hj] at this
  exact this
 ·have := h4 _ (s3_lt hi) _ (s3_lt hj) _ (s3_lt hk) _ (s3_lt hl)
  have a := s3_sm fun m => F (s3 i) (s3 j) m * F m (s3 k) (s3 l)
  have b := s3_sm fun m => F (s3 j) (s3 k) m * F (s3 i) m (s3 l)
  exact a.trans (this.trans b.symm)
section
variable {α : Type} [DecidableEq α]
theorem inv_count (C : List α) (s : α → α) (lt : α → α → Bool) (hN : C.Nodup) (hs : ∀ X, X ∈ C → s X ∈ C) (hi : ∀ X, X ∈ C → s (s X) = X)
  (ht : ∀ X, lt X X = false) (ha : ∀ X Y, lt X Y = true → lt Y X = false) (hc : ∀ X Y, X ≠ Y → lt X Y = false → lt Y X = true) :
  ((C.filter fun X => !lt (s X) X).map fun X => if s X = X then 1 else 2).sum = C.length := by
 have key : ∀ D : List α, ((D.filter fun X => !lt (s X) X).map fun X => if s X = X then 1 else 2).sum = (D.filter fun X => decide (s X = X)).length + 2 * (D.filter fun X => lt X (s X)).length ∧ D.length = (D.filter fun X => decide (s X = X)).length + (D.filter fun X => lt X (s X)).length + (D.filter fun X => lt (s X) X).length := by
  intro D
  induction D with
  | nil => exact ⟨rfl, rfl⟩
  | cons X D ih =>
   obtain ⟨i1, i2⟩ := ih
   by_cases e : s X = X
   ·have l1 : lt X (s X) = false := by rw [e]; exact ht X
    have l2 : lt (s X) X = false := by rw [e]; exact ht X
    simp only [List.filter_cons, l1, l2, ht X, e, decide_true, Bool.not_false, if_true, List.map_cons, List.sum_cons, List.length_cons, ite_true, Bool.false_eq_true, if_false]
    omega
   ·cases l1 : lt X (s X) with
    | true =>
     have l2 := ha _ _ l1
     simp only [List.filter_cons, l1, l2, e, decide_false, Bool.not_false, if_true, List.map_cons, List.sum_cons, List.length_cons, ite_true, Bool.false_eq_true, if_false]
     omega
    | false =>
     have l2 := hc X (s X) (fun h => e h.symm) l1
     simp only [List.filter_cons, l1, l2, e, decide_false, Bool.not_true, if_true, List.map_cons, List.sum_cons, List.length_cons, ite_true, Bool.false_eq_true, if_false]
     omega
 obtain ⟨k1, k2⟩ := key C
 have hp : ((C.filter fun X => lt X (s X)).map s).Perm (C.filter fun X => lt (s X) X) := by
  refine (List.perm_ext_iff_of_nodup ?_ (List.Pairwise.filter _ hN)).2 fun Y => ?_
  ·refine List.pairwise_map.2 (List.Pairwise.imp_of_mem (fun {a b} ha hb hab e => hab ?_) (List.Pairwise.filter _ hN))
   rw [← hi a (List.mem_filter.1 ha).1, e, hi b (List.mem_filter.1 hb).1]
  ·rw [List.mem_map, List.mem_filter]
   constructor
   ·rintro ⟨X, hX, rfl⟩
    obtain ⟨x1, x2⟩ := List.mem_filter.1 hX
    exact ⟨hs X x1, by rw [hi X x1]; exact x2⟩
   ·rintro ⟨y1, y2⟩
    exact ⟨s Y, List.mem_filter.2 ⟨hs Y y1, by rw [hi Y y1]; exact y2⟩, hi Y y1⟩
 have hl := hp.length_eq
 rw [List.length_map] at hl
 rw [k1, k2]
 omega
end
def sX (X : List (List (List Int))) : List (List (List Int)) := cubeL (fun i j k => at3 X (s3 i) (s3 j) (s3 k)) 3
theorem sX_cl (G : C3) : sX (cl 3 G) = cl 3 (imgF (zl [0, 2, 1]) G) :=
 cl_eq.2 fun i j k hi hj hk _ => at3_cube (s3_lt hi) (s3_lt hj) (s3_lt hk)
theorem sX_sX (G : C3) : sX (sX (cl 3 G)) = cl 3 G := by
 rw [sX_cl, sX_cl]
 refine cl_eq.2 fun i j k hi hj hk _ => ?_
 show G (s3 (s3 i)) (s3 (s3 j)) (s3 (s3 k)) = _
 rw [s3_s3 hi, s3_s3 hj, s3_s3 hk]
def s3T (t : T33) : T33 := (s3 t.1, s3 t.2.1, s3 t.2.2)
def chk3 (x : List Nat) : Bool :=
 ((orbs x 3).all fun o => (orbs x 3).any fun o' => o.all fun t => decide (s3T t ∈ o')) &&
 (List.range 3).all fun i => (List.range 3).all fun j => (List.range 3).all fun k => decide (uF x 3 (s3 i) (s3 j) (s3 k) = uF x 3 i j k)
theorem chk3_i : chk3 [0, 1, 2] = true := by kernel_rfl
theorem chk3_t : chk3 [0, 2, 1] = true := by kernel_rfl
structure Chk3 (x : List Nat) : Prop where
 o : ∀ o, o ∈ orbs x 3 → ∃ o', o' ∈ orbs x 3 ∧ ∀ t, t ∈ o → s3T t ∈ o'
 u : ∀ i j k, i < 3 → j < 3 → k < 3 → uF x 3 (s3 i) (s3 j) (s3 k) = uF x 3 i j k
theorem chk3_ok {x : List Nat} (h : chk3 x = true) : Chk3 x := by
 unfold chk3 at h
 simp only [Bool.and_eq_true, List.all_eq_true, List.any_eq_true, decide_eq_true_eq, List.mem_range] at h
 exact ⟨h.1, fun i j k hi hj hk => h.2 i hi j hj k hk⟩
section
variable {n m : Nat} {x : List Nat} {G : C3}
theorem fil_col (h1 : 1 ≤ n) (K : ChkP x n) (hC : ColP (uF x n) n x) (hG : G ∈ (filA n m (orbs x n) (uF x n)).1) : ColP G n x := by
 intro i j hi hj
 rw [← ((filA_all (orbs x n) (uF x n) K.o).b G hG).2.1 i j 0 hi hj (by omega) (fun e => by have h0 : 1 ≤ 0 := (K.p1 _ (K.p2 _ e)).2.2; omega)]
 exact hC i j hi hj
theorem fil_cub (hm : m ≤ 1000) (K : ChkP x n) (hG : G ∈ (filA n m (orbs x n) (uF x n)).1) : cubeOk G n := by
 have B := (filA_all (orbs x n) (uF x n) K.o).b G hG
 intro i hi j hj k hk
 by_cases h : (i, j, k) ∈ (orbs x n).flatten
 ·obtain ⟨o, ho, ht⟩ := List.mem_flatten.1 h
  obtain ⟨v, hv, hc⟩ := B.2.2 o ho
  have : G i j k = v := hc _ ht
  rw [this]
  omega
 ·rw [← B.2.1 i j k hi hj hk h]
  exact uF_ok x n n i hi j hj k hk
theorem fil_img (K : ChkP x 3) (S : S3P x) (Q : Chk3 x) (hC : ColP (uF x 3) 3 x) (hG : G ∈ (filA 3 m (orbs x 3) (uF x 3)).1) : ∃ G', G' ∈ (filA 3 m (orbs x 3) (uF x 3)).1 ∧ cl 3 G' = cl 3 (imgF (zl [0, 2, 1]) G) := by
 have A := filA_all (n := 3) (m := m) (orbs x 3) (uF x 3) K.o
 obtain ⟨b1, b2, b3⟩ := A.b G hG
 have hCG := fil_col (by decide) K hC hG
 have hf := flt_img S hCG (Option.isNone_iff_eq_none.1 b1)
 obtain ⟨G', k1, k2⟩ := A.c (imgF (zl [0, 2, 1]) G) (by rw [hf]; rfl) (fun i j k hi hj hk hn => by
  show _ = G (s3 i) (s3 j) (s3 k)
  rw [← b2 _ _ _ (s3_lt hi) (s3_lt hj) (s3_lt hk) (fun e => hn ?_), Q.u i j k hi hj hk]
  obtain ⟨o, ho, ht⟩ := List.mem_flatten.1 e
  obtain ⟨o', ho', hto⟩ := Q.o o ho
  have := hto _ ht
  unfold s3T at this
  rw [s3_s3 hi, s3_s3 hj, s3_s3 hk] at this
  exact List.mem_flatten.2 ⟨o', ho', this⟩) (fun o ho => by
  obtain ⟨o', ho', hto⟩ := Q.o o ho
  obtain ⟨v, hv, hc⟩ := b3 o' ho'
  exact ⟨v, hv, fun t ht => hc _ (hto t ht)⟩)
 exact ⟨G', k1, (cl_eq.2 k2).symm⟩
end
theorem colU3 : ColP (uF [0, 1, 2] 3) 3 [0, 1, 2] ∧ ColP (uF [0, 2, 1] 3) 3 [0, 2, 1] := by
 have hv := vis_ok 3 (by decide) (by decide)
 exact ⟨col_of [0, 1, 2] (hv [0, 1, 2] (by decide)) rfl (by decide), col_of [0, 2, 1] (hv [0, 2, 1] (by decide)) rfl (by decide)⟩
theorem colU {n : Nat} (h1 : 1 ≤ n) (h3 : n ≤ 3) : ColP (uF [0, 1, 2] n) n [0, 1, 2] ∧ ChkP [0, 1, 2] n := by
 obtain rfl | rfl | rfl : n = 1 ∨ n = 2 ∨ n = 3 := by omega
 ·exact ⟨col_of [0] (vis_ok 1 (by decide) (by decide) [0] (by decide)) rfl (by decide), chk_1⟩
 ·exact ⟨col_of [0, 1] (vis_ok 2 (by decide) (by decide) [0, 1] (by decide)) rfl (by decide), chk_2⟩
 ·exact ⟨colU3.1, chk_3⟩
theorem tabsA_ok {n m : Nat} (h1 : 1 ≤ n) (h3 : n ≤ 3) (hm : m ≤ 1000) {G : C3} (hG : G ∈ tabsA n m) : cubeOk G n ∧ RF (cubeL G n) = none := by
 unfold tabsA at hG
 rcases List.mem_append.1 hG with h | h
 ·have K := (colU h1 h3).2
  exact ⟨fil_cub hm K h, Option.isNone_iff_eq_none.1 ((filA_all _ _ K.o).b G h).1⟩
 ·by_cases e : n = 3
  ·rw [if_pos e] at h
   subst e
   exact ⟨fil_cub hm chk_t h, Option.isNone_iff_eq_none.1 ((filA_all _ _ chk_t.o).b G h).1⟩
  ·rw [if_neg e] at h
   cases h
theorem tabsA_nd {n m : Nat} (h1 : 1 ≤ n) (h3 : n ≤ 3) : (tabsA n m).Pairwise (fun G G' => ¬ agr n [] G G') := by
 unfold tabsA
 split
 ·rename_i e
  subst e
  refine List.pairwise_append.2 ⟨(filA_all _ _ chk_3.o).d, (filA_all _ _ chk_t.o).d, fun G hG G' hG' hag => ?_⟩
  have c1 := fil_col (by decide) chk_3 colU3.1 hG 1 1 (by decide) (by decide)
  have c2 := fil_col (by decide) chk_t colU3.2 hG' 1 1 (by decide) (by decide)
  have e := hag 1 1 0 (by decide) (by decide) (by decide) (by simp)
  rw [c1, c2] at e
  exact absurd e (by decide)
 ·rw [List.append_nil]
  exact (filA_all _ _ (colU h1 h3).2.o).d
theorem tabsA_img {m : Nat} {G : C3} (hG : G ∈ tabsA 3 m) : ∃ G', G' ∈ tabsA 3 m ∧ cl 3 G' = cl 3 (imgF (zl [0, 2, 1]) G) := by
 unfold tabsA at hG ⊢
 rw [if_pos rfl] at hG ⊢
 rcases List.mem_append.1 hG with hG | hG
 ·obtain ⟨G', k1, k2⟩ := fil_img chk_3 s3_i (chk3_ok chk3_i) colU3.1 hG
  exact ⟨G', List.mem_append_left _ k1, k2⟩
 ·obtain ⟨G', k1, k2⟩ := fil_img chk_t s3_t (chk3_ok chk3_t) colU3.2 hG
  exact ⟨G', List.mem_append_right _ k1, k2⟩
theorem lst_id {F : C3} {n : Nat} (h : lstB F n = true) : leastF F n = F := by
 rw [← lst_eq] at h
 unfold lstK at h
 rw [List.take_length, List.all_eq_true] at h
 exact bst_id _ fun l hl => of_decide_eq_true (h l hl)
theorem img_id {F : C3} {n : Nat} {l : List Nat} (h : ∀ i, i < n → sg (zl l) i = i) : cubeL (imgF (zl l) F) n = cubeL F n :=
 cl_eq.2 fun i j k hi hj hk _ => by
  show F (sg (zl l) i) (sg (zl l) j) (sg (zl l) k) = _
  rw [h i hi, h j hj, h k hk]
theorem lst_3 (F : C3) : lstB F 3 = !decide (cmp3 (sX (cl 3 F)) (cl 3 F) < 0) := by
 rw [← lst_eq, show vis 3 (3 - 1) [0] = [[0, 1, 2], [0, 2, 1]] from by decide, sX_cl]
 unfold lstK
 have e1 : cubeL (imgF (zl [0, 1, 2]) F) 3 = cubeL F 3 := img_id (by decide)
 simp only [List.length_cons, List.length_nil, List.take_succ_cons, List.take_zero, List.all_cons, List.all_nil, Bool.and_true, e1, cmp3_self, decide_not]
 simp
theorem lst_12 (F : C3) {n : Nat} (h1 : 1 ≤ n) (h2 : n ≤ 2) : lstB F n = true := by
 rw [← lst_eq]
 unfold lstK
 rw [List.take_length, List.all_eq_true]
 intro l hl
 have : cubeL (imgF (zl l) F) n = cubeL F n := by
  obtain rfl | rfl : n = 1 ∨ n = 2 := by omega
  ·rw [show vis 1 (1 - 1) [0] = [[0]] from by decide, List.mem_singleton] at hl
   subst hl
   exact img_id (by decide)
  ·rw [show vis 2 (2 - 1) [0] = [[0, 1]] from by decide, List.mem_singleton] at hl
   subst hl
   exact img_id (by decide)
 rw [this, cmp3_self]
 decide
theorem fitD_id (F : C3) {x : List Nat} (h : ∀ i, i < x.length → x.getD i 0 = i) : fitD F x := fun i hi j hj k hk _ => by rw [h i hi, h j hj, h k hk]
theorem aut_1 (F : C3) : autS 1 F 1 [] = 1 := by
 have h0 : okI [] 0 := by unfold okI; simp
 have f0 : fitD F ([] ++ [0]) := fitD_id F (by decide)
 simp only [autS, sK, if_pos h0, if_pos f0]
theorem aut_2 (F : C3) : autS 2 F 2 [] = 1 := by
 have h0 : okI [] 0 := by unfold okI; simp
 have h1 : ¬ okI [] 1 := by unfold okI; simp
 have g0 : ¬ okI ([] ++ [0]) 0 := by unfold okI; simp
 have g1 : okI ([] ++ [0]) 1 := by unfold okI; simp
 have f0 : fitD F ([] ++ [0]) := fitD_id F (by decide)
 have f1 : fitD F ([] ++ [0] ++ [1]) := fitD_id F (by decide)
 simp only [autS, sK, if_pos h0, if_neg h1, if_pos f0, if_neg g0, if_pos g1, if_pos f1]
theorem fit_3 (F : C3) : (fitD F [0, 2] ∧ fitD F [0, 2, 1]) ↔ sX (cl 3 F) = cl 3 F := by
 rw [sX_cl]
 constructor
 ·rintro ⟨h1, h2⟩
  refine cl_eq.2 fun i j k hi hj hk _ => ?_
  show F (s3 i) (s3 j) (s3 k) = F i j k
  have e3 : ∀ a, a < 3 → ([0, 2, 1] : List Nat).getD a 0 = s3 a := by decide
  have e2 : ∀ a, a < 2 → ([0, 2] : List Nat).getD a 0 = s3 a := by decide
  by_cases c : mx3 i j k = 2
  ·have := h2 i hi j hj k hk (by rw [c]; rfl)
   rw [e3 i hi, e3 j hj, e3 k hk] at this
   exact this.symm
  ·have hb : mx3 i j k < 2 := by unfold mx3 at c ⊢; split at c <;> split at c <;> simp_all <;> omega
   have l1 : i < 2 ∧ j < 2 ∧ k < 2 := by unfold mx3 at hb; split at hb <;> split at hb <;> omega
   by_cases c1 : mx3 i j k = 1
   ·have := h1 i l1.1 j l1.2.1 k l1.2.2 (by rw [c1]; rfl)
    rw [e2 i l1.1, e2 j l1.2.1, e2 k l1.2.2] at this
    exact this.symm
   ·have l0 : i = 0 ∧ j = 0 ∧ k = 0 := by unfold mx3 at hb c1; split at hb <;> split at hb <;> simp_all <;> omega
    obtain ⟨rfl, rfl, rfl⟩ := l0
    rw [s3_v.1]
 ·intro h
  have hg := cl_eq.1 h
  have e3 : ∀ a, a < 3 → ([0, 2, 1] : List Nat).getD a 0 = s3 a := by decide
  have e2 : ∀ a, a < 2 → ([0, 2] : List Nat).getD a 0 = s3 a := by decide
  refine ⟨fun i hi j hj k hk _ => ?_, fun i hi j hj k hk _ => ?_⟩
  ·have hi : i < 2 := hi
   have hj : j < 2 := hj
   have hk : k < 2 := hk
   rw [e2 i hi, e2 j hj, e2 k hk]
   exact (hg i j k (by omega) (by omega) (by omega) (by simp)).symm
  ·have hi : i < 3 := hi
   have hj : j < 3 := hj
   have hk : k < 3 := hk
   rw [e3 i hi, e3 j hj, e3 k hk]
   exact (hg i j k hi hj hk (by simp)).symm
theorem aut_3 (F : C3) : autS 3 F 3 [] = if sX (cl 3 F) = cl 3 F then 2 else 1 := by
 have h0 : okI [] 0 := by unfold okI; simp
 have h1 : ¬ okI [] 1 := by unfold okI; simp
 have h2 : ¬ okI [] 2 := by unfold okI; simp
 have g0 : ¬ okI ([] ++ [0]) 0 := by unfold okI; simp
 have g1 : okI ([] ++ [0]) 1 := by unfold okI; simp
 have g2 : okI ([] ++ [0]) 2 := by unfold okI; simp
 have a0 : ¬ okI ([] ++ [0] ++ [1]) 0 := by unfold okI; simp
 have a1 : ¬ okI ([] ++ [0] ++ [1]) 1 := by unfold okI; simp
 have a2 : okI ([] ++ [0] ++ [1]) 2 := by unfold okI; simp
 have b0 : ¬ okI ([] ++ [0] ++ [2]) 0 := by unfold okI; simp
 have b1 : okI ([] ++ [0] ++ [2]) 1 := by unfold okI; simp
 have b2 : ¬ okI ([] ++ [0] ++ [2]) 2 := by unfold okI; simp
 have f0 : fitD F ([] ++ [0]) := fitD_id F (by decide)
 have f1 : fitD F ([] ++ [0] ++ [1]) := fitD_id F (by decide)
 have f2 : fitD F ([] ++ [0] ++ [1] ++ [2]) := fitD_id F (by decide)
 have hf := fit_3 F
 by_cases c1 : fitD F ([] ++ [0] ++ [2])
 ·by_cases c2 : fitD F ([] ++ [0] ++ [2] ++ [1])
  ·rw [if_pos (hf.1 ⟨c1, c2⟩)]
   simp only [autS, sK, if_pos h0, if_neg h1, if_neg h2, if_pos f0, if_neg g0, if_pos g1, if_pos g2, if_pos f1, if_neg a0, if_neg a1, if_pos a2, if_pos f2, if_neg b0, if_pos b1, if_neg b2, if_pos c1, if_pos c2]
  ·rw [if_neg (fun e => c2 (hf.2 e).2)]
   simp only [autS, sK, if_pos h0, if_neg h1, if_neg h2, if_pos f0, if_neg g0, if_pos g1, if_pos g2, if_pos f1, if_neg a0, if_neg a1, if_pos a2, if_pos f2, if_neg b0, if_pos b1, if_neg b2, if_pos c1, if_neg c2]
 ·rw [if_neg (fun e => c1 (hf.2 e).1)]
  simp only [autS, sK, if_pos h0, if_neg h1, if_neg h2, if_pos f0, if_neg g0, if_pos g1, if_pos g2, if_pos f1, if_neg a0, if_neg a1, if_pos a2, if_pos f2, if_neg c1]
def fcM (n : Nat) : Nat := if n = 3 then 2 else 1
theorem fct_M {n : Nat} (h1 : 1 ≤ n) (h3 : n ≤ 3) : fct (n - 1) = (fcM n : Nat) := by
 obtain rfl | rfl | rfl : n = 1 ∨ n = 2 ∨ n = 3 := by omega
 all_goals rfl
noncomputable def wtN (n : Nat) (F : C3) : Nat := fcM n / autS n F n []
theorem aut_pos {n : Nat} (h1 : 1 ≤ n) (h3 : n ≤ 3) (F : C3) : 1 ≤ autS n F n [] ∧ autS n F n [] ≤ 2 := by
 obtain rfl | rfl | rfl : n = 1 ∨ n = 2 ∨ n = 3 := by omega
 ·rw [aut_1]; decide
 ·rw [aut_2]; decide
 ·rw [aut_3]; split <;> decide
theorem wtN_le {n : Nat} (F : C3) : wtN n F ≤ 2 := by
 refine Nat.le_trans (Nat.div_le_self _ _) ?_
 unfold fcM
 split <;> decide
theorem wtN_3 (F : C3) : wtN 3 F = if sX (cl 3 F) = cl 3 F then 1 else 2 := by
 unfold wtN
 rw [aut_3]
 split <;> rfl
theorem wtN_12 {n : Nat} (h1 : 1 ≤ n) (h2 : n ≤ 2) (F : C3) : wtN n F = 1 := by
 obtain rfl | rfl : n = 1 ∨ n = 2 := by omega
 ·unfold wtN; rw [aut_1]; rfl
 ·unfold wtN; rw [aut_2]; rfl
theorem wt_div {n : Nat} (h1 : 1 ≤ n) (h3 : n ≤ 3) (F : C3) : (fct (n - 1)).tdiv ((autS n F n [] : Nat) : Int) = (wtN n F : Nat) := by
 rw [fct_M h1 h3, ← Int.ofNat_tdiv]
 rfl
noncomputable def sumW (n : Nat) (Ls : List C3) (i : Nat) : Nat := ((Ls.take i).map (wtN n)).sum
theorem sumW_le {n : Nat} {Ls : List C3} : ∀ i, sumW n Ls i ≤ 2 * i := by
 have : ∀ Ms : List C3, (Ms.map (wtN n)).sum ≤ 2 * Ms.length := by
  intro Ms
  induction Ms with
  | nil => exact Nat.le_refl _
  | cons F Ms ih =>
   have := wtN_le (n := n) F
   rw [List.map_cons, List.sum_cons, List.length_cons]
   omega
 intro i
 have h := this (Ls.take i)
 have h2 := List.length_take_le i Ls
 unfold sumW
 omega
theorem sumW_succ {n : Nat} {Ls : List C3} {i : Nat} {F : C3} (h : Ls[i]? = some F) : sumW n Ls (i + 1) = sumW n Ls i + wtN n F := by
 unfold sumW
 rw [List.take_succ, h, List.map_append, List.sum_append]
 show _ + ([wtN n F]).sum = _
 simp
theorem sumW_all {n m : Nat} (h1 : 1 ≤ n) (h3 : n ≤ 3) : sumW n (srtL n (tabs n m)) (srtL n (tabs n m)).length = (tabsA n m).length := by
 unfold sumW
 have hp : ((srtL n (tabs n m)).map (wtN n)).sum = ((tabs n m).map (wtN n)).sum := ((List.mergeSort_perm (tabs n m) (leR n)).map (wtN n)).sum_nat
 rw [List.take_length, hp, tabs_A]
 by_cases h2 : n ≤ 2
 ·rw [List.filter_eq_self.2 fun F _ => lst_12 F h1 h2]
  have : ∀ Ms : List C3, (Ms.map (wtN n)).sum = Ms.length := by
   intro Ms
   induction Ms with
   | nil => rfl
   | cons F Ms ih => rw [List.map_cons, List.sum_cons, List.length_cons, ih, wtN_12 h1 h2]; omega
  exact this _
 ·obtain rfl : n = 3 := by omega
  have hC := inv_count ((tabsA 3 m).map (cl 3)) sX (fun X Y => decide (cmp3 X Y < 0)) (nodup_cl (tabsA_nd h1 h3)) (fun X hX => by
    obtain ⟨G, hG, rfl⟩ := List.mem_map.1 hX
    obtain ⟨G', k1, k2⟩ := tabsA_img hG
    exact List.mem_map.2 ⟨G', k1, by rw [sX_cl]; exact k2⟩) (fun X hX => by
    obtain ⟨G, hG, rfl⟩ := List.mem_map.1 hX
    exact sX_sX G) (fun X => by rw [cmp3_self]; rfl) (fun X Y h => by
    have := (cmp3_O.anti _ _).1 (of_decide_eq_true h)
    exact decide_eq_false (by omega)) (fun X Y hne h => by
    have h := of_decide_eq_false h
    have h0 : cmp3 X Y ≠ 0 := fun e => hne ((cmp3_O.eq0 _ _).1 e)
    exact decide_eq_true ((cmp3_O.anti _ _).2 (by omega)))
  rw [List.length_map, List.filter_map, List.map_map] at hC
  rw [← hC]
  have e1 : (fun G => lstB G 3) = ((fun X => !decide (cmp3 (sX X) X < 0)) ∘ cl 3) := funext fun G => lst_3 G
  have e2 : wtN 3 = ((fun X => if sX X = X then 1 else 2) ∘ cl 3) := funext fun G => wtN_3 G
  rw [e1, e2]
theorem srt_mem {n m : Nat} {F : C3} (hF : F ∈ srtL n (tabs n m)) : F ∈ tabsA n m ∧ lstB F n = true := by
 have := (List.mergeSort_perm (tabs n m) (leR n)).mem_iff.1 hF
 rw [tabs_A] at this
 exact List.mem_filter.1 this
theorem srt_nd {n m : Nat} (h1 : 1 ≤ n) (h3 : n ≤ 3) : ((srtL n (tabs n m)).map (cl n)).Nodup := by
 have h := nodup_cl (List.Pairwise.filter (fun G => lstB G n) (tabsA_nd (m := m) h1 h3))
 rw [← tabs_A] at h
 exact (((List.mergeSort_perm (tabs n m) (leR n)).map (cl n)).nodup_iff).2 h
theorem srt_ring {n m : Nat} (h1 : 1 ≤ n) (h3 : n ≤ 3) (hm : m ≤ 1000) {F : C3} (hF : F ∈ srtL n (tabs n m)) : RingP (cubeL F n) ∧ leastF F n = F ∧ cubeOk F n := by
 obtain ⟨k1, k2⟩ := srt_mem hF
 obtain ⟨c1, c2⟩ := tabsA_ok h1 h3 hm k1
 exact ⟨⟨cubeP_of h1 (by omega) c1, c2⟩, lst_id k2, c1⟩
theorem plBoth {T : List (List (List Int))} {c : AV} (ha : isLLL c T) (hz : SzP T) (m : Int) : ∃ u v : Int, CallOK Tryz.prog 18 [.agg [c], i64 m] (.tup [i64 u, i64 v]) ∧ CallOK Tryz.prog 16 [.agg [c], i64 m] (.tup [i64 u, i64 v]) := by
 by_cases h : RingP T
 ·by_cases h2 : (1 ≤ (T.length : Int) ∧ (T.length : Int) ≤ 3) ∧ 0 ≤ m ∧ m ≤ 4
  ·obtain ⟨b, rfl⟩ : ∃ b : Nat, m = b := ⟨m.toNat, by omega⟩
   have h1 : 1 ≤ T.length := by omega
   have h3 : T.length ≤ 3 := by omega
   have h4 : b ≤ 4 := by omega
   obtain ⟨w, hw⟩ := PxP_ex ((tabsS T.length b).map fun F => cubeL F T.length) (cubeL (leastF (at3 T) T.length) T.length)
   have hw2 := hw
   rw [plainLaw h1 h3] at hw2
   exact ⟨_, _, cPlS3 ha h h3 h4 hw, cPlI3 ha h h3 h4 hw2⟩
  ·exact ⟨0, 2, cPlS2 ha h h2, cPlI2 ha h h2⟩
 ·exact ⟨0, 1, cPlS1 ha h, cPlI1 ha hz h⟩
theorem plc_at {n m i : Nat} {F : C3} (h1 : 1 ≤ n) (h3 : n ≤ 3) (hm : m ≤ 4) (hF : (srtL n (tabs n m))[i]? = some F) : CallOK Tryz.prog 16 [.agg [immC F n], i64 (m : Int)] (.tup [i64 (i : Int), i64 0]) := by
 have hmem := List.mem_of_getElem? hF
 obtain ⟨hR, hLf, hok⟩ := srt_ring h1 h3 (by omega) hmem
 have lX : (cubeL F n).length = n := lenC F n
 have hls := (srt_mem hmem).2
 have hND := srt_nd (m := m) h1 h3
 have hi : i < (srtL n (tabs n m)).length := (List.getElem?_eq_some_iff.1 hF).1
 have eT : cubeL (leastF (at3 (cubeL F n)) n) n = cubeL F n := by
  have h := cube_self hR.1
  rw [lX] at h
  have ha : agr n [] F (at3 (cubeL F n)) := cl_eq.1 h
  rw [lst_id (by rw [← lst_congr h1 h3 ha]; exact hls)]
  exact h.symm
 have gD : ∀ j, j < (srtL n (tabs n m)).length → ((srtL n (tabs n m)).map fun F => cubeL F n).getD j [] = ((srtL n (tabs n m)).map (cl n))[j]?.getD [] := fun j _ => List.getD_eq_getElem?_getD
 have gi : ((srtL n (tabs n m)).map fun F => cubeL F n).getD i [] = cubeL F n := by
  rw [gD i hi, List.getElem?_map, hF]; rfl
 have hw : PxP ((srtL n (tabs n m)).map fun F => cubeL F n) (cubeL (leastF (at3 (cubeL F n)) n) n) (i : Int) := by
  rw [eT]
  refine .inl ⟨i, by rw [List.length_map]; exact hi, gi, fun j hj e => ?_, rfl⟩
  have hp := List.pairwise_iff_getElem.1 hND j i (by rw [List.length_map]; omega) (by rw [List.length_map]; omega) hj
  rw [← gi, gD j (by omega), gD i hi, List.getElem?_eq_getElem (by rw [List.length_map]; omega), List.getElem?_eq_getElem (by rw [List.length_map]; omega)] at e
  exact hp e
 have := cPlI3 (isLLL_immC F n) hR (by rw [lX]; exact h3) hm (w := (i : Int)) (by rw [lX]; exact hw)
 rw [resP_at] at this
 exact this
end Go.Proofs.YtilfkbgdpmimlaaGreat
/- What the law hands in, read by the machine: bytes. -/
namespace Go.Proofs.YtilfkbgdpmimlaaGreat
open Go.RowKit Go.ChangeShapes Go.WideShapes Go.Deep Go.Joins
theorem walk_below {P : Program} {f : Nat} {args : List AV} {b : Bool} (h : CallOK P f args (bo b)) {w : World} {vs : List Value} (hv : RelL (cx0 w (fun _ => False)) args vs []) (hg : Gd w) :
  Calls P f vs.toArray w fun e w' => e = .returned (.bool b) ∧ Below w.heap.size w w' := by
 refine (h.2.2 w (fun _ => False) vs hv (fun _ h => h.elim) hg).mono ?_
 rintro e w' ⟨v, A', F', rfl, h1, _, _, h4⟩
 obtain ⟨h2, _⟩ := Rel.sc_inv h1
 exact ⟨by rw [h2], ⟨h4.os, h4.tape, h4.output.1, h4.size, fun k hk => h4.block k hk (by simp)⟩⟩
theorem cell_spot {w : World} {a : Addr} {v : Value} (h : w.cell? a = some v) : a.spot = none ∧ a.block < w.heap.size := by
 unfold World.cell? at h
 split at h
 ·rename_i c E fr hb
  split at h
  ·cases h
  ·rename_i hs
   refine ⟨by cases hsp : a.spot <;> simp_all, ?_⟩
   exact (Array.getElem?_eq_some_iff.1 hb).1
 ·cases h
theorem add_plain {a : Addr} (h : a.spot = none) (i : Nat) : a.add i = ⟨a.block, a.off + i, none⟩ := by
 unfold Addr.add
 split
 ·rename_i hi; subst hi; cases a; simp_all
 ·rfl
theorem wf8 {n : Int} (h : (Lit.int .u8 n).wf = true) : 0 ≤ n ∧ n < 256 := by
 have e : IntKind.bits .u8 = 8 := rfl
 have s : IntKind.signed .u8 = false := rfl
 simp only [Lit.wf, IntKind.min, IntKind.max, s, e] at h
 simp at h
 omega
section
variable {H : Type} {enc : TypeId × Value → H} {P : Program} {w : World} {held : Bool}
theorem open_b1 {t e : TypeId} {fuel : Nat} {v : Value} {x : DataW H × List MemPlace} (ht : P.underlying t = some (.slice e)) (he : P.underlying e = some (.int .u8)) (hc : P.cellsOf e = 1) (h : DataW.trod enc P w 0 (fun _ => true) held fuel t [v] = some x) :
  ∃ a xs, Rel (cx0 w (fun _ => False)) a v [] ∧ isB a xs ∧ xs.length < 2^63 ∧ ∀ j, 0 ≤ atI xs j ∧ atI xs j < 256 := by
 rcases open_ints ht he hc h with ⟨hcs, _⟩ | ⟨ad, len, cap, zs, hcs, _, hl, hm, hz, _, hcell, hwf⟩
 ·simp only [List.cons.injEq, and_true] at hcs
  subst hcs
  exact ⟨.sc (.slice none 0 0), [], .sc _ .nil, .inr ⟨rfl, _, _, rfl⟩, by simp, fun j => by simp [atI]⟩
 ·simp only [List.cons.injEq, and_true] at hcs
  subst hcs
  simp only [if_true] at hz
  have hmx : cap < 2^63 := Nat.lt_of_le_of_lt hm (by decide)
  rcases Nat.eq_zero_or_pos len with h0 | hpos
  ·subst h0
   exact ⟨.sc (.slice (some ad) 0 cap), [], .sc _ .nil, .inr ⟨rfl, _, _, rfl⟩, by simp, fun j => by simp [atI]⟩
  ·have hc0 := hcell 0 (by omega)
   obtain ⟨hs, hb⟩ := cell_spot hc0
   have hs' : ad.spot = none := by simpa [Addr.add] using hs
   have hb' : ad.block < w.heap.size := by simpa [Addr.add] using hb
   have hlen : (zs.take len).length = len := by rw [List.length_take]; omega
   have hlen2 : ((zs.take len).map (Value.int .u8)).length = len := by rw [List.length_map, hlen]
   refine ⟨.imm ((zs.take len).map u8), zs.take len, ?_, .inl rfl, by omega, fun j => ?_⟩
   ·have hr : RelL (cx0 w (fun _ => False)) ((zs.take len).map u8) ((zs.take len).map (Value.int .u8)) [] := by
     have := relL_sc (cx0 w (fun _ => False)) ((zs.take len).map (Value.int .u8))
     rwa [List.map_map] at this
    have := RelL.imm (c := cx0 w (fun _ => False)) ad.block ad.off cap hr ⟨fun h => h, hb', fun i u hu => ?_⟩ (by rw [hlen2]; exact hl) RelL.nil
    ·rw [hlen2] at this
     have e : (⟨ad.block, ad.off, none⟩ : Addr) = ad := by cases ad; simp_all
     rwa [e] at this
    ·show w.cell? ⟨ad.block, ad.off + i, none⟩ = some u
     rw [← add_plain hs' i]
     have hi : i < len := by
      have := (List.getElem?_eq_some_iff.1 hu).1
      rwa [hlen2] at this
     rw [hcell i (by omega)]
     rw [List.getElem?_map, List.getElem?_take, if_pos hi] at hu
     cases hzi : zs[i]? with
     | none => rw [hzi] at hu; cases hu
     | some z =>
      rw [hzi] at hu
      simp only [Option.map_some, Option.some.injEq] at hu
      rw [← hu]
      simp [List.getD_eq_getElem?_getD, hzi]
   ·rcases Nat.lt_or_ge j (zs.take len).length with hj | hj
    ·have hmem : atI (zs.take len) j ∈ zs := by
      have : atI (zs.take len) j = (zs.take len)[j] := by simp only [atI, List.getD_eq_getElem?_getD, List.getElem?_eq_getElem hj, Option.getD_some]
      rw [this]
      exact List.mem_of_mem_take (List.getElem_mem hj)
     exact wf8 (hwf _ hmem)
    ·rw [atI_out hj]; exact ⟨by decide, by decide⟩
end
end Go.Proofs.YtilfkbgdpmimlaaGreat
/- Lists of rings: the law. -/
namespace Go.Proofs.YtilfkbgdpmimlaaGreat
open Go.RowKit
set_option maxRecDepth 1000000
theorem impE_tCq (b : Nat) (gn : Nat → Nat) (F : C3) (n : Nat) (v : Value) : impE b gn (.tup [.agg [cubeA F n], .sc v]) = ⟨.tup [.agg [.ref b (gn b + 1) [] 0 n], .sc v], none, [], [(b, cubeA F n)]⟩ := by
 show (⟨.tup [.agg [.ref b (gn b + 1) [] 0 (rws _ n).length], .sc v], none, [], [(b, cubeA F n)]⟩ : Eff) = _
 rw [zfe]
set_option maxHeartbeats 16000000 in
theorem cLists {a : AV} {bs : List Int} (hb : isB a bs) (hr : ∀ k, 0 ≤ atI bs k ∧ atI bs k < 256) : CallOK Tryz.prog 3 [a] (bo true) := by
 have hpa : pureA a = true := isB_pure hb
 have cB := cBig hb
 have hfa : ∀ s g cs, frzB s g cs a = a := fun s g cs => by rcases hb with rfl | ⟨_, o, c, rfl⟩ <;> rfl
 refine call_of (fn := Tryz.f3) (code := bodyOf Tryz.f3) Tryz.func3 rfl (by kernel_rfl) (rfl) ?_
 intro sl hs
 have s0 : sl 0 = a := hs 0
 by_cases hl : 4096 < bs.length
 ·rw [decide_eq_true hl] at cB
  dsimp only [Tryz.f3, bodyOf, Option.getD]
  refine Yad ?_
  refine CLL_pure _ cB (by simp only [pureL, hpa, Bool.and_self]) rfl rfl ?_
  refine Yad ?_
  exact Yab
 ·rw [decide_eq_false hl] at cB
  have hl' : bs.length ≤ 4096 := by omega
  have hc : Cod a bs := ⟨hb, fun k _ => hr k, by omega⟩
  dsimp only [Tryz.f3, bodyOf, Option.getD]
  refine Yad ?_
  refine CLL_pure _ cB (by simp only [pureL, hpa, Bool.and_self]) rfl rfl ?_
  refine Yad ?_
  refine CLL_inS rfl (sDrawAll hc hl') ?_
  rintro _ ro1 gn1 ⟨fr1, n, m, rfl⟩
  simp (disch := first | assumption | omega) only [go_sem, ↓reduceIte, Nat.reduceEqDiff, Nat.reduceAdd, Nat.reduceMul, zc, s0, ti2]
  by_cases h : (1 ≤ n ∧ n ≤ 3) ∧ 0 ≤ m ∧ m ≤ 4
  ·obtain ⟨N, rfl⟩ : ∃ k : Nat, n = k := ⟨n.toNat, by omega⟩
   obtain ⟨M, rfl⟩ : ∃ k : Nat, m = k := ⟨m.toNat, by omega⟩
   have h1 : 1 ≤ N := by omega
   have h3 : N ≤ 3 := by omega
   have h4 : M ≤ 4 := by omega
   have cI := cAll1 h1 h3 h4
   have cS := cSAll1 h1 h3 h4
   have cC := cCount1 h1 h3 h4
   have hPL := plainLaw (m := M) h1 h3
   have hSum := sumW_all (m := M) h1 h3
   have hRg := fun F hF => srt_ring (m := M) (F := F) h1 h3 (by omega) hF
   have hND := srt_nd (m := M) h1 h3
   have hNl : (srtL N (tabs N M)).length ≤ 1000000 := by rw [srt_len]; exact tabs_len h1 h3 h4
   have hAl := tabsA_len h1 h3 h4
   have hL : (tabsS N M).length = (srtL N (tabs N M)).length := by
    have := congrArg List.length hPL
    rwa [List.length_map, List.length_map] at this
   generalize tabsS N M = S at cS hPL hL
   generalize (tabsA N M).length = A at cC hSum hAl
   obtain ⟨P, hP⟩ : ∃ P, P = srtL N (tabs N M) := ⟨_, rfl⟩
   rw [← hP] at cI hPL hSum hRg hND hNl hL
   have lI : (P.map fun F => cubeA F N).length = P.length := List.length_map _
   have lS : (S.map fun F => immC F N).length = P.length := (List.length_map _).trans hL
   refine CLL_pure _ cI rfl rfl (by rfl) ?_
   simp (disch := first | assumption | omega) only [go_sem, ↓reduceIte, Nat.reduceEqDiff, Nat.reduceAdd, Nat.reduceMul, zc, s0, impE_tR, listA, lI, ti2]
   refine CLL_pure _ cS rfl rfl (by rfl) ?_
   simp (disch := first | assumption | omega) only [go_sem, ↓reduceIte, Nat.reduceEqDiff, Nat.reduceAdd, Nat.reduceMul, zc, s0, impE_tR, listI, lS, ti2, ti3]
   refine CLL_pure _ cC rfl rfl rfl ?_
   simp (disch := first | assumption | omega) only [go_sem, ↓reduceIte, Nat.reduceEqDiff, Nat.reduceAdd, Nat.reduceMul, zc, s0, impE_tS, ti2, ti3]
   have lPi0 : (P.map fun F => immC F N).length = P.length := List.length_map _
   refine WK_forG (fun i st => st.sl 0 = a ∧ st.sl 3 = i64 (N : Int) ∧ st.sl 4 = i64 (M : Int) ∧ st.sl 5 = immR N P ∧ st.sl 7 = .ref 24608 (gn1 24608 + 1) [] 0 P.length ∧ st.sl 9 = i64 (A : Int) ∧ st.sl 10 = i64 0 ∧ st.sl 11 = i64 ((sumW N P i : Nat) : Int) ∧ st.sl 12 = i64 (i : Int) ∧ (st.ro 24608 (gn1 24608 + 1) = some (.row (S.map fun F => immC F N)))) P.length (.frzR 20512 (gn1 20512 + 1) (P.map fun F => cubeA F N) Ur (noIL_map _ (fun F => noI_cube F N) _)) ?_ ?_ ?_
   ·simp only [frzS, ↓za, ↓reduceIte, Nat.reduceEqDiff, zb, reduceCtorEq, s0, hfa]
    simp only [frzB]
    rw [if_pos ⟨trivial, trivial, (List.length_map _).symm⟩, if_neg (by omega)]
    exact ⟨trivial, trivial, frz_listB N P, rfl, trivial, trivial, rfl, rfl⟩
   ·rintro i sl ro gn hi ⟨s0, s3, s4, s5, s7, s9, s10, s11, s12, rd⟩
    dsimp only at s0 s3 s4 s5 s7 s9 s10 s11 s12
    have hi' : (i : Int) < (P.length : Nat) := by omega
    have rd : ro 24608 (gn1 24608 + 1) = some (.row (S.map fun F => immC F N)) := rd
    obtain ⟨F, hF⟩ : ∃ F, F = P.getD i c0 := ⟨_, rfl⟩
    obtain ⟨G, hG⟩ : ∃ G, G = S.getD i c0 := ⟨_, rfl⟩
    have hFg : P[i]? = some F := by rw [hF, List.getD_eq_getElem?_getD, List.getElem?_eq_getElem hi]; rfl
    have hGg : S[i]? = some G := by rw [hG, List.getD_eq_getElem?_getD, List.getElem?_eq_getElem (by omega)]; rfl
    have eFG : cubeL G N = cubeL F N := by
     have := congrArg (fun L => L[i]?) hPL
     simp only [List.getElem?_map, hFg, hGg, Option.map_some, Option.some.injEq] at this
     exact this
    have kF : (P.map fun F => immC F N)[i]? = some (immC F N) := by rw [List.getElem?_map, hFg]; rfl
    have kG : (S.map fun F => immC F N)[i]? = some (immC G N) := by rw [List.getElem?_map, hGg]; rfl
    have kD : (S.map fun F => immC F N).drop i = immC G N :: (S.map fun F => immC F N).drop (i + 1) := by
     rw [List.drop_eq_getElem_cons (by omega)]
     rw [List.getElem?_eq_getElem (by omega)] at kG
     rw [Option.some.inj kG]
    have hli : ∀ s g p, lift s g p (immC G N) = immC G N := fun _ _ _ => rfl
    have hnc : noRefL (rws (fun i => AV.row (rws (fun j => AV.row (rws (fun k => i64 (F i j k)) N)) N)) N) = true := noRef_cube F N
    have lPi : (P.map fun F => immC F N).length = P.length := List.length_map _
    obtain ⟨hR, hLf, hok⟩ := hRg F (List.mem_of_getElem? hFg)
    have iF := isLLL_immC F N
    have iG := isLLL_immC G N
    rw [eFG] at iG
    have hz := hR.1.sz
    have cL := cLeastR iF ⟨_, rfl⟩ hR h1 h3 (by rw [hLf]; exact hok)
    rw [hLf] at cL
    have cA : CallOK Tryz.prog 10 [.agg [immC F N]] (.tup [i64 ((autS N F N [] : Nat) : Int), i64 0]) := cAuts iF hR h3
    have cK := c118 (t := true) iF hz.1 hz.2 ⟨fun _ => hR, fun _ => rfl⟩
    have cQ1 := cRing9 iF iG hz
    have pF : pureA (immC F N) = true := isLLL_pure iF
    have pG : pureA (immC G N) = true := isLLL_pure iG
    simp (disch := first | assumption | omega) only [go_sem, ↓reduceIte, Nat.reduceEqDiff, Nat.reduceAdd, Nat.reduceMul, zc, s0, s3, s4, s5, s7, s9, s10, s11, s12, hi', hi, ti3, kLen_imm, lPi, kIdx_imm, kF, ti33]
    have hap := aut_pos h1 h3 F
    have hk1 : ¬ ((autS N F N [] : Nat) : Int) < 1 := by omega
    have hk0 : ¬ ((autS N F N [] : Nat) : Int) = 0 := by omega
    have hwd := wt_div h1 h3 F
    have hN1 : (N : Int) - 1 = ((N - 1 : Nat) : Int) := by omega
    have hsl := sumW_le (n := N) (Ls := P) i
    have hwl := wtN_le (n := N) F
    refine CLL_pure _ cL (by simp only [pureL, pureA, pli, Bool.and_self]) rfl rfl ?_
    simp (disch := first | assumption | omega) only [go_sem, ↓reduceIte, Nat.reduceEqDiff, Nat.reduceAdd, Nat.reduceMul, zc, s0, s3, s4, s5, s7, s9, s10, s11, s12, hi', hi, impE_tCq, ti33, ti3, kLen_imm, lPi, kIdx_imm, kF]
    refine CLL_pure _ cA (by simp only [pureL, pureA, pli, Bool.and_self]) rfl rfl ?_
    simp (disch := first | assumption | omega) only [go_sem, ↓reduceIte, Nat.reduceEqDiff, Nat.reduceAdd, Nat.reduceMul, zc, s0, s3, s4, s5, s7, s9, s10, s11, s12, hi', hi, impE_tS, ti33, ti3, ti2, kLen_imm, lPi, kIdx_imm, kF, lS, kG, rd, kD, zfi, hli, List.take_succ_cons, List.take_zero]
    refine CLLD_pure _ cQ1 (by simp only [pureL, pureA, pli, Bool.and_self]) rfl ?_
    simp (disch := first | assumption | omega) only [go_sem, ↓reduceIte, Nat.reduceEqDiff, Nat.reduceAdd, Nat.reduceMul, zc, s0, s3, s4, s5, s7, s9, s10, s11, s12, hi', hi, impE_tS, ti33, ti3, ti4, ti2, kLen_imm, lPi, kIdx_imm, kF, lS, kG, rd, hnc]
    have cQ2 := cRing9 (isLLL_immC F N) iF hz
    refine CLLD_q _ cQ2 (.cons (exq_agg (.cons (exq_cube (n := 7) (F := F) Ur (by decide)) .nil)) (.cons (exq_mono (exq_agg (.cons (exq_LLL iF (Nat.le_refl 4)) .nil)) (by decide)) .nil)) rfl rfl ?_
    simp (disch := first | assumption | omega) only [go_sem, ↓reduceIte, Nat.reduceEqDiff, Nat.reduceAdd, Nat.reduceMul, zc, s0, s3, s4, s5, s7, s9, s10, s11, s12, hi', hi, ti3, ti4, ti2, ti33, eq_false hk1, kLen_imm, lPi, kIdx_imm, kF, hnc]
    refine CLLD_pure _ cK (by simp only [pureL, pureA, pli, Bool.and_self]) rfl ?_
    simp (disch := first | assumption | omega) only [go_sem, ↓reduceIte, Nat.reduceEqDiff, Nat.reduceAdd, Nat.reduceMul, zc, s0, s3, s4, s5, s7, s9, s10, s11, s12, hi', hi, ti3, ti4, ti2]
    refine FIN_of (by kernel_rfl) ?_
    simp (disch := first | assumption | omega) only [go_sem, ↓reduceIte, Nat.reduceEqDiff, Nat.reduceAdd, Nat.reduceMul, zc, s0, s3, s4, s5, s7, s9, s10, s11, s12, hi', hi, ti3, ti4, ti2, hN1]
    refine CLL_pure _ (cFact (n := N - 1) (by omega)) rfl rfl rfl ?_
    simp (disch := first | assumption | omega) only [go_sem, ↓reduceIte, Nat.reduceEqDiff, Nat.reduceAdd, Nat.reduceMul, zc, s0, s3, s4, s5, s7, s9, s10, s11, s12, hi', hi, ti2, eq_false hk0, hwd]
    exact ⟨by rw [sumW_succ hFg]; exact i64c (by omega), i64c (by omega), rd⟩
   ·rintro sl ro gn ⟨s0, s3, s4, s5, s7, s9, s10, s11, s12, rd⟩
    dsimp only at s0 s3 s4 s5 s7 s9 s10 s11 s12
    have hi' : ¬ ((P.length : Nat) : Int) < (P.length : Nat) := by omega
    rw [hSum] at s11
    simp (disch := first | assumption | omega) only [go_sem, ↓reduceIte, Nat.reduceEqDiff, Nat.reduceAdd, Nat.reduceMul, zc, s0, s3, s4, s5, s7, s9, s10, s11, s12, hi', ti3, kLen_imm, lPi0, ti2, undef]
    by_cases hN0 : 0 < P.length
    ·have hN0' : (0 : Int) < P.length := by omega
     refine ⟨fun _ => ?_, fun h => absurd hN0' h⟩
     simp (disch := first | assumption | omega) only [go_sem, ↓reduceIte, Nat.reduceEqDiff, Nat.reduceAdd, Nat.reduceMul, zc, s0, s3, s4, s5, s7, s9, s10, s11, s12, hi']
     refine CLL_inS rfl (inRoll hb hl' 4012 _ _).toS ?_
     rintro _ _ _ ⟨rfl, rfl, rfl⟩
     simp (disch := first | assumption | omega) only [go_sem, ↓reduceIte, Nat.reduceEqDiff, Nat.reduceAdd, Nat.reduceMul, zc, s0, s3, s4, s5, s7, s9, s10, s11, s12, hi', ti3, kLen_imm, lPi0]
     obtain ⟨v, k', h', lk, -, hv, hB⟩ := inBelow (n := (P.length : Int)) (k := 0) (by omega) hb hc.r hc.l (by omega) (hRoll bs 4012 bs.length)
     refine CLL_inS rfl (hB _ _ _ _ Ur).toS ?_
     rintro _ _ _ ⟨rfl, rfl, rfl⟩
     obtain ⟨v0, v1⟩ := hv (by omega)
     obtain ⟨i, rfl⟩ : ∃ i : Nat, v = i := ⟨v.toNat, by omega⟩
     have hi : i < P.length := by omega
     obtain ⟨F, hF⟩ : ∃ F, F = P.getD i c0 := ⟨_, rfl⟩
     have hFg : P[i]? = some F := by rw [hF, List.getD_eq_getElem?_getD, List.getElem?_eq_getElem hi]; rfl
     have kF : (P.map fun F => immC F N)[i]? = some (immC F N) := by rw [List.getElem?_map, hFg]; rfl
     have cP := plc_at (m := M) h1 h3 h4 (by rw [← hP]; exact hFg)
     have pF : pureA (immC F N) = true := isLLL_pure (isLLL_immC F N)
     simp (disch := first | assumption | omega) only [go_sem, ↓reduceIte, Nat.reduceEqDiff, Nat.reduceAdd, Nat.reduceMul, zc, s0, s3, s4, s5, s7, s9, s10, s11, s12, hi', ti3, kLen_imm, lPi0, kIdx_imm, kF, ti33]
     refine CLL_pure _ cP (by simp only [pureL, pureA, pli, Bool.and_self]) rfl rfl ?_
     simp (disch := first | assumption | omega) only [go_sem, ↓reduceIte, Nat.reduceEqDiff, Nat.reduceAdd, Nat.reduceMul, zc, s0, s3, s4, s5, s7, s9, s10, s11, s12, hi', impE_tS, ti2, ti4]
     refine CLL_inS rfl (sDrawPlace hc hl') ?_
     rintro _ ro3 gn3 ⟨fr3, T, c, b, rfl, hT⟩
     obtain ⟨s, u, o, q, cv, rfl, ⟨n1, n2⟩, lu, hbk, hcv, hz, hx⟩ := hT
     obtain ⟨p1, p2, kS, kI⟩ := plBoth hcv hz b
     have hne : ¬ (s = 114768 ∧ u = gn3 114768 + 1) := by rintro ⟨rfl, rfl⟩; omega
     have hlf : ∀ s' g' p', lift s' g' p' (.ref s u [] o q) = .ref s u [] o q := fun _ _ _ => zfh _ _ _ _ _ _ _ _
     refine Ydu ?_
     refine CLL_q _ kI (.cons (exq_agg (.cons (hx _ (fun x y hy m1 m2 => by simp only [zdb]; repeat' (first | rfl | rw [if_neg (by rintro ⟨rfl, rfl⟩; omega)]))) .nil)) (.cons (exq_sc _ _ _ (by decide)) .nil)) rfl rfl rfl ?_
     refine Ydl ?_
     refine CLL_q _ kS (.cons (exq_agg (.cons (hx _ (fun x y hy m1 m2 => by simp only [zdb]; repeat' (first | rfl | rw [if_neg (by rintro ⟨rfl, rfl⟩; omega)]))) .nil)) (.cons (exq_sc _ _ _ (by decide)) .nil)) rfl rfl rfl ?_
     refine Ydp ?_
     exact Yab
    ·have hN0' : ¬ (0 : Int) < P.length := by omega
     simp (disch := first | assumption | omega) only [go_sem, ↓reduceIte, Nat.reduceEqDiff, Nat.reduceAdd, Nat.reduceMul, zc, s0, s3, s4, s5, s7, s9, s10, s11, s12, hi', ti3, kLen_imm, lPi0, ti2, eq_false hN0']
     refine CLL_inS rfl (sDrawPlace hc hl') ?_
     rintro _ ro3 gn3 ⟨fr3, T, c, b, rfl, hT⟩
     obtain ⟨s, u, o, q, cv, rfl, ⟨n1, n2⟩, lu, hbk, hcv, hz, hx⟩ := hT
     obtain ⟨p1, p2, kS, kI⟩ := plBoth hcv hz b
     have hne : ¬ (s = 114768 ∧ u = gn3 114768 + 1) := by rintro ⟨rfl, rfl⟩; omega
     have hlf : ∀ s' g' p', lift s' g' p' (.ref s u [] o q) = .ref s u [] o q := fun _ _ _ => zfh _ _ _ _ _ _ _ _
     refine Ydu ?_
     refine CLL_q _ kI (.cons (exq_agg (.cons (hx _ (fun x y hy m1 m2 => by simp only [zdb]; repeat' (first | rfl | rw [if_neg (by rintro ⟨rfl, rfl⟩; omega)]))) .nil)) (.cons (exq_sc _ _ _ (by decide)) .nil)) rfl rfl rfl ?_
     refine Ydl ?_
     refine CLL_q _ kS (.cons (exq_agg (.cons (hx _ (fun x y hy m1 m2 => by simp only [zdb]; repeat' (first | rfl | rw [if_neg (by rintro ⟨rfl, rfl⟩; omega)]))) .nil)) (.cons (exq_sc _ _ _ (by decide)) .nil)) rfl rfl rfl ?_
     refine Ydp ?_
     exact Yab
  ·refine CLL_pure _ (cAll0 h) rfl rfl rfl ?_
   simp (disch := first | assumption | omega) only [go_sem, ↓reduceIte, Nat.reduceEqDiff, Nat.reduceAdd, Nat.reduceMul, zc, s0, impE_tS, ti2]
   refine CLL_pure _ (cSAll0 h) rfl rfl rfl ?_
   simp (disch := first | assumption | omega) only [go_sem, ↓reduceIte, Nat.reduceEqDiff, Nat.reduceAdd, Nat.reduceMul, zc, s0, impE_tS, ti2, ti3]
   refine CLL_pure _ (cCount0 h) rfl rfl rfl ?_
   simp (disch := first | assumption | omega) only [go_sem, ↓reduceIte, Nat.reduceEqDiff, Nat.reduceAdd, Nat.reduceMul, zc, s0, impE_tS, ti2]
   exact Yab
end Go.Proofs.YtilfkbgdpmimlaaGreat
