/- Texts joined: Y2. -/
import Derived.Test.YtgcnmlecihegcaaGreatMj
import Derived.Test.YtgcnmlecihegcaaGreatMx
set_option linter.all false
/- Groups of orders: sums, negatives, sizes, in plain terms; the contract of addElements. -/
namespace Go.Proofs.YtgcnmlecihegcaaGreat
open Go.RowKit
set_option maxRecDepth 1000000
def adB : List Int → Int → Int → Int
 | [], _, _ => 0
 | m :: ms, a, b => (a % m + b % m) % m + m * adB ms (a / m) (b / m)
def ngB : List Int → Int → Int
 | [], _ => 0
 | m :: ms, a => (m - a % m) % m + m * ngB ms (a / m)
def prB : List Int → Int
 | [] => 1
 | m :: ms => m * prB ms
theorem prB_pos : ∀ {R : List Int}, (∀ m, m ∈ R → 2 ≤ m) → 1 ≤ prB R
 | [], _ => by simp [prB]
 | m :: ms, h => by
   have h1 := prB_pos (R := ms) fun x hx => h x (by simp [hx])
   have h2 := h m (by simp)
   have : 1 * 1 ≤ m * prB ms := Int.mul_le_mul (by omega) h1 (by omega) (by omega)
   simp only [prB]; omega
theorem adB_rng : ∀ {R : List Int} {a b : Int}, (∀ m, m ∈ R → 2 ≤ m) → 0 ≤ adB R a b ∧ adB R a b < prB R
 | [], _, _, _ => by simp [adB, prB]
 | m :: ms, a, b, h => by
   have h2 := h m (by simp)
   obtain ⟨h3, h4⟩ := adB_rng (R := ms) (a := a / m) (b := b / m) fun x hx => h x (by simp [hx])
   have h5 : 0 ≤ (a % m + b % m) % m := Int.emod_nonneg _ (by omega)
   have h6 : (a % m + b % m) % m < m := Int.emod_lt_of_pos _ (by omega)
   have h7 : 0 ≤ m * adB ms (a / m) (b / m) := Int.mul_nonneg (by omega) h3
   have h8 : m * adB ms (a / m) (b / m) ≤ m * (prB ms - 1) := Int.mul_le_mul_of_nonneg_left (by omega) (by omega)
   have h9 : m * (prB ms - 1) = m * prB ms - m := by rw [Int.mul_sub, Int.mul_one]
   simp only [adB, prB]
   omega
theorem ngB_rng : ∀ {R : List Int} {a : Int}, (∀ m, m ∈ R → 2 ≤ m) → 0 ≤ ngB R a ∧ ngB R a < prB R
 | [], _, _ => by simp [ngB, prB]
 | m :: ms, a, h => by
   have h2 := h m (by simp)
   obtain ⟨h3, h4⟩ := ngB_rng (R := ms) (a := a / m) fun x hx => h x (by simp [hx])
   have h5 : 0 ≤ (m - a % m) % m := Int.emod_nonneg _ (by omega)
   have h6 : (m - a % m) % m < m := Int.emod_lt_of_pos _ (by omega)
   have h7 : 0 ≤ m * ngB ms (a / m) := Int.mul_nonneg (by omega) h3
   have h8 : m * ngB ms (a / m) ≤ m * (prB ms - 1) := Int.mul_le_mul_of_nonneg_left (by omega) (by omega)
   have h9 : m * (prB ms - 1) = m * prB ms - m := by rw [Int.mul_sub, Int.mul_one]
   simp only [ngB, prB]
   omega
theorem neg_dig {m a : Int} (hm : 2 ≤ m) : (a % m + (m - a % m) % m) % m = 0 := by
 have h1 : 0 ≤ a % m := Int.emod_nonneg _ (by omega)
 have h2 : a % m < m := Int.emod_lt_of_pos _ (by omega)
 by_cases h : a % m = 0
 · rw [h]; simp
 · rw [Int.emod_eq_of_lt (a := m - a % m) (by omega) (by omega)]
   have : a % m + (m - a % m) = m := by omega
   rw [this, Int.emod_self]
theorem ad_ng : ∀ {R : List Int} {a : Int}, (∀ m, m ∈ R → 2 ≤ m) → adB R a (ngB R a) = 0
 | [], _, _ => rfl
 | m :: ms, a, h => by
   have h2 := h m (by simp)
   have h5 : 0 ≤ (m - a % m) % m := Int.emod_nonneg _ (by omega)
   have h6 : (m - a % m) % m < m := Int.emod_lt_of_pos _ (by omega)
   have e1 : ((m - a % m) % m + m * ngB ms (a / m)) % m = (m - a % m) % m := by
     rw [Int.add_mul_emod_self_left, Int.emod_eq_of_lt h5 h6]
   have e2 : ((m - a % m) % m + m * ngB ms (a / m)) / m = ngB ms (a / m) := by
     rw [Int.add_mul_ediv_left _ _ (by omega), Int.ediv_eq_zero_of_lt h5 h6, Int.zero_add]
   simp only [adB, ngB]
   rw [e1, e2, neg_dig h2, ad_ng (R := ms) fun x hx => h x (by simp [hx])]
   simp
theorem ad_inj : ∀ {R : List Int} {a b : Int}, (∀ m, m ∈ R → 2 ≤ m) → 0 ≤ b → b < prB R → adB R a b = 0 → b = ngB R a
 | [], _, b, _, h0, h1, _ => by simp only [prB] at h1; simp only [ngB]; omega
 | m :: ms, a, b, h, h0, h1, he => by
   have h2 := h m (by simp)
   have hms : ∀ x, x ∈ ms → 2 ≤ x := fun x hx => h x (by simp [hx])
   have h3 := (adB_rng (R := ms) (a := a / m) (b := b / m) hms).1
   have h5 : 0 ≤ (a % m + b % m) % m := Int.emod_nonneg _ (by omega)
   have h7 : 0 ≤ m * adB ms (a / m) (b / m) := Int.mul_nonneg (by omega) h3
   simp only [adB, prB] at he h1
   have e1 : (a % m + b % m) % m = 0 := by omega
   have e2 : m * adB ms (a / m) (b / m) = 0 := by omega
   have e3 : adB ms (a / m) (b / m) = 0 := by
     rcases Int.mul_eq_zero.1 e2 with e | e
     · omega
     · exact e
   have hb0 : 0 ≤ b / m := Int.ediv_nonneg h0 (by omega)
   have hb1 : b / m < prB ms := Int.ediv_lt_of_lt_mul (by omega) (by rw [Int.mul_comm]; exact h1)
   have ih := ad_inj (R := ms) hms hb0 hb1 e3
   have q1 : 0 ≤ a % m := Int.emod_nonneg _ (by omega)
   have q2 : a % m < m := Int.emod_lt_of_pos _ (by omega)
   have q3 : 0 ≤ b % m := Int.emod_nonneg _ (by omega)
   have q4 : b % m < m := Int.emod_lt_of_pos _ (by omega)
   have q5 : b % m = (m - a % m) % m := by
     by_cases h8 : a % m + b % m < m
     · rw [Int.emod_eq_of_lt (by omega) h8] at e1
       have e4 : a % m = 0 := by omega
       rw [e4, Int.sub_zero, Int.emod_self]; omega
     · have e5 : (a % m + b % m) % m = a % m + b % m - m := by
         rw [← Int.sub_emod_right, Int.emod_eq_of_lt (by omega) (by omega)]
       by_cases h9 : a % m = 0
       · omega
       · rw [Int.emod_eq_of_lt (a := m - a % m) (by omega) (by omega)]; omega
   have := Int.emod_add_mul_ediv b m
   simp only [ngB]
   rw [← ih, ← q5]
   omega
def pfx (O : List Int) : Nat → Int
 | 0 => 1
 | i + 1 => pfx O i * atI O i
structure GrpP (O : List Int) : Prop where
 l1 : 1 ≤ O.length
 l4 : O.length ≤ 4
 rg : ∀ i, i < O.length → 2 ≤ atI O i ∧ atI O i ≤ 16
 sz : pfx O O.length ≤ 16
def ordF (O : List Int) (k : Nat) : Ord16 :=
 if h : 2 ≤ (atI O (O.length - 1 - k)).toNat ∧ (atI O (O.length - 1 - k)).toNat ≤ 16 then ⟨((O.length - 1 - k : Nat) : Int), (atI O (O.length - 1 - k)).toNat, h⟩ else ⟨0, 2, by decide⟩
theorem ordF_at {O : List Int} (h : ∀ i, i < O.length → 2 ≤ atI O i ∧ atI O i ≤ 16) {k : Nat} (hk : k < O.length) : (ordF O k).i = ((O.length - 1 - k : Nat) : Int) ∧ ((ordF O k).m : Int) = atI O (O.length - 1 - k) := by
 have := h (O.length - 1 - k) (by omega)
 unfold ordF
 rw [dif_pos (by omega)]
 exact ⟨rfl, by show ((atI O (O.length - 1 - k)).toNat : Int) = _; omega⟩
def rvO (O : List Int) : List Int := (upto (ordF O) O.length).map fun o => (o.m : Int)
theorem rvO_two (O : List Int) : ∀ m, m ∈ rvO O → 2 ≤ m := by
 intro m hm
 obtain ⟨o, _, rfl⟩ := List.mem_map.1 hm
 have := o.h.1
 omega
def adO (O : List Int) (x y : Int) : Int := adB (rvO O) x y
def ngO (O : List Int) (x : Int) : Int := ngB (rvO O) x
theorem adR_sum : ∀ (pre : List Ord16) (t : Int × Int × Int × Int), (pre.foldl adR t).1 = t.1 + t.2.1 * adB (pre.map fun o => (o.m : Int)) t.2.2.1 t.2.2.2
 | [], t => by simp [adB]
 | o :: pre, t => by
   rw [List.foldl_cons, adR_sum pre]
   simp only [adR, List.map_cons, adB]
   rw [Int.mul_add, Int.mul_comm _ t.2.1, Int.mul_assoc, Int.add_assoc]
theorem adT_sum (O : List Int) (x y : Int) : (adT x y (upto (ordF O) O.length)).1 = adO O x y := by
 unfold adT adO rvO
 rw [adR_sum]
 simp
theorem pfx_pos {O : List Int} (h : ∀ i, i < O.length → 2 ≤ atI O i ∧ atI O i ≤ 16) : ∀ {i : Nat}, i ≤ O.length → 1 ≤ pfx O i
 | 0, _ => by simp [pfx]
 | i + 1, hi => by
   have h1 := pfx_pos h (i := i) (by omega)
   have h2 := h i (by omega)
   have : 1 * 1 ≤ pfx O i * atI O i := Int.mul_le_mul h1 (by omega) (by omega) (by omega)
   simp only [pfx]; omega
theorem upto_drop {α : Type} (f : Nat → α) (n k : Nat) (h : k < n) : (upto f n).drop k = f k :: (upto f n).drop (k + 1) := by
 rw [List.drop_eq_getElem_cons (by rw [upto_length]; exact h)]
 simp [upto]
theorem pfx_rv {O : List Int} (h : ∀ i, i < O.length → 2 ≤ atI O i ∧ atI O i ≤ 16) : ∀ {i : Nat}, i ≤ O.length → prB ((rvO O).drop (O.length - i)) = pfx O i
 | 0, _ => by
   rw [List.drop_of_length_le (by simp [rvO, upto_length])]; rfl
 | i + 1, hi => by
   have ih := pfx_rv h (i := i) (by omega)
   have e : O.length - (i + 1) + 1 = O.length - i := by omega
   have e2 : O.length - 1 - (O.length - (i + 1)) = i := by omega
   have ho := (ordF_at h (k := O.length - (i + 1)) (by omega)).2
   rw [e2] at ho
   unfold rvO at ih ⊢
   rw [← List.map_drop, upto_drop _ _ _ (by omega), List.map_cons, e]
   rw [← List.map_drop] at ih
   simp only [prB, pfx]
   rw [ih, ho, Int.mul_comm]
theorem GrpP.prB {O : List Int} (h : GrpP O) : prB (rvO O) = pfx O O.length := by
 have := pfx_rv h.rg (i := O.length) (Nat.le_refl _)
 rwa [Nat.sub_self, List.drop_zero] at this
theorem GrpP.ad {O : List Int} (h : GrpP O) (x y : Int) : 0 ≤ adO O x y ∧ adO O x y < pfx O O.length := by
 have := adB_rng (R := rvO O) (a := x) (b := y) (rvO_two O)
 rwa [h.prB] at this
theorem GrpP.ng {O : List Int} (h : GrpP O) (x : Int) : 0 ≤ ngO O x ∧ ngO O x < pfx O O.length := by
 have := ngB_rng (R := rvO O) (a := x) (rvO_two O)
 rwa [h.prB] at this
theorem GrpP.inv {O : List Int} (h : GrpP O) {x y : Int} (h0 : 0 ≤ y) (h1 : y < pfx O O.length) : adO O x y = 0 ↔ y = ngO O x := by
 constructor
 · exact ad_inj (rvO_two O) h0 (by rw [h.prB]; exact h1)
 · rintro rfl; exact ad_ng (rvO_two O)
theorem relL_i64 {c : Cx} : ∀ {xs : List Int} {us : List Value} {F : List Nat}, RelL c (xs.map i64) us F → us = xs.map (Value.int .i64)
 | [], us, F, h => (RelL.nilF h).1
 | x :: xs, us, F, h => by
   obtain ⟨v, vs, F1, G1, rfl, _, h1, h2, _⟩ := RelL.uncons h
   obtain ⟨rfl, _⟩ := Rel.sc_inv h1
   rw [relL_i64 h2]; rfl
theorem cAddI {O : List Int} (hO : GrpP O) {x y : Int} (hx : 0 ≤ x ∧ x < 4294967296) (hy : 0 ≤ y ∧ y < 4294967296) : CallOK Tryz.prog 152 [immL O, i64 x, i64 y] (i64 (adO O x y)) := by
 refine ⟨⟨_, Tryz.func152, by kernel_rfl, by kernel_rfl⟩, rfl, fun w A vs hv hA => ?_⟩
 obtain ⟨v0, vs1, rfl, h0, hv1⟩ := RelL.uncons0 hv
 obtain ⟨v1, vs2, rfl, h1, hv2⟩ := RelL.uncons0 hv1
 obtain ⟨v2, vs3, rfl, h2, hv3⟩ := RelL.uncons0 hv2
 obtain rfl := (RelL.nilF hv3).1
 obtain ⟨rfl, _⟩ := Rel.sc_inv h1
 obtain ⟨rfl, _⟩ := Rel.sc_inv h2
 obtain ⟨g, b, cap, us, rfl, hr, hin, hcap, _⟩ := Rel.imm_inv h0
 obtain rfl := relL_i64 hr
 have hl4 := hO.l4
 have hI : IntsA w.heap.size w (.slice (some ⟨g, b, none⟩) O.length cap) O := by
   refine ⟨g, b, cap, rfl, hin.2.1, fun j hj => hin.2.2 j _ ?_⟩
   rw [List.getElem?_map, List.getElem?_eq_getElem hj]
   simp
 rw [List.length_map] at hcap ⊢
 have hc := addE_in Fence.wide 3 trivial trivial trivial rfl (Nat.le_refl _) g b cap O hl4 x y hx hy (ordF O) (fun m hm => by
   have := ordF_at hO.rg (k := O.length - (m + 1)) (by omega)
   have e : O.length - 1 - (O.length - (m + 1)) = m := by omega
   rw [e] at this
   refine ⟨this.1, this.2.trans ?_⟩
   unfold atI
   rw [List.getD_eq_getElem?_getD]) w hI
 refine (callsIn_wide.1 hc).mono ?_
 rintro e w' ⟨rfl, hb⟩
 rw [adT_sum]
 exact ⟨_, A, [], rfl, .sc _ .nil, fun _ h => h, fun _ h => (by cases h), ⟨hb.os, hb.tape, hb.output, hb.size, fun k hk _ => hb.block k hk⟩⟩
end Go.Proofs.YtgcnmlecihegcaaGreat
