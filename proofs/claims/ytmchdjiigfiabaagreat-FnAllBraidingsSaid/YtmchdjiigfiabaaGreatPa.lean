/- Texts joined: Br0 Br1 Br2 Br3. -/
import Derived.Test.YtmchdjiigfiabaaGreatOk
set_option linter.all false
/- How many numbers below m solve g (t + c) = 0 mod m. -/
namespace Go.Proofs.YtmchdjiigfiabaaGreat
theorem cnt_one {n s : Nat} (hs : s < n) {p : Nat → Bool} (h : ∀ t, t < n → (p t = true ↔ t = s)) : ((List.range n).filter p).length = 1 := by
 induction n with
 | zero => omega
 | succ n ih =>
  rw [List.range_succ, List.filter_append, List.length_append]
  by_cases e : s = n
  ·have h1 : (List.range n).filter p = [] := List.filter_eq_nil_iff.2 fun t ht hp => by
    have ht2 := List.mem_range.1 ht
    have := (h t (by omega)).1 hp
    omega
   have h2 : p n = true := (h n (by omega)).2 e.symm
   rw [h1, List.filter_cons, if_pos h2]
   rfl
  ·have h2 : ¬ p n = true := fun hp => e ((h n (by omega)).1 hp).symm
   rw [ih (by omega) fun t ht => h t (by omega), List.filter_cons, if_neg h2]
   rfl
theorem cnt_blk {D : Nat} (hD : 0 < D) (c : Nat) : ∀ d, ((List.range (d * D)).filter fun t => decide (D ∣ t + c)).length = d
 | 0 => by rw [Nat.zero_mul]; rfl
 | d + 1 => by
  have ih := cnt_blk hD c d
  rw [Nat.succ_mul, List.range_add, List.filter_append, List.length_append, ih, List.filter_map, List.length_map]
  congr 1
  have hlt : (D - (d * D + c) % D) % D < D := Nat.mod_lt _ hD
  refine cnt_one hlt fun t ht => ?_
  simp only [Function.comp_apply, decide_eq_true_eq]
  have hm : (d * D + c) % D < D := Nat.mod_lt _ hD
  have e : (d * D + t + c) % D = (t + (d * D + c) % D) % D := by
   rw [show d * D + t + c = t + (d * D + c) by omega, Nat.add_mod_mod]
  rw [Nat.dvd_iff_mod_eq_zero, e]
  generalize (d * D + c) % D = r at hm
  by_cases h0 : r = 0
  ·subst h0
   rw [Nat.sub_zero, Nat.mod_self, Nat.add_zero, Nat.mod_eq_of_lt ht]
  ·rw [Nat.mod_eq_of_lt (show D - r < D by omega)]
   by_cases h1 : t + r < D
   ·rw [Nat.mod_eq_of_lt h1]; omega
   ·rw [Nat.mod_eq_sub_mod (by omega), Nat.mod_eq_of_lt (by omega)]; omega
theorem cnt_gcd {m : Nat} (hm : 0 < m) (g c : Nat) : ((List.range m).filter fun t => decide (m ∣ g * (t + c))).length = Nat.gcd g m := by
 have hd : 0 < Nat.gcd g m := Nat.gcd_pos_of_pos_right _ hm
 obtain ⟨D, hD⟩ := Nat.gcd_dvd_right g m
 obtain ⟨G, hG⟩ := Nat.gcd_dvd_left g m
 have hD0 : 0 < D := by
  rcases Nat.eq_zero_or_pos D with h | h
  ·rw [h, Nat.mul_zero] at hD; omega
  ·exact h
 have hco : Nat.Coprime D G := by
  have h1 : Nat.gcd (Nat.gcd g m * G) (Nat.gcd g m * D) = Nat.gcd g m * Nat.gcd G D := Nat.gcd_mul_left _ _ _
  rw [← hG, ← hD] at h1
  have h2 : Nat.gcd G D = 1 := Nat.eq_of_mul_eq_mul_left hd (by omega)
  exact (Nat.gcd_comm D G).trans h2
 have hf : (fun t => decide (m ∣ g * (t + c))) = fun t => decide (D ∣ t + c) := by
  funext t
  refine decide_eq_decide.2 ?_
  have e : m ∣ g * (t + c) ↔ D ∣ G * (t + c) := by
   have h2 : g * (t + c) = Nat.gcd g m * (G * (t + c)) := by rw [← Nat.mul_assoc, ← hG]
   have h3 : m ∣ Nat.gcd g m * (G * (t + c)) ↔ Nat.gcd g m * D ∣ Nat.gcd g m * (G * (t + c)) := by rw [← hD]
   rw [h2, h3]
   exact Nat.mul_dvd_mul_iff_left hd
  exact e.trans ⟨fun h => Nat.Coprime.dvd_of_dvd_mul_left hco h, fun h => Nat.dvd_mul_left_of_dvd h G⟩
 rw [hf]
 have := cnt_blk hD0 c (Nat.gcd g m)
 rwa [← hD] at this
def lstA (m : Nat) : Nat → List (List Nat)
 | 0 => [[]]
 | r + 1 => (List.range m).flatMap fun a => (lstA m r).map (a :: ·)
def allP : List (Nat → Bool) → List Nat → Bool
 | p :: ps, a :: l => p a && allP ps l
 | _, _ => true
theorem cnt_cons (p : Nat → Bool) (ps : List (Nat → Bool)) (Y : List (List Nat)) : ∀ X : List Nat, ((X.flatMap fun a => Y.map (a :: ·)).filter (allP (p :: ps))).length = (X.filter p).length * (Y.filter (allP ps)).length
 | [] => by simp
 | a :: X => by
  rw [List.flatMap_cons, List.filter_append, List.length_append, cnt_cons p ps Y X, List.filter_map, List.length_map, List.filter_cons]
  have e : (allP (p :: ps) ∘ fun l => a :: l) = fun l => p a && allP ps l := rfl
  rw [e]
  cases h : p a with
  | true =>
   simp only [Bool.true_and, if_true, List.length_cons]
   rw [Nat.succ_mul, Nat.add_comm]
  | false =>
   have e2 : (Y.filter fun l => false && allP ps l) = [] := List.filter_eq_nil_iff.2 fun l _ hl => by simp at hl
   rw [e2]
   simp
theorem cnt_all (m : Nat) : ∀ ps : List (Nat → Bool), ((lstA m ps.length).filter (allP ps)).length = (ps.map fun p => ((List.range m).filter p).length).foldr (· * ·) 1
 | [] => rfl
 | p :: ps => by
  show ((((List.range m).flatMap fun a => (lstA m ps.length).map (a :: ·)).filter (allP (p :: ps))).length = _)
  rw [cnt_cons, cnt_all m ps]
  rfl
end Go.Proofs.YtmchdjiigfiabaaGreat
/- Generators, digits and plans of sums for small groups: checked for all orders. -/
namespace Go.Proofs.YtmchdjiigfiabaaGreat
open Go.RowKit
set_option maxRecDepth 1000000
def plO (O : List Int) : Nat → Int
 | 0 => 1
 | k + 1 => plO O k * atI O (O.length - 1 - k)
def genI (O : List Int) (i : Nat) : Int := if atI O i = 1 then 0 else plO O (O.length - 1 - i)
def gen (O : List Int) (i : Nat) : Nat := (genI O i).toNat
def hrn (O : List Int) (T : Nat → Int) : Nat → Int
 | 0 => 0
 | k + 1 => hrn O T k * atI O k + T k
def unT (O : List Int) (i j : Nat) : Int := if j = i ∧ 1 < atI O i then 1 else 0
def lstK (O : List Int) (y : Nat) : Nat → Nat
 | 0 => 0
 | k + 1 => if dgD O y k = 0 then lstK O y k else k
def itr (O : List Int) (g : Nat) : Nat → Nat
 | 0 => 0
 | m + 1 => adN O (itr O g m) g
abbrev Stp := Nat × Nat × Nat
structure BS where
 kn : List Bool
 od : List Int
 fr : List Int
 sp : List Int
def bsI (O : List Int) (i : Nat) (s : BS) (k : Nat) : BS :=
 if s.kn.getD (adO O (atI s.od i) (genI O k)).toNat false = true then s else ⟨s.kn.set (adO O (atI s.od i) (genI O k)).toNat true, s.od ++ [adO O (atI s.od i) (genI O k)], s.fr ++ [atI s.od i], s.sp ++ [(k : Int)]⟩
def bsR (O : List Int) (i k : Nat) (s : BS) : BS := (List.range k).foldl (bsI O i) s
def szO (O : List Int) : Nat := (pfx O O.length).toNat
def bsO (O : List Int) : Nat → BS
 | 0 => ⟨(List.replicate (szO O) false).set 0 true, [0], [0], [0]⟩
 | i + 1 => bsR O i O.length (bsO O i)
def plS (O : List Int) : List Stp := (List.range (szO O - 1)).map fun j => ((atI (bsO O (szO O)).od (j + 1)).toNat, (atI (bsO O (szO O)).fr (j + 1)).toNat, (atI (bsO O (szO O)).sp (j + 1)).toNat)
def plI (O : List Int) : List Stp := (List.range (szO O - 1)).map fun j => (j + 1, j + 1 - gen O (lstK O (j + 1) O.length), lstK O (j + 1) O.length)
def allN (n : Nat) (p : Nat → Bool) : Bool := (List.range n).all p
theorem allN_at {n : Nat} {p : Nat → Bool} (h : allN n p = true) {i : Nat} (hi : i < n) : p i = true := List.all_eq_true.1 h i (List.mem_range.2 hi)
structure StpP (O : List Int) (P : List Stp) (j : Nat) (s : Stp) : Prop where
 e : s.1 < szO O
 x : s.2.1 < szO O
 k : s.2.2 < O.length
 e0 : s.1 ≠ 0
 ad : s.1 = adN O s.2.1 (gen O s.2.2)
 ex : s.1 ≠ s.2.1
 eg : s.2.1 ≠ 0 → s.1 ≠ gen O s.2.2
 be : s.2.1 = 0 ∨ s.2.1 ∈ (P.take j).map (·.1)
def stB (O : List Int) (P : List Stp) (j : Nat) (s : Stp) : Bool := decide (s.1 < szO O) && decide (s.2.1 < szO O) && decide (s.2.2 < O.length) && decide (s.1 ≠ 0) && decide (s.1 = adN O s.2.1 (gen O s.2.2)) && decide (s.1 ≠ s.2.1) && (decide (s.2.1 = 0) || decide (s.1 ≠ gen O s.2.2)) && (decide (s.2.1 = 0) || ((P.take j).map (·.1)).contains s.2.1)
theorem stB_ok {O : List Int} {P : List Stp} {j : Nat} {s : Stp} (h : stB O P j s = true) : StpP O P j s := by
 simp only [stB, Bool.and_eq_true, Bool.or_eq_true, decide_eq_true_eq, List.contains_iff_mem] at h
 obtain ⟨⟨⟨⟨⟨⟨⟨h1, h2⟩, h3⟩, h4⟩, h5⟩, h6⟩, h7⟩, h8⟩ := h
 exact ⟨h1, h2, h3, h4, h5, h6, fun h0 => h7.resolve_left h0, h8⟩
structure PlnP (O : List Int) (P : List Stp) : Prop where
 st : ∀ (j : Nat) (s : Stp), P[j]? = some s → StpP O P j s
 al : ∀ e, e < szO O → e ≠ 0 → e ∈ P.map (·.1)
def plB (O : List Int) (P : List Stp) : Bool := allN P.length (fun j => stB O P j (P.getD j (0, 0, 0))) && allN (szO O) (fun e => decide (e = 0) || (P.map (·.1)).contains e)
theorem plB_ok {O : List Int} {P : List Stp} (h : plB O P = true) : PlnP O P := by
 simp only [plB, Bool.and_eq_true] at h
 refine ⟨fun j s hs => ?_, fun e he h0 => ?_⟩
 ·have hj := (List.getElem?_eq_some_iff.1 hs).1
  have := allN_at h.1 hj
  rw [List.getD_eq_getElem?_getD, hs] at this
  exact stB_ok this
 ·have := allN_at h.2 he
  simp only [Bool.or_eq_true, decide_eq_true_eq, List.contains_iff_mem] at this
  exact this.resolve_left h0
structure BsP2 (O : List Int) (i : Nat) (s : BS) : Prop where
 il : i < s.od.length
 kl : s.kn.length = szO O
 fl : s.fr.length = s.od.length
 sl : s.sp.length = s.od.length
 ln : s.od.length ≤ szO O
 ov : ∀ j, j < s.od.length → (0 ≤ atI s.od j ∧ atI s.od j < szO O) ∧ (0 ≤ atI s.fr j ∧ atI s.fr j < szO O) ∧ (0 ≤ atI s.sp j ∧ atI s.sp j < O.length)
def bsB (O : List Int) (i : Nat) (s : BS) : Bool := decide (i < s.od.length) && decide (s.kn.length = szO O) && decide (s.fr.length = s.od.length) && decide (s.sp.length = s.od.length) && decide (s.od.length ≤ szO O) &&
 allN s.od.length fun j => decide (0 ≤ atI s.od j) && decide (atI s.od j < szO O) && decide (0 ≤ atI s.fr j) && decide (atI s.fr j < szO O) && decide (0 ≤ atI s.sp j) && decide (atI s.sp j < O.length)
theorem bsB_ok {O : List Int} {i : Nat} {s : BS} (h : bsB O i s = true) : BsP2 O i s := by
 simp only [bsB, Bool.and_eq_true, decide_eq_true_eq] at h
 obtain ⟨⟨⟨⟨⟨h1, h2⟩, h3⟩, h4⟩, h5⟩, h6⟩ := h
 refine ⟨h1, h2, h3, h4, h5, fun j hj => ?_⟩
 have := allN_at h6 hj
 simp only [Bool.and_eq_true, decide_eq_true_eq] at this
 obtain ⟨⟨⟨⟨⟨q1, q2⟩, q3⟩, q4⟩, q5⟩, q6⟩ := this
 exact ⟨⟨q1, q2⟩, ⟨q3, q4⟩, q5, q6⟩
def chO (O : List Int) : Bool :=
 decide (O.length ≤ 6) && (
 allN O.length (fun i => decide (0 ≤ genI O i) && decide (genI O i < szO O) && decide (hrn O (unT O i) O.length = genI O i) && (decide (atI O i = 1) || (decide (lstK O (gen O i) O.length = i) && decide (gen O i ≠ 0))) && decide (itr O (gen O i) (atI O i).toNat = 0)) &&
 (allN (szO O) (fun y => decide (y = 0) || (decide (lstK O y O.length < O.length) && decide (¬ dgD O y (lstK O y O.length) = 0) && decide (gen O (lstK O y O.length) ≤ y))) &&
 (allN (szO O) (fun x => allN (szO O) fun y => allN O.length fun j => decide (dgD O (adN O x y) j = (dgD O x j + dgD O y j) % atI O j)) &&
 (allN O.length (fun i => allN O.length fun j => decide (dgD O (gen O i) j = if i = j ∧ atI O i ≠ 1 then 1 else 0)) &&
 (allN (szO O) (fun i => allN (O.length + 1) fun k => bsB O i (bsR O i k (bsO O i))) &&
 (decide ((bsO O (szO O)).od.length = szO O) && decide ((bsO O (szO O)).fr.length = szO O) && decide ((bsO O (szO O)).sp.length = szO O) && (plB O (plS O) && plB O (plI O))))))))
structure SmO (O : List Int) : Prop where
 l6 : O.length ≤ 6
 g0 : ∀ i, i < O.length → 0 ≤ genI O i ∧ genI O i < szO O
 gh : ∀ i, i < O.length → hrn O (unT O i) O.length = genI O i
 gl : ∀ i, i < O.length → atI O i ≠ 1 → lstK O (gen O i) O.length = i ∧ gen O i ≠ 0
 gi : ∀ i, i < O.length → itr O (gen O i) (atI O i).toNat = 0
 lk : ∀ y, y < szO O → y ≠ 0 → lstK O y O.length < O.length ∧ dgD O y (lstK O y O.length) ≠ 0 ∧ gen O (lstK O y O.length) ≤ y
 da : ∀ x y j, x < szO O → y < szO O → j < O.length → dgD O (adN O x y) j = (dgD O x j + dgD O y j) % atI O j
 dg : ∀ i j, i < O.length → j < O.length → dgD O (gen O i) j = if i = j ∧ atI O i ≠ 1 then 1 else 0
 bs : ∀ i k, i < szO O → k ≤ O.length → BsP2 O i (bsR O i k (bsO O i))
 be : (bsO O (szO O)).od.length = szO O ∧ (bsO O (szO O)).fr.length = szO O ∧ (bsO O (szO O)).sp.length = szO O
 pS : PlnP O (plS O)
 pI : PlnP O (plI O)
theorem chO_ok {O : List Int} (h : chO O = true) : SmO O := by
 simp only [chO, Bool.and_eq_true] at h
 obtain ⟨h00, h1, h2, h3, h4, h5, ⟨⟨h6, h7⟩, h8⟩, h9, h10⟩ := h
 have k1 := fun i hi => allN_at h1 (i := i) hi
 simp only [Bool.and_eq_true, Bool.or_eq_true, decide_eq_true_eq] at k1
 refine ⟨of_decide_eq_true h00, fun i hi => ⟨(k1 i hi).1.1.1.1, (k1 i hi).1.1.1.2⟩, fun i hi => (k1 i hi).1.1.2, fun i hi h0 => (k1 i hi).1.2.resolve_left h0, fun i hi => (k1 i hi).2, fun y hy h0 => ?_, fun x y j hx hy hj => ?_, fun i j hi hj => ?_, fun i k hi hk => ?_, ⟨of_decide_eq_true h6, of_decide_eq_true h7, of_decide_eq_true h8⟩, plB_ok h9, plB_ok h10⟩
 ·have := allN_at h2 hy
  simp only [Bool.and_eq_true, Bool.or_eq_true, decide_eq_true_eq] at this
  obtain ⟨⟨q1, q2⟩, q3⟩ := this.resolve_left h0
  exact ⟨q1, q2, q3⟩
 ·exact of_decide_eq_true (allN_at (allN_at (allN_at h3 hx) hy) hj)
 ·exact of_decide_eq_true (allN_at (allN_at h4 hi) hj)
 ·exact bsB_ok (allN_at (allN_at h5 hi) (Nat.lt_succ_of_le hk))
def ck1 : Bool := allN 9 fun a => decide (a = 0) || chO [(a : Int)]
def ck2 : Bool := allN 9 fun a => allN 9 fun b => decide (a * b = 0) || (decide (8 < a * b) || chO [(a : Int), (b : Int)])
def ck3 (a : Nat) : Bool := allN 9 fun b => allN 9 fun c => decide (a * b * c = 0) || (decide (8 < a * b * c) || chO [(a : Int), (b : Int), (c : Int)])
set_option maxHeartbeats 4000000 in
theorem ck1_ok : ck1 = true := by kernel_rfl
set_option maxHeartbeats 4000000 in
theorem ck2_ok : ck2 = true := by kernel_rfl
set_option maxHeartbeats 4000000 in
theorem ck3_ok : allN 9 ck3 = true := by kernel_rfl
end Go.Proofs.YtmchdjiigfiabaaGreat
/- Braidings follow from their leading numbers, along any plan of sums. -/
namespace Go.Proofs.YtmchdjiigfiabaaGreat
open Go.RowKit
set_option maxRecDepth 1000000
theorem mul_ge {a b : Int} (ha : 1 ≤ a) (hb : 1 ≤ b) : a ≤ a * b ∧ b ≤ a * b := by
 have h1 : a * 1 ≤ a * b := Int.mul_le_mul_of_nonneg_left hb (by omega)
 have h2 : 1 * b ≤ a * b := Int.mul_le_mul_of_nonneg_right ha (by omega)
 omega
theorem smO {O : List Int} (h : OrdP O) (hl : O.length ≤ 3) (h8 : pfx O O.length ≤ 8) : SmO O := by
 obtain ⟨h0, hp⟩ := h
 match O, h0, hl, hp, h8 with
 | [a], _, _, hp, h8 =>
  have ha : 1 ≤ a := hp 0 (by simp)
  have e8 : 1 * a ≤ 8 := h8
  have k := allN_at ck1_ok (i := a.toNat) (by omega)
  simp only [Bool.or_eq_true, decide_eq_true_eq] at k
  have e : ((a.toNat : Nat) : Int) = a := by omega
  rw [e] at k
  exact chO_ok (k.resolve_left (by omega))
 | [a, b], _, _, hp, h8 =>
  have ha : 1 ≤ a := hp 0 (by simp)
  have hb : 1 ≤ b := hp 1 (by simp)
  have e8 : 1 * a * b ≤ 8 := h8
  rw [Int.one_mul] at e8
  have hm := mul_ge ha hb
  have k := allN_at (allN_at ck2_ok (i := a.toNat) (by omega)) (i := b.toNat) (by omega)
  simp only [Bool.or_eq_true, decide_eq_true_eq] at k
  have e : ((a.toNat : Nat) : Int) = a := by omega
  have e' : ((b.toNat : Nat) : Int) = b := by omega
  have em : ((a.toNat * b.toNat : Nat) : Int) = a * b := by rw [Int.natCast_mul, e, e']
  rw [e, e'] at k
  exact chO_ok ((k.resolve_left (by omega)).resolve_left (by omega))
 | [a, b, c], _, _, hp, h8 =>
  have ha : 1 ≤ a := hp 0 (by simp)
  have hb : 1 ≤ b := hp 1 (by simp)
  have hc : 1 ≤ c := hp 2 (by simp)
  have e8 : 1 * a * b * c ≤ 8 := h8
  rw [Int.one_mul] at e8
  have hm := mul_ge ha hb
  have hm2 := mul_ge (show 1 ≤ a * b by omega) hc
  have k := allN_at (allN_at (allN_at ck3_ok (i := a.toNat) (by omega)) (i := b.toNat) (by omega)) (i := c.toNat) (by omega)
  simp only [Bool.or_eq_true, decide_eq_true_eq] at k
  have e : ((a.toNat : Nat) : Int) = a := by omega
  have e' : ((b.toNat : Nat) : Int) = b := by omega
  have e2 : ((c.toNat : Nat) : Int) = c := by omega
  have em : ((a.toNat * b.toNat * c.toNat : Nat) : Int) = a * b * c := by rw [Int.natCast_mul, Int.natCast_mul, e, e', e2]
  rw [e, e', e2] at k
  exact chO_ok ((k.resolve_left (by omega)).resolve_left (by omega))
 | a :: b :: c :: d :: l, _, hl, _, _ => exact absurd hl (by simp)
section
variable (O : List Int) (M : Int) (F : Nat → Nat → Nat → Int) (L : Nat → Nat → Int)
abbrev updI (R : Nat → Int) (e : Nat) (v : Int) : Nat → Int := fun z => if z = e then v else R z
def rwV (g : Nat) (R : Nat → Int) (s : Stp) : Int := (L g s.2.2 + F s.2.1 (gen O g) (gen O s.2.2) + R s.2.1 - F s.2.1 (gen O s.2.2) (gen O g) - F (gen O g) s.2.1 (gen O s.2.2)) % M
def rwS (g : Nat) (R : Nat → Int) (s : Stp) : Nat → Int := updI R s.1 (rwV O M F L g R s)
def rwB (g : Nat) (R : Nat → Int) (P : List Stp) : Nat → Int := P.foldl (rwS O M F L g) R
def mtV (A B : Nat → Nat → Int) (s : Stp) (z : Nat) : Int := (A s.2.1 z - F s.2.1 z (gen O s.2.2) + B (gen O s.2.2) z + F z s.2.1 (gen O s.2.2) + F s.2.1 (gen O s.2.2) z) % M
abbrev updR (A : Nat → Nat → Int) (e : Nat) (R : Nat → Int) : Nat → Nat → Int := fun x => if x = e then R else A x
def gnS (A : Nat → Nat → Int) (P : List Stp) (g : Nat) : Nat → Nat → Int := updR A (gen O g) (rwB O M F L g (A (gen O g)) P)
def gsS (P : List Stp) (k : Nat) : Nat → Nat → Int := (List.range k).foldl (fun A g => gnS O M F L A P g) fun _ _ => 0
def gnI (A : Nat → Nat → Int) (P : List Stp) (g : Nat) : Nat → Nat → Int := updR A (gen O g) (rwB O M F L g (fun _ => 0) P)
def gsI (P : List Stp) (k : Nat) : Nat → Nat → Int := (List.range k).foldl (fun A g => gnI O M F L A P g) fun _ _ => 0
def mtS (A : Nat → Nat → Int) (s : Stp) : Nat → Nat → Int := if s.2.1 = 0 then A else updR A s.1 (mtV O M F A A s)
def mtI (B A : Nat → Nat → Int) (s : Stp) : Nat → Nat → Int := updR A s.1 (mtV O M F A B s)
def bdS (P : List Stp) : Nat → Nat → Int := P.foldl (mtS O M F) (gsS O M F L P O.length)
def bdI (P : List Stp) : Nat → Nat → Int := P.foldl (mtI O M F (gsI O M F L P O.length)) fun _ _ => 0
end
section
variable {O : List Int} {M : Int} {F : Nat → Nat → Nat → Int} {L : Nat → Nat → Int} {G : Nat → Nat → Int} {P : List Stp}
structure LdG (O : List Int) (M : Int) (F : Nat → Nat → Nat → Int) (L : Nat → Nat → Int) (G : Nat → Nat → Int) : Prop where
 b : BrP O M F (szO O) G (szO O) (szO O)
 l : ∀ i k, i < O.length → k < O.length → G (gen O i) (gen O k) = L i k
theorem SmO.gn (h : SmO O) {i : Nat} (hi : i < O.length) : gen O i < szO O := by
 have := h.g0 i hi
 unfold gen
 omega
theorem emod_tight {a b M : Int} (h : (a - b) % M = 0) (h0 : 0 ≤ a) (h1 : a ≤ M - 1) : b % M = a := by
 have := Int.emod_eq_emod_iff_emod_sub_eq_zero.2 h
 rw [← this, Int.emod_eq_of_lt h0 (by omega)]
theorem LdG.rg (h : LdG O M F L G) {x y : Nat} (hx : x < szO O) (hy : y < szO O) : 0 ≤ G x y ∧ G x y ≤ M - 1 := h.b.s.p.rg hx hy
theorem LdG.z (h : LdG O M F L G) {x y : Nat} (hx : x < szO O) (hy : y < szO O) (h0 : x = 0 ∨ y = 0) : G x y = 0 := h.b.s.z hx hy h0
theorem LdG.one (h : LdG O M F L G) (sm : SmO O) {g : Nat} (hg : g < O.length) {R : Nat → Int} {j : Nat} {s : Stp} (hs : StpP O P j s) (hR : R s.2.1 = G (gen O g) s.2.1) : rwV O M F L g R s = G (gen O g) s.1 := by
 have e := h.b.b1 (sm.gn hg) hs.x (sm.gn hs.k)
 unfold b1E at e
 rw [← hs.ad] at e
 obtain ⟨r1, r2⟩ := h.rg (sm.gn hg) hs.e
 unfold rwV
 rw [hR, ← h.l g s.2.2 hg hs.k]
 refine emod_tight ?_ r1 r2
 rw [← e]
 congr 1
 omega
theorem LdG.two (h : LdG O M F L G) (sm : SmO O) {A B : Nat → Nat → Int} {j : Nat} {s : Stp} {z : Nat} (hz : z < szO O) (hs : StpP O P j s) (hA : A s.2.1 z = G s.2.1 z) (hB : B (gen O s.2.2) z = G (gen O s.2.2) z) : mtV O M F A B s z = G s.1 z := by
 have e := h.b.b2 hs.x (sm.gn hs.k) hz
 unfold b2E at e
 rw [← hs.ad] at e
 obtain ⟨r1, r2⟩ := h.rg hs.e hz
 unfold mtV
 rw [hA, hB]
 refine emod_tight ?_ r1 r2
 rw [← e]
 congr 1
 omega
theorem take_succ_get {α : Type} {P : List α} {j : Nat} {s : α} (h : P[j]? = some s) : P.take (j + 1) = P.take j ++ [s] := by
 rw [List.take_succ, h]
 rfl
theorem LdG.row (h : LdG O M F L G) (sm : SmO O) (pl : PlnP O P) {g : Nat} (hg : g < O.length) {R : Nat → Int} (h0 : R 0 = 0) : ∀ j, j ≤ P.length → ∀ e, e < szO O → (e = 0 ∨ e ∈ (P.take j).map (·.1)) → rwB O M F L g R (P.take j) e = G (gen O g) e
 | 0, _, e, he, hm => by
  rcases hm with hm | hm
  ·subst hm
   show R 0 = _
   rw [h0, h.z (sm.gn hg) he (.inr rfl)]
  ·rw [List.take_zero] at hm
   cases hm
 | j + 1, hj, e, he, hm => by
  obtain ⟨s, hs⟩ : ∃ s, P[j]? = some s := ⟨_, List.getElem?_eq_getElem (by omega)⟩
  have hp := pl.st j s hs
  have ih := h.row sm pl hg h0 j (by omega)
  rw [take_succ_get hs] at hm ⊢
  unfold rwB at ih ⊢
  rw [List.foldl_append]
  show (if e = s.1 then _ else _) = _
  split
  ·rename_i e1
   rw [e1]
   exact h.one sm hg hp (ih s.2.1 hp.x hp.be)
  ·rename_i e1
   refine ih e he ?_
   rcases hm with hm | hm
   ·exact .inl hm
   ·rw [List.map_append, List.mem_append] at hm
    rcases hm with hm | hm
    ·exact .inr hm
    ·simp only [List.map_cons, List.map_nil, List.mem_singleton] at hm
     exact absurd hm e1
theorem LdG.rowA (h : LdG O M F L G) (sm : SmO O) (pl : PlnP O P) {g : Nat} (hg : g < O.length) {R : Nat → Int} (h0 : R 0 = 0) {e : Nat} (he : e < szO O) : rwB O M F L g R P e = G (gen O g) e := by
 have := h.row sm pl hg h0 P.length (Nat.le_refl _) e he
 rw [List.take_length] at this
 refine this ?_
 by_cases e0 : e = 0
 ·exact .inl e0
 ·exact .inr (pl.al e he e0)
theorem LdG.gsI (h : LdG O M F L G) (sm : SmO O) (pl : PlnP O P) : ∀ k, k ≤ O.length → ∀ i, i < k → ∀ e, e < szO O → Proofs.YtmchdjiigfiabaaGreat.gsI O M F L P k (gen O i) e = G (gen O i) e
 | 0, _, _, hi, _, _ => absurd hi (Nat.not_lt_zero _)
 | k + 1, hk, i, hi, e, he => by
  have ih := h.gsI sm pl k (by omega)
  unfold Proofs.YtmchdjiigfiabaaGreat.gsI at ih ⊢
  rw [List.range_succ, List.foldl_append]
  show (if gen O i = gen O k then _ else _ : Nat → Int) e = _
  by_cases e1 : gen O i = gen O k
  ·rw [if_pos e1, e1]
   exact h.rowA (g := k) (R := fun _ => 0) sm pl (by omega) rfl he
  ·rw [if_neg e1]
   refine ih i ?_ e he
   rcases Nat.lt_or_eq_of_le (Nat.le_of_lt_succ hi) with h1 | h1
   ·exact h1
   ·rw [h1] at e1
    exact absurd rfl e1
theorem LdG.gsS (h : LdG O M F L G) (sm : SmO O) (pl : PlnP O P) : ∀ k, k ≤ O.length → (∀ i, i < k → ∀ e, e < szO O → Proofs.YtmchdjiigfiabaaGreat.gsS O M F L P k (gen O i) e = G (gen O i) e) ∧ (∀ x, x < szO O → Proofs.YtmchdjiigfiabaaGreat.gsS O M F L P k x 0 = 0) ∧ ∀ z, z < szO O → Proofs.YtmchdjiigfiabaaGreat.gsS O M F L P k 0 z = 0
 | 0, _ => ⟨fun i hi => absurd hi (Nat.not_lt_zero _), fun _ _ => rfl, fun _ _ => rfl⟩
 | k + 1, hk => by
  obtain ⟨ih, ih2, ih3⟩ := h.gsS sm pl k (by omega)
  have hgk := sm.gn (O := O) (i := k) (by omega)
  have hn0 : 0 < szO O := by omega
  unfold Proofs.YtmchdjiigfiabaaGreat.gsS at ih ih2 ih3 ⊢
  rw [List.range_succ, List.foldl_append]
  refine ⟨fun i hi e he => ?_, fun x hx => ?_, fun z hz => ?_⟩
  ·show (if gen O i = gen O k then _ else _ : Nat → Int) e = _
   by_cases e1 : gen O i = gen O k
   ·rw [if_pos e1, e1]
    exact h.rowA (g := k) sm pl (by omega) (ih2 _ hgk) he
   ·rw [if_neg e1]
    refine ih i ?_ e he
    rcases Nat.lt_or_eq_of_le (Nat.le_of_lt_succ hi) with h1 | h1
    ·exact h1
    ·rw [h1] at e1
     exact absurd rfl e1
  ·show (if x = gen O k then _ else _ : Nat → Int) 0 = _
   by_cases e1 : x = gen O k
   ·rw [if_pos e1]
    exact (h.rowA (g := k) sm pl (by omega) (ih2 _ hgk) hn0).trans (h.z hgk hn0 (.inr rfl))
   ·rw [if_neg e1]
    exact ih2 x hx
  ·show (if 0 = gen O k then _ else _ : Nat → Int) z = _
   by_cases e1 : 0 = gen O k
   ·rw [if_pos e1]
    refine (h.rowA (g := k) sm pl (by omega) (ih2 _ hgk) hz).trans ?_
    rw [← e1]
    exact h.z hn0 hz (.inl rfl)
   ·rw [if_neg e1]
    exact ih3 z hz
theorem LdG.mI (h : LdG O M F L G) (sm : SmO O) (pl : PlnP O P) : ∀ j, j ≤ P.length → ∀ x, x < szO O → (x = 0 ∨ x ∈ (P.take j).map (·.1)) → ∀ z, z < szO O → (P.take j).foldl (mtI O M F (Proofs.YtmchdjiigfiabaaGreat.gsI O M F L P O.length)) (fun _ _ => 0) x z = G x z
 | 0, _, x, hx, hm, z, hz => by
  rcases hm with hm | hm
  ·subst hm
   exact (h.z hx hz (.inl rfl)).symm
  ·rw [List.take_zero] at hm
   cases hm
 | j + 1, hj, x, hx, hm, z, hz => by
  obtain ⟨s, hs⟩ : ∃ s, P[j]? = some s := ⟨_, List.getElem?_eq_getElem (by omega)⟩
  have hp := pl.st j s hs
  have ih := h.mI sm pl j (by omega)
  rw [take_succ_get hs] at hm ⊢
  rw [List.foldl_append]
  show (if x = s.1 then _ else _ : Nat → Int) z = _
  by_cases e1 : x = s.1
  ·rw [if_pos e1, e1]
   exact h.two sm hz hp (ih s.2.1 hp.x hp.be z hz) (h.gsI sm pl _ (Nat.le_refl _) _ hp.k z hz)
  ·rw [if_neg e1]
   refine ih x hx ?_ z hz
   rcases hm with hm | hm
   ·exact .inl hm
   ·rw [List.map_append, List.mem_append] at hm
    rcases hm with hm | hm
    ·exact .inr hm
    ·simp only [List.map_cons, List.map_nil, List.mem_singleton] at hm
     exact absurd hm e1
theorem LdG.bI (h : LdG O M F L G) (sm : SmO O) (pl : PlnP O P) {x z : Nat} (hx : x < szO O) (hz : z < szO O) : bdI O M F L P x z = G x z := by
 have := h.mI sm pl P.length (Nat.le_refl _) x hx
 rw [List.take_length] at this
 refine this ?_ z hz
 by_cases e0 : x = 0
 ·exact .inl e0
 ·exact .inr (pl.al x hx e0)
theorem LdG.mS (h : LdG O M F L G) (sm : SmO O) (pl : PlnP O P) : ∀ j, j ≤ P.length → (∀ x, x < szO O → (x = 0 ∨ (∃ i, i < O.length ∧ x = gen O i) ∨ x ∈ (P.take j).map (·.1)) → ∀ z, z < szO O → (P.take j).foldl (mtS O M F) (Proofs.YtmchdjiigfiabaaGreat.gsS O M F L P O.length) x z = G x z)
 | 0, _, x, hx, hm, z, hz => by
  rcases hm with hm | ⟨i, hi, hm⟩ | hm
  ·subst hm
   exact ((h.gsS sm pl _ (Nat.le_refl _)).2.2 z hz).trans (h.z hx hz (.inl rfl)).symm
  ·subst hm
   exact (h.gsS sm pl _ (Nat.le_refl _)).1 i hi z hz
  ·rw [List.take_zero] at hm
   cases hm
 | j + 1, hj, x, hx, hm, z, hz => by
  obtain ⟨s, hs⟩ : ∃ s, P[j]? = some s := ⟨_, List.getElem?_eq_getElem (by omega)⟩
  have hp := pl.st j s hs
  have ih := h.mS sm pl j (by omega)
  rw [take_succ_get hs] at hm ⊢
  rw [List.foldl_append]
  show mtS O M F _ s x z = _
  have hm2 : x ≠ s.1 → (x = 0 ∨ (∃ i, i < O.length ∧ x = gen O i) ∨ x ∈ (P.take j).map (·.1)) := fun e1 => by
   rcases hm with hm | hm | hm
   ·exact .inl hm
   ·exact .inr (.inl hm)
   ·rw [List.map_append, List.mem_append] at hm
    rcases hm with hm | hm
    ·exact .inr (.inr hm)
    ·simp only [List.map_cons, List.map_nil, List.mem_singleton] at hm
     exact absurd hm e1
  unfold mtS
  by_cases e0 : s.2.1 = 0
  ·rw [if_pos e0]
   by_cases e1 : x = s.1
   ·refine ih x hx (.inr (.inl ⟨s.2.2, hp.k, ?_⟩)) z hz
    have hz0 := hp.ad
    rw [e0, (h.b.s.w.s.g (by
     have := sm
     exact sm.l6)).z0N (by
     have := sm.gn hp.k
     have := h.b.s.w.s.e
     omega)] at hz0
    rw [e1]
    exact hz0
   ·exact ih x hx (hm2 e1) z hz
  ·rw [if_neg e0]
   show (if x = s.1 then _ else _ : Nat → Int) z = _
   by_cases e1 : x = s.1
   ·rw [if_pos e1, e1]
    refine h.two sm hz hp (ih s.2.1 hp.x ?_ z hz) (ih _ (sm.gn hp.k) (.inr (.inl ⟨_, hp.k, rfl⟩)) z hz)
    rcases hp.be with hb | hb
    ·exact .inl hb
    ·exact .inr (.inr hb)
   ·rw [if_neg e1]
    exact ih x hx (hm2 e1) z hz
theorem LdG.bS (h : LdG O M F L G) (sm : SmO O) (pl : PlnP O P) {x z : Nat} (hx : x < szO O) (hz : z < szO O) : bdS O M F L P x z = G x z := by
 have := h.mS sm pl P.length (Nat.le_refl _) x hx
 rw [List.take_length] at this
 refine this ?_ z hz
 by_cases e0 : x = 0
 ·exact .inl e0
 ·exact .inr (.inr (pl.al x hx e0))
end
end Go.Proofs.YtmchdjiigfiabaaGreat
/- Which leading numbers have braidings, and how many there are. -/
namespace Go.Proofs.YtmchdjiigfiabaaGreat
open Go.RowKit
set_option maxRecDepth 1000000
theorem sm_dv3 {M : Int} {f g h : Nat → Int} : ∀ {n : Nat}, (∀ i, i < n → M ∣ f i - g i - h i) → M ∣ sm f n - sm g n - sm h n
 | 0, _ => ⟨0, by simp [sm]⟩
 | n + 1, hd => by
  have h1 := sm_dv3 (n := n) fun i hi => hd i (by omega)
  have h2 := hd n (Nat.lt_succ_self n)
  have e : sm f (n + 1) - sm g (n + 1) - sm h (n + 1) = (sm f n - sm g n - sm h n) + (f n - g n - h n) := by simp only [sm]; omega
  rw [e]
  exact Int.dvd_add h1 h2
theorem sm_zero {f : Nat → Int} : ∀ {n : Nat}, (∀ i, i < n → f i = 0) → sm f n = 0
 | 0, _ => rfl
 | n + 1, h => by
  simp only [sm]
  rw [sm_zero fun i hi => h i (by omega), h n (Nat.lt_succ_self n)]
  rfl
theorem sm_pick {f : Nat → Int} {n j : Nat} (hj : j < n) (h : ∀ i, i < n → i ≠ j → f i = 0) : sm f n = f j := by
 rw [sm_one h, if_pos hj]
section
variable {O : List Int} {M : Int} {F : Nat → Nat → Nat → Int} {L L0 : Nat → Nat → Int} {G G0 : Nat → Nat → Int}
theorem LdG.dr (h : LdG O M F L G) (h' : LdG O M F L0 G0) {x y z : Nat} (hx : x < szO O) (hy : y < szO O) (hz : z < szO O) : M ∣ (G x (adN O y z) - G0 x (adN O y z)) - (G x y - G0 x y) - (G x z - G0 x z) := by
 have e1 := Int.dvd_of_emod_eq_zero (h.b.b1 hx hy hz)
 have e2 := Int.dvd_of_emod_eq_zero (h'.b.b1 hx hy hz)
 have e3 := Int.dvd_sub e1 e2
 unfold b1E at e3
 have e : (G x (adN O y z) - G0 x (adN O y z)) - (G x y - G0 x y) - (G x z - G0 x z) = F y z x + G x (adN O y z) + F x y z - G x z - F y x z - G x y - (F y z x + G0 x (adN O y z) + F x y z - G0 x z - F y x z - G0 x y) := by omega
 rw [e]
 exact e3
theorem LdG.dl (h : LdG O M F L G) (h' : LdG O M F L0 G0) {x y z : Nat} (hx : x < szO O) (hy : y < szO O) (hz : z < szO O) : M ∣ (G (adN O x y) z - G0 (adN O x y) z) - (G x z - G0 x z) - (G y z - G0 y z) := by
 have e1 := Int.dvd_of_emod_eq_zero (h.b.b2 hx hy hz)
 have e2 := Int.dvd_of_emod_eq_zero (h'.b.b2 hx hy hz)
 have e3 := Int.dvd_sub e1 e2
 unfold b2E at e3
 have e : (G (adN O x y) z - G0 (adN O x y) z) - (G x z - G0 x z) - (G y z - G0 y z) = G (adN O x y) z - F z x y - F x y z - G x z - G y z + F x z y - (G0 (adN O x y) z - F z x y - F x y z - G0 x z - G0 y z + F x z y) := by omega
 rw [e]
 exact e3
theorem LdG.sz (h : LdG O M F L G) (sm : SmO O) : GrpP O ∧ (szO O : Int) = pfx O O.length ∧ 0 < szO O := by
 have hg := h.b.s.w.s.g sm.l6
 have e := h.b.s.w.s.e
 exact ⟨hg, e, h.b.s.w.s.pos⟩
theorem LdG.itl (h : LdG O M F L G) (sm : SmO O) {g : Nat} : ∀ m, itr O g m < szO O
 | 0 => (h.sz sm).2.2
 | m + 1 => by
  have h1 := ((h.sz sm).1.adN (itr O g m) g).2
  have h2 := (h.sz sm).2.1
  show adN O (itr O g m) g < szO O
  omega
theorem LdG.ir (h : LdG O M F L G) (h' : LdG O M F L0 G0) (sm : SmO O) {x g : Nat} (hx : x < szO O) (hg : g < szO O) : ∀ m : Nat, M ∣ (G x (itr O g m) - G0 x (itr O g m)) - m * (G x g - G0 x g)
 | 0 => by
  have e1 := h.z hx (h.sz sm).2.2 (.inr rfl)
  have e2 := h'.z hx (h.sz sm).2.2 (.inr rfl)
  refine ⟨0, ?_⟩
  show G x 0 - G0 x 0 - (0 : Nat) * _ = _
  rw [e1, e2]
  simp
 | m + 1 => by
  have ih := h.ir h' sm hx hg m
  have d := h.dr h' hx (h.itl sm (g := g) m) hg
  have e : (G x (itr O g (m + 1)) - G0 x (itr O g (m + 1))) - ((m + 1 : Nat) : Int) * (G x g - G0 x g) = ((G x (adN O (itr O g m) g) - G0 x (adN O (itr O g m) g)) - (G x (itr O g m) - G0 x (itr O g m)) - (G x g - G0 x g)) + ((G x (itr O g m) - G0 x (itr O g m)) - m * (G x g - G0 x g)) := by
   show G x (adN O (itr O g m) g) - G0 x (adN O (itr O g m) g) - _ = _
   rw [Int.natCast_succ, Int.add_mul, Int.one_mul]
   omega
  rw [e]
  exact Int.dvd_add d ih
theorem LdG.il (h : LdG O M F L G) (h' : LdG O M F L0 G0) (sm : SmO O) {z g : Nat} (hz : z < szO O) (hg : g < szO O) : ∀ m : Nat, M ∣ (G (itr O g m) z - G0 (itr O g m) z) - m * (G g z - G0 g z)
 | 0 => by
  have e1 := h.z (h.sz sm).2.2 hz (.inl rfl)
  have e2 := h'.z (h.sz sm).2.2 hz (.inl rfl)
  refine ⟨0, ?_⟩
  show G 0 z - G0 0 z - (0 : Nat) * _ = _
  rw [e1, e2]
  simp
 | m + 1 => by
  have ih := h.il h' sm hz hg m
  have d := h.dl h' (h.itl sm (g := g) m) hg hz
  have e : (G (itr O g (m + 1)) z - G0 (itr O g (m + 1)) z) - ((m + 1 : Nat) : Int) * (G g z - G0 g z) = ((G (adN O (itr O g m) g) z - G0 (adN O (itr O g m) g) z) - (G (itr O g m) z - G0 (itr O g m) z) - (G g z - G0 g z)) + ((G (itr O g m) z - G0 (itr O g m) z) - m * (G g z - G0 g z)) := by
   show G (adN O (itr O g m) g) z - G0 (adN O (itr O g m) g) z - _ = _
   rw [Int.natCast_succ, Int.add_mul, Int.one_mul]
   omega
  rw [e]
  exact Int.dvd_add d ih
theorem LdG.kill (h : LdG O M F L G) (h' : LdG O M F L0 G0) (sm : SmO O) {i k : Nat} (hi : i < O.length) (hk : k < O.length) : M ∣ atI O i * (L i k - L0 i k) ∧ M ∣ atI O k * (L i k - L0 i k) := by
 have hn0 := (h.sz sm).2.2
 have gi := sm.gn hi
 have gk := sm.gn hk
 have oi : ((atI O i).toNat : Int) = atI O i := by have := h.b.s.w.s.o.2 i hi; omega
 have ok : ((atI O k).toNat : Int) = atI O k := by have := h.b.s.w.s.o.2 k hk; omega
 have e1 := h.il h' sm gk gi (atI O i).toNat
 have e2 := h.ir h' sm gi gk (atI O k).toNat
 rw [sm.gi i hi, h.z hn0 gk (.inl rfl), h'.z hn0 gk (.inl rfl), h.l i k hi hk, h'.l i k hi hk, oi] at e1
 rw [sm.gi k hk, h.z gi hn0 (.inr rfl), h'.z gi hn0 (.inr rfl), h.l i k hi hk, h'.l i k hi hk, ok] at e2
 simp only [Int.sub_self, Int.zero_sub] at e1 e2
 exact ⟨Int.dvd_neg.1 e1, Int.dvd_neg.1 e2⟩
def bcD (O : List Int) (T : Nat → Nat → Int) (x y : Nat) : Int := sm (fun i => sm (fun k => T i k * (dgD O x i * dgD O y k)) O.length) O.length
theorem md_dig {M t a b o : Int} (ho : M ∣ o * t) (c : Int) : M ∣ t * (c * ((a + b) % o)) - t * (c * a) - t * (c * b) := by
 obtain ⟨q, hq⟩ := md_ (a + b) o
 obtain ⟨u, hu⟩ := ho
 rw [hq]
 refine ⟨u * c * q, ?_⟩
 have e : t * (c * (a + b + o * q)) - t * (c * a) - t * (c * b) = (o * t) * c * q := by
  rw [Int.mul_add c, Int.mul_add c, Int.mul_add t, Int.mul_add t]
  have : t * (c * (o * q)) = o * t * c * q := by
   rw [Int.mul_comm o t, Int.mul_assoc t o c, Int.mul_comm o c, Int.mul_assoc t, Int.mul_assoc c]
  omega
 rw [e, hu, Int.mul_assoc, Int.mul_assoc, Int.mul_assoc]
theorem bcD_r {T : Nat → Nat → Int} (sm : SmO O) (hT : ∀ i k, i < O.length → k < O.length → M ∣ atI O k * T i k) {x y z : Nat} (hy : y < szO O) (hz : z < szO O) : M ∣ bcD O T x (adN O y z) - bcD O T x y - bcD O T x z :=
 sm_dv3 fun i hi => sm_dv3 fun k hk => by
  rw [sm.da y z k hy hz hk]
  exact md_dig (hT i k hi hk) _
theorem bcD_l {T : Nat → Nat → Int} (sm : SmO O) (hT : ∀ i k, i < O.length → k < O.length → M ∣ atI O i * T i k) {x y z : Nat} (hx : x < szO O) (hy : y < szO O) : M ∣ bcD O T (adN O x y) z - bcD O T x z - bcD O T y z :=
 sm_dv3 fun i hi => sm_dv3 fun k hk => by
  rw [sm.da x y i hx hy hi]
  have e := md_dig (a := dgD O x i) (b := dgD O y i) (hT i k hi hk) (dgD O z k)
  rw [Int.mul_comm (_ % _), Int.mul_comm (dgD O x i), Int.mul_comm (dgD O y i)]
  exact e
theorem dgq_0 (O : List Int) : ∀ k, dgq O 0 k = 0
 | 0 => rfl
 | k + 1 => by show dgq O 0 k / _ = 0; rw [dgq_0 O k, Int.zero_ediv]
theorem dgD_0 (O : List Int) (j : Nat) : dgD O 0 j = 0 := by unfold dgD; rw [dgq_0, Int.zero_emod]
theorem bcD_0 {T : Nat → Nat → Int} {x y : Nat} (h : x = 0 ∨ y = 0) : bcD O T x y = 0 :=
 sm_zero fun i _ => sm_zero fun k _ => by
  rcases h with h | h
  ·subst h
   rw [show ((0 : Nat) : Int) = 0 from rfl, dgD_0, Int.zero_mul, Int.mul_zero]
  ·subst h
   rw [show ((0 : Nat) : Int) = 0 from rfl, dgD_0, Int.mul_zero, Int.mul_zero]
theorem bcD_g {T : Nat → Nat → Int} (sm : SmO O) {i k : Nat} (hi : i < O.length) (hk : k < O.length) : bcD O T (gen O i) (gen O k) = if atI O i ≠ 1 ∧ atI O k ≠ 1 then T i k else 0 := by
 unfold bcD
 rw [sm_pick hi fun i' hi' h => sm_zero fun k' hk' => by rw [sm.dg i i' hi hi', if_neg (by omega), Int.zero_mul, Int.mul_zero],
  sm_pick hk fun k' hk' h => by rw [sm.dg k k' hk hk', if_neg (by omega), Int.mul_zero, Int.mul_zero], sm.dg i i hi hi, sm.dg k k hk hk]
 by_cases h1 : atI O i = 1 <;> by_cases h2 : atI O k = 1 <;> simp [h1, h2]
theorem LdG.shift (h : LdG O M F L0 G0) (sm : SmO O) (hr : ∀ i k, i < O.length → k < O.length → 0 ≤ L i k ∧ L i k < M)
  (hd : ∀ i k, i < O.length → k < O.length → M ∣ atI O i * (L i k + (M - L0 i k)) ∧ M ∣ atI O k * (L i k + (M - L0 i k))) : ∃ G, LdG O M F L G := by
 have hm := h.b.s.w.s.m.1
 refine ⟨fun x y => (G0 x y + bcD O (fun i k => L i k + (M - L0 i k)) x y) % M, ⟨⟨⟨h.b.s.w, rfl, fun x hx => ⟨rfl, fun y hy => ⟨emod_rg _ hm, fun h0 => ?_⟩⟩⟩, ft18_of (fun x hx y hy z hz => ?_) (fun x hx y hy z hz => ?_)⟩, fun i k hi hk => ?_⟩⟩
 ·show (G0 x y + bcD O _ x y) % M = 0
  rw [h.z hx hy h0, bcD_0 h0]
  exact Int.zero_emod _
 ·unfold b1E
  obtain ⟨q1, e1⟩ := md_ (G0 x (adN O y z) + bcD O (fun i k => L i k + (M - L0 i k)) x (adN O y z)) M
  obtain ⟨q2, e2⟩ := md_ (G0 x z + bcD O (fun i k => L i k + (M - L0 i k)) x z) M
  obtain ⟨q3, e3⟩ := md_ (G0 x y + bcD O (fun i k => L i k + (M - L0 i k)) x y) M
  dsimp only
  rw [e1, e2, e3]
  obtain ⟨u, hu⟩ := bcD_r (T := fun i k => L i k + (M - L0 i k)) (x := x) sm (fun i k hi hk => (hd i k hi hk).2) hy hz
  obtain ⟨v, hv⟩ := mdk (h.b.b1 hx hy hz)
  unfold b1E at hv
  refine mdz (k := v + u + q1 - q2 - q3) ?_
  rw [Int.mul_sub, Int.mul_sub, Int.mul_add, Int.mul_add, ← hv, ← hu]
  omega
 ·unfold b2E
  obtain ⟨q1, e1⟩ := md_ (G0 (adN O x y) z + bcD O (fun i k => L i k + (M - L0 i k)) (adN O x y) z) M
  obtain ⟨q2, e2⟩ := md_ (G0 x z + bcD O (fun i k => L i k + (M - L0 i k)) x z) M
  obtain ⟨q3, e3⟩ := md_ (G0 y z + bcD O (fun i k => L i k + (M - L0 i k)) y z) M
  dsimp only
  rw [e1, e2, e3]
  obtain ⟨u, hu⟩ := bcD_l (T := fun i k => L i k + (M - L0 i k)) (z := z) sm (fun i k hi hk => (hd i k hi hk).1) hx hy
  obtain ⟨v, hv⟩ := mdk (h.b.b2 hx hy hz)
  unfold b2E at hv
  refine mdz (k := v + u + q1 - q2 - q3) ?_
  rw [Int.mul_sub, Int.mul_sub, Int.mul_add, Int.mul_add, ← hv, ← hu]
  omega
 ·show (G0 (gen O i) (gen O k) + bcD O _ (gen O i) (gen O k)) % M = L i k
  rw [h.l i k hi hk, bcD_g sm hi hk]
  obtain ⟨r1, r2⟩ := hr i k hi hk
  split
  ·rw [show L0 i k + (L i k + (M - L0 i k)) = L i k + M * 1 by omega, Int.add_mul_emod_self_left, Int.emod_eq_of_lt r1 r2]
  ·rename_i hc
   have h1 : atI O i = 1 ∨ atI O k = 1 := by omega
   have hL : L0 i k = 0 := by
    rw [← h.l i k hi hk]
    refine h.z (sm.gn hi) (sm.gn hk) ?_
    rcases h1 with h1 | h1
    ·left; unfold gen genI; rw [if_pos h1]; rfl
    ·right; unfold gen genI; rw [if_pos h1]; rfl
   obtain ⟨d1, d2⟩ := hd i k hi hk
   have d3 : M ∣ L i k + (M - L0 i k) := by
    rcases h1 with h1 | h1
    ·rwa [h1, Int.one_mul] at d1
    ·rwa [h1, Int.one_mul] at d2
   rw [hL, Int.sub_zero] at d3
   have d4 : M ∣ L i k := by
    have := Int.dvd_sub d3 (Int.dvd_refl M)
    rwa [Int.add_sub_cancel] at this
   rw [hL, Int.add_zero, Int.zero_emod]
   obtain ⟨u, hu⟩ := d4
   have hu0 : u = 0 := by
    rcases Int.lt_trichotomy u 0 with h | h | h
    ·have : M * u ≤ M * (-1) := Int.mul_le_mul_of_nonneg_left (by omega) (by omega)
     omega
    ·exact h
    ·have : M * 1 ≤ M * u := Int.mul_le_mul_of_nonneg_left (by omega) (by omega)
     omega
   rw [hu, hu0, Int.mul_zero]
end
def dgs (m d c : Nat) : List Nat := match d with
 | 0 => []
 | d + 1 => c / m ^ d % m :: dgs m d c
theorem dgs_len (m c : Nat) : ∀ d, (dgs m d c).length = d
 | 0 => rfl
 | d + 1 => by simp [dgs, dgs_len m c d]
theorem dgs_lt {m : Nat} (hm : 0 < m) (c : Nat) : ∀ d x, x ∈ dgs m d c → x < m
 | 0, x, h => by cases h
 | d + 1, x, h => by
  rcases List.mem_cons.1 h with h | h
  ·rw [h]; exact Nat.mod_lt _ hm
  ·exact dgs_lt hm c d x h
theorem dgs_add {m : Nat} (hm : 0 < m) (a c e : Nat) : ∀ d, d ≤ e → dgs m d (a * m ^ e + c) = dgs m d c
 | 0, _ => rfl
 | d + 1, h => by
  have ih := dgs_add hm a c e d (by omega)
  have e1 : m ^ e = m ^ d * (m * m ^ (e - d - 1)) := by
   rw [← Nat.mul_assoc, ← Nat.pow_succ, ← Nat.pow_add]
   congr 1
   omega
  have hp : 0 < m ^ d := Nat.pow_pos hm
  have e2 : (a * m ^ e + c) / m ^ d = a * (m * m ^ (e - d - 1)) + c / m ^ d := by
   rw [e1, show a * (m ^ d * (m * m ^ (e - d - 1))) = m ^ d * (a * (m * m ^ (e - d - 1))) by rw [Nat.mul_left_comm], Nat.mul_add_div hp]
  have e3 : (a * m ^ e + c) / m ^ d % m = c / m ^ d % m := by
   rw [e2, show a * (m * m ^ (e - d - 1)) = m * (a * m ^ (e - d - 1)) by rw [Nat.mul_left_comm], Nat.mul_add_mod]
  show (a * m ^ e + c) / m ^ d % m :: dgs m d (a * m ^ e + c) = _
  rw [e3, ih]
  rfl
def lsts (m d : Nat) : List (List Nat) := (List.range (m ^ d)).map (dgs m d)
theorem range_mul (a b : Nat) : List.range (a * b) = (List.range a).flatMap fun i => (List.range b).map (i * b + ·) := by
 induction a with
 | zero => rw [Nat.zero_mul]; rfl
 | succ a ih =>
  rw [Nat.succ_mul, List.range_add, ih, List.range_succ, List.flatMap_append]
  simp
theorem lsts_succ {m : Nat} (hm : 0 < m) (d : Nat) : lsts m (d + 1) = (List.range m).flatMap fun a => (lsts m d).map (a :: ·) := by
 unfold lsts
 rw [Nat.pow_succ, Nat.mul_comm, range_mul, List.map_flatMap]
 refine congrArg List.flatten (List.map_congr_left fun a ha => ?_)
 rw [List.map_map, List.map_map]
 refine List.map_congr_left fun c hc => ?_
 have ha' := List.mem_range.1 ha
 have hc' := List.mem_range.1 hc
 have hp : 0 < m ^ d := Nat.pow_pos hm
 show (a * m ^ d + c) / m ^ d % m :: dgs m d (a * m ^ d + c) = a :: dgs m d c
 rw [dgs_add hm a c d d (Nat.le_refl _), Nat.mul_comm, Nat.mul_add_div hp, Nat.div_eq_of_lt hc', Nat.add_zero, Nat.mod_eq_of_lt ha']
theorem lsts_A {m : Nat} (hm : 0 < m) : ∀ d, lsts m d = lstA m d
 | 0 => rfl
 | d + 1 => by rw [lsts_succ hm, lsts_A hm d]; rfl
theorem lsts_mem {m d : Nat} (hm : 0 < m) {l : List Nat} (h : l ∈ lsts m d) : l.length = d ∧ ∀ x, x ∈ l → x < m := by
 obtain ⟨c, _, rfl⟩ := List.mem_map.1 h
 exact ⟨dgs_len m c d, dgs_lt hm c d⟩
def prd (f : Nat → Nat) : Nat → Nat
 | 0 => 1
 | d + 1 => prd f d * f d
theorem prd_congr {f g : Nat → Nat} : ∀ {d}, (∀ i, i < d → f i = g i) → prd f d = prd g d
 | 0, _ => rfl
 | d + 1, h => by
  show prd f d * f d = prd g d * g d
  rw [prd_congr fun i hi => h i (by omega), h d (Nat.lt_succ_self d)]
theorem prd_add (f : Nat → Nat) (a : Nat) : ∀ b, prd f (a + b) = prd f a * prd (fun k => f (a + k)) b
 | 0 => (Nat.mul_one _).symm
 | b + 1 => by
  show prd f (a + b) * f (a + b) = prd f a * (prd (fun k => f (a + k)) b * f (a + b))
  rw [prd_add f a b, Nat.mul_assoc]
theorem prd_mul (f : Nat → Nat) (b : Nat) : ∀ a, prd f (a * b) = prd (fun i => prd (fun k => f (i * b + k)) b) a
 | 0 => by rw [Nat.zero_mul]; rfl
 | a + 1 => by
  rw [Nat.succ_mul, prd_add, prd_mul f b a]
  rfl
theorem prd_fold (f : Nat → Nat) (d : Nat) : ((List.range d).map f).foldr (· * ·) 1 = prd f d := by
 have h : ∀ (l : List Nat) (z : Nat), l.foldr (· * ·) z = l.foldr (· * ·) 1 * z := by
  intro l
  induction l with
  | nil => intro z; simp
  | cons x l ih => intro z; simp only [List.foldr_cons]; rw [ih z, Nat.mul_assoc]
 induction d with
 | zero => rfl
 | succ d ih =>
  rw [List.range_succ, List.map_append, List.foldr_append, h, ih]
  show prd f d * (f d * 1) = prd f d * f d
  rw [Nat.mul_one]
theorem allP_iff : ∀ (ps : List (Nat → Bool)) (l : List Nat), l.length = ps.length → (allP ps l = true ↔ ∀ (j : Nat) (p : Nat → Bool) (a : Nat), ps[j]? = some p → l[j]? = some a → p a = true)
 | [], l, _ => ⟨fun _ j p a h => by simp at h, fun _ => by cases l <;> rfl⟩
 | p :: ps, [], h => by simp at h
 | p :: ps, a :: l, h => by
  have ih := allP_iff ps l (by simpa using h)
  show (p a && allP ps l) = true ↔ _
  rw [Bool.and_eq_true, ih]
  constructor
  ·rintro ⟨h1, h2⟩ j q b hq hb
   cases j with
   | zero =>
    simp only [List.getElem?_cons_zero, Option.some.injEq] at hq hb
    subst hq hb
    exact h1
   | succ j => exact h2 j q b (by simpa using hq) (by simpa using hb)
  ·intro h2
   exact ⟨h2 0 p a rfl rfl, fun j q b hq hb => h2 (j + 1) q b (by simpa using hq) (by simpa using hb)⟩
abbrev LI (r : Nat) (l : List Nat) (i k : Nat) : Int := (l.getD (i * r + k) 0 : Nat)
def PL (O : List Int) (M : Int) (F : Nat → Nat → Nat → Int) (l : List Nat) : Prop := ∃ G, LdG O M F (LI O.length l) G
def bicN (O : List Int) (m : Nat) : Nat := prd (fun i => prd (fun k => Nat.gcd (Nat.gcd (atI O i).toNat (atI O k).toNat) m) O.length) O.length
theorem getD_lt {l : List Nat} {m j : Nat} (h : ∀ x, x ∈ l → x < m) (hm : 0 < m) : l.getD j 0 < m := by
 rw [List.getD_eq_getElem?_getD]
 cases e : l[j]? with
 | none => exact hm
 | some x => exact h x (List.mem_of_getElem? e)
theorem gcd_kill {m a b t : Nat} : m ∣ Nat.gcd a b * t ↔ m ∣ a * t ∧ m ∣ b * t := by
 rw [← Nat.gcd_mul_right]
 exact Nat.dvd_gcd_iff
theorem PL_count {O : List Int} {m : Nat} {F : Nat → Nat → Nat → Int} (sm : SmO O) {l0 : List Nat} (h0 : l0 ∈ lsts m (O.length * O.length)) (hP : PL O m F l0) (tst : List Nat → Bool) (ht : ∀ l, l ∈ lsts m (O.length * O.length) → (tst l = true ↔ PL O m F l)) :
  ((lsts m (O.length * O.length)).filter tst).length = bicN O m := by
 obtain ⟨G0, hG0⟩ := hP
 have hm1 := hG0.b.s.w.s.m.1
 have hm : 0 < m := by omega
 have hop := hG0.b.s.w.s.o.2
 obtain ⟨hl0, hx0⟩ := lsts_mem hm h0
 let q : Nat → Nat → Bool := fun j t => decide (m ∣ Nat.gcd (atI O (j / O.length)).toNat (atI O (j % O.length)).toNat * (t + (m - l0.getD j 0)))
 have hps : ((List.range (O.length * O.length)).map q).length = O.length * O.length := by simp
 have key : ∀ l, l ∈ lsts m (O.length * O.length) → (tst l = allP ((List.range (O.length * O.length)).map q) l) := by
  intro l hl
  obtain ⟨hll, hlx⟩ := lsts_mem hm hl
  rw [Bool.eq_iff_iff, ht l hl, allP_iff _ _ (by rw [hll, hps])]
  have hL : ∀ i k, LI O.length l i k - LI O.length l0 i k + m = ((l.getD (i * O.length + k) 0 + (m - l0.getD (i * O.length + k) 0) : Nat) : Int) := fun i k => by
   have := getD_lt (j := i * O.length + k) hx0 hm
   show ((l.getD (i * O.length + k) 0 : Nat) : Int) - (l0.getD (i * O.length + k) 0 : Nat) + m = _
   omega
  have tN : ∀ i, i < O.length → ((atI O i).toNat : Int) = atI O i := fun i hi => by have := hop i hi; omega
  constructor
  ·rintro ⟨G, hG⟩ j p a hp ha
   have hj : j < O.length * O.length := by
    have := (List.getElem?_eq_some_iff.1 ha).1
    omega
   rw [List.getElem?_map, List.getElem?_range hj] at hp
   simp only [Option.map_some, Option.some.injEq] at hp
   subst hp
   have hr : 0 < O.length := by
    rcases Nat.eq_zero_or_pos O.length with h | h
    ·rw [h] at hj; omega
    ·exact h
   have hi : j / O.length < O.length := Nat.div_lt_of_lt_mul hj
   have hk : j % O.length < O.length := Nat.mod_lt _ hr
   have hjj : j / O.length * O.length + j % O.length = j := Nat.div_add_mod' j O.length
   obtain ⟨d1, d2⟩ := hG.kill hG0 sm hi hk
   have hLj := hL (j / O.length) (j % O.length)
   rw [hjj] at hLj
   have haj : l.getD j 0 = a := by rw [List.getD_eq_getElem?_getD, ha]; rfl
   rw [haj] at hLj
   refine decide_eq_true (gcd_kill.2 ⟨?_, ?_⟩)
   ·have e : ((m : Nat) : Int) ∣ atI O (j / O.length) * (LI O.length l (j / O.length) (j % O.length) - LI O.length l0 (j / O.length) (j % O.length) + m) := by
     rw [Int.mul_add]
     exact Int.dvd_add d1 (Int.dvd_mul_left _ _)
    rw [hLj, ← tN _ hi, ← Int.natCast_mul] at e
    exact Int.natCast_dvd_natCast.1 e
   ·have e : ((m : Nat) : Int) ∣ atI O (j % O.length) * (LI O.length l (j / O.length) (j % O.length) - LI O.length l0 (j / O.length) (j % O.length) + m) := by
     rw [Int.mul_add]
     exact Int.dvd_add d2 (Int.dvd_mul_left _ _)
    rw [hLj, ← tN _ hk, ← Int.natCast_mul] at e
    exact Int.natCast_dvd_natCast.1 e
  ·intro h
   refine hG0.shift sm (fun i k hi hk => ?_) fun i k hi hk => ?_
   ·have := getD_lt (j := i * O.length + k) hlx hm
    show (0 : Int) ≤ (l.getD (i * O.length + k) 0 : Nat) ∧ ((l.getD (i * O.length + k) 0 : Nat) : Int) < m
    omega
   ·have hr : 0 < O.length := by omega
    have hj : i * O.length + k < O.length * O.length := by
     have := Nat.mul_le_mul_right O.length (show i + 1 ≤ O.length from hi)
     rw [Nat.succ_mul] at this
     omega
    have h1 : (i * O.length + k) / O.length = i := by rw [Nat.mul_comm, Nat.mul_add_div hr, Nat.div_eq_of_lt hk, Nat.add_zero]
    have h2 : (i * O.length + k) % O.length = k := by rw [Nat.mul_comm, Nat.mul_add_mod, Nat.mod_eq_of_lt hk]
    have hlj : l[i * O.length + k]? = some (l.getD (i * O.length + k) 0) := by
     rw [List.getD_eq_getElem?_getD, List.getElem?_eq_getElem (by omega)]
     rfl
    have := h (i * O.length + k) (q (i * O.length + k)) _ (by rw [List.getElem?_map, List.getElem?_range hj]; rfl) hlj
    have := of_decide_eq_true this
    rw [h1, h2] at this
    obtain ⟨d1, d2⟩ := gcd_kill.1 this
    have e := hL i k
    have e' : LI O.length l i k + ((m : Nat) - LI O.length l0 i k) = ((l.getD (i * O.length + k) 0 + (m - l0.getD (i * O.length + k) 0) : Nat) : Int) := by omega
    rw [e']
    refine ⟨?_, ?_⟩
    ·rw [← tN i hi, ← Int.natCast_mul]
     exact Int.natCast_dvd_natCast.2 d1
    ·rw [← tN k hk, ← Int.natCast_mul]
     exact Int.natCast_dvd_natCast.2 d2
 have e1 : (lsts m (O.length * O.length)).filter tst = (lstA m ((List.range (O.length * O.length)).map q).length).filter (allP ((List.range (O.length * O.length)).map q)) := by
  rw [hps, ← lsts_A hm]
  exact List.filter_congr key
 rw [e1, cnt_all, List.map_map, prd_fold]
 have hr : 0 < O.length := hG0.b.s.w.s.o.1
 unfold bicN
 rw [prd_mul]
 refine prd_congr fun i hi => prd_congr fun k hk => ?_
 show ((List.range m).filter (q (i * O.length + k))).length = _
 have h1 : (i * O.length + k) / O.length = i := by rw [Nat.mul_comm, Nat.mul_add_div hr, Nat.div_eq_of_lt hk, Nat.add_zero]
 have h2 : (i * O.length + k) % O.length = k := by rw [Nat.mul_comm, Nat.mul_add_mod, Nat.mod_eq_of_lt hk]
 have := cnt_gcd hm (Nat.gcd (atI O i).toNat (atI O k).toNat) (m - l0.getD (i * O.length + k) 0)
 rw [← this]
 congr 1
 refine congrArg (List.filter · _) ?_
 funext t
 show decide (m ∣ Nat.gcd (atI O ((i * O.length + k) / O.length)).toNat (atI O ((i * O.length + k) % O.length)).toNat * (t + (m - l0.getD (i * O.length + k) 0))) = _
 rw [h1, h2]
end Go.Proofs.YtmchdjiigfiabaaGreat
