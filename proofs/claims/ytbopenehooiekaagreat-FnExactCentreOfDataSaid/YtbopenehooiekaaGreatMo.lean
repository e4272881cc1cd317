/- Texts joined: H1 H2 H3. -/
import Derived.Test.YtbopenehooiekaaGreatMk
import Derived.Test.YtbopenehooiekaaGreatMn
set_option linter.all false
/- The field: inverses. -/
namespace Go.Proofs.YtbopenehooiekaaGreat
open Go.RowKit
set_option maxRecDepth 1000000

/-! ### Fermat's law for 55441, by division with remainder -/
def frm (E x : Nat) : Bool := x ^ E % 55441 == 1
def frmAll (E : Nat) : Nat → Bool
  | 0 => true
  | n + 1 => frm E (n + 1) && (55441 % (n + 2) != 0) && frmAll E n
theorem frmAll_get {E : Nat} : ∀ {n x : Nat}, frmAll E n = true → 0 < x → x ≤ n → x ^ E % 55441 = 1 ∧ 55441 % (x + 1) ≠ 0
  | 0, x, _, h1, h2 => by omega
  | n + 1, x, h, h1, h2 => by
    simp only [frmAll, Bool.and_eq_true, frm, beq_iff_eq, bne_iff_ne] at h
    obtain ⟨⟨h3, h4⟩, h5⟩ := h
    rcases Nat.lt_or_ge x (n + 1) with hx | hx
    · exact frmAll_get h5 h1 (by omega)
    · have : x = n + 1 := by omega
      subst this
      exact ⟨h3, h4⟩
theorem pow_modN (a n : Nat) : (a % 55441) ^ n % 55441 = a ^ n % 55441 := by
  rw [← Nat.pow_mod]
theorem fermatE {E F : Nat} (hE : E = 2 * F) (hs : frmAll E 236 = true) : ∀ x : Nat, 0 < x → x < 55441 → x ^ E % 55441 = 1 := by
  intro x
  induction x using Nat.strongRecOn with
  | _ x ih =>
    intro h0 hP
    rcases Nat.lt_or_ge x 237 with hx | hx
    · exact (frmAll_get hs h0 (by omega)).1
    · have hdm := Nat.div_add_mod 55441 x
      have hr := Nat.mod_lt 55441 h0
      generalize 55441 / x = q at *
      generalize 55441 % x = r at *
      have hq1 : 0 < q := by
        rcases Nat.eq_zero_or_pos q with h | h
        · subst h; omega
        · exact h
      have hq2 : q < 236 := by
        rcases Nat.lt_or_ge q 236 with h | h
        · exact h
        · have : 237 * 236 ≤ x * q := Nat.mul_le_mul hx h
          omega
      have hr0 : 0 < r := by
        rcases Nat.eq_zero_or_pos r with h | h
        · subst h
          have hxq : x * q = 55441 := by omega
          have hd : 55441 % q = 0 := by rw [← hxq]; exact Nat.mul_mod_left x q
          have hq3 : q ≠ 1 := by rintro rfl; omega
          have := (frmAll_get hs (x := q - 1) (by omega) (by omega)).2
          rw [Nat.sub_add_cancel (by omega)] at this
          exact absurd hd this
        · exact h
      have iq := ih q (by omega) hq1 (by omega)
      have ir := ih r (by omega) hr0 (by omega)
      have e1 : (x * q) ^ E % 55441 = r ^ E % 55441 := by
        have e2 : x * q * (x * q) % 55441 = r * r % 55441 := by
          have hxr : x * q + r = 55441 := by omega
          have : x * q * (x * q) + 55441 * r = r * r + 55441 * (x * q) := by
            generalize x * q = y at hxr
            have : r + y = 55441 := by omega
            rw [← this, Nat.add_mul, Nat.add_mul, Nat.mul_comm y r]; omega
          omega
        have hp : ∀ a : Nat, a ^ E = (a * a) ^ F := by
          intro a
          rw [hE, Nat.pow_mul, Nat.pow_two]
        rw [hp (x * q), hp r, ← pow_modN (x * q * (x * q)), e2, pow_modN]
      rw [Nat.mul_pow, Nat.mul_mod, iq, Nat.mul_one, Nat.mod_mod, ir] at e1
      exact e1
theorem frm_small : frmAll (55439 + 1) 236 = true := by kernel_rfl
theorem pw_nat (n k : Nat) : pw n k = ((n ^ k % 55441 : Nat) : Int) := by
  unfold pw
  rw [Int.toNat_natCast, Int.natCast_emod, Int.natCast_pow]; rfl
theorem inv_mulE {n k : Nat} (h : n ^ (k + 1) % 55441 = 1) : MM (pw n k * n) 1 := by
  unfold MM
  rw [pw_nat]
  have : ((n ^ k % 55441 : Nat) : Int) * n % 55441 = ((n ^ k % 55441 * n % 55441 : Nat) : Int) := by
    norm_cast
  rw [this, Nat.mod_mul_mod, ← Nat.pow_succ, h]; rfl
theorem exp_ex : ∃ k : Nat, (k : Int) = 55439 ∧ ∃ F, k + 1 = 2 * F ∧ frmAll (k + 1) 236 = true := ⟨55439, rfl, 27720, rfl, frm_small⟩
theorem inv_mul {a : Int} (h : num a) (h0 : a ≠ 0) : MM (pw a 55439 * a) 1 := by
  obtain ⟨k, hk, F, hF, hs⟩ := exp_ex
  obtain ⟨n, rfl⟩ := Int.eq_ofNat_of_zero_le h.1
  rw [← hk]
  exact inv_mulE (fermatE hF hs n (by omega) (by have := h.2; omega))
end Go.Proofs.YtbopenehooiekaaGreat

/- Data: squares of S, the numbers N with 0, Verlinde's law. -/
namespace Go.Proofs.YtbopenehooiekaaGreat
open Go.RowKit
set_option maxRecDepth 1000000

theorem sm_zero {f : Nat → Int} : ∀ {n : Nat}, (∀ k, k < n → f k = 0) → sm f n = 0
  | 0, _ => rfl
  | n + 1, h => by simp only [sm]; rw [sm_zero fun k hk => h k (by omega), h n (by omega)]; rfl
theorem sm_addf (f g : Nat → Int) : ∀ n : Nat, sm (fun k => f k + g k) n = sm f n + sm g n
  | 0 => rfl
  | n + 1 => by simp only [sm]; rw [sm_addf f g n]; omega
theorem sm_comm (f : Nat → Nat → Int) (n : Nat) : ∀ m : Nat, sm (fun k => sm (f k) n) m = sm (fun l => sm (fun k => f k l) m) n
  | 0 => by
    simp only [sm]
    exact (sm_zero fun _ _ => rfl).symm
  | m + 1 => by
    simp only [sm]
    rw [sm_comm f n m, ← sm_addf]
theorem mul_sm (w : Int) (f : Nat → Int) (n : Nat) : w * sm f n = sm (fun l => w * f l) n := by
  rw [Int.mul_comm, sm_mul]
  exact sm_congr fun l _ => Int.mul_comm _ _
theorem MM.of_eq {a b : Int} (h : a = b) : MM a b := by rw [h]; exact MM.rfl
theorem MM_small {a b : Int} (h : MM a b) (ha : 0 ≤ a ∧ a ≤ 1000) (hb : 0 ≤ b ∧ b ≤ 1000) : a = b := by
  unfold MM at h
  rw [Int.emod_eq_of_lt ha.1 (by omega), Int.emod_eq_of_lt hb.1 (by omega)] at h
  exact h

section
variable {S : List (List Int)} {T : List Int}
abbrev ss (S : List (List Int)) (i j : Nat) : Int := atI (row S i) j
def sg (S : List (List Int)) (T : List Int) (i : Nat) : Nat := (cjA S T i).toNat
theorem Dat.sgA (D : Dat S T) {i : Nat} (hi : i < T.length) : cjA S T i = sg S T i ∧ sg S T i < T.length ∧ atI (cjL S T) i = sg S T i := by
  obtain ⟨c, h1, h2, h3⟩ := cjA_nat D hi
  have e : sg S T i = c := by unfold sg; omega
  rw [e]; exact ⟨h1, h2, h3⟩
theorem Dat.sg0 (D : Dat S T) : sg S T 0 = 0 := by unfold sg; rw [D.cj.2]; rfl
theorem Dat.sym (D : Dat S T) {i j : Nat} (hi : i < T.length) (hj : j < T.length) : ss S i j = ss S j i := ((Sta_iff D.shp).1 D.sta i hi j hj).1
theorem Dat.s00 (D : Dat S T) : ss S 0 0 = 1 := D.sta.2.1
theorem Dat.s0 (D : Dat S T) {i : Nat} (hi : i < T.length) : ss S 0 i ≠ 0 := D.sta.2.2.2.1 i hi
theorem Dat.t0 (D : Dat S T) {i : Nat} (hi : i < T.length) : atI T i ≠ 0 := D.sta.2.2.2.2 i hi
theorem Dat.num (D : Dat S T) (i j : Nat) : num (ss S i j) := D.shp.nS i j
/-- The square of S. -/
theorem Dat.sq (D : Dat S T) {i j : Nat} (hi : i < T.length) (hj : j < T.length) : MM (sm (fun k => ss S i k * ss S j k) T.length) (if j = sg S T i then Go.Proofs.YtbopenehooiekaaGreat.whl S T.length else 0) := by
  have h1 : sm (fun k => ss S i k * ss S j k) T.length % 55441 = tmE S S i j := by
    unfold tmE
    rw [D.shp.lS]
    refine congrArg (· % 55441) (sm_congr fun k hk => ?_)
    show _ * ss S j k = _ * ss S k j
    rw [D.sym hj hk]
  have h2 : atI (row (tms S S) i) j = tmE S S i j := by
    have := D.shp.lS
    rw [tms_row (by omega), atI_rws _ (by omega)]
  obtain ⟨c1, c2, c3, c4⟩ := D.cj.1 i hi
  obtain ⟨s1, s2, s3⟩ := D.sgA hi
  have hrl : (row (tms S S) i).length = T.length := by
    have := D.shp.lS
    rw [tms_row (by omega), zfe, D.shp.lS]
  unfold MM
  rw [h1, ← h2]
  split
  · rename_i e
    subst e
    rcases ix_cases (row (tms S S) i) (Go.Proofs.YtbopenehooiekaaGreat.whl S T.length) with h | ⟨m, h, hm, he⟩
    · have : cjA S T i = -1 := h
      omega
    · have : cjA S T i = m := h
      have e : m = sg S T i := by omega
      rw [e] at he
      rw [he]
      exact (Int.emod_eq_of_lt (num_whl S T.length).1 (num_whl S T.length).2).symm
  · rename_i hne
    rw [c1 j hj (by rw [s1]; omega)]; rfl
theorem Dat.wh (D : Dat S T) : Go.Proofs.YtbopenehooiekaaGreat.whl S T.length ≠ 0 := D.whl
theorem Dat.whM (D : Dat S T) : ¬ MM (Go.Proofs.YtbopenehooiekaaGreat.whl S T.length) 0 := by
  intro h
  unfold MM at h
  rw [Int.emod_eq_of_lt (num_whl S T.length).1 (num_whl S T.length).2] at h
  exact D.wh h
/-- The conjugation is its own inverse. -/
theorem Dat.sgsg (D : Dat S T) {i : Nat} (hi : i < T.length) : sg S T (sg S T i) = i := by
  have hs := (D.sgA hi).2.1
  have h1 := D.sq hi hs
  have h2 := D.sq hs hi
  rw [if_pos rfl] at h1
  have e : sm (fun k => ss S i k * ss S (sg S T i) k) T.length = sm (fun k => ss S (sg S T i) k * ss S i k) T.length := sm_congr fun k _ => Int.mul_comm _ _
  rw [e] at h1
  by_cases h : i = sg S T (sg S T i)
  · exact h.symm
  · rw [if_neg h] at h2
    exact absurd (h1.symm.trans h2) D.whM
theorem Dat.sq' (D : Dat S T) {i j : Nat} (hi : i < T.length) (hj : j < T.length) : MM (sm (fun k => ss S i k * ss S j k) T.length) (if i = sg S T j then Go.Proofs.YtbopenehooiekaaGreat.whl S T.length else 0) := by
  have := D.sq hj hi
  have e : sm (fun k => ss S i k * ss S j k) T.length = sm (fun k => ss S j k * ss S i k) T.length := sm_congr fun k _ => Int.mul_comm _ _
  rwa [e]
theorem sm_pick {f : Nat → Int} {j n : Nat} {v : Int} (hj : j < n) (h : ∀ k, k < n → f k = if k = j then v else 0) : sm f n = v := by
  rw [sm_one (j := j) fun k hk hne => by rw [h k hk, if_neg hne], if_pos hj, h j hj, if_pos rfl]
/-- Rows of conjugates. -/
theorem Dat.conjS (D : Dat S T) {i l : Nat} (hi : i < T.length) (hl : l < T.length) : ss S (sg S T i) l = ss S i (sg S T l) := by
  have hsi := (D.sgA hi).2.1
  have hsl := (D.sgA hl).2.1
  -- both are S S S / whole
  have h1 : MM (sm (fun k => sm (fun m => ss S i m * ss S k m) T.length * ss S k l) T.length) (Go.Proofs.YtbopenehooiekaaGreat.whl S T.length * ss S (sg S T i) l) := by
    refine (sm_MM fun k hk => MM.mul (D.sq hi hk) MM.rfl).trans (MM.of_eq ?_)
    refine sm_pick hsi fun k hk => ?_
    split
    · rename_i e; subst e; rfl
    · exact Int.zero_mul _
  have h2 : MM (sm (fun m => ss S i m * sm (fun k => ss S m k * ss S l k) T.length) T.length) (Go.Proofs.YtbopenehooiekaaGreat.whl S T.length * ss S i (sg S T l)) := by
    refine (sm_MM fun m hm => MM.mul MM.rfl (D.sq' hm hl)).trans (MM.of_eq ?_)
    refine sm_pick hsl fun m hm => ?_
    split
    · rename_i e; subst e; exact Int.mul_comm _ _
    · exact Int.mul_zero _
  have h3 : sm (fun k => sm (fun m => ss S i m * ss S k m) T.length * ss S k l) T.length = sm (fun m => ss S i m * sm (fun k => ss S m k * ss S l k) T.length) T.length := by
    have e1 : sm (fun k => sm (fun m => ss S i m * ss S k m) T.length * ss S k l) T.length = sm (fun k => sm (fun m => ss S i m * ss S k m * ss S k l) T.length) T.length := sm_congr fun k _ => sm_mul _ _ _
    rw [e1, sm_comm]
    refine sm_congr fun m hm => ?_
    rw [mul_sm]
    refine sm_congr fun k hk => ?_
    rw [D.sym hk hm, D.sym hl hk, Int.mul_assoc]
  rw [h3] at h1
  have h4 := h1.symm.trans h2
  have hw := inv_mul (num_whl S T.length) D.wh
  have h5 : MM (pw (Go.Proofs.YtbopenehooiekaaGreat.whl S T.length) 55439 * (Go.Proofs.YtbopenehooiekaaGreat.whl S T.length * ss S (sg S T i) l)) (pw (Go.Proofs.YtbopenehooiekaaGreat.whl S T.length) 55439 * (Go.Proofs.YtbopenehooiekaaGreat.whl S T.length * ss S i (sg S T l))) := MM.mul MM.rfl h4
  have h6 : ∀ x : Int, MM (pw (Go.Proofs.YtbopenehooiekaaGreat.whl S T.length) 55439 * (Go.Proofs.YtbopenehooiekaaGreat.whl S T.length * x)) x := fun x => by
    rw [← Int.mul_assoc]
    have := MM.mul hw (MM.rfl (a := x))
    rwa [Int.one_mul] at this
  have h7 := (h6 _).symm.trans (h5.trans (h6 _))
  unfold MM at h7
  rw [Int.emod_eq_of_lt (D.num _ _).1 (D.num _ _).2, Int.emod_eq_of_lt (D.num _ _).1 (D.num _ _).2] at h7
  exact h7
/-- The terms of the numbers N. -/
theorem Dat.nm (D : Dat S T) (i j : Nat) {k : Nat} (hk : k < T.length) : MM (nmC S T i j k) (pw (Go.Proofs.YtbopenehooiekaaGreat.whl S T.length) 55439 * sm (fun l => ss S i l * ss S j l * (pw (ss S 0 l) 55439 * ss S (sg S T k) l)) T.length) := by
  have hc := (D.sgA hk).2.2
  unfold nmC nmE
  refine (MM.mod _).trans ?_
  rw [mul_sm]
  refine sm_MM fun l hl => ?_
  rw [atI_rws _ hl, hc, Int.toNat_natCast]
  unfold both inv0
  show MM (ss S i l * ss S j l % 55441 * (pw (ss S 0 l) 55439 * pw (Go.Proofs.YtbopenehooiekaaGreat.whl S T.length) 55439 % 55441) % 55441 * ss S (sg S T k) l) _
  generalize ss S i l = x
  generalize ss S j l = y
  generalize pw (ss S 0 l) 55439 = u
  generalize pw (Go.Proofs.YtbopenehooiekaaGreat.whl S T.length) 55439 = w
  generalize ss S (sg S T k) l = z
  refine (MM.mul ((MM.mod _).trans (MM.mul (MM.mod _) (MM.mod _))) MM.rfl).trans (MM.of_eq ?_)
  simp only [Int.mul_assoc, Int.mul_comm, Int.mul_left_comm]
theorem Dat.nm_bnd (D : Dat S T) {i j k : Nat} (hi : i < T.length) (hj : j < T.length) (hk : k < T.length) : 0 ≤ nmC S T i j k ∧ nmC S T i j k ≤ 1000 := D.cube i hi j hj k hk
/-- The numbers N with 0. -/
theorem Dat.nm0 (D : Dat S T) {i j : Nat} (hi : i < T.length) (hj : j < T.length) : nmC S T i j 0 = if j = sg S T i then 1 else 0 := by
  have hp := D.shp.pos
  have h1 := D.nm i j hp
  rw [D.sg0] at h1
  have h2 : MM (sm (fun l => ss S i l * ss S j l * (pw (ss S 0 l) 55439 * ss S 0 l)) T.length) (sm (fun l => ss S i l * ss S j l) T.length) := by
    refine sm_MM fun l hl => ?_
    have := MM.mul (MM.rfl (a := ss S i l * ss S j l)) (inv_mul (D.num 0 l) (D.s0 hl))
    rwa [Int.mul_one] at this
  have h3 := h1.trans (MM.mul MM.rfl (h2.trans (D.sq hi hj)))
  have hw := inv_mul (num_whl S T.length) D.wh
  refine MM_small (h3.trans ?_) (D.nm_bnd hi hj hp) (by split <;> omega)
  split
  · exact hw
  · rw [Int.mul_zero]; exact MM.rfl
/-- Verlinde's law: the rows of S, divided by the first one, are multiplicative. -/
theorem Dat.verl (D : Dat S T) {i j m : Nat} (hm : m < T.length) : MM (sm (fun k => nmC S T i j k * ss S k m) T.length) (ss S i m * ss S j m * pw (ss S 0 m) 55439) := by
  have hsm := (D.sgA hm).2.1
  have h1 : MM (sm (fun k => nmC S T i j k * ss S k m) T.length) (sm (fun k => sm (fun l => pw (Go.Proofs.YtbopenehooiekaaGreat.whl S T.length) 55439 * (ss S i l * ss S j l * pw (ss S 0 l) 55439) * (ss S (sg S T k) l * ss S k m)) T.length) T.length) := by
    refine sm_MM fun k hk => ?_
    refine (MM.mul (D.nm i j hk) MM.rfl).trans (MM.of_eq ?_)
    rw [mul_sm, sm_mul]
    refine sm_congr fun l _ => ?_
    simp only [Int.mul_assoc]
  refine h1.trans ?_
  rw [sm_comm]
  have h2 : MM (sm (fun l => sm (fun k => pw (Go.Proofs.YtbopenehooiekaaGreat.whl S T.length) 55439 * (ss S i l * ss S j l * pw (ss S 0 l) 55439) * (ss S (sg S T k) l * ss S k m)) T.length) T.length) (sm (fun l => if l = m then ss S i m * ss S j m * pw (ss S 0 m) 55439 else 0) T.length) := by
    refine sm_MM fun l hl => ?_
    rw [← mul_sm]
    have hsl := (D.sgA hl).2.1
    have e : sm (fun k => ss S (sg S T k) l * ss S k m) T.length = sm (fun k => ss S (sg S T l) k * ss S m k) T.length := sm_congr fun k hk => by
      rw [D.conjS hk hl, D.sym hk hsl, D.sym hk hm]
    rw [e]
    refine (MM.mul MM.rfl (D.sq hsl hm)).trans ?_
    rw [D.sgsg hl]
    have hw := inv_mul (num_whl S T.length) D.wh
    by_cases h : l = m
    · subst h
      rw [if_pos rfl, if_pos rfl]
      have := MM.mul hw (MM.rfl (a := ss S i l * ss S j l * pw (ss S 0 l) 55439))
      rw [Int.one_mul] at this
      refine (MM.of_eq ?_).trans this
      simp only [Int.mul_assoc, Int.mul_comm, Int.mul_left_comm]
    · rw [if_neg h, if_neg (fun e => h e.symm), Int.mul_zero]
      exact MM.rfl
  refine h2.trans (MM.of_eq ?_)
  exact sm_pick hm fun k hk => rfl
end
end Go.Proofs.YtbopenehooiekaaGreat

/- Rings of data; invertible charges. -/
namespace Go.Proofs.YtbopenehooiekaaGreat
open Go.RowKit
set_option maxRecDepth 1000000

section
variable {S : List (List Int)} {T : List Int}
theorem Dat.at3 (D : Dat S T) {i j k : Nat} (hi : i < T.length) (hj : j < T.length) (hk : k < T.length) : at3 (cubeL (nmE S T.length (cjL S T)) T.length) i j k = nmC S T i j k := at3_cube hi hj hk
theorem cubeL_len (F : Nat → Nat → Nat → Int) (n : Nat) : (cubeL F n).length = n := zfe _ _
theorem RF_none {X : List (List (List Int))} (h : RF X = none) : F1 X = none ∧ F2 X = none ∧ F3 X = none ∧ F4 X = none := by
  unfold RF at h
  cases h1 : F1 X with
  | some v => rw [h1] at h; cases h
  | none =>
    rw [h1] at h
    cases h2 : F2 X with
    | some v => rw [h2] at h; cases h
    | none =>
      rw [h2] at h
      cases h3 : F3 X with
      | some v => rw [h3] at h; cases h
      | none =>
        rw [h3] at h
        exact ⟨rfl, rfl, rfl, h⟩
theorem Dat.unit (D : Dat S T) {i k : Nat} (hi : i < T.length) (hk : k < T.length) : nmC S T 0 i k = dlt i k ∧ nmC S T i 0 k = dlt i k := by
  have h := (RF_none D.ring.2).1
  have h1 := fnd_none.1 (fnd_none.1 h i (by rw [cubeL_len]; exact hi)) k (by rw [cubeL_len]; exact hk)
  unfold p1 at h1
  split at h1
  · rename_i h2
    rw [D.at3 D.shp.pos hi hk, D.at3 hi D.shp.pos hk] at h2
    exact h2
  · cases h1
/-- The dual is the conjugate. -/
theorem Dat.dual (D : Dat S T) {i : Nat} (hi : i < T.length) : dlT (cubeL (nmE S T.length (cjL S T)) T.length) i = sg S T i := by
  have hs := (D.sgA hi).2.1
  unfold dlT
  rw [cubeL_len]
  refine du_is ⟨hs, ?_, fun k hk hne => ?_⟩
  · show Go.Proofs.YtbopenehooiekaaGreat.at3 _ _ _ _ = _
    rw [D.at3 hi hs D.shp.pos, D.nm0 hi hs, if_pos rfl]
  · show Go.Proofs.YtbopenehooiekaaGreat.at3 _ _ _ _ = _
    rw [D.at3 hi hk D.shp.pos, D.nm0 hi hk, if_neg hne]
theorem Dat.turn (D : Dat S T) {i j k : Nat} (hi : i < T.length) (hj : j < T.length) (hk : k < T.length) : nmC S T i j k = nmC S T (sg S T i) k j ∧ nmC S T i j k = nmC S T k (sg S T j) i := by
  have hsi := (D.sgA hi).2.1
  have hsj := (D.sgA hj).2.1
  have h := (RF_none D.ring.2).2.2.1
  have h1 := fnd_none.1 (fnd_none.1 (fnd_none.1 h i (by rw [cubeL_len]; exact hi)) j (by rw [cubeL_len]; exact hj)) k (by rw [cubeL_len]; exact hk)
  unfold p3 at h1
  split at h1
  · rename_i h2
    rw [D.dual hi, D.dual hj, Int.toNat_natCast, Int.toNat_natCast, D.at3 hi hj hk, D.at3 hsi hk hj, D.at3 hk hsj hi] at h2
    exact h2
  · cases h1
theorem Dat.assoc (D : Dat S T) {i j k l : Nat} (hi : i < T.length) (hj : j < T.length) (hk : k < T.length) (hl : l < T.length) :
    sm (fun m => nmC S T i j m * nmC S T m k l) T.length = sm (fun m => nmC S T j k m * nmC S T i m l) T.length := by
  have h := (RF_none D.ring.2).2.2.2
  have h1 := fnd_none.1 (fnd_none.1 (fnd_none.1 (fnd_none.1 h i (by rw [cubeL_len]; exact hi)) j (by rw [cubeL_len]; exact hj)) k (by rw [cubeL_len]; exact hk)) l (by rw [cubeL_len]; exact hl)
  unfold p4 at h1
  split at h1
  · rename_i h2
    rw [cubeL_len] at h2
    have e1 : sm (lft (cubeL (nmE S T.length (cjL S T)) T.length) i j k l) T.length = sm (fun m => nmC S T i j m * nmC S T m k l) T.length := sm_congr fun m hm => by
      unfold lft; rw [D.at3 hi hj hm, D.at3 hm hk hl]
    have e2 : sm (rgt (cubeL (nmE S T.length (cjL S T)) T.length) i j k l) T.length = sm (fun m => nmC S T j k m * nmC S T i m l) T.length := sm_congr fun m hm => by
      unfold rgt; rw [D.at3 hj hk hm, D.at3 hi hm hl]
    rw [e1, e2] at h2
    exact h2
  · cases h1

/-! ### Sums of numbers that are not negative -/
theorem sm_nn {f : Nat → Int} : ∀ {n : Nat}, (∀ k, k < n → 0 ≤ f k) → 0 ≤ sm f n
  | 0, _ => Int.le_refl _
  | n + 1, h => by
    have h1 := sm_nn (n := n) fun k hk => h k (by omega)
    have h2 := h n (by omega)
    simp only [sm]; omega
theorem sm_ge {f : Nat → Int} : ∀ {n : Nat}, (∀ k, k < n → 0 ≤ f k) → ∀ j, j < n → f j ≤ sm f n
  | 0, _, j, hj => by omega
  | n + 1, h, j, hj => by
    have h1 := sm_nn (n := n) fun k hk => h k (by omega)
    have h2 := h n (by omega)
    simp only [sm]
    rcases Nat.lt_or_ge j n with h3 | h3
    · have := sm_ge (n := n) (fun k hk => h k (by omega)) j h3
      omega
    · have : j = n := by omega
      subst this; omega
theorem sm_two {f : Nat → Int} : ∀ {n : Nat}, (∀ k, k < n → 0 ≤ f k) → ∀ i j, i < n → j < n → i ≠ j → f i + f j ≤ sm f n
  | 0, _, i, j, hi, _, _ => by omega
  | n + 1, h, i, j, hi, hj, hne => by
    simp only [sm]
    have h2 := h n (by omega)
    rcases Nat.lt_or_ge i n with h3 | h3
    · rcases Nat.lt_or_ge j n with h4 | h4
      · have := sm_two (n := n) (fun k hk => h k (by omega)) i j h3 h4 hne
        omega
      · have : j = n := by omega
        subst this
        have := sm_ge (n := j) (fun k hk => h k (by omega)) i h3
        omega
    · have : i = n := by omega
      subst this
      have := sm_ge (n := i) (fun k hk => h k (by omega)) j (by omega)
      omega
/-- A row that is a unit vector. -/
def uniR (f : Nat → Int) (n m : Nat) : Prop := m < n ∧ f m = 1 ∧ ∀ k, k < n → k ≠ m → f k = 0
theorem uni_of_sum {f : Nat → Int} {n : Nat} (h0 : ∀ k, k < n → 0 ≤ f k) (h : sm f n = 1) : ∃ m, uniR f n m := by
  have hex : ∃ m, m < n ∧ f m ≠ 0 := by
    refine Classical.byContradiction fun hn => ?_
    rw [sm_zero (fun k hk => Classical.byContradiction fun h => hn ⟨k, hk, h⟩)] at h
    omega
  obtain ⟨m, hm, hne⟩ := hex
  have h1 := h0 m hm
  have h2 := sm_ge h0 m hm
  refine ⟨m, hm, by omega, fun k hk hkm => ?_⟩
  have h3 := sm_two h0 m k hm hk (fun e => hkm e.symm)
  have h4 := h0 k hk
  omega
theorem uni_sum {f : Nat → Int} {n m : Nat} (h : uniR f n m) : sm f n = 1 := by
  rw [sm_one (j := m) h.2.2, if_pos h.1, h.2.1]
theorem uni_eq {f : Nat → Int} {n m m' : Nat} (h : uniR f n m) (h' : uniR f n m') : m = m' := by
  refine Classical.byContradiction fun hne => ?_
  have := h'.2.2 m h.1 hne
  rw [h.2.1] at this; omega

/-- An invertible charge. -/
def Inv (S : List (List Int)) (T : List Int) (i : Nat) : Prop := uniR (nmC S T i (sg S T i)) T.length 0
theorem Dat.inv_iff (D : Dat S T) {i : Nat} (hi : i < T.length) : Inv S T i ↔ sm (nmC S T i (sg S T i)) T.length = 1 := by
  have hs := (D.sgA hi).2.1
  refine ⟨uni_sum, fun h => ?_⟩
  obtain ⟨m, hm⟩ := uni_of_sum (fun k hk => (D.nm_bnd hi hs hk).1) h
  have h0 := D.nm0 hi hs
  rw [if_pos rfl] at h0
  have : m = 0 := by
    refine Classical.byContradiction fun hne => ?_
    have := hm.2.2 0 D.shp.pos (fun e => hne e.symm)
    omega
  subst this; exact hm
/-- Dimensions of invertible charges. -/
theorem Dat.inv_dim (D : Dat S T) {i : Nat} (hi : i < T.length) (h : Inv S T i) : ss S 0 i * ss S 0 i % 55441 = 1 := by
  have hs := (D.sgA hi).2.1
  have hp := D.shp.pos
  have h1 := D.verl (i := i) (j := sg S T i) hp
  have h2 : sm (fun k => nmC S T i (sg S T i) k * ss S k 0) T.length = 1 := by
    refine sm_pick hp fun k hk => ?_
    split
    · rename_i e; subst e; rw [h.2.1, D.s00]; rfl
    · rename_i e; rw [h.2.2 k hk e, Int.zero_mul]
  rw [h2] at h1
  have h3 : pw (ss S 0 0) 55439 = 1 := by
    rw [D.s00]
    show (1 : Int) ^ (55439 : Int).toNat % 55441 = 1
    rw [Int.one_pow]; rfl
  rw [h3, Int.mul_one, D.conjS hi hp, D.sg0, D.sym hi hp] at h1
  exact h1.symm
/-- Products with an invertible charge are charges. -/
theorem Dat.inv_row (D : Dat S T) {i : Nat} (hi : i < T.length) (h : Inv S T i) {a : Nat} (ha : a < T.length) : ∃ m, uniR (nmC S T a i) T.length m ∧ ∀ l, l < T.length → nmC S T m (sg S T i) l = dlt a l := by
  have hs := (D.sgA hi).2.1
  have hA : ∀ l, l < T.length → sm (fun m => nmC S T a i m * nmC S T m (sg S T i) l) T.length = dlt a l := by
    intro l hl
    rw [D.assoc ha hi hs hl, sm_one (j := 0) (fun k hk hne => by rw [h.2.2 k hk hne, Int.zero_mul]), if_pos D.shp.pos, h.2.1, Int.one_mul]
    exact (D.unit ha hl).2
  have hsq := hA a ha
  have e : sm (fun m => nmC S T a i m * nmC S T m (sg S T i) a) T.length = sm (fun m => nmC S T a i m * nmC S T a i m) T.length := sm_congr fun m hm => by rw [← (D.turn ha hi hm).2]
  rw [e] at hsq
  have hd : dlt a a = 1 := if_pos rfl
  rw [hd] at hsq
  obtain ⟨m, hm1, hm2, hm3⟩ := uni_of_sum (fun k hk => Int.mul_nonneg (D.nm_bnd ha hi hk).1 (D.nm_bnd ha hi hk).1) hsq
  have hv : nmC S T a i m = 1 := by
    have hb := D.nm_bnd ha hi hm1
    have hm2' : nmC S T a i m * nmC S T a i m = 1 := hm2
    clear hm2
    generalize nmC S T a i m = x at hm2' hb
    rcases Int.lt_or_le x 2 with hx | hx
    · have : x = 0 ∨ x = 1 := by omega
      rcases this with rfl | rfl
      · omega
      · rfl
    · have := Int.mul_le_mul hx hx (by omega) (by omega)
      omega
  have hz : ∀ k, k < T.length → k ≠ m → nmC S T a i k = 0 := fun k hk hne => by
    have : nmC S T a i k * nmC S T a i k = 0 := hm3 k hk hne
    rcases Int.mul_eq_zero.1 this with h | h <;> exact h
  refine ⟨m, ⟨hm1, hv, hz⟩, fun l hl => ?_⟩
  have := hA l hl
  rw [sm_one (j := m) (fun k hk hne => by rw [hz k hk hne, Int.zero_mul]), if_pos hm1, hv, Int.one_mul] at this
  exact this
open Classical in
/-- Where an invertible charge leads a charge. -/
noncomputable def mv (S : List (List Int)) (T : List Int) (i a : Nat) : Nat := if h : ∃ m, uniR (nmC S T a i) T.length m then Classical.choose h else 0
theorem Dat.mv_uni (D : Dat S T) {i : Nat} (hi : i < T.length) (h : Inv S T i) {a : Nat} (ha : a < T.length) : uniR (nmC S T a i) T.length (mv S T i a) := by
  obtain ⟨m, hm, _⟩ := D.inv_row hi h ha
  unfold mv
  rw [dif_pos ⟨m, hm⟩]
  exact Classical.choose_spec (p := fun m => uniR (nmC S T a i) T.length m) ⟨m, hm⟩
theorem Dat.mv_lt (D : Dat S T) {i : Nat} (hi : i < T.length) (h : Inv S T i) {a : Nat} (ha : a < T.length) : mv S T i a < T.length := (D.mv_uni hi h ha).1
theorem Dat.mv_inj (D : Dat S T) {i : Nat} (hi : i < T.length) (h : Inv S T i) {a b : Nat} (ha : a < T.length) (hb : b < T.length) (e : mv S T i a = mv S T i b) : a = b := by
  obtain ⟨m, hm, h1⟩ := D.inv_row hi h ha
  obtain ⟨m', hm', h2⟩ := D.inv_row hi h hb
  have e1 := uni_eq (D.mv_uni hi h ha) hm
  have e2 := uni_eq (D.mv_uni hi h hb) hm'
  have e3 : m = m' := by omega
  subst e3
  have h3 := (h1 a ha).symm.trans (h2 a ha)
  unfold dlt at h3
  rw [if_pos rfl] at h3
  split at h3
  · rename_i e; exact e.symm
  · omega
theorem Dat.mv0 (D : Dat S T) {i : Nat} (hi : i < T.length) (h : Inv S T i) : mv S T i 0 = i := by
  refine uni_eq (D.mv_uni hi h D.shp.pos) ⟨hi, ?_, fun k hk hne => ?_⟩
  · rw [(D.unit hi hi).1]; exact if_pos rfl
  · rw [(D.unit hi hk).1]; exact if_neg fun e => hne e.symm
/-- The charges that the powers of a charge lead to. -/
noncomputable def orb (S : List (List Int)) (T : List Int) (i : Nat) : Nat → Nat
  | 0 => i
  | k + 1 => mv S T i (orb S T i k)
theorem Dat.orb_lt (D : Dat S T) {i : Nat} (hi : i < T.length) (h : Inv S T i) : ∀ k, orb S T i k < T.length
  | 0 => hi
  | k + 1 => D.mv_lt hi h (D.orb_lt hi h k)
/-- A list of so many places, with values below n, all different: not more than n. -/
theorem pigeon : ∀ (n m : Nat) (f : Nat → Nat), (∀ k, k < m → f k < n) → (∀ j k, j < m → k < m → f j = f k → j = k) → m ≤ n
  | 0, m, f, h1, _ => by
    rcases Nat.eq_zero_or_pos m with h | h
    · omega
    · exact absurd (h1 0 h) (Nat.not_lt_zero _)
  | n + 1, m, f, h1, h2 => by
    rcases Nat.eq_zero_or_pos m with h | h
    · omega
    · -- swap the value n away
      by_cases hex : ∃ k, k < m ∧ f k = n
      · obtain ⟨k0, hk0, e0⟩ := hex
        have := pigeon n (m - 1) (fun k => f (if k < k0 then k else k + 1)) (fun k hk => by
          have h3 := h1 (if k < k0 then k else k + 1) (by split <;> omega)
          have h4 : f (if k < k0 then k else k + 1) ≠ n := fun e => by
            have := h2 _ k0 (by split <;> omega) hk0 (e.trans e0.symm)
            split at this <;> omega
          omega) (fun j k hj hk e => by
          have := h2 _ _ (by split <;> omega) (by split <;> omega) e
          split at this <;> split at this <;> omega)
        omega
      · have := pigeon n m f (fun k hk => by
          have h3 := h1 k hk
          have h4 : f k ≠ n := fun e => hex ⟨k, hk, e⟩
          omega) h2
        omega
theorem Dat.orb_ret (D : Dat S T) {i : Nat} (hi : i < T.length) (h : Inv S T i) : ∃ m, m < T.length ∧ orb S T i m = 0 ∧ ∀ k, k < m → orb S T i k ≠ 0 := by
  have hex : ∃ m, m < T.length ∧ orb S T i m = 0 := by
    refine Classical.byContradiction fun hn => ?_
    -- 0 and the first n places are all different
    have hinj : ∀ d j, orb S T i j = orb S T i (j + d + 1) → ∃ k, k ≤ d ∧ orb S T i k = 0 := by
      intro d j
      induction j with
      | zero =>
        intro e
        refine ⟨d, Nat.le_refl _, ?_⟩
        have e1 : mv S T i (orb S T i d) = mv S T i 0 := by
          rw [D.mv0 hi h]
          have : orb S T i (0 + d + 1) = mv S T i (orb S T i d) := by rw [Nat.zero_add]; rfl
          rw [← this]; exact e.symm
        exact D.mv_inj hi h (D.orb_lt hi h d) D.shp.pos e1
      | succ j ih =>
        intro e
        refine ih (D.mv_inj hi h (D.orb_lt hi h _) (D.orb_lt hi h _) ?_)
        have : j + 1 + d + 1 = (j + d + 1) + 1 := by omega
        rw [this] at e
        exact e
    have := pigeon T.length (T.length + 1) (fun k => if k = 0 then 0 else orb S T i (k - 1)) (fun k hk => by
      split
      · exact D.shp.pos
      · exact D.orb_lt hi h _) (fun j k hj hk e => by
      have key : ∀ j k, j < k → k < T.length + 1 → (if j = 0 then 0 else orb S T i (j - 1)) = (if k = 0 then 0 else orb S T i (k - 1)) → False := by
        intro j k hjk hk e
        rw [if_neg (by omega : ¬ k = 0)] at e
        split at e
        · exact hn ⟨k - 1, by omega, e.symm⟩
        · have e2 : k - 1 = (j - 1) + (k - j - 1) + 1 := by omega
          rw [e2] at e
          obtain ⟨q, hq, h0⟩ := hinj _ _ e
          exact hn ⟨q, by omega, h0⟩
      rcases Nat.lt_trichotomy j k with hl | hl | hl
      · exact (key j k hl hk e).elim
      · exact hl
      · exact (key k j hl hj e.symm).elim)
    omega
  -- the least one
  obtain ⟨m, hm, h0⟩ := hex
  have : ∀ m, m < T.length → orb S T i m = 0 → ∃ m', m' < T.length ∧ orb S T i m' = 0 ∧ ∀ k, k < m' → orb S T i k ≠ 0 := by
    intro m
    induction m using Nat.strongRecOn with
    | _ m ih =>
      intro hm h0
      by_cases hk : ∃ k, k < m ∧ orb S T i k = 0
      · obtain ⟨k, hk, e⟩ := hk
        exact ih k hk (by omega) e
      · exact ⟨m, hm, h0, fun k hkm e => hk ⟨k, hkm, e⟩⟩
  exact this m hm h0
end
end Go.Proofs.YtbopenehooiekaaGreat
