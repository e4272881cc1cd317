/- Texts joined: I1 I2. -/
import Derived.Test.YtbopenehooiekaaGreatMo
set_option linter.all false
/- Products of data: sums over pairs; the conditions of the product. -/
namespace Go.Proofs.YtbopenehooiekaaGreat
open Go.RowKit
set_option maxRecDepth 1000000

theorem sm_append (f : Nat → Int) (a : Nat) : ∀ b : Nat, sm f (a + b) = sm f a + sm (fun k => f (a + k)) b
  | 0 => by simp [sm]
  | b + 1 => by
    rw [← Nat.add_assoc]
    simp only [sm]
    rw [sm_append f a b]; omega
theorem divm {n m k : Nat} (hk : k < m) : (n * m + k) / m = n ∧ (n * m + k) % m = k := by
  have hm : 0 < m := by omega
  constructor
  · rw [Nat.mul_comm, Nat.mul_add_div hm, Nat.div_eq_of_lt hk]; rfl
  · rw [Nat.mul_comm, Nat.mul_add_mod, Nat.mod_eq_of_lt hk]
theorem sm_pairs (f : Nat → Nat → Int) (m : Nat) : ∀ n : Nat, sm (fun x => f (x / m) (x % m)) (n * m) = sm (fun i => sm (f i) m) n
  | 0 => by simp [sm]
  | n + 1 => by
    rw [Nat.succ_mul, sm_append, sm_pairs f m n]
    simp only [sm]
    congr 1
    exact sm_congr fun k hk => by rw [(divm hk).1, (divm hk).2]
theorem sm_mulf (a b : Nat → Int) (m n : Nat) : sm (fun i => sm (fun j => a i * b j) m) n = sm a n * sm b m := by
  rw [sm_mul]
  exact sm_congr fun i _ => (mul_sm _ _ _).symm
theorem sm_pair2 (a b : Nat → Int) (n m : Nat) : sm (fun x => a (x / m) * b (x % m)) (n * m) = sm a n * sm b m := by
  rw [sm_pairs (fun i j => a i * b j), sm_mulf]
theorem pr_lt {n m x : Nat} (h : x < n * m) : x / m < n ∧ x % m < m := by
  have hm : 0 < m := by
    rcases Nat.eq_zero_or_pos m with h0 | h0
    · subst h0; simp at h
    · exact h0
  exact ⟨Nat.div_lt_of_lt_mul (by rwa [Nat.mul_comm] at h), Nat.mod_lt _ hm⟩
theorem pr_mk {n m i j : Nat} (hi : i < n) (hj : j < m) : i * m + j < n * m := by
  have : (i + 1) * m ≤ n * m := Nat.mul_le_mul_right m hi
  rw [Nat.succ_mul] at this; omega
theorem pr_eta (x m : Nat) : x / m * m + x % m = x := by rw [Nat.mul_comm]; exact Nat.div_add_mod x m
theorem pr_eq {m i j x : Nat} (hj : j < m) : x = i * m + j ↔ x / m = i ∧ x % m = j := by
  constructor
  · rintro rfl; exact divm hj
  · rintro ⟨rfl, rfl⟩; exact (pr_eta x m).symm
theorem num_ne {a b : Int} (ha : num a) (hb : num b) (h1 : a ≠ 0) (h2 : b ≠ 0) : a * b % 55441 ≠ 0 := by
  intro h
  have e : MM (a * b) 0 := h
  have h3 := MM.mul e (MM.rfl (a := pw b 55439))
  rw [Int.zero_mul, Int.mul_assoc, Int.mul_comm b] at h3
  have h4 := MM.mul (MM.rfl (a := a)) (inv_mul hb h2)
  rw [Int.mul_one] at h4
  have h5 := h4.symm.trans h3
  unfold MM at h5
  rw [Int.emod_eq_of_lt ha.1 ha.2] at h5
  exact h1 h5
theorem MM_num {a b : Int} (h : MM a b) (ha : num a) (hb : num b) : a = b := by
  unfold MM at h
  rwa [Int.emod_eq_of_lt ha.1 ha.2, Int.emod_eq_of_lt hb.1 hb.2] at h
theorem MM.modr {a b : Int} (h : MM a b) : MM a (b % 55441) := h.trans (MM.mod _).symm

section
variable (S S' : List (List Int)) (T T' : List Int)
def pS (x y : Nat) : Int := ss S (x / T'.length) (y / T'.length) * ss S' (x % T'.length) (y % T'.length) % 55441
def pT (x : Nat) : Int := atI T (x / T'.length) * atI T' (x % T'.length) % 55441
def PS : List (List Int) := matL (pS S S' T') (T.length * T'.length) (T.length * T'.length)
def PT : List Int := rws (pT T T') (T.length * T'.length)
def psg (x : Nat) : Nat := sg S T (x / T'.length) * T'.length + sg S' T' (x % T'.length)
end
section
variable {S S' : List (List Int)} {T T' : List Int}
theorem PT_len : (PT T T').length = T.length * T'.length := zfe _ _
theorem PS_len : (PS S S' T T').length = T.length * T'.length := zfe _ _
theorem PS_at {x y : Nat} (hx : x < T.length * T'.length) (hy : y < T.length * T'.length) : ss (PS S S' T T') x y = pS S S' T' x y := matL_at hx hy
theorem PT_at {x : Nat} (hx : x < T.length * T'.length) : atI (PT T T') x = pT T T' x := atI_rws _ hx
theorem pS_MM (x y : Nat) : MM (pS S S' T' x y) (ss S (x / T'.length) (y / T'.length) * ss S' (x % T'.length) (y % T'.length)) := MM.mod _
theorem PS_shp (D : Dat S T) (D' : Dat S' T') (h16 : T.length * T'.length ≤ 16) : ShpP (PS S S' T T') (PT T T') ∧ Shp (PS S S' T T') (PT T T') := by
  have hp : 0 < T.length * T'.length := Nat.mul_pos D.shp.pos D'.shp.pos
  have h1 : ShpP (PS S S' T T') (PT T T') := by
    refine ⟨by rw [PT_len]; exact hp, by rw [PT_len]; exact h16, by rw [PS_len, PT_len], fun j hj => ?_, fun i hi => ?_⟩
    · rw [PT_len] at hj
      rw [PT_at hj]
      have := num_mod (atI T (j / T'.length) * atI T' (j % T'.length))
      unfold num at this; unfold pT; omega
    · rw [PT_len] at hi ⊢
      have e : row (PS S S' T T') i = rws (fun j => pS S S' T' i j) (T.length * T'.length) := matL_row hi
      rw [e]
      refine ⟨zfe _ _, fun j hj => ?_⟩
      rw [zfe] at hj
      rw [atI_rws _ hj]
      have := num_mod (ss S (i / T'.length) (j / T'.length) * ss S' (i % T'.length) (j % T'.length))
      unfold num at this; unfold pS; omega
  exact ⟨h1, Shp_of h1⟩
theorem psg_lt (D : Dat S T) (D' : Dat S' T') {x : Nat} (hx : x < T.length * T'.length) : psg S S' T T' x < T.length * T'.length := pr_mk (D.sgA (pr_lt hx).1).2.1 (D'.sgA (pr_lt hx).2).2.1
theorem psg_div (D' : Dat S' T') {x : Nat} (hx : x < T.length * T'.length) : psg S S' T T' x / T'.length = sg S T (x / T'.length) ∧ psg S S' T T' x % T'.length = sg S' T' (x % T'.length) := divm (D'.sgA (pr_lt hx).2).2.1
theorem pS_num (x y : Nat) : num (pS S S' T' x y) := num_mod _
theorem P_sta (D : Dat S T) (D' : Dat S' T') (h16 : T.length * T'.length ≤ 16) : StaP (PS S S' T T') (PT T T') := by
  refine (Sta_iff (PS_shp D D' h16).2).2 fun x hx y hy => ?_
  rw [PT_len] at hx hy
  have hp : 0 < T.length * T'.length := by omega
  have z1 : 0 / T'.length = 0 := Nat.zero_div _
  have z2 : 0 % T'.length = 0 := Nat.zero_mod _
  obtain ⟨x1, x2⟩ := pr_lt hx
  obtain ⟨y1, y2⟩ := pr_lt hy
  refine ⟨?_, ?_, ?_, ?_, ?_⟩
  · show ss _ x y = ss _ y x
    rw [PS_at hx hy, PS_at hy hx]
    unfold pS
    rw [D.sym x1 y1, D'.sym x2 y2]
  · show ss _ 0 x ≠ 0
    rw [PS_at hp hx]
    unfold pS
    rw [z1, z2]
    exact num_ne (D.num _ _) (D'.num _ _) (D.s0 x1) (D'.s0 x2)
  · rw [PT_at hx]
    exact num_ne (D.shp.nT _) (D'.shp.nT _) (D.t0 x1) (D'.t0 x2)
  · show ss _ 0 0 = 1
    rw [PS_at hp hp]
    unfold pS
    rw [z1, z2, D.s00, D'.s00]; rfl
  · rw [PT_at hp]
    unfold pT
    rw [z1, z2, D.sta.2.2.1, D'.sta.2.2.1]; rfl
/-- Sums over the charges of the product. -/
theorem P_sum {f g : Nat → Int} {h : Nat → Int} (he : ∀ x, x < T.length * T'.length → MM (h x) (f (x / T'.length) * g (x % T'.length))) : MM (sm h (T.length * T'.length)) (sm f T.length * sm g T'.length) :=
  (sm_MM he).trans (MM.of_eq (sm_pair2 f g _ _))
theorem whl_MM (S : List (List Int)) (n : Nat) : MM (whl S n) (sm (fun j => ss S 0 j * ss S 0 j) n) := MM.mod _
theorem mul4 (a b c d : Int) : a * b * (c * d) = a * c * (b * d) := by simp only [Int.mul_assoc, Int.mul_left_comm]
theorem P_whl (D : Dat S T) (D' : Dat S' T') : MM (whl (PS S S' T T') (T.length * T'.length)) (whl S T.length * whl S' T'.length) := by
  have hp : 0 < T.length * T'.length := Nat.mul_pos D.shp.pos D'.shp.pos
  refine (whl_MM _ _).trans ((P_sum (f := fun j => ss S 0 j * ss S 0 j) (g := fun j => ss S' 0 j * ss S' 0 j) fun x hx => ?_).trans (MM.mul (whl_MM S T.length).symm (whl_MM S' T'.length).symm))
  rw [PS_at hp hx]
  refine (MM.mul (pS_MM _ _) (pS_MM _ _)).trans (MM.of_eq ?_)
  rw [Nat.zero_div, Nat.zero_mod, mul4]
theorem P_whl0 (D : Dat S T) (D' : Dat S' T') : whl (PS S S' T T') (PT T T').length ≠ 0 := by
  rw [PT_len]
  intro h
  have h1 := P_whl D D'
  rw [h] at h1
  exact num_ne (num_whl S T.length) (num_whl S' T'.length) D.wh D'.wh h1.symm
theorem tmE_num (A B : List (List Int)) (i j : Nat) : num (tmE A B i j) := num_mod _
theorem tmE_MM (A B : List (List Int)) (i j : Nat) : MM (tmE A B i j) (sm (fun k => ss A i k * ss B k j) B.length) := MM.mod _
/-- Products of matrices of pairs. -/
theorem P_tm {A A' B B' C C' : List (List Int)} (hB : B.length = T.length) (hB' : B'.length = T'.length) (hC : C'.length = T.length * T'.length) {x y : Nat} (hx : x < T.length * T'.length) (hy : y < T.length * T'.length)
    (h1 : ∀ k, k < T.length * T'.length → MM (ss C x k) (ss A (x / T'.length) (k / T'.length) * ss A' (x % T'.length) (k % T'.length)))
    (h2 : ∀ k, k < T.length * T'.length → MM (ss C' k y) (ss B (k / T'.length) (y / T'.length) * ss B' (k % T'.length) (y % T'.length))) :
    MM (tmE C C' x y) (tmE A B (x / T'.length) (y / T'.length) * tmE A' B' (x % T'.length) (y % T'.length)) := by
  refine (tmE_MM _ _ _ _).trans ?_
  rw [hC]
  refine (P_sum (f := fun k => ss A (x / T'.length) k * ss B k (y / T'.length)) (g := fun k => ss A' (x % T'.length) k * ss B' k (y % T'.length)) fun k hk => ?_).trans ?_
  · exact (MM.mul (h1 k hk) (h2 k hk)).trans (MM.of_eq (mul4 _ _ _ _))
  · have e1 := tmE_MM A B (x / T'.length) (y / T'.length)
    have e2 := tmE_MM A' B' (x % T'.length) (y % T'.length)
    rw [hB] at e1; rw [hB'] at e2
    exact MM.mul e1.symm e2.symm
theorem P_sq (D : Dat S T) (D' : Dat S' T') {x y : Nat} (hx : x < T.length * T'.length) (hy : y < T.length * T'.length) : MM (tmE (PS S S' T T') (PS S S' T T') x y) (tmE S S (x / T'.length) (y / T'.length) * tmE S' S' (x % T'.length) (y % T'.length)) :=
  P_tm D.shp.lS D'.shp.lS PS_len hx hy (fun k hk => by rw [PS_at hx hk]; exact pS_MM _ _) (fun k hk => by rw [PS_at hk hy]; exact pS_MM _ _)
/-- The square of S, as told by the conjugation. -/
theorem sqE_of (D : Dat S T) {i j : Nat} (hi : i < T.length) (hj : j < T.length) : tmE S S i j = if j = sg S T i then whl S T.length else 0 := by
  have h1 : MM (tmE S S i j) (if j = sg S T i then whl S T.length else 0) := by
    refine (tmE_MM _ _ _ _).trans ?_
    rw [D.shp.lS]
    refine (MM.of_eq (sm_congr fun k hk => ?_)).trans (D.sq hi hj)
    rw [D.sym hk hj]
  exact MM_num h1 (tmE_num _ _ _ _) (by split; exact num_whl S T.length; exact ⟨Int.le_refl _, by decide⟩)
theorem Dat.tsg (D : Dat S T) {i : Nat} (hi : i < T.length) : atI T (sg S T i) = atI T i := (D.cj.1 i hi).2.2.2
theorem P_sqE (D : Dat S T) (D' : Dat S' T') {x y : Nat} (hx : x < T.length * T'.length) (hy : y < T.length * T'.length) : tmE (PS S S' T T') (PS S S' T T') x y = if y = psg S S' T T' x then whl (PS S S' T T') (T.length * T'.length) else 0 := by
  have h1 := P_sq D D' hx hy
  obtain ⟨x1, x2⟩ := pr_lt hx
  obtain ⟨y1, y2⟩ := pr_lt hy
  rw [sqE_of D x1 y1, sqE_of D' x2 y2] at h1
  refine MM_num ?_ (tmE_num _ _ _ _) (by split; exact num_whl _ _; exact ⟨Int.le_refl _, by decide⟩)
  refine h1.trans ?_
  have hs := (D'.sgA x2).2.1
  by_cases h : y = psg S S' T T' x
  · obtain ⟨e1, e2⟩ := (pr_eq hs).1 h
    rw [if_pos h, if_pos e1, if_pos e2]
    exact (P_whl D D').symm
  · rw [if_neg h]
    by_cases e1 : y / T'.length = sg S T (x / T'.length)
    · by_cases e2 : y % T'.length = sg S' T' (x % T'.length)
      · exact absurd ((pr_eq hs).2 ⟨e1, e2⟩) h
      · rw [if_neg e2, Int.mul_zero]; exact MM.rfl
    · rw [if_neg e1, Int.zero_mul]; exact MM.rfl
theorem P_cjA (D : Dat S T) (D' : Dat S' T') {x : Nat} (hx : x < T.length * T'.length) : cjA (PS S S' T T') (PT T T') x = psg S S' T T' x := by
  have hr : row (tms (PS S S' T T') (PS S S' T T')) x = rws (fun j => tmE (PS S S' T T') (PS S S' T T') x j) (T.length * T'.length) := by
    rw [tms_row (by rw [PS_len]; exact hx), PS_len]
  have hp := psg_lt D D' hx
  unfold cjA
  rw [PT_len, hr]
  have h0 := P_whl0 D D'
  rw [PT_len] at h0
  have := ix_some (xs := rws (fun j => tmE (PS S S' T T') (PS S S' T T') x j) (T.length * T'.length)) (n := whl (PS S S' T T') (T.length * T'.length)) (k := psg S S' T T' x) 0 (by rw [zfe]; exact hp) (by rw [atI_rws _ hp, P_sqE D D' hx hp, if_pos rfl]) (fun j hj => by
    rw [atI_rws _ (by omega), P_sqE D D' hx (by omega), if_neg (by omega)]; exact fun h => h0 h.symm)
  rw [this]; simp
theorem psg_inj (D : Dat S T) (D' : Dat S' T') {x y : Nat} (hx : x < T.length * T'.length) (hy : y < T.length * T'.length) (h : psg S S' T T' x = psg S S' T T' y) : x = y := by
  obtain ⟨x1, x2⟩ := pr_lt hx
  obtain ⟨y1, y2⟩ := pr_lt hy
  obtain ⟨a1, a2⟩ := psg_div (S := S) (T := T) D' hx
  obtain ⟨b1, b2⟩ := psg_div (S := S) (T := T) D' hy
  have e1 : x / T'.length = y / T'.length := by
    rw [← D.sgsg x1, ← D.sgsg y1, ← a1, ← b1, h]
  have e2 : x % T'.length = y % T'.length := by
    rw [← D'.sgsg x2, ← D'.sgsg y2, ← a2, ← b2, h]
  rw [← pr_eta x T'.length, ← pr_eta y T'.length, e1, e2]
theorem P_cj (D : Dat S T) (D' : Dat S' T') : CjP (PS S S' T T') (PT T T') := by
  have hp : 0 < T.length * T'.length := Nat.mul_pos D.shp.pos D'.shp.pos
  refine ⟨fun x hx => ?_, ?_⟩
  · rw [PT_len] at hx
    have hps := psg_lt D D' hx
    have hc := P_cjA D D' hx
    refine ⟨fun k hk hne => ?_, by rw [hc]; omega, fun j hj => ?_, ?_⟩
    · rw [PT_len] at hk
      rw [tms_row (by rw [PS_len]; exact hx), PS_len, atI_rws _ hk, P_sqE D D' hx hk, if_neg]
      intro e
      rw [hc] at hne
      omega
    · rw [hc, P_cjA D D' (by omega)]
      intro e
      have := psg_inj D D' (by omega : j < T.length * T'.length) hx (by omega)
      omega
    · rw [hc, Int.toNat_natCast, PT_at hps, PT_at hx]
      obtain ⟨x1, x2⟩ := pr_lt hx
      obtain ⟨a1, a2⟩ := psg_div (S := S) (T := T) D' hx
      unfold pT
      rw [a1, a2, D.tsg x1, D'.tsg x2]
  · rw [P_cjA D D' hp]
    unfold psg
    rw [Nat.zero_div, Nat.zero_mod, D.sg0, D'.sg0]
    simp
theorem P_sg (D : Dat S T) (D' : Dat S' T') {x : Nat} (hx : x < T.length * T'.length) : sg (PS S S' T T') (PT T T') x = psg S S' T T' x := by
  unfold sg
  rw [P_cjA D D' hx]; rfl
/-! ### The condition 3 -/
theorem uM_at {i j : Nat} (hi : i < T.length) (hj : j < T.length) : ss (uM S T) i j = uE S T i j := matL_at hi hj
theorem uM_len : (uM S T).length = T.length := zfe _ _
theorem P_u {x y : Nat} (hx : x < T.length * T'.length) (hy : y < T.length * T'.length) : MM (ss (uM (PS S S' T T') (PT T T')) x y) (ss (uM S T) (x / T'.length) (y / T'.length) * ss (uM S' T') (x % T'.length) (y % T'.length)) := by
  obtain ⟨x1, x2⟩ := pr_lt hx
  obtain ⟨y1, y2⟩ := pr_lt hy
  rw [uM_at (by rw [PT_len]; exact hx) (by rw [PT_len]; exact hy), uM_at x1 y1, uM_at x2 y2]
  unfold uE
  refine (MM.mod _).trans ?_
  have h1 : MM (atI (row (PS S S' T T') x) y * atI (PT T T') y) (ss S (x / T'.length) (y / T'.length) * ss S' (x % T'.length) (y % T'.length) * (atI T (y / T'.length) * atI T' (y % T'.length))) := by
    refine MM.mul ?_ ?_
    · show MM (ss _ x y) _
      rw [PS_at hx hy]; exact pS_MM _ _
    · rw [PT_at hy]; exact MM.mod _
  refine h1.trans (MM.trans (MM.of_eq (mul4 _ _ _ _)) (MM.mul (MM.mod _).symm (MM.mod _).symm))
theorem gsV_MM (S : List (List Int)) (T : List Int) : MM (gsV S T) (sm (fun l => ss S 0 l * ss S 0 l * atI T l) T.length) := by
  refine (MM.mod _).trans (sm_MM fun l _ => ?_)
  unfold gsT
  exact (MM.mod _).trans (MM.mul (MM.mod _) MM.rfl)
theorem P_gs (D : Dat S T) (D' : Dat S' T') : MM (gsV (PS S S' T T') (PT T T')) (gsV S T * gsV S' T') := by
  have hp : 0 < T.length * T'.length := Nat.mul_pos D.shp.pos D'.shp.pos
  refine (gsV_MM _ _).trans ?_
  rw [PT_len]
  refine (P_sum (f := fun l => ss S 0 l * ss S 0 l * atI T l) (g := fun l => ss S' 0 l * ss S' 0 l * atI T' l) fun x hx => ?_).trans (MM.mul (gsV_MM S T).symm (gsV_MM S' T').symm)
  rw [PS_at hp hx, PT_at hx]
  refine (MM.mul (MM.mul (pS_MM _ _) (pS_MM _ _)) (MM.mod _)).trans (MM.of_eq ?_)
  rw [Nat.zero_div, Nat.zero_mod, mul4 (ss S 0 _), mul4 (ss S 0 _ * ss S 0 _)]
theorem P_tur (D : Dat S T) (D' : Dat S' T') (h16 : T.length * T'.length ≤ 16) : TurP (PS S S' T T') (PT T T') := by
  refine (Tur_iff (PS_shp D D' h16).2).2 fun x hx y hy => ?_
  rw [PT_len] at hx hy
  obtain ⟨x1, x2⟩ := pr_lt hx
  obtain ⟨y1, y2⟩ := pr_lt hy
  have ul : (uM (PS S S' T T') (PT T T')).length = T.length * T'.length := by rw [uM_len, PT_len]
  have hUU : ∀ k, k < T.length * T'.length → MM (ss (tms (uM (PS S S' T T') (PT T T')) (uM (PS S S' T T') (PT T T'))) x k) (ss (tms (uM S T) (uM S T)) (x / T'.length) (k / T'.length) * ss (tms (uM S' T') (uM S' T')) (x % T'.length) (k % T'.length)) := by
    intro k hk
    obtain ⟨k1, k2⟩ := pr_lt hk
    show MM (atI (row _ x) k) (atI (row _ _) _ * atI (row _ _) _)
    rw [tms_row (by rw [ul]; exact hx), tms_row (by rw [uM_len]; exact x1), tms_row (by rw [uM_len]; exact x2), atI_rws _ (by rw [ul]; exact hk), atI_rws _ (by rw [uM_len]; exact k1), atI_rws _ (by rw [uM_len]; exact k2)]
    exact P_tm uM_len uM_len ul hx hk (fun q hq => P_u hx hq) (fun q hq => P_u hq hk)
  have h1 := P_tm (C := tms (uM (PS S S' T T') (PT T T')) (uM (PS S S' T T') (PT T T'))) (C' := uM (PS S S' T T') (PT T T')) (A := tms (uM S T) (uM S T)) (A' := tms (uM S' T') (uM S' T')) (B := uM S T) (B' := uM S' T') uM_len uM_len ul hx hy hUU (fun q hq => P_u hq hy)
  have t1 := (Tur_iff D.shp).1 D.tur _ x1 _ y1
  have t2 := (Tur_iff D'.shp).1 D'.tur _ x2 _ y2
  rw [t1, t2] at h1
  refine MM_num ?_ (tmE_num _ _ _ _) (num_mod _)
  refine h1.trans (MM.modr ?_)
  refine (MM.mul (MM.mod _) (MM.mod _)).trans (MM.trans (MM.of_eq (mul4 _ _ _ _)) (MM.mul (P_gs D D').symm (P_sq D D' hx hy).symm))
end
end Go.Proofs.YtbopenehooiekaaGreat

/- Products of data: the numbers N; when the product is data. -/
namespace Go.Proofs.YtbopenehooiekaaGreat
open Go.RowKit
set_option maxRecDepth 1000000

theorem nm_of {S : List (List Int)} {T : List Int} (i j : Nat) {k : Nat} (hc : atI (cjL S T) k = sg S T k) : MM (nmC S T i j k) (pw (whl S T.length) 55439 * sm (fun l => ss S i l * ss S j l * (pw (ss S 0 l) 55439 * ss S (sg S T k) l)) T.length) := by
  unfold nmC nmE
  refine (MM.mod _).trans ?_
  rw [mul_sm]
  refine sm_MM fun l hl => ?_
  rw [atI_rws _ hl, hc, Int.toNat_natCast]
  unfold both inv0
  show MM (ss S i l * ss S j l % 55441 * (pw (ss S 0 l) 55439 * pw (whl S T.length) 55439 % 55441) % 55441 * ss S (sg S T k) l) _
  generalize ss S i l = x
  generalize ss S j l = y
  generalize pw (ss S 0 l) 55439 = u
  generalize pw (whl S T.length) 55439 = w
  generalize ss S (sg S T k) l = z
  refine (MM.mul ((MM.mod _).trans (MM.mul (MM.mod _) (MM.mod _))) MM.rfl).trans (MM.of_eq ?_)
  simp only [Int.mul_assoc, Int.mul_comm, Int.mul_left_comm]
theorem pw_num_MM {a b c : Int} (hc : num c) (h : MM c (a * b)) : MM (pw c 55439) (pw a 55439 * pw b 55439) := by
  have : c = a * b % 55441 := MM_num (MM.modr h) hc (num_mod _)
  rw [this]
  exact pw_MM a b

/-- What makes numbers a ring. -/
theorem RingP_of {F : Nat → Nat → Nat → Int} {n : Nat} (hp : 0 < n) (h16 : n ≤ 16) (hc : cubeOk F n) (hu : ∀ i, i < n → ∀ k, k < n → F 0 i k = dlt i k ∧ F i 0 k = dlt i k)
    {σ : Nat → Nat} (hs : ∀ i, i < n → σ i < n ∧ σ (σ i) = i) (hd : ∀ i, i < n → ∀ j, j < n → F i j 0 = if j = σ i then 1 else 0)
    (ht : ∀ i, i < n → ∀ j, j < n → ∀ k, k < n → F i j k = F (σ i) k j ∧ F i j k = F k (σ j) i)
    (ha : ∀ i, i < n → ∀ j, j < n → ∀ k, k < n → ∀ l, l < n → sm (fun m => F i j m * F m k l) n = sm (fun m => F j k m * F i m l) n) : RingP (cubeL F n) := by
  have hl : (cubeL F n).length = n := zfe _ _
  have hdl : ∀ i, i < n → dlT (cubeL F n) i = σ i := by
    intro i hi
    unfold dlT
    rw [hl]
    refine du_is ⟨(hs i hi).1, ?_, fun k hk hne => ?_⟩
    · show at3 _ _ _ _ = _
      rw [at3_cube hi (hs i hi).1 hp, hd i hi _ (hs i hi).1, if_pos rfl]
    · show at3 _ _ _ _ = _
      rw [at3_cube hi hk hp, hd i hi _ hk, if_neg hne]
  refine ⟨(CubeP_iff hp).2 ⟨hc, h16⟩, ?_⟩
  have h1 : F1 (cubeL F n) = none := by
    unfold F1
    rw [hl]
    refine fnd_none.2 fun i hi => fnd_none.2 fun k hk => if_pos ?_
    rw [at3_cube hp hi hk, at3_cube hi hp hk]
    exact hu i hi k hk
  have h2 : F2 (cubeL F n) = none := by
    unfold F2
    rw [hl]
    refine fnd_none.2 fun i hi => if_neg ?_
    rw [hdl i hi, Int.toNat_natCast, hdl _ (hs i hi).1, (hs i hi).2]
    intro h
    rcases h with h | h
    · omega
    · exact h rfl
  have h3 : F3 (cubeL F n) = none := by
    unfold F3
    rw [hl]
    refine fnd_none.2 fun i hi => fnd_none.2 fun j hj => fnd_none.2 fun k hk => if_pos ?_
    rw [hdl i hi, hdl j hj, Int.toNat_natCast, Int.toNat_natCast, at3_cube hi hj hk, at3_cube (hs i hi).1 hk hj, at3_cube hk (hs j hj).1 hi]
    exact ht i hi j hj k hk
  rw [RF4 h1 h2 h3]
  unfold F4
  rw [hl]
  refine fnd_none.2 fun i hi => fnd_none.2 fun j hj => fnd_none.2 fun k hk => fnd_none.2 fun l hl' => if_pos ?_
  rw [hl]
  have e1 : sm (lft (cubeL F n) i j k l) n = sm (fun m => F i j m * F m k l) n := sm_congr fun m hm => by
    unfold lft; rw [at3_cube hi hj hm, at3_cube hm hk hl']
  have e2 : sm (rgt (cubeL F n) i j k l) n = sm (fun m => F j k m * F i m l) n := sm_congr fun m hm => by
    unfold rgt; rw [at3_cube hj hk hm, at3_cube hi hm hl']
  rw [e1, e2]
  exact ha i hi j hj k hk l hl'

section
variable {S S' : List (List Int)} {T T' : List Int}
/-- The numbers N of the product, as integers. -/
def nn (S S' : List (List Int)) (T T' : List Int) (x y z : Nat) : Int := nmC S T (x / T'.length) (y / T'.length) (z / T'.length) * nmC S' T' (x % T'.length) (y % T'.length) (z % T'.length)
theorem P_nm (D : Dat S T) (D' : Dat S' T') {x y z : Nat} (hx : x < T.length * T'.length) (hy : y < T.length * T'.length) (hz : z < T.length * T'.length) : MM (nmC (PS S S' T T') (PT T T') x y z) (nn S S' T T' x y z) := by
  have hp : 0 < T.length * T'.length := by omega
  obtain ⟨z1, z2⟩ := pr_lt hz
  have hcz : atI (cjL (PS S S' T T') (PT T T')) z = sg (PS S S' T T') (PT T T') z := by
    have : atI (cjL (PS S S' T T') (PT T T')) z = cjA (PS S S' T T') (PT T T') z := atI_rws _ (by rw [PT_len]; exact hz)
    rw [this, P_cjA D D' hz, P_sg D D' hz]
  refine (nm_of x y hcz).trans ?_
  rw [PT_len, P_sg D D' hz]
  have hps := psg_lt D D' hz
  have hw := pw_num_MM (num_whl _ _) (P_whl D D')
  have hsum : MM (sm (fun l => ss (PS S S' T T') x l * ss (PS S S' T T') y l * (pw (ss (PS S S' T T') 0 l) 55439 * ss (PS S S' T T') (psg S S' T T' z) l)) (T.length * T'.length))
      (sm (fun l => ss S (x / T'.length) l * ss S (y / T'.length) l * (pw (ss S 0 l) 55439 * ss S (sg S T (z / T'.length)) l)) T.length * sm (fun l => ss S' (x % T'.length) l * ss S' (y % T'.length) l * (pw (ss S' 0 l) 55439 * ss S' (sg S' T' (z % T'.length)) l)) T'.length) := by
    refine P_sum (f := fun l => ss S (x / T'.length) l * ss S (y / T'.length) l * (pw (ss S 0 l) 55439 * ss S (sg S T (z / T'.length)) l)) (g := fun l => ss S' (x % T'.length) l * ss S' (y % T'.length) l * (pw (ss S' 0 l) 55439 * ss S' (sg S' T' (z % T'.length)) l)) fun l hl => ?_
    rw [PS_at hx hl, PS_at hy hl, PS_at hp hl, PS_at hps hl]
    obtain ⟨e1, e2⟩ := psg_div (S := S) (T := T) D' hz
    have h0 : MM (pw (pS S S' T' 0 l) 55439) (pw (ss S 0 (l / T'.length)) 55439 * pw (ss S' 0 (l % T'.length)) 55439) := by
      have := pw_num_MM (pS_num (S := S) (S' := S') (T' := T') 0 l) (pS_MM 0 l)
      rwa [Nat.zero_div, Nat.zero_mod] at this
    have hps' : MM (pS S S' T' (psg S S' T T' z) l) (ss S (sg S T (z / T'.length)) (l / T'.length) * ss S' (sg S' T' (z % T'.length)) (l % T'.length)) := by
      have := pS_MM (S := S) (S' := S') (T' := T') (psg S S' T T' z) l
      rwa [e1, e2] at this
    refine (MM.mul (MM.mul (pS_MM _ _) (pS_MM _ _)) (MM.mul h0 hps')).trans (MM.of_eq ?_)
    rw [mul4 (ss S (x / T'.length) _), mul4 (pw (ss S 0 _) _), mul4 (ss S (x / T'.length) _ * _)]
  refine (MM.mul hw hsum).trans ?_
  unfold nn
  rw [mul4]
  exact MM.mul (D.nm _ _ z1).symm (D'.nm _ _ z2).symm
theorem nn_nonneg (D : Dat S T) (D' : Dat S' T') {x y z : Nat} (hx : x < T.length * T'.length) (hy : y < T.length * T'.length) (hz : z < T.length * T'.length) : 0 ≤ nn S S' T T' x y z :=
  Int.mul_nonneg (D.nm_bnd (pr_lt hx).1 (pr_lt hy).1 (pr_lt hz).1).1 (D'.nm_bnd (pr_lt hx).2 (pr_lt hy).2 (pr_lt hz).2).1
/-- All numbers N of the product stay in their range. -/
def PCub (S S' : List (List Int)) (T T' : List Int) : Prop := ∀ x, x < T.length * T'.length → ∀ y, y < T.length * T'.length → ∀ z, z < T.length * T'.length → nn S S' T T' x y z ≤ 1000
theorem dlt_pair {m x z : Nat} (hm : 0 < m) : dlt (x / m) (z / m) * dlt (x % m) (z % m) = dlt x z := by
  unfold dlt
  by_cases h : x = z
  · subst h; rw [if_pos rfl, if_pos rfl, if_pos rfl]; rfl
  · rw [if_neg h]
    by_cases h1 : x / m = z / m
    · by_cases h2 : x % m = z % m
      · exact absurd (by rw [← pr_eta x m, ← pr_eta z m, h1, h2]) h
      · rw [if_neg h2, Int.mul_zero]
    · rw [if_neg h1, Int.zero_mul]
theorem P_ring (D : Dat S T) (D' : Dat S' T') (h16 : T.length * T'.length ≤ 16) (hC : PCub S S' T T') : RingP (cubeL (nmC (PS S S' T T') (PT T T')) (T.length * T'.length)) := by
  have hp : 0 < T.length * T'.length := Nat.mul_pos D.shp.pos D'.shp.pos
  have hm := D'.shp.pos
  have hE : ∀ {x y z}, x < T.length * T'.length → y < T.length * T'.length → z < T.length * T'.length → nmC (PS S S' T T') (PT T T') x y z = nn S S' T T' x y z := fun {x y z} hx hy hz => by
    refine MM_num (P_nm D D' hx hy hz) (num_mod _) ⟨nn_nonneg D D' hx hy hz, ?_⟩
    have := hC x hx y hy z hz
    omega
  refine RingP_of hp h16 (σ := psg S S' T T') (fun x hx y hy z hz => ?_) (fun x hx z hz => ?_) (fun x hx => ?_) (fun x hx y hy => ?_) (fun x hx y hy z hz => ?_) (fun x hx y hy z hz w hw => ?_)
  · rw [hE hx hy hz]; exact ⟨nn_nonneg D D' hx hy hz, hC x hx y hy z hz⟩
  · obtain ⟨x1, x2⟩ := pr_lt hx
    obtain ⟨z1, z2⟩ := pr_lt hz
    rw [hE hp hx hz, hE hx hp hz]
    unfold nn
    rw [Nat.zero_div, Nat.zero_mod, (D.unit x1 z1).1, (D'.unit x2 z2).1, (D.unit x1 z1).2, (D'.unit x2 z2).2, dlt_pair hm]
    exact ⟨rfl, rfl⟩
  · obtain ⟨x1, x2⟩ := pr_lt hx
    have hl := psg_lt D D' hx
    refine ⟨hl, ?_⟩
    obtain ⟨e1, e2⟩ := psg_div (S := S) (T := T) D' hx
    have : psg S S' T T' (psg S S' T T' x) = sg S T (psg S S' T T' x / T'.length) * T'.length + sg S' T' (psg S S' T T' x % T'.length) := rfl
    rw [this, e1, e2, D.sgsg x1, D'.sgsg x2, pr_eta]
  · obtain ⟨x1, x2⟩ := pr_lt hx
    obtain ⟨y1, y2⟩ := pr_lt hy
    rw [hE hx hy hp]
    unfold nn
    rw [Nat.zero_div, Nat.zero_mod, D.nm0 x1 y1, D'.nm0 x2 y2]
    have hs := (D'.sgA x2).2.1
    by_cases h : y = psg S S' T T' x
    · obtain ⟨e1, e2⟩ := (pr_eq hs).1 h
      rw [if_pos h, if_pos e1, if_pos e2]; rfl
    · rw [if_neg h]
      by_cases e1 : y / T'.length = sg S T (x / T'.length)
      · by_cases e2 : y % T'.length = sg S' T' (x % T'.length)
        · exact absurd ((pr_eq hs).2 ⟨e1, e2⟩) h
        · rw [if_neg e2, Int.mul_zero]
      · rw [if_neg e1, Int.zero_mul]
  · obtain ⟨x1, x2⟩ := pr_lt hx
    obtain ⟨y1, y2⟩ := pr_lt hy
    obtain ⟨z1, z2⟩ := pr_lt hz
    obtain ⟨a1, a2⟩ := psg_div (S := S) (T := T) D' hx
    obtain ⟨b1, b2⟩ := psg_div (S := S) (T := T) D' hy
    rw [hE hx hy hz, hE (psg_lt D D' hx) hz hy, hE hz (psg_lt D D' hy) hx]
    unfold nn
    rw [a1, a2, b1, b2, ← (D.turn x1 y1 z1).1, ← (D'.turn x2 y2 z2).1, ← (D.turn x1 y1 z1).2, ← (D'.turn x2 y2 z2).2]
    exact ⟨rfl, rfl⟩
  · obtain ⟨x1, x2⟩ := pr_lt hx
    obtain ⟨y1, y2⟩ := pr_lt hy
    obtain ⟨z1, z2⟩ := pr_lt hz
    obtain ⟨w1, w2⟩ := pr_lt hw
    have e1 : sm (fun m => nmC (PS S S' T T') (PT T T') x y m * nmC (PS S S' T T') (PT T T') m z w) (T.length * T'.length) = sm (fun m => nmC S T (x / T'.length) (y / T'.length) m * nmC S T m (z / T'.length) (w / T'.length)) T.length * sm (fun m => nmC S' T' (x % T'.length) (y % T'.length) m * nmC S' T' m (z % T'.length) (w % T'.length)) T'.length := by
      rw [← sm_pair2]
      refine sm_congr fun m hm => ?_
      rw [hE hx hy hm, hE hm hz hw]
      unfold nn
      exact mul4 _ _ _ _
    have e2 : sm (fun m => nmC (PS S S' T T') (PT T T') y z m * nmC (PS S S' T T') (PT T T') x m w) (T.length * T'.length) = sm (fun m => nmC S T (y / T'.length) (z / T'.length) m * nmC S T (x / T'.length) m (w / T'.length)) T.length * sm (fun m => nmC S' T' (y % T'.length) (z % T'.length) m * nmC S' T' (x % T'.length) m (w % T'.length)) T'.length := by
      rw [← sm_pair2]
      refine sm_congr fun m hm => ?_
      rw [hE hy hz hm, hE hx hm hw]
      unfold nn
      exact mul4 _ _ _ _
    rw [e1, e2, D.assoc x1 y1 z1 w1, D'.assoc x2 y2 z2 w2]
/-- If the product is data, its numbers N are the products. -/
theorem P_cub (D : Dat S T) (D' : Dat S' T') (Dp : Dat (PS S S' T T') (PT T T')) : PCub S S' T T' := by
  intro x hx y hy z hz
  have hm := D'.shp.pos
  obtain ⟨x1, x2⟩ := pr_lt hx
  obtain ⟨y1, y2⟩ := pr_lt hy
  obtain ⟨z1, z2⟩ := pr_lt hz
  have hI : x / T'.length * T'.length + 0 < T.length * T'.length := pr_mk x1 hm
  have hJ : 0 * T'.length + x % T'.length < T.length * T'.length := pr_mk D.shp.pos x2
  obtain ⟨I1, I2⟩ := divm (n := x / T'.length) (k := 0) hm
  obtain ⟨J1, J2⟩ := divm (n := 0) (k := x % T'.length) x2
  generalize hIe : x / T'.length * T'.length + 0 = I at *
  generalize hJe : 0 * T'.length + x % T'.length = J at *
  have hl : (PT T T').length = T.length * T'.length := PT_len
  have ha := Dp.assoc (i := I) (j := J) (k := y) (l := z) (by rw [hl]; exact hI) (by rw [hl]; exact hJ) (by rw [hl]; exact hy) (by rw [hl]; exact hz)
  rw [hl] at ha
  have dl01 : ∀ i j, 0 ≤ dlt i j ∧ dlt i j ≤ 1 := fun i j => by unfold dlt; split <;> decide
  have hsm : ∀ {a b c : Nat}, a < T.length * T'.length → b < T.length * T'.length → c < T.length * T'.length → nn S S' T T' a b c ≤ 1000 → nmC (PS S S' T T') (PT T T') a b c = nn S S' T T' a b c := fun {a b c} h1 h2 h3 h4 =>
    MM_small (P_nm D D' h1 h2 h3) (Dp.nm_bnd (by rw [hl]; exact h1) (by rw [hl]; exact h2) (by rw [hl]; exact h3)) ⟨nn_nonneg D D' h1 h2 h3, h4⟩
  have n1 : ∀ q, q < T.length * T'.length → nmC (PS S S' T T') (PT T T') I J q = dlt x q := by
    intro q hq
    obtain ⟨q1, q2⟩ := pr_lt hq
    have e : nn S S' T T' I J q = dlt x q := by
      unfold nn
      rw [I1, I2, J1, J2, (D.unit x1 q1).2, (D'.unit x2 q2).1, dlt_pair hm]
    rw [hsm hI hJ hq (by rw [e]; have := dl01 x q; omega), e]
  have n2 : ∀ q, q < T.length * T'.length → nmC (PS S S' T T') (PT T T') J y q = dlt (y / T'.length) (q / T'.length) * nmC S' T' (x % T'.length) (y % T'.length) (q % T'.length) := by
    intro q hq
    obtain ⟨q1, q2⟩ := pr_lt hq
    have e : nn S S' T T' J y q = dlt (y / T'.length) (q / T'.length) * nmC S' T' (x % T'.length) (y % T'.length) (q % T'.length) := by
      unfold nn
      rw [J1, J2, (D.unit y1 q1).1]
    have b := D'.nm_bnd x2 y2 q2
    rw [hsm hJ hy hq (by
      rw [e]
      have h1 := dl01 (y / T'.length) (q / T'.length)
      have := bnd2 h1.1 h1.2 b.1 b.2
      omega), e]
  have n3 : ∀ q, q < T.length * T'.length → nmC (PS S S' T T') (PT T T') I q z = nmC S T (x / T'.length) (q / T'.length) (z / T'.length) * dlt (q % T'.length) (z % T'.length) := by
    intro q hq
    obtain ⟨q1, q2⟩ := pr_lt hq
    have e : nn S S' T T' I q z = nmC S T (x / T'.length) (q / T'.length) (z / T'.length) * dlt (q % T'.length) (z % T'.length) := by
      unfold nn
      rw [I1, I2, (D'.unit q2 z2).1]
    have b := D.nm_bnd x1 q1 z1
    rw [hsm hI hq hz (by
      rw [e]
      have h1 := dl01 (q % T'.length) (z % T'.length)
      have := bnd2 b.1 b.2 h1.1 h1.2
      omega), e]
  have e1 : sm (fun m => nmC (PS S S' T T') (PT T T') I J m * nmC (PS S S' T T') (PT T T') m y z) (T.length * T'.length) = nmC (PS S S' T T') (PT T T') x y z := by
    refine sm_pick hx fun q hq => ?_
    rw [n1 q hq]
    unfold dlt
    split
    · rename_i e; subst e; rw [if_pos rfl, Int.one_mul]
    · rename_i e; rw [if_neg fun h => e h.symm, Int.zero_mul]
  have e2 : sm (fun m => nmC (PS S S' T T') (PT T T') J y m * nmC (PS S S' T T') (PT T T') I m z) (T.length * T'.length) = nn S S' T T' x y z := by
    have hq0 : y / T'.length * T'.length + z % T'.length < T.length * T'.length := pr_mk y1 z2
    refine sm_pick hq0 fun q hq => ?_
    rw [n2 q hq, n3 q hq]
    split
    · rename_i e
      obtain ⟨q1, q2⟩ := (pr_eq z2).1 e
      rw [q1, q2]
      unfold nn dlt
      rw [if_pos rfl, if_pos rfl, Int.one_mul, Int.mul_one, Int.mul_comm]
    · rename_i e
      unfold dlt
      by_cases h1 : y / T'.length = q / T'.length
      · by_cases h2 : q % T'.length = z % T'.length
        · exact absurd ((pr_eq z2).2 ⟨h1.symm, h2⟩) e
        · rw [if_neg h2, Int.mul_zero, Int.mul_zero]
      · rw [if_neg h1, Int.zero_mul, Int.zero_mul]
  rw [e1, e2] at ha
  rw [← ha]
  exact (Dp.nm_bnd (by rw [hl]; exact hx) (by rw [hl]; exact hy) (by rw [hl]; exact hz)).2
/-- WHEN THE PRODUCT IS DATA. -/
theorem P_data (D : Dat S T) (D' : Dat S' T') (h16 : T.length * T'.length ≤ 16) : DataP (PS S S' T T') (PT T T') ↔ PCub S S' T T' := by
  refine ⟨fun h => P_cub D D' h.dat, fun h => ⟨(PS_shp D D' h16).1, ?_⟩⟩
  refine DF5 (P_sta D D' h16) (P_whl0 D D') (P_cj D D') (P_tur D D' h16) ?_
  rw [PT_len]
  have hl : (PT T T').length = T.length * T'.length := PT_len
  have := P_ring D D' h16 h
  unfold nmC at this
  rwa [hl] at this
end
end Go.Proofs.YtbopenehooiekaaGreat
