/- Texts joined: QX QY QZ. -/
import Derived.Test.YthpmddoakefbmaaGreatOj
import Derived.Test.YthpmddoakefbmaaGreatOk
set_option linter.all false
/- Sums, reverses, coboundaries and standard braidings are braidings. -/
namespace Go.Proofs.YthpmddoakefbmaaGreat
open Go.RowKit
set_option maxRecDepth 1000000
theorem md_ (u M : Int) : ∃ q, u % M = u + M * q := ⟨-(u / M), by rw [Int.emod_def, Int.mul_neg]; omega⟩
theorem mdk {u M : Int} (h : u % M = 0) : ∃ k, u = M * k := Int.dvd_of_emod_eq_zero h
theorem mdz {u M k : Int} (h : u = M * k) : u % M = 0 := by rw [h]; exact Int.mul_emod_right _ _
section
variable {O : List Int} {M : Int} {F F' : Nat → Nat → Nat → Int} {n k l : Nat} {G G' : Nat → Nat → Int}
theorem ft17_of (h : ∀ x, x < n → ∀ y, y < n → ∀ z, z < n → ∀ t, t < n → cyE O F x y z t % M = 0) : ft17 O M F n = none :=
 fnd_none.2 fun x hx => fnd_none.2 fun y hy => fnd_none.2 fun z hz => fnd_none.2 fun t ht => if_pos (h x hx y hy z hz t ht)
theorem if_none {α : Type} {p : Prop} [Decidable p] {v : α} (h : (if p then none else some v) = none) : p := by
 by_cases hp : p
 ·exact hp
 ·rw [if_neg hp] at h; cases h
theorem CoP.cy (h : CoP O M F n) {x y z t : Nat} (hx : x < n) (hy : y < n) (hz : z < n) (ht : t < n) : cyE O F x y z t % M = 0 :=
 if_none (fnd_none.1 (fnd_none.1 (fnd_none.1 (fnd_none.1 h.f x hx) y hy) z hz) t ht)
theorem ft18_of (h1 : ∀ x, x < n → ∀ y, y < n → ∀ z, z < n → b1E O F G x y z % M = 0) (h2 : ∀ x, x < n → ∀ y, y < n → ∀ z, z < n → b2E O F G x y z % M = 0) : ft18 O M F G n = none :=
 fnd_none.2 fun q hq => fnd_none.2 fun x hx => fnd_none.2 fun y hy => fnd_none.2 fun z hz => if_pos (by
  unfold bE
  by_cases h0 : q = 0
  ·rw [if_pos h0]; exact h1 x hx y hy z hz
  ·rw [if_neg h0]; exact h2 x hx y hy z hz)
theorem BrP.b1 (h : BrP O M F n G k l) {x y z : Nat} (hx : x < n) (hy : y < n) (hz : z < n) : b1E O F G x y z % M = 0 := by
 have := if_none (fnd_none.1 (fnd_none.1 (fnd_none.1 (fnd_none.1 h.f 0 (by omega)) x hx) y hy) z hz)
 unfold bE at this
 rwa [if_pos rfl] at this
theorem BrP.b2 (h : BrP O M F n G k l) {x y z : Nat} (hx : x < n) (hy : y < n) (hz : z < n) : b2E O F G x y z % M = 0 := by
 have := if_none (fnd_none.1 (fnd_none.1 (fnd_none.1 (fnd_none.1 h.f 1 (by omega)) x hx) y hy) z hz)
 unfold bE at this
 rwa [if_neg (by omega)] at this
theorem BsP.z (h : BsP O M F n G k l) {x y : Nat} (hx : x < n) (hy : y < n) (h0 : x = 0 ∨ y = 0) : G x y = 0 := ((h.p.2 x hx).2 y hy).2 h0
theorem emod_rg (u : Int) (hm : 1 ≤ M) : 0 ≤ u % M ∧ u % M ≤ M - 1 := by
 have := Int.emod_nonneg u (b := M) (by omega)
 have := Int.emod_lt_of_pos u (b := M) (by omega)
 omega
theorem br_add (h : BrP O M F n G k l) (h' : BrP O M F' n G' k l) : BrP O M (smF F F' M) n (sm2 G G' M) n n := by
 have hm := h.s.w.s.m.1
 refine ⟨⟨⟨⟨h.s.w.s.o, h.s.w.s.m, h.s.w.s.e, h.s.w.s.n8, fun x _ y _ z _ => emod_rg _ hm⟩, ?_, ?_⟩, rfl, ?_⟩, ?_⟩
 ·intro x hx y hy
  obtain ⟨a1, a2, a3⟩ := h.s.w.nm x hx y hy
  obtain ⟨b1, b2, b3⟩ := h'.s.w.nm x hx y hy
  unfold smF
  rw [a1, a2, a3, b1, b2, b3]
  simp
 ·refine ft17_of fun x hx y hy z hz t ht => ?_
  obtain ⟨k1, e1⟩ := mdk (h.s.w.cy hx hy hz ht)
  obtain ⟨k2, e2⟩ := mdk (h'.s.w.cy hx hy hz ht)
  unfold cyE at e1 e2 ⊢
  unfold smF
  obtain ⟨q1, g1⟩ := md_ (F y z t + F' y z t) M
  obtain ⟨q2, g2⟩ := md_ (F (adN O x y) z t + F' (adN O x y) z t) M
  obtain ⟨q3, g3⟩ := md_ (F x (adN O y z) t + F' x (adN O y z) t) M
  obtain ⟨q4, g4⟩ := md_ (F x y (adN O z t) + F' x y (adN O z t)) M
  obtain ⟨q5, g5⟩ := md_ (F x y z + F' x y z) M
  rw [g1, g2, g3, g4, g5]
  refine mdz (k := k1 + k2 + q1 - q2 + q3 - q4 + q5) ?_
  simp only [Int.mul_add, Int.mul_sub]
  omega
 ·intro x hx
  refine ⟨rfl, fun y hy => ⟨emod_rg _ hm, fun h0 => ?_⟩⟩
  unfold sm2
  rw [h.s.z hx hy h0, h'.s.z hx hy h0]
  simp
 ·refine ft18_of (fun x hx y hy z hz => ?_) (fun x hx y hy z hz => ?_)
  ·obtain ⟨k1, e1⟩ := mdk (h.b1 hx hy hz)
   obtain ⟨k2, e2⟩ := mdk (h'.b1 hx hy hz)
   unfold b1E at e1 e2 ⊢
   unfold smF sm2
   obtain ⟨q1, g1⟩ := md_ (F y z x + F' y z x) M
   obtain ⟨q2, g2⟩ := md_ (G x (adN O y z) + G' x (adN O y z)) M
   obtain ⟨q3, g3⟩ := md_ (F x y z + F' x y z) M
   obtain ⟨q4, g4⟩ := md_ (G x z + G' x z) M
   obtain ⟨q5, g5⟩ := md_ (F y x z + F' y x z) M
   obtain ⟨q6, g6⟩ := md_ (G x y + G' x y) M
   rw [g1, g2, g3, g4, g5, g6]
   refine mdz (k := k1 + k2 + q1 + q2 + q3 - q4 - q5 - q6) ?_
   simp only [Int.mul_add, Int.mul_sub]
   omega
  ·obtain ⟨k1, e1⟩ := mdk (h.b2 hx hy hz)
   obtain ⟨k2, e2⟩ := mdk (h'.b2 hx hy hz)
   unfold b2E at e1 e2 ⊢
   unfold smF sm2
   obtain ⟨q1, g1⟩ := md_ (G (adN O x y) z + G' (adN O x y) z) M
   obtain ⟨q2, g2⟩ := md_ (F z x y + F' z x y) M
   obtain ⟨q3, g3⟩ := md_ (F x y z + F' x y z) M
   obtain ⟨q4, g4⟩ := md_ (G x z + G' x z) M
   obtain ⟨q5, g5⟩ := md_ (G y z + G' y z) M
   obtain ⟨q6, g6⟩ := md_ (F x z y + F' x z y) M
   rw [g1, g2, g3, g4, g5, g6]
   refine mdz (k := k1 + k2 + q1 - q2 - q3 - q4 - q5 + q6) ?_
   simp only [Int.mul_add, Int.mul_sub]
   omega
theorem br_rev (h : BrP O M F n G k l) : BrP O M F n (rvG M G) n n := by
 have hm := h.s.w.s.m.1
 refine ⟨⟨h.s.w, rfl, ?_⟩, ?_⟩
 ·intro x hx
  refine ⟨rfl, fun y hy => ⟨emod_rg _ hm, fun h0 => ?_⟩⟩
  unfold rvG
  rw [h.s.z hy hx h0.symm]
  simp
 ·refine ft18_of (fun x hx y hy z hz => ?_) (fun x hx y hy z hz => ?_)
  ·obtain ⟨k1, e1⟩ := mdk (h.b2 hy hz hx)
   unfold b2E at e1
   unfold b1E rvG
   obtain ⟨q2, g2⟩ := md_ (-G (adN O y z) x) M
   obtain ⟨q4, g4⟩ := md_ (-G z x) M
   obtain ⟨q6, g6⟩ := md_ (-G y x) M
   rw [g2, g4, g6]
   refine mdz (k := q2 - q4 - q6 - k1) ?_
   simp only [Int.mul_add, Int.mul_sub]
   omega
  ·obtain ⟨k1, e1⟩ := mdk (h.b1 hz hx hy)
   unfold b1E at e1
   unfold b2E rvG
   obtain ⟨q1, g1⟩ := md_ (-G z (adN O x y)) M
   obtain ⟨q4, g4⟩ := md_ (-G z x) M
   obtain ⟨q5, g5⟩ := md_ (-G z y) M
   rw [g1, g4, g5]
   refine mdz (k := q1 - q4 - q5 - k1) ?_
   simp only [Int.mul_add, Int.mul_sub]
   omega
theorem rv_rv (h : BrP O M F n G k l) {x y : Nat} (hx : x < n) (hy : y < n) : rvG M (rvG M G) x y = G x y := by
 have hb := h.s.p.rg hx hy
 unfold rvG
 obtain ⟨q, g⟩ := md_ (-G x y) M
 rw [g, show -(-G x y + M * q) = G x y + M * (-q) by rw [Int.mul_neg]; omega, Int.add_mul_emod_self_left]
 exact Int.emod_eq_of_lt hb.1 (by omega)
theorem cobF_at {x y z : Nat} (hx : x < n) (hy : y < n) (hz : z < n) (h1 : adN O x y < n) (h2 : adN O y z < n) : cobF O M (matL G n n) x y z = (G y z - G (adN O x y) z + G x (adN O y z) - G x y) % M := by
 unfold cobF
 rw [matL_at hy hz, matL_at h1 hz, matL_at hx h2, matL_at hx hy]
theorem tuF_at {x y : Nat} (hx : x < n) (hy : y < n) : tuF M (matL G n n) x y = (G y x - G x y) % M := by
 unfold tuF
 rw [matL_at hy hx, matL_at hx hy]
theorem tuF_dg {x : Nat} : tuF M (matL G n n) x x = 0 := by unfold tuF; rw [Int.sub_self]; exact Int.zero_emod _
theorem br_cob (hl : O.length ≤ 6) (h : pcode O M G k l = 0) : BrP O M (cobF O M (matL G k k)) k (tuF M (matL G k k)) k k := by
 obtain ⟨hO, h8, hm, hp⟩ := pcode_0 h
 have hpp := pfx_pos1 hO.2
 have hg := hO.grp hl (by omega)
 obtain ⟨hk, hl2⟩ := sq_of hp (by omega)
 have hke : (k : Int) = pfx O O.length := by omega
 have k0 : 0 < k := by omega
 have had : ∀ x y, adN O x y < k := fun x y => by have := (hg.adN x y).2; omega
 have hz0 : ∀ {x y : Nat}, x < k → y < k → (x = 0 ∨ y = 0) → G x y = 0 := fun hx hy h0 => ((hp.2 _ (by omega)).2 _ (by omega)).2 h0
 have z0 : ∀ {x : Nat}, x < k → adN O 0 x = x := fun hx => hg.z0N (by omega)
 refine ⟨⟨⟨⟨hO, hm, hke, by omega, fun x _ y _ z _ => emod_rg _ hm.1⟩, ?_, ?_⟩, rfl, ?_⟩, ?_⟩
 ·intro x hx y hy
  rw [cobF_at k0 hx hy (had _ _) (had _ _), cobF_at hx k0 hy (had _ _) (had _ _), cobF_at hx hy k0 (had _ _) (had _ _)]
  have e1 := z0 hx
  have e2 := z0 hy
  have e3 : adN O x 0 = x := by rw [hg.cmN]; exact e1
  have e4 : adN O y 0 = y := by rw [hg.cmN]; exact e2
  rw [e1, e2, e3, e4]
  have g1 := hz0 k0 hx (Or.inl rfl)
  have g2 := hz0 k0 (had x y) (Or.inl rfl)
  have g3 := hz0 k0 hy (Or.inl rfl)
  have g4 := hz0 hx k0 (Or.inr rfl)
  have g5 := hz0 hy k0 (Or.inr rfl)
  have g6 := hz0 (had x y) k0 (Or.inr rfl)
  rw [g1, g2, g3, g4, g5, g6]
  refine ⟨mdz (k := 0) (by omega), mdz (k := 0) (by omega), mdz (k := 0) (by omega)⟩
 ·refine ft17_of fun x hx y hy z hz t ht => ?_
  unfold cyE
  rw [cobF_at hy hz ht (had _ _) (had _ _), cobF_at (had x y) hz ht (had _ _) (had _ _), cobF_at hx (had y z) ht (had _ _) (had _ _), cobF_at hx hy (had z t) (had _ _) (had _ _), cobF_at hx hy hz (had _ _) (had _ _)]
  rw [hg.acN x y z, hg.acN y z t]
  obtain ⟨q1, g1⟩ := md_ (G z t - G (adN O y z) t + G y (adN O z t) - G y z) M
  obtain ⟨q2, g2⟩ := md_ (G z t - G (adN O x (adN O y z)) t + G (adN O x y) (adN O z t) - G (adN O x y) z) M
  obtain ⟨q3, g3⟩ := md_ (G (adN O y z) t - G (adN O x (adN O y z)) t + G x (adN O y (adN O z t)) - G x (adN O y z)) M
  obtain ⟨q4, g4⟩ := md_ (G y (adN O z t) - G (adN O x y) (adN O z t) + G x (adN O y (adN O z t)) - G x y) M
  obtain ⟨q5, g5⟩ := md_ (G y z - G (adN O x y) z + G x (adN O y z) - G x y) M
  rw [g1, g2, g3, g4, g5]
  refine mdz (k := q1 - q2 + q3 - q4 + q5) ?_
  simp only [Int.mul_add, Int.mul_sub]
  omega
 ·intro x hx
  refine ⟨rfl, fun y hy => ?_⟩
  rw [tuF_at hx hy]
  refine ⟨emod_rg _ hm.1, fun h0 => ?_⟩
  rw [hz0 hx hy h0, hz0 hy hx h0.symm]
  simp
 ·refine ft18_of (fun x hx y hy z hz => ?_) (fun x hx y hy z hz => ?_)
  ·unfold b1E
   rw [cobF_at hy hz hx (had _ _) (had _ _), cobF_at hx hy hz (had _ _) (had _ _), cobF_at hy hx hz (had _ _) (had _ _), tuF_at hx (had _ _), tuF_at hx hz, tuF_at hx hy]
   rw [hg.cmN z x, hg.cmN y x]
   obtain ⟨q1, g1⟩ := md_ (G z x - G (adN O y z) x + G y (adN O x z) - G y z) M
   obtain ⟨q2, g2⟩ := md_ (G (adN O y z) x - G x (adN O y z)) M
   obtain ⟨q3, g3⟩ := md_ (G y z - G (adN O x y) z + G x (adN O y z) - G x y) M
   obtain ⟨q4, g4⟩ := md_ (G z x - G x z) M
   obtain ⟨q5, g5⟩ := md_ (G x z - G (adN O x y) z + G y (adN O x z) - G y x) M
   obtain ⟨q6, g6⟩ := md_ (G y x - G x y) M
   rw [g1, g2, g3, g4, g5, g6]
   refine mdz (k := q1 + q2 + q3 - q4 - q5 - q6) ?_
   simp only [Int.mul_add, Int.mul_sub]
   omega
  ·unfold b2E
   rw [cobF_at hz hx hy (had _ _) (had _ _), cobF_at hx hy hz (had _ _) (had _ _), cobF_at hx hz hy (had _ _) (had _ _), tuF_at (had _ _) hz, tuF_at hx hz, tuF_at hy hz]
   rw [hg.cmN z x, hg.cmN z y]
   obtain ⟨q1, g1⟩ := md_ (G z (adN O x y) - G (adN O x y) z) M
   obtain ⟨q2, g2⟩ := md_ (G x y - G (adN O x z) y + G z (adN O x y) - G z x) M
   obtain ⟨q3, g3⟩ := md_ (G y z - G (adN O x y) z + G x (adN O y z) - G x y) M
   obtain ⟨q4, g4⟩ := md_ (G z x - G x z) M
   obtain ⟨q5, g5⟩ := md_ (G z y - G y z) M
   obtain ⟨q6, g6⟩ := md_ (G z y - G (adN O x z) y + G x (adN O y z) - G x z) M
   rw [g1, g2, g3, g4, g5, g6]
   refine mdz (k := q1 - q2 - q3 - q4 - q5 + q6) ?_
   simp only [Int.mul_add, Int.mul_sub]
   omega
theorem br_bic (h : pcode O M G k l = 0) (hf : ft18 O M (fun _ _ _ => 0) G k = none) : BrP O M (fun _ _ _ => 0) k G k k := by
 obtain ⟨hO, h8, hm, hp⟩ := pcode_0 h
 have hpp := pfx_pos1 hO.2
 obtain ⟨hk, hl2⟩ := sq_of hp (by omega)
 refine ⟨⟨zero_co hO h8 hm (by omega), ?_⟩, hf⟩
 rw [← hk] at hp
 exact ⟨rfl, fun x hx => ⟨rfl, (hp.2 x hx).2⟩⟩
theorem adN_1 {n x y : Nat} (hn : 0 < n) (h16 : n ≤ 16) (hx : x < n) (hy : y < n) : (adN [(n : Int)] x y : Int) = (x : Int) + y - n * (if n ≤ x + y then 1 else 0) := by
 have hr : rvO [(n : Int)] = [(n : Int)] := by
  have h1 := (ordF_at (O := [(n : Int)]) (fun i hi => by
   have : i = 0 := Nat.lt_one_iff.1 hi
   subst this
   show (1 : Int) ≤ n ∧ (n : Int) ≤ 16
   omega) (k := 0) (by simp)).2
  show [((ordF [(n : Int)] 0).m : Int)] = _
  rw [h1]
  rfl
 unfold adN adO
 rw [hr]
 simp only [adB, Int.mul_zero, Int.add_zero]
 have e1 : (x : Int) % n = x := Int.emod_eq_of_lt (by omega) (by omega)
 have e2 : (y : Int) % n = y := Int.emod_eq_of_lt (by omega) (by omega)
 rw [e1, e2]
 by_cases h : n ≤ x + y
 ·rw [if_pos h, show (x : Int) + y = (x + y - n) + n * 1 by omega, Int.add_mul_emod_self_left, Int.emod_eq_of_lt (by omega) (by omega)]
  omega
 ·rw [if_neg h, Int.emod_eq_of_lt (by omega) (by omega)]
  omega
def cr (n x y : Nat) : Int := if n ≤ x + y then 1 else 0
theorem cr_cm (n x y : Nat) : cr n x y = cr n y x := by unfold cr; rw [Nat.add_comm]
theorem cr_cy {n y z t y' z' : Nat} (hy : y < n) (hz : z < n) (ht : t < n) (h1 : (y' : Int) = y + z - n * cr n y z) (h2 : (z' : Int) = z + t - n * cr n z t) : cr n y' t - cr n y z' + cr n y z = cr n z t := by
 unfold cr at h1 h2 ⊢
 by_cases c1 : n ≤ y + z
 ·by_cases c2 : n ≤ z + t
  ·rw [if_pos c1] at h1 ⊢
   rw [if_pos c2] at h2 ⊢
   by_cases c3 : n ≤ y' + t
   ·rw [if_pos c3, if_pos (by omega)]; omega
   ·rw [if_neg c3, if_neg (by omega)]; omega
  ·rw [if_pos c1] at h1 ⊢
   rw [if_neg c2] at h2 ⊢
   rw [if_neg (by omega), if_pos (by omega)]; omega
 ·by_cases c2 : n ≤ z + t
  ·rw [if_neg c1] at h1 ⊢
   rw [if_pos c2] at h2 ⊢
   rw [if_pos (by omega), if_neg (by omega)]; omega
  ·rw [if_neg c1] at h1 ⊢
   rw [if_neg c2] at h2 ⊢
   by_cases c3 : n ≤ y' + t
   ·rw [if_pos c3, if_pos (by omega)]; omega
   ·rw [if_neg c3, if_neg (by omega)]; omega
theorem stW_cr (n : Nat) (a : Int) (x y z : Nat) : stW n a x y z = a * n * x * cr n y z % (2 * n) := by
 unfold stW cr
 by_cases h : n ≤ y + z
 ·rw [if_pos h, if_pos h, Int.mul_one]
 ·rw [if_neg h, if_neg h, Int.mul_zero, Int.zero_emod]
theorem br_std {n : Nat} {a : Int} (h0 : 0 < n) (h8 : n ≤ 8) (h2 : ∃ e, a * n = 2 * e) : BrP [(n : Int)] (2 * n) (stW n a) n (stC n a) n n := by
 obtain ⟨e, he⟩ := h2
 have hO : OrdP [(n : Int)] := by
  refine ⟨Nat.zero_lt_succ 0, fun i hi => ?_⟩
  have : i = 0 := Nat.lt_one_iff.1 hi
  subst this
  show (1 : Int) ≤ n
  omega
 have hp : pfx [(n : Int)] 1 = n := Int.one_mul _
 have hg : GrpP [(n : Int)] := hO.grp (by simp) (by show pfx [(n : Int)] 1 ≤ 16; omega)
 have had : ∀ x y, adN [(n : Int)] x y < n := fun x y => by have := (hg.adN x y).2; rw [show [(n : Int)].length = 1 from rfl, hp] at this; omega
 have hm : (1 : Int) ≤ 2 * n := by omega
 have ad1 : ∀ {x y : Nat}, x < n → y < n → (adN [(n : Int)] x y : Int) = (x : Int) + y - n * cr n x y := fun hx hy => adN_1 h0 (by omega) hx hy
 have cz : ∀ {x : Nat}, x < n → cr n x 0 = 0 := fun hx => if_neg (by omega)
 refine ⟨⟨⟨⟨hO, by omega, hp.symm, h8, fun x _ y _ z _ => ?_⟩, ?_, ?_⟩, rfl, ?_⟩, ?_⟩
 ·rw [stW_cr]; exact emod_rg _ hm
 ·intro x hx y hy
  rw [stW_cr, stW_cr, stW_cr, cr_cm n 0 y, cz hy, Int.mul_zero, Int.zero_emod, show ((0 : Nat) : Int) = 0 from rfl, Int.mul_zero, Int.zero_mul, Int.zero_emod]
  exact ⟨rfl, rfl, rfl⟩
 ·refine ft17_of fun x hx y hy z hz t ht => ?_
  unfold cyE
  rw [stW_cr, stW_cr, stW_cr, stW_cr, stW_cr, ad1 hx hy]
  obtain ⟨q1, g1⟩ := md_ (a * n * y * cr n z t) (2 * n)
  obtain ⟨q2, g2⟩ := md_ (a * n * (x + y - n * cr n x y) * cr n z t) (2 * n)
  obtain ⟨q3, g3⟩ := md_ (a * n * x * cr n (adN [(n : Int)] y z) t) (2 * n)
  obtain ⟨q4, g4⟩ := md_ (a * n * x * cr n y (adN [(n : Int)] z t)) (2 * n)
  obtain ⟨q5, g5⟩ := md_ (a * n * x * cr n y z) (2 * n)
  have hc := cr_cy hy hz ht (ad1 hy hz) (ad1 hz ht)
  rw [g1, g2, g3, g4, g5, he]
  generalize cr n (adN [(n : Int)] y z) t = c1 at hc ⊢
  generalize cr n y (adN [(n : Int)] z t) = c2 at hc ⊢
  generalize cr n y z = c3 at hc ⊢
  generalize cr n z t = c4 at hc ⊢
  subst hc
  refine mdz (k := q1 - q2 + q3 - q4 + q5 + e * cr n x y * (c1 - c2 + c3)) ?_
  grind
 ·intro x hx
  refine ⟨rfl, fun y hy => ⟨emod_rg _ hm, fun h0 => ?_⟩⟩
  unfold stC
  rcases h0 with rfl | rfl
  ·rw [show ((0 : Nat) : Int) = 0 from rfl, Int.mul_zero, Int.zero_mul, Int.zero_emod]
  ·rw [show ((0 : Nat) : Int) = 0 from rfl, Int.mul_zero, Int.zero_emod]
 ·refine ft18_of (fun x hx y hy z hz => ?_) (fun x hx y hy z hz => ?_)
  ·unfold b1E stC
   rw [stW_cr, stW_cr, stW_cr, ad1 hy hz, cr_cm n z x]
   obtain ⟨q1, g1⟩ := md_ (a * n * y * cr n x z) (2 * n)
   obtain ⟨q2, g2⟩ := md_ (a * x * (y + z - n * cr n y z)) (2 * n)
   obtain ⟨q3, g3⟩ := md_ (a * n * x * cr n y z) (2 * n)
   obtain ⟨q4, g4⟩ := md_ (a * x * z) (2 * n)
   obtain ⟨q5, g5⟩ := md_ (a * x * y) (2 * n)
   rw [g1, g2, g3, g4, g5]
   refine mdz (k := q1 + q2 + q3 - q4 - q1 - q5) ?_
   grind
  ·unfold b2E stC
   rw [stW_cr, stW_cr, stW_cr, ad1 hx hy, cr_cm n z y]
   obtain ⟨q1, g1⟩ := md_ (a * (x + y - n * cr n x y) * z) (2 * n)
   obtain ⟨q2, g2⟩ := md_ (a * n * z * cr n x y) (2 * n)
   obtain ⟨q3, g3⟩ := md_ (a * n * x * cr n y z) (2 * n)
   obtain ⟨q4, g4⟩ := md_ (a * x * z) (2 * n)
   obtain ⟨q5, g5⟩ := md_ (a * y * z) (2 * n)
   rw [g1, g2, g3, g4, g5]
   refine mdz (k := q1 - q2 - q3 - q4 - q5 + q3 - a * z * cr n x y) ?_
   grind
end
end Go.Proofs.YthpmddoakefbmaaGreat
/- The law's own comparisons. -/
namespace Go.Proofs.YthpmddoakefbmaaGreat
open Go.RowKit
set_option maxRecDepth 1000000
section
theorem cLike {a b : AV} {xs : List Int} (ha : isL a xs) (hb : isL b xs) (hx : xs.length ≤ maxN) : CallOK Tryz.prog 10 [a, b] (bo true) := by
 have hx2 : xs.length ≤ 4294967296 := hx
 refine call_of (fn := Tryz.f10) (code := bodyOf Tryz.f10) Tryz.func10 rfl (by kernel_rfl) (rfl) ?_
 intro sl hs
 have s0 : sl 0 = a := hs 0
 have s1 : sl 1 = b := hs 1
 dsimp only [Tryz.f10, bodyOf, Option.getD]
 simp (maxSteps := 10000000) (disch := first | assumption | omega) only [go_sem, ↓reduceIte, Nat.reduceEqDiff, reduceCtorEq, Nat.reduceAdd, Nat.reduceMul, Nat.reduceLeDiff, zc, Int.reduceToNat, s0, s1]
 refine WK_for (fun i st => st.sl 0 = a ∧ st.sl 1 = b ∧ st.sl 5 = i64 (i : Int)) xs.length ?_ ?_ ?_
 ·simp only [↓za, ↓reduceIte, Nat.reduceEqDiff, zb, reduceCtorEq, rws_zero, s0, s1]
  exact rfl
 ·rintro i sl ro gn hi ⟨s0, s1, s5⟩
  dsimp only at s0 s1 s5
  have hi' : (i : Int) < (xs.length : Nat) := by omega
  simp (maxSteps := 10000000) (disch := first | assumption | omega) only [go_sem, ↓reduceIte, Nat.reduceEqDiff, reduceCtorEq, Nat.reduceAdd, Nat.reduceMul, Nat.reduceLeDiff, zc, Int.reduceToNat, s0, s1, s5, hi', hi]
  refine FIN_of (by kernel_rfl) ?_
  simp (maxSteps := 10000000) (disch := first | assumption | omega) only [go_sem, ↓reduceIte, Nat.reduceEqDiff, reduceCtorEq, Nat.reduceAdd, Nat.reduceMul, Nat.reduceLeDiff, zc, Int.reduceToNat, s0, s1, s5, hi', hi]
  exact i64c (by omega)
 ·rintro sl ro gn ⟨s0, s1, s5⟩
  dsimp only at s0 s1 s5
  have hi' : ¬ ((xs.length : Nat) : Int) < (xs.length : Nat) := by omega
  simp (maxSteps := 10000000) (disch := first | assumption | omega) only [go_sem, ↓reduceIte, Nat.reduceEqDiff, reduceCtorEq, Nat.reduceAdd, Nat.reduceMul, Nat.reduceLeDiff, zc, Int.reduceToNat, s0, s1, s5, hi']
  simp only [zr, zb, retR, resL, outT, outL, zes, zez, oneV, zcp, zed, zfi, Ro.dl, St.ev, zhk, ↓za, ↓reduceIte, Nat.reduceEqDiff, Nat.reduceAdd, Nat.reduceLeDiff]
theorem cLikeR {a b : AV} {xs : List (List Int)} (ha : isLL a xs) (hb : isLL b xs) (hx : xs.length ≤ maxN) (hr : ∀ k, k < xs.length → (row xs k).length ≤ maxN) : CallOK Tryz.prog 56 [a, b] (bo true) := by
 have hx2 : xs.length ≤ 4294967296 := hx
 refine call_of (fn := Tryz.f56) (code := bodyOf Tryz.f56) Tryz.func56 rfl (by kernel_rfl) (rfl) ?_
 intro sl hs
 have s0 : sl 0 = a := hs 0
 have s1 : sl 1 = b := hs 1
 dsimp only [Tryz.f56, bodyOf, Option.getD]
 simp (maxSteps := 10000000) (disch := first | assumption | omega) only [go_sem, ↓reduceIte, Nat.reduceEqDiff, reduceCtorEq, Nat.reduceAdd, Nat.reduceMul, Nat.reduceLeDiff, zc, Int.reduceToNat, s0, s1]
 refine WK_for (fun i st => st.sl 0 = a ∧ st.sl 1 = b ∧ st.sl 5 = i64 (i : Int)) xs.length ?_ ?_ ?_
 ·simp only [↓za, ↓reduceIte, Nat.reduceEqDiff, zb, reduceCtorEq, rws_zero, s0, s1]
  exact rfl
 ·rintro i sl ro gn hi ⟨s0, s1, s5⟩
  dsimp only at s0 s1 s5
  have hi' : (i : Int) < (xs.length : Nat) := by omega
  have r1 := isLL_row ha (k := i) (by omega)
  have r2 := isLL_row hb (k := i) (by omega)
  have c1 := cLike r1 r2 (hr i hi)
  simp (maxSteps := 10000000) (disch := first | assumption | omega) only [go_sem, ↓reduceIte, Nat.reduceEqDiff, reduceCtorEq, Nat.reduceAdd, Nat.reduceMul, Nat.reduceLeDiff, zc, Int.reduceToNat, s0, s1, s5, hi', hi]
  refine CLLD_pure _ c1 PUt rfl ?_
  simp (maxSteps := 10000000) (disch := first | assumption | omega) only [go_sem, ↓reduceIte, Nat.reduceEqDiff, reduceCtorEq, Nat.reduceAdd, Nat.reduceMul, Nat.reduceLeDiff, zc, Int.reduceToNat, s0, s1, s5, hi', hi]
  refine FIN_of (by kernel_rfl) ?_
  simp (maxSteps := 10000000) (disch := first | assumption | omega) only [go_sem, ↓reduceIte, Nat.reduceEqDiff, reduceCtorEq, Nat.reduceAdd, Nat.reduceMul, Nat.reduceLeDiff, zc, Int.reduceToNat, s0, s1, s5, hi', hi]
  exact i64c (by omega)
 ·rintro sl ro gn ⟨s0, s1, s5⟩
  dsimp only at s0 s1 s5
  have hi' : ¬ ((xs.length : Nat) : Int) < (xs.length : Nat) := by omega
  simp (maxSteps := 10000000) (disch := first | assumption | omega) only [go_sem, ↓reduceIte, Nat.reduceEqDiff, reduceCtorEq, Nat.reduceAdd, Nat.reduceMul, Nat.reduceLeDiff, zc, Int.reduceToNat, s0, s1, s5, hi']
  simp only [zr, zb, retR, resL, outT, outL, zes, zez, oneV, zcp, zed, zfi, Ro.dl, St.ev, zhk, ↓za, ↓reduceIte, Nat.reduceEqDiff, Nat.reduceAdd, Nat.reduceLeDiff]
theorem cLikeC {a b : AV} {xs : List (List (List Int))} (ha : isLLL a xs) (hb : isLLL b xs) (hx : xs.length ≤ maxN) (hr : ∀ k, k < xs.length → (mat xs k).length ≤ maxN ∧ ∀ j, j < (mat xs k).length → (row (mat xs k) j).length ≤ maxN) : CallOK Tryz.prog 34 [a, b] (bo true) := by
 have hx2 : xs.length ≤ 4294967296 := hx
 refine call_of (fn := Tryz.f34) (code := bodyOf Tryz.f34) Tryz.func34 rfl (by kernel_rfl) (rfl) ?_
 intro sl hs
 have s0 : sl 0 = a := hs 0
 have s1 : sl 1 = b := hs 1
 dsimp only [Tryz.f34, bodyOf, Option.getD]
 simp (maxSteps := 10000000) (disch := first | assumption | omega) only [go_sem, ↓reduceIte, Nat.reduceEqDiff, reduceCtorEq, Nat.reduceAdd, Nat.reduceMul, Nat.reduceLeDiff, zc, Int.reduceToNat, s0, s1]
 refine WK_for (fun i st => st.sl 0 = a ∧ st.sl 1 = b ∧ st.sl 5 = i64 (i : Int)) xs.length ?_ ?_ ?_
 ·simp only [↓za, ↓reduceIte, Nat.reduceEqDiff, zb, reduceCtorEq, rws_zero, s0, s1]
  exact rfl
 ·rintro i sl ro gn hi ⟨s0, s1, s5⟩
  dsimp only at s0 s1 s5
  have hi' : (i : Int) < (xs.length : Nat) := by omega
  have r1 := isLLL_mat ha (k := i) (by omega)
  have r2 := isLLL_mat hb (k := i) (by omega)
  have c1 := cLikeR r1 r2 (hr i hi).1 (hr i hi).2
  simp (maxSteps := 10000000) (disch := first | assumption | omega) only [go_sem, ↓reduceIte, Nat.reduceEqDiff, reduceCtorEq, Nat.reduceAdd, Nat.reduceMul, Nat.reduceLeDiff, zc, Int.reduceToNat, s0, s1, s5, hi', hi]
  refine CLLD_pure _ c1 PUt rfl ?_
  simp (maxSteps := 10000000) (disch := first | assumption | omega) only [go_sem, ↓reduceIte, Nat.reduceEqDiff, reduceCtorEq, Nat.reduceAdd, Nat.reduceMul, Nat.reduceLeDiff, zc, Int.reduceToNat, s0, s1, s5, hi', hi]
  refine FIN_of (by kernel_rfl) ?_
  simp (maxSteps := 10000000) (disch := first | assumption | omega) only [go_sem, ↓reduceIte, Nat.reduceEqDiff, reduceCtorEq, Nat.reduceAdd, Nat.reduceMul, Nat.reduceLeDiff, zc, Int.reduceToNat, s0, s1, s5, hi', hi]
  exact i64c (by omega)
 ·rintro sl ro gn ⟨s0, s1, s5⟩
  dsimp only at s0 s1 s5
  have hi' : ¬ ((xs.length : Nat) : Int) < (xs.length : Nat) := by omega
  simp (maxSteps := 10000000) (disch := first | assumption | omega) only [go_sem, ↓reduceIte, Nat.reduceEqDiff, reduceCtorEq, Nat.reduceAdd, Nat.reduceMul, Nat.reduceLeDiff, zc, Int.reduceToNat, s0, s1, s5, hi']
  simp only [zr, zb, retR, resL, outT, outL, zes, zez, oneV, zcp, zed, zfi, Ro.dl, St.ev, zhk, ↓za, ↓reduceIte, Nat.reduceEqDiff, Nat.reduceAdd, Nat.reduceLeDiff]
set_option maxHeartbeats 4000000 in
theorem cLikeB {o c v o' c' v' : AV} {O : List Int} {M : Int} {C : List (List (List Int))} {V : List (List Int)} (ho : isL o O) (hc : isLLL c C) (hv : isLL v V) (ho' : isL o' O) (hc' : isLLL c' C) (hv' : isLL v' V) (hO : O.length ≤ maxN)
  (hx : C.length ≤ maxN) (hr : ∀ k, k < C.length → (mat C k).length ≤ maxN ∧ ∀ j, j < (mat C k).length → (row (mat C k) j).length ≤ maxN) (hy : V.length ≤ maxN) (hs : ∀ k, k < V.length → (row V k).length ≤ maxN) :
  CallOK Tryz.prog 15 [.agg [o, i64 M, c, v], .agg [o', i64 M, c', v']] (bo true) := by
 have c1 := cLike ho ho' hO
 have c2 := cLikeC hc hc' hx hr
 have c3 := cLikeR hv hv' hy hs
 refine call_of (fn := Tryz.f15) (code := bodyOf Tryz.f15) Tryz.func15 rfl (by kernel_rfl) (rfl) ?_
 intro sl hs
 have s0 : sl 0 = .agg [o, i64 M, c, v] := hs 0
 have s1 : sl 1 = .agg [o', i64 M, c', v'] := hs 1
 dsimp only [Tryz.f15, bodyOf, Option.getD]
 simp (maxSteps := 10000000) (disch := first | assumption | omega) only [go_sem, ↓reduceIte, Nat.reduceEqDiff, reduceCtorEq, Nat.reduceAdd, Nat.reduceMul, Nat.reduceLeDiff, zc, Int.reduceToNat, s0, s1]
 refine CLL_pure _ c1 PUt rfl rfl ?_
 simp (maxSteps := 10000000) (disch := first | assumption | omega) only [go_sem, ↓reduceIte, Nat.reduceEqDiff, reduceCtorEq, Nat.reduceAdd, Nat.reduceMul, Nat.reduceLeDiff, zc, Int.reduceToNat, s0, s1]
 refine CLL_pure _ c2 PUt rfl rfl ?_
 simp (maxSteps := 10000000) (disch := first | assumption | omega) only [go_sem, ↓reduceIte, Nat.reduceEqDiff, reduceCtorEq, Nat.reduceAdd, Nat.reduceMul, Nat.reduceLeDiff, zc, Int.reduceToNat, s0, s1]
 refine CLL_pure _ c3 PUt rfl rfl ?_
 simp (maxSteps := 10000000) (disch := first | assumption | omega) only [go_sem, ↓reduceIte, Nat.reduceEqDiff, reduceCtorEq, Nat.reduceAdd, Nat.reduceMul, Nat.reduceLeDiff, zc, Int.reduceToNat, s0, s1]
 simp only [zr, zb, retR, resL, outT, outL, zes, zez, oneV, zcp, zed, zfi, Ro.dl, St.ev, zhk, ↓za, ↓reduceIte, Nat.reduceEqDiff, Nat.reduceAdd, Nat.reduceLeDiff]
theorem cBig {a : AV} {bs : List Int} (hb : isB a bs) : CallOK Tryz.prog 5 [a] (bo (decide (4096 < (bs.length : Int)))) := by
 refine call_of (fn := Tryz.f5) (code := bodyOf Tryz.f5) Tryz.func5 rfl (by kernel_rfl) (rfl) ?_
 intro sl hs
 have s0 : sl 0 = a := hs 0
 dsimp only [Tryz.f5, bodyOf, Option.getD]
 simp (maxSteps := 10000000) (disch := first | assumption | omega) only [go_sem, ↓reduceIte, Nat.reduceEqDiff, reduceCtorEq, Nat.reduceAdd, Nat.reduceMul, Nat.reduceLeDiff, zc, Int.reduceToNat, s0]
 simp only [zr, zb, retR, resL, outT, outL, zes, zez, oneV, zcp, zed, zfi, Ro.dl, St.ev, zhk, ↓za, ↓reduceIte, Nat.reduceEqDiff, Nat.reduceAdd, Nat.reduceLeDiff]
end
end Go.Proofs.YthpmddoakefbmaaGreat
/- The law on braidings, its first parts. -/
namespace Go.Proofs.YthpmddoakefbmaaGreat
open Go.RowKit
set_option maxRecDepth 1000000
def tlC : Nat → Code → Code
 | 0, c => c
 | n + 1, .seq _ b => tlC n b
 | _, c => c
def hdC : Nat → Code → Code → Code
 | 0, _, T => T
 | n + 1, .seq a b, T => .seq a (hdC n b T)
 | _, c, _ => c
theorem hd_tl : ∀ (n : Nat) (c : Code), hdC n c (tlC n c) = c
 | 0, c => rfl
 | n + 1, .seq a b => by simp only [hdC, tlC, hd_tl n b]
 | n + 1, .skip => rfl
 | n + 1, .region .. => rfl
 | n + 1, .cond .. => rfl
 | n + 1, .block .. => rfl
 | n + 1, .loop .. => rfl
 | n + 1, .exit .. => rfl
 | n + 1, .ret => rfl
 | n + 1, .rangeFunc .. => rfl
 | n + 1, .scope .. => rfl
 | n + 1, .label .. => rfl
 | n + 1, .goto .. => rfl
 | n + 1, .refuse .. => rfl
def Kp (rb : Ro) (gb : Nat → Nat) (ro : Ro) : Prop := ∀ x y, y ≤ gb x → ro x y = rb x y
theorem Kp.rf {rb : Ro} {gb : Nat → Nat} : Kp rb gb rb := fun _ _ _ => rfl
theorem Kp.wr {rb ro : Ro} {gb : Nat → Nat} (h : Kp rb gb ro) {s g : Nat} {v : AV} (hg : gb s < g) : Kp rb gb (upr ro s g v) := fun x y hy => by
 rw [zdb, if_neg (by rintro ⟨rfl, rfl⟩; omega)]
 exact h x y hy
theorem exq_lv {rb ro : Ro} {gb : Nat → Nat} (K : Kp rb gb ro) {so uo sp up sq uq n k l off j : Nat} {O : List Int} {M : Int} {F : Nat → Nat → Nat → Int} {G : Nat → Nat → Int} (h1 : uo ≤ gb so) (h2 : up ≤ gb sp) (h3 : uq ≤ gb sq) (g1 : rb so uo = some (rowL O)) (g2 : rb sp up = some (cubeA F n)) (g3 : rb sq uq = some (matA G (off + k) l)) (hj : 6 ≤ j) :
  exq j ro (.agg [.ref so uo [] 0 O.length, i64 M, .ref sp up [] 0 n, .ref sq uq [] off k]) (.agg [immL O, i64 M, immC F n, immLL (matL (shG G off) k l)]) :=
 exq_br ((K _ _ h1).trans g1) ((K _ _ h2).trans g2) ((K _ _ h3).trans g3) hj
theorem isL_nil : isL nilA [] := .inr ⟨rfl, rfl⟩
theorem isLL_nil : isLL nilA [] := .inr ⟨rfl, rfl⟩
theorem isLLL_nil : isLLL nilA [] := .inr ⟨rfl, rfl⟩
theorem noI_tl (xs : List Int) (v : Value) : noI (.tup [rowL xs, .sc v]) = true := by
 show (noI (rowL xs) && (true && true)) = true
 rw [noI_rowL]; rfl
theorem impE_tupLq (b : Nat) (gn : Nat → Nat) (xs : List AV) (v : Value) : impE b gn (.tup [.row xs, .sc v]) = ⟨.tup [.ref b (gn b + 1) [] 0 xs.length, .sc v], none, [], [(b, .row xs)]⟩ := nr _
attribute [go_sem] impE_tupLq
theorem cLikeK {O : List Int} {M : Int} {F : Nat → Nat → Nat → Int} {n : Nat} {G : Nat → Nat → Int} (hO : O.length ≤ 6) (hn : n ≤ 8) : CallOK Tryz.prog 15 [.agg [immL O, i64 M, immC F n, immLL (matL G n n)], .agg [immL O, i64 M, immC F n, immLL (matL G n n)]] (bo true) := by
 have lX : (cubeL F n).length = n := zfe _ _
 have h8 : n ≤ maxN := Nat.le_trans hn (by decide)
 refine cLikeB (isL_imm O) (isLLL_immC F n) (isLL_imm _) (isL_imm O) (isLLL_immC F n) (isLL_imm _) (Nat.le_trans hO (by decide)) (by rw [lX]; exact h8) (fun k hk => ?_) (by rw [matL_len2]; exact h8) (fun k hk => ?_)
 ·rw [lX] at hk
  rw [cube_row F hk]
  exact ⟨h8, fun j hj => by rw [cube_rr F hk hj]; exact h8⟩
 ·rw [matL_len2] at hk
  rw [matL_row2 hk]; exact h8
theorem cLikeN : CallOK Tryz.prog 15 [.agg [nilA, i64 0, nilA, nilA], .agg [nilA, i64 0, nilA, nilA]] (bo true) :=
 cLikeB isL_nil isLLL_nil isLL_nil isL_nil isLLL_nil isLL_nil (by decide) (by decide) (fun k hk => absurd hk (Nat.not_lt_zero _)) (by decide) (fun k hk => absurd hk (Nat.not_lt_zero _))
section
variable {a : AV} {bs : List Int} {T : Code}
abbrev QL : Exit → St → Prop := RET ti0 [.tmp 2] (bo true)
set_option maxHeartbeats 8000000 in
theorem seg1 (hc : Cod a bs) (hl : bs.length ≤ 4096) (hT : ∀ sl ro gn, sl 0 = a → WK XX T [] QL ⟨sl, ro, gn⟩) (sl : Nat → AV) (rb : Ro) (gb : Nat → Nat) (s0 : sl 0 = a) : WK XX (hdC 5 (tlC 2 (bodyOf Tryz.f3)) T) [] QL ⟨sl, rb, gb⟩ := by
 dsimp only [Tryz.f3, bodyOf, Option.getD, tlC, hdC]
 simp (maxSteps := 10000000) (disch := first | assumption | omega) only [go_sem, ↓reduceIte, Nat.reduceEqDiff, reduceCtorEq, Nat.reduceAdd, Nat.reduceMul, Nat.reduceLeDiff, zc, Int.reduceToNat, s0]
 refine CLL_inS rfl (sBF hc hl) ?_
 rintro _ ro gn ⟨-, O, M, F, n, so, uo, sp, up, sq, uq, off, k, l, G, rfl, h1, h2, h3, g1, g2, g3, hO, hn, hM, hk, hl2⟩
 have n1 : ∀ s, ¬ (so = s ∧ uo = gn s + 1) := by rintro _ ⟨rfl, rfl⟩; omega
 have n2 : ∀ s, ¬ (sp = s ∧ up = gn s + 1) := by rintro _ ⟨rfl, rfl⟩; omega
 have n3 : ∀ s, ¬ (sq = s ∧ uq = gn s + 1) := by rintro _ ⟨rfl, rfl⟩; omega
 have iO := isL_imm O
 have iC := isLLL_immC F n
 have iV := isLL_imm (matL (shG G off) k l)
 have cI := cBFi (M := M) iO hO iC iV (by omega) (by omega)
 have cS := cBFs (M := M) iO hO iC iV (by omega) (by omega)
 by_cases hB : BrP O M F n (shG G off) k l
 ·have dI := cIsBI (M := M) (t := true) iO hO iC iV (by omega) (by omega) (by simp [hB])
  have dS := cIsBs (M := M) (t := true) iO hO iC iV (by omega) (by omega) (by simp [hB])
  have e : faB O M F n (shG G off) k l = (nilA, 4) := by unfold faB; rw [if_pos hB.s, hB.f]
  rw [e] at cI cS
  dsimp only at cI cS
  simp (maxSteps := 10000000) (disch := first | assumption | omega) only [go_sem, ↓reduceIte, Nat.reduceEqDiff, reduceCtorEq, Nat.reduceAdd, Nat.reduceMul, Nat.reduceLeDiff, zc, Int.reduceToNat, s0, n1, n2, n3, g1, g2, g3]
  refine CLL_q _ cI (.cons (exq_lv (by repeat (first | exact Kp.rf | refine Kp.wr ?_ (by omega))) h1 h2 h3 g1 g2 g3 (by decide)) .nil) rfl rfl rfl ?_
  simp (maxSteps := 10000000) (disch := first | assumption | omega) only [go_sem, ↓reduceIte, Nat.reduceEqDiff, reduceCtorEq, Nat.reduceAdd, Nat.reduceMul, Nat.reduceLeDiff, zc, Int.reduceToNat, s0, n1, n2, n3, g1, g2, g3]
  refine CLL_q _ cS (.cons (exq_lv (by repeat (first | exact Kp.rf | refine Kp.wr ?_ (by omega))) h1 h2 h3 g1 g2 g3 (by decide)) .nil) rfl rfl rfl ?_
  simp (maxSteps := 10000000) (disch := first | assumption | omega) only [go_sem, ↓reduceIte, Nat.reduceEqDiff, reduceCtorEq, Nat.reduceAdd, Nat.reduceMul, Nat.reduceLeDiff, zc, Int.reduceToNat, s0, n1, n2, n3, g1, g2, g3]
  refine CLL_q _ dI (.cons (exq_lv (by repeat (first | exact Kp.rf | refine Kp.wr ?_ (by omega))) h1 h2 h3 g1 g2 g3 (by decide)) .nil) rfl rfl rfl ?_
  simp (maxSteps := 10000000) (disch := first | assumption | omega) only [go_sem, ↓reduceIte, Nat.reduceEqDiff, reduceCtorEq, Nat.reduceAdd, Nat.reduceMul, Nat.reduceLeDiff, zc, Int.reduceToNat, s0, n1, n2, n3, g1, g2, g3]
  refine CLL_pure _ (cLike isL_nil isL_nil (by decide)) rfl rfl rfl ?_
  simp (maxSteps := 10000000) (disch := first | assumption | omega) only [go_sem, ↓reduceIte, Nat.reduceEqDiff, reduceCtorEq, Nat.reduceAdd, Nat.reduceMul, Nat.reduceLeDiff, zc, Int.reduceToNat, s0, n1, n2, n3, g1, g2, g3]
  refine CLL_q _ dS (.cons (exq_lv (by repeat (first | exact Kp.rf | refine Kp.wr ?_ (by omega))) h1 h2 h3 g1 g2 g3 (by decide)) .nil) rfl rfl rfl ?_
  simp (maxSteps := 10000000) (disch := first | assumption | omega) only [go_sem, ↓reduceIte, Nat.reduceEqDiff, reduceCtorEq, Nat.reduceAdd, Nat.reduceMul, Nat.reduceLeDiff, zc, Int.reduceToNat, s0, n1, n2, n3, g1, g2, g3]
  exact hT _ _ _ (Ue s0)
 ·have dI := cIsBI (M := M) (t := false) iO hO iC iV (by omega) (by omega) (by simp [hB])
  have dS := cIsBs (M := M) (t := false) iO hO iC iV (by omega) (by omega) (by simp [hB])
  by_cases hS : BsP O M F n (shG G off) k l
  ·obtain ⟨xs, hx⟩ := Option.ne_none_iff_exists'.1 (fun e => hB ⟨hS, e⟩)
   have e : faB O M F n (shG G off) k l = (rowL xs, 0) := by unfold faB; rw [if_pos hS, hx]
   have xl := ft18_len hx
   rw [e] at cI cS
   dsimp only at cI cS
   simp (maxSteps := 10000000) (disch := first | assumption | omega) only [go_sem, ↓reduceIte, Nat.reduceEqDiff, reduceCtorEq, Nat.reduceAdd, Nat.reduceMul, Nat.reduceLeDiff, zc, Int.reduceToNat, s0, n1, n2, n3, g1, g2, g3]
   refine CLL_q _ cI (.cons (exq_lv (by repeat (first | exact Kp.rf | refine Kp.wr ?_ (by omega))) h1 h2 h3 g1 g2 g3 (by decide)) .nil) rfl rfl (noI_tl _ _) ?_
   simp (maxSteps := 10000000) (disch := first | assumption | omega) only [go_sem, ↓reduceIte, Nat.reduceEqDiff, reduceCtorEq, Nat.reduceAdd, Nat.reduceMul, Nat.reduceLeDiff, zc, Int.reduceToNat, s0, n1, n2, n3, g1, g2, g3]
   refine CLL_q _ cS (.cons (exq_lv (by repeat (first | exact Kp.rf | refine Kp.wr ?_ (by omega))) h1 h2 h3 g1 g2 g3 (by decide)) .nil) rfl rfl (noI_tl _ _) ?_
   simp (maxSteps := 10000000) (disch := first | assumption | omega) only [go_sem, ↓reduceIte, Nat.reduceEqDiff, reduceCtorEq, Nat.reduceAdd, Nat.reduceMul, Nat.reduceLeDiff, zc, Int.reduceToNat, s0, n1, n2, n3, g1, g2, g3]
   refine CLL_q _ dI (.cons (exq_lv (by repeat (first | exact Kp.rf | refine Kp.wr ?_ (by omega))) h1 h2 h3 g1 g2 g3 (by decide)) .nil) rfl rfl rfl ?_
   simp (maxSteps := 10000000) (disch := first | assumption | omega) only [go_sem, ↓reduceIte, Nat.reduceEqDiff, reduceCtorEq, Nat.reduceAdd, Nat.reduceMul, Nat.reduceLeDiff, zc, Int.reduceToNat, s0, n1, n2, n3, g1, g2, g3]
   refine CLL_q _ (cLike (isL_imm xs) (isL_imm xs) (by rw [xl]; decide)) (.cons (exq_refL Ur rfl (by decide)) (.cons (exq_refL Ur rfl (by decide)) .nil)) rfl rfl rfl ?_
   simp (maxSteps := 10000000) (disch := first | assumption | omega) only [go_sem, ↓reduceIte, Nat.reduceEqDiff, reduceCtorEq, Nat.reduceAdd, Nat.reduceMul, Nat.reduceLeDiff, zc, Int.reduceToNat, s0, n1, n2, n3, g1, g2, g3]
   refine CLL_q _ dS (.cons (exq_lv (by repeat (first | exact Kp.rf | refine Kp.wr ?_ (by omega))) h1 h2 h3 g1 g2 g3 (by decide)) .nil) rfl rfl rfl ?_
   simp (maxSteps := 10000000) (disch := first | assumption | omega) only [go_sem, ↓reduceIte, Nat.reduceEqDiff, reduceCtorEq, Nat.reduceAdd, Nat.reduceMul, Nat.reduceLeDiff, zc, Int.reduceToNat, s0, n1, n2, n3, g1, g2, g3]
   exact hT _ _ _ (Ue s0)
  ·have e : faB O M F n (shG G off) k l = (nilA, 1) := by unfold faB; rw [if_neg hS]
   rw [e] at cI cS
   dsimp only at cI cS
   simp (maxSteps := 10000000) (disch := first | assumption | omega) only [go_sem, ↓reduceIte, Nat.reduceEqDiff, reduceCtorEq, Nat.reduceAdd, Nat.reduceMul, Nat.reduceLeDiff, zc, Int.reduceToNat, s0, n1, n2, n3, g1, g2, g3]
   refine CLL_q _ cI (.cons (exq_lv (by repeat (first | exact Kp.rf | refine Kp.wr ?_ (by omega))) h1 h2 h3 g1 g2 g3 (by decide)) .nil) rfl rfl rfl ?_
   simp (maxSteps := 10000000) (disch := first | assumption | omega) only [go_sem, ↓reduceIte, Nat.reduceEqDiff, reduceCtorEq, Nat.reduceAdd, Nat.reduceMul, Nat.reduceLeDiff, zc, Int.reduceToNat, s0, n1, n2, n3, g1, g2, g3]
   refine CLL_q _ cS (.cons (exq_lv (by repeat (first | exact Kp.rf | refine Kp.wr ?_ (by omega))) h1 h2 h3 g1 g2 g3 (by decide)) .nil) rfl rfl rfl ?_
   simp (maxSteps := 10000000) (disch := first | assumption | omega) only [go_sem, ↓reduceIte, Nat.reduceEqDiff, reduceCtorEq, Nat.reduceAdd, Nat.reduceMul, Nat.reduceLeDiff, zc, Int.reduceToNat, s0, n1, n2, n3, g1, g2, g3]
   refine CLL_q _ dI (.cons (exq_lv (by repeat (first | exact Kp.rf | refine Kp.wr ?_ (by omega))) h1 h2 h3 g1 g2 g3 (by decide)) .nil) rfl rfl rfl ?_
   simp (maxSteps := 10000000) (disch := first | assumption | omega) only [go_sem, ↓reduceIte, Nat.reduceEqDiff, reduceCtorEq, Nat.reduceAdd, Nat.reduceMul, Nat.reduceLeDiff, zc, Int.reduceToNat, s0, n1, n2, n3, g1, g2, g3]
   refine CLL_pure _ (cLike isL_nil isL_nil (by decide)) rfl rfl rfl ?_
   simp (maxSteps := 10000000) (disch := first | assumption | omega) only [go_sem, ↓reduceIte, Nat.reduceEqDiff, reduceCtorEq, Nat.reduceAdd, Nat.reduceMul, Nat.reduceLeDiff, zc, Int.reduceToNat, s0, n1, n2, n3, g1, g2, g3]
   refine CLL_q _ dS (.cons (exq_lv (by repeat (first | exact Kp.rf | refine Kp.wr ?_ (by omega))) h1 h2 h3 g1 g2 g3 (by decide)) .nil) rfl rfl rfl ?_
   simp (maxSteps := 10000000) (disch := first | assumption | omega) only [go_sem, ↓reduceIte, Nat.reduceEqDiff, reduceCtorEq, Nat.reduceAdd, Nat.reduceMul, Nat.reduceLeDiff, zc, Int.reduceToNat, s0, n1, n2, n3, g1, g2, g3]
   exact hT _ _ _ (Ue s0)
end
end Go.Proofs.YthpmddoakefbmaaGreat
