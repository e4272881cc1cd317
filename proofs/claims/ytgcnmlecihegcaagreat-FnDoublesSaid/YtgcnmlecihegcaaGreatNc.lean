/- Texts joined: B8 B9 BA BB. -/
import Derived.Test.YtgcnmlecihegcaaGreatMda
import Derived.Test.YtgcnmlecihegcaaGreatNb
set_option linter.all false
/- Rings of groups. -/
namespace Go.Proofs.YtgcnmlecihegcaaGreat
open Go.RowKit
set_option maxRecDepth 1000000
structure Grp0 (N : Nat) (ad : Nat → Nat → Nat) (iv : Nat → Nat) : Prop where
 rg : ∀ i, i < N → ∀ j, j < N → ad i j < N
 ri : ∀ i, i < N → iv i < N
 z : ∀ i, i < N → ad 0 i = i
 ac : ∀ i, i < N → ∀ j, j < N → ∀ k, k < N → ad (ad i j) k = ad i (ad j k)
 cm : ∀ i, i < N → ∀ j, j < N → ad i j = ad j i
 nv : ∀ i, i < N → ad i (iv i) = 0
theorem if_cg {p q : Prop} [Decidable p] [Decidable q] (h : p ↔ q) (a b : Int) : (if p then a else b) = if q then a else b := by
 by_cases hp : p
 · rw [if_pos hp, if_pos (h.1 hp)]
 · rw [if_neg hp, if_neg (fun x => hp (h.2 x))]
def gD (ad : Nat → Nat → Nat) (i j k : Nat) : Int := if ad i j = k then 1 else 0
section
variable {N : Nat} {ad : Nat → Nat → Nat} {iv : Nat → Nat}
theorem Grp0.mv (G : Grp0 N ad iv) {i j k : Nat} (hi : i < N) (hj : j < N) (hk : k < N) : ad i j = k ↔ ad (iv i) k = j := by
 have h1 := G.ri i hi
 constructor
 · rintro rfl
   rw [← G.ac _ h1 _ hi _ hj, G.cm _ h1 _ hi, G.nv i hi, G.z j hj]
 · rintro rfl
   rw [← G.ac _ hi _ h1 _ hk, G.nv i hi, G.z k hk]
theorem Grp0.iv2 (G : Grp0 N ad iv) {i : Nat} (hi : i < N) : iv (iv i) = i := by
 have h1 := G.ri i hi
 have h0 : 0 < N := by omega
 have h2 := (G.mv h1 hi h0).1 (by rw [G.cm _ h1 _ hi]; exact G.nv i hi)
 rw [G.cm _ (G.ri _ h1) _ h0, G.z _ (G.ri _ h1)] at h2
 exact h2
theorem Grp0.u1 (G : Grp0 N ad iv) {i j : Nat} (hi : i < N) (hj : j < N) (h : ad i j = 0) : j = iv i := by
 have h0 : 0 < N := by omega
 have := (G.mv hi hj h0).1 h
 rw [G.cm _ (G.ri i hi) _ h0, G.z _ (G.ri i hi)] at this
 exact this.symm
theorem Grp0.dl (G : Grp0 N ad iv) {i : Nat} (hi : i < N) : dlT (cubeL (gD ad) N) i = (iv i : Int) := by
 have h0 : 0 < N := by omega
 unfold dlT
 have hl : (cubeL (gD ad) N).length = N := zfe _ _
 rw [hl]
 refine du_is ⟨G.ri i hi, ?_, fun j hj hne => ?_⟩
 · show at3 (cubeL (gD ad) N) i (iv i) 0 = 1
   rw [at3_cube hi (G.ri i hi) h0]
   exact if_pos (G.nv i hi)
 · show at3 (cubeL (gD ad) N) i j 0 = 0
   rw [at3_cube hi hj h0]
   exact if_neg fun h => hne (G.u1 hi hj h)
theorem Grp0.ring (G : Grp0 N ad iv) (h1 : 1 ≤ N) (h16 : N ≤ 16) : RingP (cubeL (gD ad) N) := by
 have h0 : 0 < N := by omega
 have hl : (cubeL (gD ad) N).length = N := zfe _ _
 have F1' : F1 (cubeL (gD ad) N) = none := fnd_none.2 fun i hi => fnd_none.2 fun k hk => by
   rw [hl] at hi hk
   unfold p1
   rw [at3_cube h0 hi hk, at3_cube hi h0 hk]
   have e1 : gD ad 0 i k = dlt i k := by unfold gD dlt; rw [G.z i hi]
   have e2 : gD ad i 0 k = dlt i k := by unfold gD dlt; rw [G.cm i hi 0 h0, G.z i hi]
   exact if_pos ⟨e1, e2⟩
 have F2' : F2 (cubeL (gD ad) N) = none := fnd_none.2 fun i hi => by
   rw [hl] at hi
   unfold p2
   rw [G.dl hi, Int.toNat_natCast, G.dl (G.ri i hi), G.iv2 hi]
   exact if_neg (by omega)
 have F3' : F3 (cubeL (gD ad) N) = none := fnd_none.2 fun i hi => fnd_none.2 fun j hj => fnd_none.2 fun k hk => by
   rw [hl] at hi hj hk
   unfold p3
   rw [G.dl hi, G.dl hj, Int.toNat_natCast, Int.toNat_natCast, at3_cube hi hj hk, at3_cube (G.ri i hi) hk hj, at3_cube hk (G.ri j hj) hi]
   have e1 : gD ad i j k = gD ad (iv i) k j := by
     unfold gD; exact if_cg (G.mv hi hj hk) _ _
   have e2 : gD ad i j k = gD ad k (iv j) i := by
     unfold gD
     refine if_cg ?_ _ _
     rw [G.cm i hi j hj, G.cm k hk _ (G.ri j hj)]
     exact G.mv hj hi hk
   exact if_pos ⟨e1, e2⟩
 have F4' : F4 (cubeL (gD ad) N) = none := fnd_none.2 fun i hi => fnd_none.2 fun j hj => fnd_none.2 fun k hk => fnd_none.2 fun l hl' => by
   rw [hl] at hi hj hk hl'
   unfold p4
   rw [hl]
   have hij := G.rg i hi j hj
   have hjk := G.rg j hj k hk
   have e1 : sm (lft (cubeL (gD ad) N) i j k l) N = gD ad (ad i j) k l := by
     rw [sm_one (j := ad i j) ?_, if_pos hij]
     · unfold lft
       rw [at3_cube hi hj hij, at3_cube hij hk hl']
       simp [gD]
     · intro m hm hne
       unfold lft
       rw [at3_cube hi hj hm]
       have : gD ad i j m = 0 := if_neg fun h => hne h.symm
       rw [this, Int.zero_mul]
   have e2 : sm (rgt (cubeL (gD ad) N) i j k l) N = gD ad i (ad j k) l := by
     rw [sm_one (j := ad j k) ?_, if_pos hjk]
     · unfold rgt
       rw [at3_cube hj hk hjk, at3_cube hi hjk hl']
       simp [gD]
     · intro m hm hne
       unfold rgt
       rw [at3_cube hj hk hm]
       have : gD ad j k m = 0 := if_neg fun h => hne h.symm
       rw [this, Int.zero_mul]
   rw [e1, e2]
   unfold gD
   rw [G.ac i hi j hj k hk]
   exact if_pos rfl
 refine ⟨⟨by omega, by omega, fun i hi => ?_⟩, ?_⟩
 · rw [hl] at hi ⊢
   rw [mat_cube hi]
   refine ⟨zfe _ _, fun j hj => ?_⟩
   rw [row_rws _ hj]
   refine ⟨zfe _ _, fun k hk => ?_⟩
   rw [at3_cube hi hj hk]
   unfold gD
   split <;> omega
 · unfold RF
   rw [F1', F2', F3']
   exact F4'
theorem Grp0.pt (G : Grp0 N ad iv) (h1 : 1 ≤ N) (h16 : N ≤ 16) : PtP (cubeL (gD ad) N) := by
 have hl : (cubeL (gD ad) N).length = N := zfe _ _
 refine ⟨G.ring h1 h16, fun i hi => ?_⟩
 rw [hl] at hi ⊢
 refine ⟨iv i, G.dl hi, G.ri i hi, ?_⟩
 rw [mat_cube hi, row_rws _ (G.ri i hi)]
 refine rws_congr fun k hk => ?_
 unfold gD un0
 rw [G.nv i hi]
 exact if_cg eq_comm _ _
end
end Go.Proofs.YtgcnmlecihegcaaGreat
/- Data whose numbers are those of a group. -/
namespace Go.Proofs.YtgcnmlecihegcaaGreat
open Go.RowKit
set_option maxRecDepth 1000000
structure DbP (N : Nat) (ad : Nat → Nat → Nat) (iv : Nat → Nat) (w : Int) (S : List (List Int)) (T : List Int) : Prop where
 g : Grp0 N ad iv
 n1 : 1 ≤ N
 n16 : N ≤ 16
 lT : T.length = N
 lS : S.length = N
 lR : ∀ i, i < N → (row S i).length = N
 nT : NL T
 nS : ∀ i, i < N → NL (row S i)
 st : StaP S T
 s1 : ∀ l, l < N → atI (row S 0) l = 1
 wh : whl S N = N
 w' : pw (N : Int) 55439 = w
 p1 : pw 1 55439 = 1
 cj : CjP S T
 ci : ∀ k, k < N → cjA S T k = iv k
 tu : TurP S T
 mu : ∀ i, i < N → ∀ j, j < N → ∀ l, l < N → atI (row S i) l * atI (row S j) l % 55441 = atI (row S (ad i j)) l
 ot : ∀ x, x < N → ∀ k, k < N → sm (fun l => atI (row S x) l * w % 55441 * atI (row S (iv k)) l) N % 55441 = if x = k then 1 else 0
section
variable {N : Nat} {ad : Nat → Nat → Nat} {iv : Nat → Nat} {w : Int} {S : List (List Int)} {T : List Int}
theorem sm_cg {f g : Nat → Int} : ∀ {n : Nat}, (∀ k, k < n → f k = g k) → sm f n = sm g n
 | 0, _ => rfl
 | n + 1, h => by simp only [sm]; rw [sm_cg fun k hk => h k (by omega), h n (by omega)]
theorem DbP.nm (h : DbP N ad iv w S T) {i j k : Nat} (hi : i < N) (hj : j < N) (hk : k < N) : nmE S N (cjL S T) i j k = gD ad i j k := by
 have hw : num w := by rw [← h.w']; exact ⟨pw_nonneg _ _, pw_lt _ _⟩
 have hck : atI (cjL S T) k = iv k := by
   unfold cjL; rw [atI_rws _ (by rw [h.lT]; exact hk)]; exact h.ci k hk
 unfold nmE
 rw [hck, Int.toNat_natCast]
 have e : sm (fun l => atI (rws (both S N i j) N) l * atI (row S (iv k)) l) N = sm (fun l => atI (row S (ad i j)) l * w % 55441 * atI (row S (iv k)) l) N := by
   refine sm_cg fun l hl => ?_
   have hi0 : inv0 S N l = w := by
     unfold inv0
     rw [h.s1 l hl, h.p1, h.wh, h.w', Int.one_mul]
     exact Int.emod_eq_of_lt hw.1 hw.2
   show atI (rws (both S N i j) N) l * _ = _
   rw [atI_rws _ hl]
   unfold both
   rw [hi0, h.mu i hi j hj l hl]
 rw [e, h.ot _ (h.g.rg i hi j hj) k hk]
 rfl
theorem DbP.cube (h : DbP N ad iv w S T) : cubeL (nmE S N (cjL S T)) N = cubeL (gD ad) N := by
 unfold cubeL
 exact rws_congr fun i hi => rws_congr fun j hj => rws_congr fun k hk => h.nm hi hj hk
theorem DbP.data (h : DbP N ad iv w S T) : DataP S T := by
 have hl := h.lT
 have n1 := h.n1
 refine ⟨⟨by omega, by rw [hl]; exact h.n16, by rw [h.lS, hl], h.nT, fun i hi => ⟨by rw [h.lR i (by omega), hl], h.nS i (by omega)⟩⟩, ?_⟩
 refine DF5 h.st ?_ h.cj h.tu ?_
 · rw [hl, h.wh]; omega
 · rw [hl, h.cube]
   exact h.g.ring h.n1 h.n16
end
def adD (n k i j : Nat) : Nat := (i / n + j / n) % n * n + (if n ≤ i / n + j / n then (i % n + j % n + 2 * k) % n else (i % n + j % n) % n)
def ivD (n k i : Nat) : Nat := if i / n = 0 then (n - i % n) % n else (n - i / n) * n + (3 * n - i % n - 2 * k) % n
end Go.Proofs.YtgcnmlecihegcaaGreat
/- The doubles are data of groups. -/
namespace Go.Proofs.YtgcnmlecihegcaaGreat
open Go.RowKit
set_option maxRecDepth 1000000
theorem pw_nat (a k : Nat) : pw a k = ((a ^ k % 55441 : Nat) : Int) := by
 unfold pw
 rw [Int.toNat_natCast]
 simp
instance decCjP (S : List (List Int)) (T : List Int) : Decidable (CjP S T) :=
 inferInstanceAs (Decidable ((∀ i, i < T.length → ((∀ k, k < T.length → (k : Int) ≠ cjA S T i → atI (row (tms S S) i) k = 0) ∧ 0 ≤ cjA S T i ∧ (∀ j, j < i → cjA S T j ≠ cjA S T i) ∧ atI T (cjA S T i).toNat = atI T i)) ∧ cjA S T 0 = 0))
theorem p1one : pw 1 55439 = 1 := by
 have h := pw_nat 1 55439
 have h2 : (1 ^ 55439 % 55441 : Nat) = 1 := by kernel_rfl
 rw [h2] at h
 exact h
theorem dz1 : dz 1 = 1 := by
 have h := pw_nat 38 55440
 have h2 : (38 ^ 55440 % 55441 : Nat) = 1 := by kernel_rfl
 rw [h2] at h
 exact h
theorem di1 : pw 1 55439 = 1 := by
 have h := pw_nat 1 55439
 have h2 : (1 ^ 55439 % 55441 : Nat) = 1 := by kernel_rfl
 rw [h2] at h
 exact h
theorem dw1 : pw 1 55439 = 1 := by
 have h := pw_nat 1 55439
 have h2 : (1 ^ 55439 % 55441 : Nat) = 1 := by kernel_rfl
 rw [h2] at h
 exact h
abbrev sD10 : List (List Int) := [[1]]
abbrev tD10 : List Int := [1]
theorem dS10 : dS 1 0 = sD10 := by
 unfold dS
 rw [dz1, di1]
 decide +kernel
theorem dT10 : dTs 1 0 = tD10 := by
 unfold dTs
 rw [dz1]
 decide +kernel
theorem tu10 : TurP sD10 tD10 := by
 have h1 : uM sD10 tD10 = [[1]] := by decide +kernel
 have h2 : tms [[1]] [[1]] = [[1]] := by decide +kernel
 have h3 : tms sD10 sD10 = [[1]] := by decide +kernel
 have h4 : gsV sD10 tD10 = 1 := by decide +kernel
 unfold TurP
 rw [h1, h2, h3, h4]
 decide +kernel
theorem db10 : DbP 1 (adD 1 0) (ivD 1 0) 1 sD10 tD10 where
 g := ⟨by decide +kernel, by decide +kernel, by decide +kernel, by decide +kernel, by decide +kernel, by decide +kernel⟩
 n1 := by decide
 n16 := by decide
 lT := rfl
 lS := rfl
 lR := by decide +kernel
 nT := by unfold NL; decide +kernel
 nS := by unfold NL; decide +kernel
 st := by unfold StaP; decide +kernel
 s1 := by decide +kernel
 wh := by decide +kernel
 w' := dw1
 p1 := p1one
 cj := by decide +kernel
 ci := by decide +kernel
 tu := tu10
 mu := by decide +kernel
 ot := by decide +kernel
theorem dz2 : dz 2 = 14440 := by
 have h := pw_nat 38 13860
 have h2 : (38 ^ 13860 % 55441 : Nat) = 14440 := by kernel_rfl
 rw [h2] at h
 exact h
theorem di2 : pw 14440 55439 = 41001 := by
 have h := pw_nat 14440 55439
 have h2 : (14440 ^ 55439 % 55441 : Nat) = 41001 := by kernel_rfl
 rw [h2] at h
 exact h
theorem dw2 : pw 4 55439 = 41581 := by
 have h := pw_nat 4 55439
 have h2 : (4 ^ 55439 % 55441 : Nat) = 41581 := by kernel_rfl
 rw [h2] at h
 exact h
abbrev sD20 : List (List Int) := [[1, 1, 1, 1], [1, 1, 55440, 55440], [1, 55440, 1, 55440], [1, 55440, 55440, 1]]
abbrev tD20 : List Int := [1, 1, 1, 55440]
theorem dS20 : dS 2 0 = sD20 := by
 unfold dS
 rw [dz2, di2]
 decide +kernel
theorem dT20 : dTs 2 0 = tD20 := by
 unfold dTs
 rw [dz2]
 decide +kernel
theorem tu20 : TurP sD20 tD20 := by
 have h1 : uM sD20 tD20 = [[1, 1, 1, 55440], [1, 1, 55440, 1], [1, 55440, 1, 1], [1, 55440, 55440, 55440]] := by decide +kernel
 have h2 : tms [[1, 1, 1, 55440], [1, 1, 55440, 1], [1, 55440, 1, 1], [1, 55440, 55440, 55440]] [[1, 1, 1, 55440], [1, 1, 55440, 1], [1, 55440, 1, 1], [1, 55440, 55440, 55440]] = [[2, 2, 2, 2], [2, 2, 55439, 55439], [2, 55439, 2, 55439], [55439, 2, 2, 55439]] := by decide +kernel
 have h3 : tms sD20 sD20 = [[4, 0, 0, 0], [0, 4, 0, 0], [0, 0, 4, 0], [0, 0, 0, 4]] := by decide +kernel
 have h4 : gsV sD20 tD20 = 2 := by decide +kernel
 unfold TurP
 rw [h1, h2, h3, h4]
 decide +kernel
theorem db20 : DbP 4 (adD 2 0) (ivD 2 0) 41581 sD20 tD20 where
 g := ⟨by decide +kernel, by decide +kernel, by decide +kernel, by decide +kernel, by decide +kernel, by decide +kernel⟩
 n1 := by decide
 n16 := by decide
 lT := rfl
 lS := rfl
 lR := by decide +kernel
 nT := by unfold NL; decide +kernel
 nS := by unfold NL; decide +kernel
 st := by unfold StaP; decide +kernel
 s1 := by decide +kernel
 wh := by decide +kernel
 w' := dw2
 p1 := p1one
 cj := by decide +kernel
 ci := by decide +kernel
 tu := tu20
 mu := by decide +kernel
 ot := by decide +kernel
abbrev sD21 : List (List Int) := [[1, 1, 1, 1], [1, 1, 55440, 55440], [1, 55440, 55440, 1], [1, 55440, 1, 55440]]
abbrev tD21 : List Int := [1, 1, 14440, 41001]
theorem dS21 : dS 2 1 = sD21 := by
 unfold dS
 rw [dz2, di2]
 decide +kernel
theorem dT21 : dTs 2 1 = tD21 := by
 unfold dTs
 rw [dz2]
 decide +kernel
theorem tu21 : TurP sD21 tD21 := by
 have h1 : uM sD21 tD21 = [[1, 1, 14440, 41001], [1, 1, 41001, 14440], [1, 55440, 41001, 41001], [1, 55440, 14440, 14440]] := by decide +kernel
 have h2 : tms [[1, 1, 14440, 41001], [1, 1, 41001, 14440], [1, 55440, 41001, 41001], [1, 55440, 14440, 14440]] [[1, 1, 14440, 41001], [1, 1, 41001, 14440], [1, 55440, 41001, 41001], [1, 55440, 14440, 14440]] = [[2, 2, 2, 2], [2, 2, 55439, 55439], [26561, 28880, 28880, 26561], [28880, 26561, 28880, 26561]] := by decide +kernel
 have h3 : tms sD21 sD21 = [[4, 0, 0, 0], [0, 4, 0, 0], [0, 0, 4, 0], [0, 0, 0, 4]] := by decide +kernel
 have h4 : gsV sD21 tD21 = 2 := by decide +kernel
 unfold TurP
 rw [h1, h2, h3, h4]
 decide +kernel
theorem db21 : DbP 4 (adD 2 1) (ivD 2 1) 41581 sD21 tD21 where
 g := ⟨by decide +kernel, by decide +kernel, by decide +kernel, by decide +kernel, by decide +kernel, by decide +kernel⟩
 n1 := by decide
 n16 := by decide
 lT := rfl
 lS := rfl
 lR := by decide +kernel
 nT := by unfold NL; decide +kernel
 nS := by unfold NL; decide +kernel
 st := by unfold StaP; decide +kernel
 s1 := by decide +kernel
 wh := by decide +kernel
 w' := dw2
 p1 := p1one
 cj := by decide +kernel
 ci := by decide +kernel
 tu := tu21
 mu := by decide +kernel
 ot := by decide +kernel
theorem dz3 : dz 3 = 31418 := by
 have h := pw_nat 38 6160
 have h2 : (38 ^ 6160 % 55441 : Nat) = 31418 := by kernel_rfl
 rw [h2] at h
 exact h
theorem di3 : pw 31418 55439 = 5158 := by
 have h := pw_nat 31418 55439
 have h2 : (31418 ^ 55439 % 55441 : Nat) = 5158 := by kernel_rfl
 rw [h2] at h
 exact h
theorem dw3 : pw 9 55439 = 49281 := by
 have h := pw_nat 9 55439
 have h2 : (9 ^ 55439 % 55441 : Nat) = 49281 := by kernel_rfl
 rw [h2] at h
 exact h
abbrev sD30 : List (List Int) := [[1, 1, 1, 1, 1, 1, 1, 1, 1], [1, 1, 1, 9497, 9497, 9497, 45943, 45943, 45943], [1, 1, 1, 45943, 45943, 45943, 9497, 9497, 9497], [1, 9497, 45943, 1, 9497, 45943, 1, 9497, 45943], [1, 9497, 45943, 9497, 45943, 1, 45943, 1, 9497], [1, 9497, 45943, 45943, 1, 9497, 9497, 45943, 1], [1, 45943, 9497, 1, 45943, 9497, 1, 45943, 9497], [1, 45943, 9497, 9497, 1, 45943, 45943, 9497, 1], [1, 45943, 9497, 45943, 9497, 1, 9497, 1, 45943]]
abbrev tD30 : List Int := [1, 1, 1, 1, 45943, 9497, 1, 9497, 45943]
theorem dS30 : dS 3 0 = sD30 := by
 unfold dS
 rw [dz3, di3]
 decide +kernel
theorem dT30 : dTs 3 0 = tD30 := by
 unfold dTs
 rw [dz3]
 decide +kernel
theorem tu30 : TurP sD30 tD30 := by
 have h1 : uM sD30 tD30 = [[1, 1, 1, 1, 45943, 9497, 1, 9497, 45943], [1, 1, 1, 9497, 1, 45943, 45943, 1, 9497], [1, 1, 1, 45943, 9497, 1, 9497, 45943, 1], [1, 9497, 45943, 1, 1, 1, 1, 45943, 9497], [1, 9497, 45943, 9497, 9497, 9497, 45943, 9497, 1], [1, 9497, 45943, 45943, 45943, 45943, 9497, 1, 45943], [1, 45943, 9497, 1, 9497, 45943, 1, 1, 1], [1, 45943, 9497, 9497, 45943, 1, 45943, 45943, 45943], [1, 45943, 9497, 45943, 1, 9497, 9497, 9497, 9497]] := by decide +kernel
 have h2 : tms [[1, 1, 1, 1, 45943, 9497, 1, 9497, 45943], [1, 1, 1, 9497, 1, 45943, 45943, 1, 9497], [1, 1, 1, 45943, 9497, 1, 9497, 45943, 1], [1, 9497, 45943, 1, 1, 1, 1, 45943, 9497], [1, 9497, 45943, 9497, 9497, 9497, 45943, 9497, 1], [1, 9497, 45943, 45943, 45943, 45943, 9497, 1, 45943], [1, 45943, 9497, 1, 9497, 45943, 1, 1, 1], [1, 45943, 9497, 9497, 45943, 1, 45943, 45943, 45943], [1, 45943, 9497, 45943, 1, 9497, 9497, 9497, 9497]] [[1, 1, 1, 1, 45943, 9497, 1, 9497, 45943], [1, 1, 1, 9497, 1, 45943, 45943, 1, 9497], [1, 1, 1, 45943, 9497, 1, 9497, 45943, 1], [1, 9497, 45943, 1, 1, 1, 1, 45943, 9497], [1, 9497, 45943, 9497, 9497, 9497, 45943, 9497, 1], [1, 9497, 45943, 45943, 45943, 45943, 9497, 1, 45943], [1, 45943, 9497, 1, 9497, 45943, 1, 1, 1], [1, 45943, 9497, 9497, 45943, 1, 45943, 45943, 45943], [1, 45943, 9497, 45943, 1, 9497, 9497, 9497, 9497]] = [[3, 3, 3, 3, 3, 3, 3, 3, 3], [3, 3, 3, 28491, 28491, 28491, 26947, 26947, 26947], [3, 3, 3, 26947, 26947, 26947, 28491, 28491, 28491], [3, 28491, 26947, 3, 28491, 26947, 3, 28491, 26947], [28491, 26947, 3, 26947, 3, 28491, 3, 28491, 26947], [26947, 3, 28491, 28491, 26947, 3, 3, 28491, 26947], [3, 26947, 28491, 3, 26947, 28491, 3, 26947, 28491], [26947, 28491, 3, 3, 26947, 28491, 28491, 3, 26947], [28491, 3, 26947, 3, 26947, 28491, 26947, 28491, 3]] := by decide +kernel
 have h3 : tms sD30 sD30 = [[9, 0, 0, 0, 0, 0, 0, 0, 0], [0, 0, 9, 0, 0, 0, 0, 0, 0], [0, 9, 0, 0, 0, 0, 0, 0, 0], [0, 0, 0, 0, 0, 0, 9, 0, 0], [0, 0, 0, 0, 0, 0, 0, 0, 9], [0, 0, 0, 0, 0, 0, 0, 9, 0], [0, 0, 0, 9, 0, 0, 0, 0, 0], [0, 0, 0, 0, 0, 9, 0, 0, 0], [0, 0, 0, 0, 9, 0, 0, 0, 0]] := by decide +kernel
 have h4 : gsV sD30 tD30 = 3 := by decide +kernel
 unfold TurP
 rw [h1, h2, h3, h4]
 decide +kernel
theorem db30 : DbP 9 (adD 3 0) (ivD 3 0) 49281 sD30 tD30 where
 g := ⟨by decide +kernel, by decide +kernel, by decide +kernel, by decide +kernel, by decide +kernel, by decide +kernel⟩
 n1 := by decide
 n16 := by decide
 lT := rfl
 lS := rfl
 lR := by decide +kernel
 nT := by unfold NL; decide +kernel
 nS := by unfold NL; decide +kernel
 st := by unfold StaP; decide +kernel
 s1 := by decide +kernel
 wh := by decide +kernel
 w' := dw3
 p1 := p1one
 cj := by decide +kernel
 ci := by decide +kernel
 tu := tu30
 mu := by decide +kernel
 ot := by decide +kernel
abbrev sD31 : List (List Int) := [[1, 1, 1, 1, 1, 1, 1, 1, 1], [1, 1, 1, 9497, 9497, 9497, 45943, 45943, 45943], [1, 1, 1, 45943, 45943, 45943, 9497, 9497, 9497], [1, 9497, 45943, 48725, 30739, 31418, 31123, 19160, 5158], [1, 9497, 45943, 30739, 31418, 48725, 5158, 31123, 19160], [1, 9497, 45943, 31418, 48725, 30739, 19160, 5158, 31123], [1, 45943, 9497, 31123, 5158, 19160, 31418, 30739, 48725], [1, 45943, 9497, 19160, 31123, 5158, 30739, 48725, 31418], [1, 45943, 9497, 5158, 19160, 31123, 48725, 31418, 30739]]
abbrev tD31 : List Int := [1, 1, 1, 31418, 30739, 48725, 30739, 31418, 48725]
theorem dS31 : dS 3 1 = sD31 := by
 unfold dS
 rw [dz3, di3]
 decide +kernel
theorem dT31 : dTs 3 1 = tD31 := by
 unfold dTs
 rw [dz3]
 decide +kernel
theorem tu31 : TurP sD31 tD31 := by
 have h1 : uM sD31 tD31 = [[1, 1, 1, 31418, 30739, 48725, 30739, 31418, 48725], [1, 1, 1, 48725, 31418, 30739, 48725, 30739, 31418], [1, 1, 1, 30739, 48725, 31418, 31418, 48725, 30739], [1, 9497, 45943, 5158, 5158, 5158, 1, 45943, 9497], [1, 9497, 45943, 31123, 31123, 31123, 45943, 9497, 1], [1, 9497, 45943, 19160, 19160, 19160, 9497, 1, 45943], [1, 45943, 9497, 9497, 45943, 1, 31123, 31123, 31123], [1, 45943, 9497, 45943, 1, 9497, 5158, 5158, 5158], [1, 45943, 9497, 1, 9497, 45943, 19160, 19160, 19160]] := by decide +kernel
 have h2 : tms [[1, 1, 1, 31418, 30739, 48725, 30739, 31418, 48725], [1, 1, 1, 48725, 31418, 30739, 48725, 30739, 31418], [1, 1, 1, 30739, 48725, 31418, 31418, 48725, 30739], [1, 9497, 45943, 5158, 5158, 5158, 1, 45943, 9497], [1, 9497, 45943, 31123, 31123, 31123, 45943, 9497, 1], [1, 9497, 45943, 19160, 19160, 19160, 9497, 1, 45943], [1, 45943, 9497, 9497, 45943, 1, 31123, 31123, 31123], [1, 45943, 9497, 45943, 1, 9497, 5158, 5158, 5158], [1, 45943, 9497, 1, 9497, 45943, 19160, 19160, 19160]] [[1, 1, 1, 31418, 30739, 48725, 30739, 31418, 48725], [1, 1, 1, 48725, 31418, 30739, 48725, 30739, 31418], [1, 1, 1, 30739, 48725, 31418, 31418, 48725, 30739], [1, 9497, 45943, 5158, 5158, 5158, 1, 45943, 9497], [1, 9497, 45943, 31123, 31123, 31123, 45943, 9497, 1], [1, 9497, 45943, 19160, 19160, 19160, 9497, 1, 45943], [1, 45943, 9497, 9497, 45943, 1, 31123, 31123, 31123], [1, 45943, 9497, 45943, 1, 9497, 5158, 5158, 5158], [1, 45943, 9497, 1, 9497, 45943, 19160, 19160, 19160]] = [[3, 3, 3, 3, 3, 3, 3, 3, 3], [3, 3, 3, 28491, 28491, 28491, 26947, 26947, 26947], [3, 3, 3, 26947, 26947, 26947, 28491, 28491, 28491], [15474, 37928, 2039, 28491, 26947, 3, 36776, 38813, 35293], [37928, 2039, 15474, 3, 28491, 26947, 36776, 38813, 35293], [2039, 15474, 37928, 26947, 3, 28491, 36776, 38813, 35293], [37928, 15474, 2039, 38813, 36776, 35293, 28491, 3, 26947], [15474, 2039, 37928, 38813, 36776, 35293, 26947, 28491, 3], [2039, 37928, 15474, 38813, 36776, 35293, 3, 26947, 28491]] := by decide +kernel
 have h3 : tms sD31 sD31 = [[9, 0, 0, 0, 0, 0, 0, 0, 0], [0, 0, 9, 0, 0, 0, 0, 0, 0], [0, 9, 0, 0, 0, 0, 0, 0, 0], [0, 0, 0, 0, 0, 0, 0, 9, 0], [0, 0, 0, 0, 0, 0, 9, 0, 0], [0, 0, 0, 0, 0, 0, 0, 0, 9], [0, 0, 0, 0, 9, 0, 0, 0, 0], [0, 0, 0, 9, 0, 0, 0, 0, 0], [0, 0, 0, 0, 0, 9, 0, 0, 0]] := by decide +kernel
 have h4 : gsV sD31 tD31 = 3 := by decide +kernel
 unfold TurP
 rw [h1, h2, h3, h4]
 decide +kernel
theorem db31 : DbP 9 (adD 3 1) (ivD 3 1) 49281 sD31 tD31 where
 g := ⟨by decide +kernel, by decide +kernel, by decide +kernel, by decide +kernel, by decide +kernel, by decide +kernel⟩
 n1 := by decide
 n16 := by decide
 lT := rfl
 lS := rfl
 lR := by decide +kernel
 nT := by unfold NL; decide +kernel
 nS := by unfold NL; decide +kernel
 st := by unfold StaP; decide +kernel
 s1 := by decide +kernel
 wh := by decide +kernel
 w' := dw3
 p1 := p1one
 cj := by decide +kernel
 ci := by decide +kernel
 tu := tu31
 mu := by decide +kernel
 ot := by decide +kernel
abbrev sD32 : List (List Int) := [[1, 1, 1, 1, 1, 1, 1, 1, 1], [1, 1, 1, 9497, 9497, 9497, 45943, 45943, 45943], [1, 1, 1, 45943, 45943, 45943, 9497, 9497, 9497], [1, 9497, 45943, 31123, 19160, 5158, 31418, 48725, 30739], [1, 9497, 45943, 19160, 5158, 31123, 30739, 31418, 48725], [1, 9497, 45943, 5158, 31123, 19160, 48725, 30739, 31418], [1, 45943, 9497, 31418, 30739, 48725, 19160, 31123, 5158], [1, 45943, 9497, 48725, 31418, 30739, 31123, 5158, 19160], [1, 45943, 9497, 30739, 48725, 31418, 5158, 19160, 31123]]
abbrev tD32 : List Int := [1, 1, 1, 19160, 31123, 5158, 5158, 31123, 19160]
theorem dS32 : dS 3 2 = sD32 := by
 unfold dS
 rw [dz3, di3]
 decide +kernel
theorem dT32 : dTs 3 2 = tD32 := by
 unfold dTs
 rw [dz3]
 decide +kernel
theorem tu32 : TurP sD32 tD32 := by
 have h1 : uM sD32 tD32 = [[1, 1, 1, 19160, 31123, 5158, 5158, 31123, 19160], [1, 1, 1, 5158, 19160, 31123, 19160, 5158, 31123], [1, 1, 1, 31123, 5158, 19160, 31123, 19160, 5158], [1, 9497, 45943, 48725, 48725, 48725, 1, 45943, 9497], [1, 9497, 45943, 30739, 30739, 30739, 45943, 9497, 1], [1, 9497, 45943, 31418, 31418, 31418, 9497, 1, 45943], [1, 45943, 9497, 45943, 1, 9497, 31418, 31418, 31418], [1, 45943, 9497, 1, 9497, 45943, 30739, 30739, 30739], [1, 45943, 9497, 9497, 45943, 1, 48725, 48725, 48725]] := by decide +kernel
 have h2 : tms [[1, 1, 1, 19160, 31123, 5158, 5158, 31123, 19160], [1, 1, 1, 5158, 19160, 31123, 19160, 5158, 31123], [1, 1, 1, 31123, 5158, 19160, 31123, 19160, 5158], [1, 9497, 45943, 48725, 48725, 48725, 1, 45943, 9497], [1, 9497, 45943, 30739, 30739, 30739, 45943, 9497, 1], [1, 9497, 45943, 31418, 31418, 31418, 9497, 1, 45943], [1, 45943, 9497, 45943, 1, 9497, 31418, 31418, 31418], [1, 45943, 9497, 1, 9497, 45943, 30739, 30739, 30739], [1, 45943, 9497, 9497, 45943, 1, 48725, 48725, 48725]] [[1, 1, 1, 19160, 31123, 5158, 5158, 31123, 19160], [1, 1, 1, 5158, 19160, 31123, 19160, 5158, 31123], [1, 1, 1, 31123, 5158, 19160, 31123, 19160, 5158], [1, 9497, 45943, 48725, 48725, 48725, 1, 45943, 9497], [1, 9497, 45943, 30739, 30739, 30739, 45943, 9497, 1], [1, 9497, 45943, 31418, 31418, 31418, 9497, 1, 45943], [1, 45943, 9497, 45943, 1, 9497, 31418, 31418, 31418], [1, 45943, 9497, 1, 9497, 45943, 30739, 30739, 30739], [1, 45943, 9497, 9497, 45943, 1, 48725, 48725, 48725]] = [[3, 3, 3, 3, 3, 3, 3, 3, 3], [3, 3, 3, 28491, 28491, 28491, 26947, 26947, 26947], [3, 3, 3, 26947, 26947, 26947, 28491, 28491, 28491], [35293, 36776, 38813, 26947, 3, 28491, 15474, 37928, 2039], [36776, 38813, 35293, 28491, 26947, 3, 15474, 37928, 2039], [38813, 35293, 36776, 3, 28491, 26947, 15474, 37928, 2039], [38813, 36776, 35293, 2039, 37928, 15474, 26947, 28491, 3], [36776, 35293, 38813, 2039, 37928, 15474, 3, 26947, 28491], [35293, 38813, 36776, 2039, 37928, 15474, 28491, 3, 26947]] := by decide +kernel
 have h3 : tms sD32 sD32 = [[9, 0, 0, 0, 0, 0, 0, 0, 0], [0, 0, 9, 0, 0, 0, 0, 0, 0], [0, 9, 0, 0, 0, 0, 0, 0, 0], [0, 0, 0, 0, 0, 0, 0, 0, 9], [0, 0, 0, 0, 0, 0, 0, 9, 0], [0, 0, 0, 0, 0, 0, 9, 0, 0], [0, 0, 0, 0, 0, 9, 0, 0, 0], [0, 0, 0, 0, 9, 0, 0, 0, 0], [0, 0, 0, 9, 0, 0, 0, 0, 0]] := by decide +kernel
 have h4 : gsV sD32 tD32 = 3 := by decide +kernel
 unfold TurP
 rw [h1, h2, h3, h4]
 decide +kernel
theorem db32 : DbP 9 (adD 3 2) (ivD 3 2) 49281 sD32 tD32 where
 g := ⟨by decide +kernel, by decide +kernel, by decide +kernel, by decide +kernel, by decide +kernel, by decide +kernel⟩
 n1 := by decide
 n16 := by decide
 lT := rfl
 lS := rfl
 lR := by decide +kernel
 nT := by unfold NL; decide +kernel
 nS := by unfold NL; decide +kernel
 st := by unfold StaP; decide +kernel
 s1 := by decide +kernel
 wh := by decide +kernel
 w' := dw3
 p1 := p1one
 cj := by decide +kernel
 ci := by decide +kernel
 tu := tu32
 mu := by decide +kernel
 ot := by decide +kernel
theorem dz4 : dz 4 = 17015 := by
 have h := pw_nat 38 3465
 have h2 : (38 ^ 3465 % 55441 : Nat) = 17015 := by kernel_rfl
 rw [h2] at h
 exact h
theorem di4 : pw 17015 55439 = 6041 := by
 have h := pw_nat 17015 55439
 have h2 : (17015 ^ 55439 % 55441 : Nat) = 6041 := by kernel_rfl
 rw [h2] at h
 exact h
theorem dw4 : pw 16 55439 = 51976 := by
 have h := pw_nat 16 55439
 have h2 : (16 ^ 55439 % 55441 : Nat) = 51976 := by kernel_rfl
 rw [h2] at h
 exact h
abbrev sD40 : List (List Int) := [[1, 1, 1, 1, 1, 1, 1, 1, 1, 1, 1, 1, 1, 1, 1, 1], [1, 1, 1, 1, 41001, 41001, 41001, 41001, 55440, 55440, 55440, 55440, 14440, 14440, 14440, 14440], [1, 1, 1, 1, 55440, 55440, 55440, 55440, 1, 1, 1, 1, 55440, 55440, 55440, 55440], [1, 1, 1, 1, 14440, 14440, 14440, 14440, 55440, 55440, 55440, 55440, 41001, 41001, 41001, 41001], [1, 41001, 55440, 14440, 1, 41001, 55440, 14440, 1, 41001, 55440, 14440, 1, 41001, 55440, 14440], [1, 41001, 55440, 14440, 41001, 55440, 14440, 1, 55440, 14440, 1, 41001, 14440, 1, 41001, 55440], [1, 41001, 55440, 14440, 55440, 14440, 1, 41001, 1, 41001, 55440, 14440, 55440, 14440, 1, 41001], [1, 41001, 55440, 14440, 14440, 1, 41001, 55440, 55440, 14440, 1, 41001, 41001, 55440, 14440, 1], [1, 55440, 1, 55440, 1, 55440, 1, 55440, 1, 55440, 1, 55440, 1, 55440, 1, 55440], [1, 55440, 1, 55440, 41001, 14440, 41001, 14440, 55440, 1, 55440, 1, 14440, 41001, 14440, 41001], [1, 55440, 1, 55440, 55440, 1, 55440, 1, 1, 55440, 1, 55440, 55440, 1, 55440, 1], [1, 55440, 1, 55440, 14440, 41001, 14440, 41001, 55440, 1, 55440, 1, 41001, 14440, 41001, 14440], [1, 14440, 55440, 41001, 1, 14440, 55440, 41001, 1, 14440, 55440, 41001, 1, 14440, 55440, 41001], [1, 14440, 55440, 41001, 41001, 1, 14440, 55440, 55440, 41001, 1, 14440, 14440, 55440, 41001, 1], [1, 14440, 55440, 41001, 55440, 41001, 1, 14440, 1, 14440, 55440, 41001, 55440, 41001, 1, 14440], [1, 14440, 55440, 41001, 14440, 55440, 41001, 1, 55440, 41001, 1, 14440, 41001, 1, 14440, 55440]]
abbrev tD40 : List Int := [1, 1, 1, 1, 1, 14440, 55440, 41001, 1, 55440, 1, 55440, 1, 41001, 55440, 14440]
theorem dS40 : dS 4 0 = sD40 := by
 unfold dS
 rw [dz4, di4]
 decide +kernel
theorem dT40 : dTs 4 0 = tD40 := by
 unfold dTs
 rw [dz4]
 decide +kernel
theorem tu40 : TurP sD40 tD40 := by
 have h1 : uM sD40 tD40 = [[1, 1, 1, 1, 1, 14440, 55440, 41001, 1, 55440, 1, 55440, 1, 41001, 55440, 14440], [1, 1, 1, 1, 41001, 1, 14440, 55440, 55440, 1, 55440, 1, 14440, 1, 41001, 55440], [1, 1, 1, 1, 55440, 41001, 1, 14440, 1, 55440, 1, 55440, 55440, 14440, 1, 41001], [1, 1, 1, 1, 14440, 55440, 41001, 1, 55440, 1, 55440, 1, 41001, 55440, 14440, 1], [1, 41001, 55440, 14440, 1, 1, 1, 1, 1, 14440, 55440, 41001, 1, 55440, 1, 55440], [1, 41001, 55440, 14440, 41001, 41001, 41001, 41001, 55440, 41001, 1, 14440, 14440, 41001, 14440, 41001], [1, 41001, 55440, 14440, 55440, 55440, 55440, 55440, 1, 14440, 55440, 41001, 55440, 1, 55440, 1], [1, 41001, 55440, 14440, 14440, 14440, 14440, 14440, 55440, 41001, 1, 14440, 41001, 14440, 41001, 14440], [1, 55440, 1, 55440, 1, 41001, 55440, 14440, 1, 1, 1, 1, 1, 14440, 55440, 41001], [1, 55440, 1, 55440, 41001, 55440, 14440, 1, 55440, 55440, 55440, 55440, 14440, 55440, 41001, 1], [1, 55440, 1, 55440, 55440, 14440, 1, 41001, 1, 1, 1, 1, 55440, 41001, 1, 14440], [1, 55440, 1, 55440, 14440, 1, 41001, 55440, 55440, 55440, 55440, 55440, 41001, 1, 14440, 55440], [1, 14440, 55440, 41001, 1, 55440, 1, 55440, 1, 41001, 55440, 14440, 1, 1, 1, 1], [1, 14440, 55440, 41001, 41001, 14440, 41001, 14440, 55440, 14440, 1, 41001, 14440, 14440, 14440, 14440], [1, 14440, 55440, 41001, 55440, 1, 55440, 1, 1, 41001, 55440, 14440, 55440, 55440, 55440, 55440], [1, 14440, 55440, 41001, 14440, 41001, 14440, 41001, 55440, 14440, 1, 41001, 41001, 41001, 41001, 41001]] := by decide +kernel
 have h2 : tms [[1, 1, 1, 1, 1, 14440, 55440, 41001, 1, 55440, 1, 55440, 1, 41001, 55440, 14440], [1, 1, 1, 1, 41001, 1, 14440, 55440, 55440, 1, 55440, 1, 14440, 1, 41001, 55440], [1, 1, 1, 1, 55440, 41001, 1, 14440, 1, 55440, 1, 55440, 55440, 14440, 1, 41001], [1, 1, 1, 1, 14440, 55440, 41001, 1, 55440, 1, 55440, 1, 41001, 55440, 14440, 1], [1, 41001, 55440, 14440, 1, 1, 1, 1, 1, 14440, 55440, 41001, 1, 55440, 1, 55440], [1, 41001, 55440, 14440, 41001, 41001, 41001, 41001, 55440, 41001, 1, 14440, 14440, 41001, 14440, 41001], [1, 41001, 55440, 14440, 55440, 55440, 55440, 55440, 1, 14440, 55440, 41001, 55440, 1, 55440, 1], [1, 41001, 55440, 14440, 14440, 14440, 14440, 14440, 55440, 41001, 1, 14440, 41001, 14440, 41001, 14440], [1, 55440, 1, 55440, 1, 41001, 55440, 14440, 1, 1, 1, 1, 1, 14440, 55440, 41001], [1, 55440, 1, 55440, 41001, 55440, 14440, 1, 55440, 55440, 55440, 55440, 14440, 55440, 41001, 1], [1, 55440, 1, 55440, 55440, 14440, 1, 41001, 1, 1, 1, 1, 55440, 41001, 1, 14440], [1, 55440, 1, 55440, 14440, 1, 41001, 55440, 55440, 55440, 55440, 55440, 41001, 1, 14440, 55440], [1, 14440, 55440, 41001, 1, 55440, 1, 55440, 1, 41001, 55440, 14440, 1, 1, 1, 1], [1, 14440, 55440, 41001, 41001, 14440, 41001, 14440, 55440, 14440, 1, 41001, 14440, 14440, 14440, 14440], [1, 14440, 55440, 41001, 55440, 1, 55440, 1, 1, 41001, 55440, 14440, 55440, 55440, 55440, 55440], [1, 14440, 55440, 41001, 14440, 41001, 14440, 41001, 55440, 14440, 1, 41001, 41001, 41001, 41001, 41001]] [[1, 1, 1, 1, 1, 14440, 55440, 41001, 1, 55440, 1, 55440, 1, 41001, 55440, 14440], [1, 1, 1, 1, 41001, 1, 14440, 55440, 55440, 1, 55440, 1, 14440, 1, 41001, 55440], [1, 1, 1, 1, 55440, 41001, 1, 14440, 1, 55440, 1, 55440, 55440, 14440, 1, 41001], [1, 1, 1, 1, 14440, 55440, 41001, 1, 55440, 1, 55440, 1, 41001, 55440, 14440, 1], [1, 41001, 55440, 14440, 1, 1, 1, 1, 1, 14440, 55440, 41001, 1, 55440, 1, 55440], [1, 41001, 55440, 14440, 41001, 41001, 41001, 41001, 55440, 41001, 1, 14440, 14440, 41001, 14440, 41001], [1, 41001, 55440, 14440, 55440, 55440, 55440, 55440, 1, 14440, 55440, 41001, 55440, 1, 55440, 1], [1, 41001, 55440, 14440, 14440, 14440, 14440, 14440, 55440, 41001, 1, 14440, 41001, 14440, 41001, 14440], [1, 55440, 1, 55440, 1, 41001, 55440, 14440, 1, 1, 1, 1, 1, 14440, 55440, 41001], [1, 55440, 1, 55440, 41001, 55440, 14440, 1, 55440, 55440, 55440, 55440, 14440, 55440, 41001, 1], [1, 55440, 1, 55440, 55440, 14440, 1, 41001, 1, 1, 1, 1, 55440, 41001, 1, 14440], [1, 55440, 1, 55440, 14440, 1, 41001, 55440, 55440, 55440, 55440, 55440, 41001, 1, 14440, 55440], [1, 14440, 55440, 41001, 1, 55440, 1, 55440, 1, 41001, 55440, 14440, 1, 1, 1, 1], [1, 14440, 55440, 41001, 41001, 14440, 41001, 14440, 55440, 14440, 1, 41001, 14440, 14440, 14440, 14440], [1, 14440, 55440, 41001, 55440, 1, 55440, 1, 1, 41001, 55440, 14440, 55440, 55440, 55440, 55440], [1, 14440, 55440, 41001, 14440, 41001, 14440, 41001, 55440, 14440, 1, 41001, 41001, 41001, 41001, 41001]] = [[4, 4, 4, 4, 4, 4, 4, 4, 4, 4, 4, 4, 4, 4, 4, 4], [4, 4, 4, 4, 53122, 53122, 53122, 53122, 55437, 55437, 55437, 55437, 2319, 2319, 2319, 2319], [4, 4, 4, 4, 55437, 55437, 55437, 55437, 4, 4, 4, 4, 55437, 55437, 55437, 55437], [4, 4, 4, 4, 2319, 2319, 2319, 2319, 55437, 55437, 55437, 55437, 53122, 53122, 53122, 53122], [4, 53122, 55437, 2319, 4, 53122, 55437, 2319, 4, 53122, 55437, 2319, 4, 53122, 55437, 2319], [53122, 55437, 2319, 4, 55437, 2319, 4, 53122, 2319, 4, 53122, 55437, 4, 53122, 55437, 2319], [55437, 2319, 4, 53122, 4, 53122, 55437, 2319, 55437, 2319, 4, 53122, 4, 53122, 55437, 2319], [2319, 4, 53122, 55437, 55437, 2319, 4, 53122, 53122, 55437, 2319, 4, 4, 53122, 55437, 2319], [4, 55437, 4, 55437, 4, 55437, 4, 55437, 4, 55437, 4, 55437, 4, 55437, 4, 55437], [55437, 4, 55437, 4, 2319, 53122, 2319, 53122, 4, 55437, 4, 55437, 53122, 2319, 53122, 2319], [4, 55437, 4, 55437, 55437, 4, 55437, 4, 4, 55437, 4, 55437, 55437, 4, 55437, 4], [55437, 4, 55437, 4, 53122, 2319, 53122, 2319, 4, 55437, 4, 55437, 2319, 53122, 2319, 53122], [4, 2319, 55437, 53122, 4, 2319, 55437, 53122, 4, 2319, 55437, 53122, 4, 2319, 55437, 53122], [2319, 55437, 53122, 4, 4, 2319, 55437, 53122, 53122, 4, 2319, 55437, 55437, 53122, 4, 2319], [55437, 53122, 4, 2319, 4, 2319, 55437, 53122, 55437, 53122, 4, 2319, 4, 2319, 55437, 53122], [53122, 4, 2319, 55437, 4, 2319, 55437, 53122, 2319, 55437, 53122, 4, 55437, 53122, 4, 2319]] := by decide +kernel
 have h3 : tms sD40 sD40 = [[16, 0, 0, 0, 0, 0, 0, 0, 0, 0, 0, 0, 0, 0, 0, 0], [0, 0, 0, 16, 0, 0, 0, 0, 0, 0, 0, 0, 0, 0, 0, 0], [0, 0, 16, 0, 0, 0, 0, 0, 0, 0, 0, 0, 0, 0, 0, 0], [0, 16, 0, 0, 0, 0, 0, 0, 0, 0, 0, 0, 0, 0, 0, 0], [0, 0, 0, 0, 0, 0, 0, 0, 0, 0, 0, 0, 16, 0, 0, 0], [0, 0, 0, 0, 0, 0, 0, 0, 0, 0, 0, 0, 0, 0, 0, 16], [0, 0, 0, 0, 0, 0, 0, 0, 0, 0, 0, 0, 0, 0, 16, 0], [0, 0, 0, 0, 0, 0, 0, 0, 0, 0, 0, 0, 0, 16, 0, 0], [0, 0, 0, 0, 0, 0, 0, 0, 16, 0, 0, 0, 0, 0, 0, 0], [0, 0, 0, 0, 0, 0, 0, 0, 0, 0, 0, 16, 0, 0, 0, 0], [0, 0, 0, 0, 0, 0, 0, 0, 0, 0, 16, 0, 0, 0, 0, 0], [0, 0, 0, 0, 0, 0, 0, 0, 0, 16, 0, 0, 0, 0, 0, 0], [0, 0, 0, 0, 16, 0, 0, 0, 0, 0, 0, 0, 0, 0, 0, 0], [0, 0, 0, 0, 0, 0, 0, 16, 0, 0, 0, 0, 0, 0, 0, 0], [0, 0, 0, 0, 0, 0, 16, 0, 0, 0, 0, 0, 0, 0, 0, 0], [0, 0, 0, 0, 0, 16, 0, 0, 0, 0, 0, 0, 0, 0, 0, 0]] := by decide +kernel
 have h4 : gsV sD40 tD40 = 4 := by decide +kernel
 unfold TurP
 rw [h1, h2, h3, h4]
 decide +kernel
theorem db40 : DbP 16 (adD 4 0) (ivD 4 0) 51976 sD40 tD40 where
 g := ⟨by decide +kernel, by decide +kernel, by decide +kernel, by decide +kernel, by decide +kernel, by decide +kernel⟩
 n1 := by decide
 n16 := by decide
 lT := rfl
 lS := rfl
 lR := by decide +kernel
 nT := by unfold NL; decide +kernel
 nS := by unfold NL; decide +kernel
 st := by unfold StaP; decide +kernel
 s1 := by decide +kernel
 wh := by decide +kernel
 w' := dw4
 p1 := p1one
 cj := by decide +kernel
 ci := by decide +kernel
 tu := tu40
 mu := by decide +kernel
 ot := by decide +kernel
abbrev sD41 : List (List Int) := [[1, 1, 1, 1, 1, 1, 1, 1, 1, 1, 1, 1, 1, 1, 1, 1], [1, 1, 1, 1, 41001, 41001, 41001, 41001, 55440, 55440, 55440, 55440, 14440, 14440, 14440, 14440], [1, 1, 1, 1, 55440, 55440, 55440, 55440, 1, 1, 1, 1, 55440, 55440, 55440, 55440], [1, 1, 1, 1, 14440, 14440, 14440, 14440, 55440, 55440, 55440, 55440, 41001, 41001, 41001, 41001], [1, 41001, 55440, 14440, 13503, 2677, 41938, 52764, 41001, 55440, 14440, 1, 2677, 41938, 52764, 13503], [1, 41001, 55440, 14440, 2677, 41938, 52764, 13503, 14440, 1, 41001, 55440, 13503, 2677, 41938, 52764], [1, 41001, 55440, 14440, 41938, 52764, 13503, 2677, 41001, 55440, 14440, 1, 52764, 13503, 2677, 41938], [1, 41001, 55440, 14440, 52764, 13503, 2677, 41938, 14440, 1, 41001, 55440, 41938, 52764, 13503, 2677], [1, 55440, 1, 55440, 41001, 14440, 41001, 14440, 55440, 1, 55440, 1, 14440, 41001, 14440, 41001], [1, 55440, 1, 55440, 55440, 1, 55440, 1, 1, 55440, 1, 55440, 55440, 1, 55440, 1], [1, 55440, 1, 55440, 14440, 41001, 14440, 41001, 55440, 1, 55440, 1, 41001, 14440, 41001, 14440], [1, 55440, 1, 55440, 1, 55440, 1, 55440, 1, 55440, 1, 55440, 1, 55440, 1, 55440], [1, 14440, 55440, 41001, 2677, 13503, 52764, 41938, 14440, 55440, 41001, 1, 13503, 52764, 41938, 2677], [1, 14440, 55440, 41001, 41938, 2677, 13503, 52764, 41001, 1, 14440, 55440, 52764, 41938, 2677, 13503], [1, 14440, 55440, 41001, 52764, 41938, 2677, 13503, 14440, 55440, 41001, 1, 41938, 2677, 13503, 52764], [1, 14440, 55440, 41001, 13503, 52764, 41938, 2677, 41001, 1, 14440, 55440, 2677, 13503, 52764, 41938]]
abbrev tD41 : List Int := [1, 1, 1, 1, 17015, 37529, 38426, 17912, 14440, 41001, 14440, 41001, 38426, 37529, 17015, 17912]
theorem dS41 : dS 4 1 = sD41 := by
 unfold dS
 rw [dz4, di4]
 decide +kernel
theorem dT41 : dTs 4 1 = tD41 := by
 unfold dTs
 rw [dz4]
 decide +kernel
theorem tu41 : TurP sD41 tD41 := by
 have h1 : uM sD41 tD41 = [[1, 1, 1, 1, 17015, 37529, 38426, 17912, 14440, 41001, 14440, 41001, 38426, 37529, 17015, 17912], [1, 1, 1, 1, 17912, 17015, 37529, 38426, 41001, 14440, 41001, 14440, 17912, 38426, 37529, 17015], [1, 1, 1, 1, 38426, 17912, 17015, 37529, 14440, 41001, 14440, 41001, 17015, 17912, 38426, 37529], [1, 1, 1, 1, 37529, 38426, 17912, 17015, 41001, 14440, 41001, 14440, 37529, 17015, 17912, 38426], [1, 41001, 55440, 14440, 6041, 6041, 6041, 6041, 1, 14440, 55440, 41001, 23347, 32094, 23347, 32094], [1, 41001, 55440, 14440, 32094, 32094, 32094, 32094, 55440, 41001, 1, 14440, 49400, 6041, 49400, 6041], [1, 41001, 55440, 14440, 49400, 49400, 49400, 49400, 1, 14440, 55440, 41001, 32094, 23347, 32094, 23347], [1, 41001, 55440, 14440, 23347, 23347, 23347, 23347, 55440, 41001, 1, 14440, 6041, 49400, 6041, 49400], [1, 55440, 1, 55440, 17912, 38426, 37529, 17015, 41001, 41001, 41001, 41001, 17912, 17015, 37529, 38426], [1, 55440, 1, 55440, 38426, 37529, 17015, 17912, 14440, 14440, 14440, 14440, 17015, 37529, 38426, 17912], [1, 55440, 1, 55440, 37529, 17015, 17912, 38426, 41001, 41001, 41001, 41001, 37529, 38426, 17912, 17015], [1, 55440, 1, 55440, 17015, 17912, 38426, 37529, 14440, 14440, 14440, 14440, 38426, 17912, 17015, 37529], [1, 14440, 55440, 41001, 32094, 23347, 32094, 23347, 55440, 14440, 1, 41001, 49400, 49400, 49400, 49400], [1, 14440, 55440, 41001, 49400, 6041, 49400, 6041, 1, 41001, 55440, 14440, 32094, 32094, 32094, 32094], [1, 14440, 55440, 41001, 23347, 32094, 23347, 32094, 55440, 14440, 1, 41001, 6041, 6041, 6041, 6041], [1, 14440, 55440, 41001, 6041, 49400, 6041, 49400, 1, 41001, 55440, 14440, 23347, 23347, 23347, 23347]] := by decide +kernel
 have h2 : tms [[1, 1, 1, 1, 17015, 37529, 38426, 17912, 14440, 41001, 14440, 41001, 38426, 37529, 17015, 17912], [1, 1, 1, 1, 17912, 17015, 37529, 38426, 41001, 14440, 41001, 14440, 17912, 38426, 37529, 17015], [1, 1, 1, 1, 38426, 17912, 17015, 37529, 14440, 41001, 14440, 41001, 17015, 17912, 38426, 37529], [1, 1, 1, 1, 37529, 38426, 17912, 17015, 41001, 14440, 41001, 14440, 37529, 17015, 17912, 38426], [1, 41001, 55440, 14440, 6041, 6041, 6041, 6041, 1, 14440, 55440, 41001, 23347, 32094, 23347, 32094], [1, 41001, 55440, 14440, 32094, 32094, 32094, 32094, 55440, 41001, 1, 14440, 49400, 6041, 49400, 6041], [1, 41001, 55440, 14440, 49400, 49400, 49400, 49400, 1, 14440, 55440, 41001, 32094, 23347, 32094, 23347], [1, 41001, 55440, 14440, 23347, 23347, 23347, 23347, 55440, 41001, 1, 14440, 6041, 49400, 6041, 49400], [1, 55440, 1, 55440, 17912, 38426, 37529, 17015, 41001, 41001, 41001, 41001, 17912, 17015, 37529, 38426], [1, 55440, 1, 55440, 38426, 37529, 17015, 17912, 14440, 14440, 14440, 14440, 17015, 37529, 38426, 17912], [1, 55440, 1, 55440, 37529, 17015, 17912, 38426, 41001, 41001, 41001, 41001, 37529, 38426, 17912, 17015], [1, 55440, 1, 55440, 17015, 17912, 38426, 37529, 14440, 14440, 14440, 14440, 38426, 17912, 17015, 37529], [1, 14440, 55440, 41001, 32094, 23347, 32094, 23347, 55440, 14440, 1, 41001, 49400, 49400, 49400, 49400], [1, 14440, 55440, 41001, 49400, 6041, 49400, 6041, 1, 41001, 55440, 14440, 32094, 32094, 32094, 32094], [1, 14440, 55440, 41001, 23347, 32094, 23347, 32094, 55440, 14440, 1, 41001, 6041, 6041, 6041, 6041], [1, 14440, 55440, 41001, 6041, 49400, 6041, 49400, 1, 41001, 55440, 14440, 23347, 23347, 23347, 23347]] [[1, 1, 1, 1, 17015, 37529, 38426, 17912, 14440, 41001, 14440, 41001, 38426, 37529, 17015, 17912], [1, 1, 1, 1, 17912, 17015, 37529, 38426, 41001, 14440, 41001, 14440, 17912, 38426, 37529, 17015], [1, 1, 1, 1, 38426, 17912, 17015, 37529, 14440, 41001, 14440, 41001, 17015, 17912, 38426, 37529], [1, 1, 1, 1, 37529, 38426, 17912, 17015, 41001, 14440, 41001, 14440, 37529, 17015, 17912, 38426], [1, 41001, 55440, 14440, 6041, 6041, 6041, 6041, 1, 14440, 55440, 41001, 23347, 32094, 23347, 32094], [1, 41001, 55440, 14440, 32094, 32094, 32094, 32094, 55440, 41001, 1, 14440, 49400, 6041, 49400, 6041], [1, 41001, 55440, 14440, 49400, 49400, 49400, 49400, 1, 14440, 55440, 41001, 32094, 23347, 32094, 23347], [1, 41001, 55440, 14440, 23347, 23347, 23347, 23347, 55440, 41001, 1, 14440, 6041, 49400, 6041, 49400], [1, 55440, 1, 55440, 17912, 38426, 37529, 17015, 41001, 41001, 41001, 41001, 17912, 17015, 37529, 38426], [1, 55440, 1, 55440, 38426, 37529, 17015, 17912, 14440, 14440, 14440, 14440, 17015, 37529, 38426, 17912], [1, 55440, 1, 55440, 37529, 17015, 17912, 38426, 41001, 41001, 41001, 41001, 37529, 38426, 17912, 17015], [1, 55440, 1, 55440, 17015, 17912, 38426, 37529, 14440, 14440, 14440, 14440, 38426, 17912, 17015, 37529], [1, 14440, 55440, 41001, 32094, 23347, 32094, 23347, 55440, 14440, 1, 41001, 49400, 49400, 49400, 49400], [1, 14440, 55440, 41001, 49400, 6041, 49400, 6041, 1, 41001, 55440, 14440, 32094, 32094, 32094, 32094], [1, 14440, 55440, 41001, 23347, 32094, 23347, 32094, 55440, 14440, 1, 41001, 6041, 6041, 6041, 6041], [1, 14440, 55440, 41001, 6041, 49400, 6041, 49400, 1, 41001, 55440, 14440, 23347, 23347, 23347, 23347]] = [[4, 4, 4, 4, 4, 4, 4, 4, 4, 4, 4, 4, 4, 4, 4, 4], [4, 4, 4, 4, 53122, 53122, 53122, 53122, 55437, 55437, 55437, 55437, 2319, 2319, 2319, 2319], [4, 4, 4, 4, 55437, 55437, 55437, 55437, 4, 4, 4, 4, 55437, 55437, 55437, 55437], [4, 4, 4, 4, 2319, 2319, 2319, 2319, 55437, 55437, 55437, 55437, 53122, 53122, 53122, 53122], [24164, 17494, 31277, 37947, 16207, 42822, 39234, 12619, 17494, 31277, 37947, 24164, 42822, 39234, 12619, 16207], [17494, 31277, 37947, 24164, 39234, 12619, 16207, 42822, 24164, 17494, 31277, 37947, 42822, 39234, 12619, 16207], [31277, 37947, 24164, 17494, 16207, 42822, 39234, 12619, 37947, 24164, 17494, 31277, 42822, 39234, 12619, 16207], [37947, 24164, 17494, 31277, 39234, 12619, 16207, 42822, 31277, 37947, 24164, 17494, 42822, 39234, 12619, 16207], [53122, 2319, 53122, 2319, 55437, 4, 55437, 4, 2319, 53122, 2319, 53122, 4, 55437, 4, 55437], [2319, 53122, 2319, 53122, 53122, 2319, 53122, 2319, 2319, 53122, 2319, 53122, 53122, 2319, 53122, 2319], [53122, 2319, 53122, 2319, 4, 55437, 4, 55437, 2319, 53122, 2319, 53122, 55437, 4, 55437, 4], [2319, 53122, 2319, 53122, 2319, 53122, 2319, 53122, 2319, 53122, 2319, 53122, 2319, 53122, 2319, 53122], [31277, 17494, 24164, 37947, 12619, 39234, 42822, 16207, 17494, 24164, 37947, 31277, 39234, 42822, 16207, 12619], [17494, 24164, 37947, 31277, 12619, 39234, 42822, 16207, 31277, 17494, 24164, 37947, 16207, 12619, 39234, 42822], [24164, 37947, 31277, 17494, 12619, 39234, 42822, 16207, 37947, 31277, 17494, 24164, 39234, 42822, 16207, 12619], [37947, 31277, 17494, 24164, 12619, 39234, 42822, 16207, 24164, 37947, 31277, 17494, 16207, 12619, 39234, 42822]] := by decide +kernel
 have h3 : tms sD41 sD41 = [[16, 0, 0, 0, 0, 0, 0, 0, 0, 0, 0, 0, 0, 0, 0, 0], [0, 0, 0, 16, 0, 0, 0, 0, 0, 0, 0, 0, 0, 0, 0, 0], [0, 0, 16, 0, 0, 0, 0, 0, 0, 0, 0, 0, 0, 0, 0, 0], [0, 16, 0, 0, 0, 0, 0, 0, 0, 0, 0, 0, 0, 0, 0, 0], [0, 0, 0, 0, 0, 0, 0, 0, 0, 0, 0, 0, 0, 0, 16, 0], [0, 0, 0, 0, 0, 0, 0, 0, 0, 0, 0, 0, 0, 16, 0, 0], [0, 0, 0, 0, 0, 0, 0, 0, 0, 0, 0, 0, 16, 0, 0, 0], [0, 0, 0, 0, 0, 0, 0, 0, 0, 0, 0, 0, 0, 0, 0, 16], [0, 0, 0, 0, 0, 0, 0, 0, 0, 0, 16, 0, 0, 0, 0, 0], [0, 0, 0, 0, 0, 0, 0, 0, 0, 16, 0, 0, 0, 0, 0, 0], [0, 0, 0, 0, 0, 0, 0, 0, 16, 0, 0, 0, 0, 0, 0, 0], [0, 0, 0, 0, 0, 0, 0, 0, 0, 0, 0, 16, 0, 0, 0, 0], [0, 0, 0, 0, 0, 0, 16, 0, 0, 0, 0, 0, 0, 0, 0, 0], [0, 0, 0, 0, 0, 16, 0, 0, 0, 0, 0, 0, 0, 0, 0, 0], [0, 0, 0, 0, 16, 0, 0, 0, 0, 0, 0, 0, 0, 0, 0, 0], [0, 0, 0, 0, 0, 0, 0, 16, 0, 0, 0, 0, 0, 0, 0, 0]] := by decide +kernel
 have h4 : gsV sD41 tD41 = 4 := by decide +kernel
 unfold TurP
 rw [h1, h2, h3, h4]
 decide +kernel
theorem db41 : DbP 16 (adD 4 1) (ivD 4 1) 51976 sD41 tD41 where
 g := ⟨by decide +kernel, by decide +kernel, by decide +kernel, by decide +kernel, by decide +kernel, by decide +kernel⟩
 n1 := by decide
 n16 := by decide
 lT := rfl
 lS := rfl
 lR := by decide +kernel
 nT := by unfold NL; decide +kernel
 nS := by unfold NL; decide +kernel
 st := by unfold StaP; decide +kernel
 s1 := by decide +kernel
 wh := by decide +kernel
 w' := dw4
 p1 := p1one
 cj := by decide +kernel
 ci := by decide +kernel
 tu := tu41
 mu := by decide +kernel
 ot := by decide +kernel
abbrev sD42 : List (List Int) := [[1, 1, 1, 1, 1, 1, 1, 1, 1, 1, 1, 1, 1, 1, 1, 1], [1, 1, 1, 1, 41001, 41001, 41001, 41001, 55440, 55440, 55440, 55440, 14440, 14440, 14440, 14440], [1, 1, 1, 1, 55440, 55440, 55440, 55440, 1, 1, 1, 1, 55440, 55440, 55440, 55440], [1, 1, 1, 1, 14440, 14440, 14440, 14440, 55440, 55440, 55440, 55440, 41001, 41001, 41001, 41001], [1, 41001, 55440, 14440, 41001, 55440, 14440, 1, 55440, 14440, 1, 41001, 14440, 1, 41001, 55440], [1, 41001, 55440, 14440, 55440, 14440, 1, 41001, 1, 41001, 55440, 14440, 55440, 14440, 1, 41001], [1, 41001, 55440, 14440, 14440, 1, 41001, 55440, 55440, 14440, 1, 41001, 41001, 55440, 14440, 1], [1, 41001, 55440, 14440, 1, 41001, 55440, 14440, 1, 41001, 55440, 14440, 1, 41001, 55440, 14440], [1, 55440, 1, 55440, 55440, 1, 55440, 1, 1, 55440, 1, 55440, 55440, 1, 55440, 1], [1, 55440, 1, 55440, 14440, 41001, 14440, 41001, 55440, 1, 55440, 1, 41001, 14440, 41001, 14440], [1, 55440, 1, 55440, 1, 55440, 1, 55440, 1, 55440, 1, 55440, 1, 55440, 1, 55440], [1, 55440, 1, 55440, 41001, 14440, 41001, 14440, 55440, 1, 55440, 1, 14440, 41001, 14440, 41001], [1, 14440, 55440, 41001, 14440, 55440, 41001, 1, 55440, 41001, 1, 14440, 41001, 1, 14440, 55440], [1, 14440, 55440, 41001, 1, 14440, 55440, 41001, 1, 14440, 55440, 41001, 1, 14440, 55440, 41001], [1, 14440, 55440, 41001, 41001, 1, 14440, 55440, 55440, 41001, 1, 14440, 14440, 55440, 41001, 1], [1, 14440, 55440, 41001, 55440, 41001, 1, 14440, 1, 14440, 55440, 41001, 55440, 41001, 1, 14440]]
abbrev tD42 : List Int := [1, 1, 1, 1, 52764, 41938, 2677, 13503, 55440, 1, 55440, 1, 52764, 13503, 2677, 41938]
theorem dS42 : dS 4 2 = sD42 := by
 unfold dS
 rw [dz4, di4]
 decide +kernel
theorem dT42 : dTs 4 2 = tD42 := by
 unfold dTs
 rw [dz4]
 decide +kernel
theorem tu42 : TurP sD42 tD42 := by
 have h1 : uM sD42 tD42 = [[1, 1, 1, 1, 52764, 41938, 2677, 13503, 55440, 1, 55440, 1, 52764, 13503, 2677, 41938], [1, 1, 1, 1, 13503, 52764, 41938, 2677, 1, 55440, 1, 55440, 41938, 52764, 13503, 2677], [1, 1, 1, 1, 2677, 13503, 52764, 41938, 55440, 1, 55440, 1, 2677, 41938, 52764, 13503], [1, 1, 1, 1, 41938, 2677, 13503, 52764, 1, 55440, 1, 55440, 13503, 2677, 41938, 52764], [1, 41001, 55440, 14440, 13503, 13503, 13503, 13503, 1, 14440, 55440, 41001, 41938, 13503, 41938, 13503], [1, 41001, 55440, 14440, 2677, 2677, 2677, 2677, 55440, 41001, 1, 14440, 2677, 52764, 2677, 52764], [1, 41001, 55440, 14440, 41938, 41938, 41938, 41938, 1, 14440, 55440, 41001, 13503, 41938, 13503, 41938], [1, 41001, 55440, 14440, 52764, 52764, 52764, 52764, 55440, 41001, 1, 14440, 52764, 2677, 52764, 2677], [1, 55440, 1, 55440, 2677, 41938, 52764, 13503, 55440, 55440, 55440, 55440, 2677, 13503, 52764, 41938], [1, 55440, 1, 55440, 41938, 52764, 13503, 2677, 1, 1, 1, 1, 13503, 52764, 41938, 2677], [1, 55440, 1, 55440, 52764, 13503, 2677, 41938, 55440, 55440, 55440, 55440, 52764, 41938, 2677, 13503], [1, 55440, 1, 55440, 13503, 2677, 41938, 52764, 1, 1, 1, 1, 41938, 2677, 13503, 52764], [1, 14440, 55440, 41001, 41938, 13503, 41938, 13503, 1, 41001, 55440, 14440, 13503, 13503, 13503, 13503], [1, 14440, 55440, 41001, 52764, 2677, 52764, 2677, 55440, 14440, 1, 41001, 52764, 52764, 52764, 52764], [1, 14440, 55440, 41001, 13503, 41938, 13503, 41938, 1, 41001, 55440, 14440, 41938, 41938, 41938, 41938], [1, 14440, 55440, 41001, 2677, 52764, 2677, 52764, 55440, 14440, 1, 41001, 2677, 2677, 2677, 2677]] := by decide +kernel
 have h2 : tms [[1, 1, 1, 1, 52764, 41938, 2677, 13503, 55440, 1, 55440, 1, 52764, 13503, 2677, 41938], [1, 1, 1, 1, 13503, 52764, 41938, 2677, 1, 55440, 1, 55440, 41938, 52764, 13503, 2677], [1, 1, 1, 1, 2677, 13503, 52764, 41938, 55440, 1, 55440, 1, 2677, 41938, 52764, 13503], [1, 1, 1, 1, 41938, 2677, 13503, 52764, 1, 55440, 1, 55440, 13503, 2677, 41938, 52764], [1, 41001, 55440, 14440, 13503, 13503, 13503, 13503, 1, 14440, 55440, 41001, 41938, 13503, 41938, 13503], [1, 41001, 55440, 14440, 2677, 2677, 2677, 2677, 55440, 41001, 1, 14440, 2677, 52764, 2677, 52764], [1, 41001, 55440, 14440, 41938, 41938, 41938, 41938, 1, 14440, 55440, 41001, 13503, 41938, 13503, 41938], [1, 41001, 55440, 14440, 52764, 52764, 52764, 52764, 55440, 41001, 1, 14440, 52764, 2677, 52764, 2677], [1, 55440, 1, 55440, 2677, 41938, 52764, 13503, 55440, 55440, 55440, 55440, 2677, 13503, 52764, 41938], [1, 55440, 1, 55440, 41938, 52764, 13503, 2677, 1, 1, 1, 1, 13503, 52764, 41938, 2677], [1, 55440, 1, 55440, 52764, 13503, 2677, 41938, 55440, 55440, 55440, 55440, 52764, 41938, 2677, 13503], [1, 55440, 1, 55440, 13503, 2677, 41938, 52764, 1, 1, 1, 1, 41938, 2677, 13503, 52764], [1, 14440, 55440, 41001, 41938, 13503, 41938, 13503, 1, 41001, 55440, 14440, 13503, 13503, 13503, 13503], [1, 14440, 55440, 41001, 52764, 2677, 52764, 2677, 55440, 14440, 1, 41001, 52764, 52764, 52764, 52764], [1, 14440, 55440, 41001, 13503, 41938, 13503, 41938, 1, 41001, 55440, 14440, 41938, 41938, 41938, 41938], [1, 14440, 55440, 41001, 2677, 52764, 2677, 52764, 55440, 14440, 1, 41001, 2677, 2677, 2677, 2677]] [[1, 1, 1, 1, 52764, 41938, 2677, 13503, 55440, 1, 55440, 1, 52764, 13503, 2677, 41938], [1, 1, 1, 1, 13503, 52764, 41938, 2677, 1, 55440, 1, 55440, 41938, 52764, 13503, 2677], [1, 1, 1, 1, 2677, 13503, 52764, 41938, 55440, 1, 55440, 1, 2677, 41938, 52764, 13503], [1, 1, 1, 1, 41938, 2677, 13503, 52764, 1, 55440, 1, 55440, 13503, 2677, 41938, 52764], [1, 41001, 55440, 14440, 13503, 13503, 13503, 13503, 1, 14440, 55440, 41001, 41938, 13503, 41938, 13503], [1, 41001, 55440, 14440, 2677, 2677, 2677, 2677, 55440, 41001, 1, 14440, 2677, 52764, 2677, 52764], [1, 41001, 55440, 14440, 41938, 41938, 41938, 41938, 1, 14440, 55440, 41001, 13503, 41938, 13503, 41938], [1, 41001, 55440, 14440, 52764, 52764, 52764, 52764, 55440, 41001, 1, 14440, 52764, 2677, 52764, 2677], [1, 55440, 1, 55440, 2677, 41938, 52764, 13503, 55440, 55440, 55440, 55440, 2677, 13503, 52764, 41938], [1, 55440, 1, 55440, 41938, 52764, 13503, 2677, 1, 1, 1, 1, 13503, 52764, 41938, 2677], [1, 55440, 1, 55440, 52764, 13503, 2677, 41938, 55440, 55440, 55440, 55440, 52764, 41938, 2677, 13503], [1, 55440, 1, 55440, 13503, 2677, 41938, 52764, 1, 1, 1, 1, 41938, 2677, 13503, 52764], [1, 14440, 55440, 41001, 41938, 13503, 41938, 13503, 1, 41001, 55440, 14440, 13503, 13503, 13503, 13503], [1, 14440, 55440, 41001, 52764, 2677, 52764, 2677, 55440, 14440, 1, 41001, 52764, 52764, 52764, 52764], [1, 14440, 55440, 41001, 13503, 41938, 13503, 41938, 1, 41001, 55440, 14440, 41938, 41938, 41938, 41938], [1, 14440, 55440, 41001, 2677, 52764, 2677, 52764, 55440, 14440, 1, 41001, 2677, 2677, 2677, 2677]] = [[4, 4, 4, 4, 4, 4, 4, 4, 4, 4, 4, 4, 4, 4, 4, 4], [4, 4, 4, 4, 53122, 53122, 53122, 53122, 55437, 55437, 55437, 55437, 2319, 2319, 2319, 2319], [4, 4, 4, 4, 55437, 55437, 55437, 55437, 4, 4, 4, 4, 55437, 55437, 55437, 55437], [4, 4, 4, 4, 2319, 2319, 2319, 2319, 55437, 55437, 55437, 55437, 53122, 53122, 53122, 53122], [54012, 10708, 1429, 44733, 10708, 1429, 44733, 54012, 1429, 44733, 54012, 10708, 44733, 54012, 10708, 1429], [10708, 1429, 44733, 54012, 44733, 54012, 10708, 1429, 10708, 1429, 44733, 54012, 44733, 54012, 10708, 1429], [1429, 44733, 54012, 10708, 10708, 1429, 44733, 54012, 54012, 10708, 1429, 44733, 44733, 54012, 10708, 1429], [44733, 54012, 10708, 1429, 44733, 54012, 10708, 1429, 44733, 54012, 10708, 1429, 44733, 54012, 10708, 1429], [55437, 4, 55437, 4, 4, 55437, 4, 55437, 55437, 4, 55437, 4, 4, 55437, 4, 55437], [4, 55437, 4, 55437, 2319, 53122, 2319, 53122, 55437, 4, 55437, 4, 53122, 2319, 53122, 2319], [55437, 4, 55437, 4, 55437, 4, 55437, 4, 55437, 4, 55437, 4, 55437, 4, 55437, 4], [4, 55437, 4, 55437, 53122, 2319, 53122, 2319, 55437, 4, 55437, 4, 2319, 53122, 2319, 53122], [54012, 44733, 1429, 10708, 44733, 1429, 10708, 54012, 1429, 10708, 54012, 44733, 10708, 54012, 44733, 1429], [44733, 1429, 10708, 54012, 44733, 1429, 10708, 54012, 44733, 1429, 10708, 54012, 44733, 1429, 10708, 54012], [1429, 10708, 54012, 44733, 44733, 1429, 10708, 54012, 54012, 44733, 1429, 10708, 10708, 54012, 44733, 1429], [10708, 54012, 44733, 1429, 44733, 1429, 10708, 54012, 10708, 54012, 44733, 1429, 44733, 1429, 10708, 54012]] := by decide +kernel
 have h3 : tms sD42 sD42 = [[16, 0, 0, 0, 0, 0, 0, 0, 0, 0, 0, 0, 0, 0, 0, 0], [0, 0, 0, 16, 0, 0, 0, 0, 0, 0, 0, 0, 0, 0, 0, 0], [0, 0, 16, 0, 0, 0, 0, 0, 0, 0, 0, 0, 0, 0, 0, 0], [0, 16, 0, 0, 0, 0, 0, 0, 0, 0, 0, 0, 0, 0, 0, 0], [0, 0, 0, 0, 0, 0, 0, 0, 0, 0, 0, 0, 16, 0, 0, 0], [0, 0, 0, 0, 0, 0, 0, 0, 0, 0, 0, 0, 0, 0, 0, 16], [0, 0, 0, 0, 0, 0, 0, 0, 0, 0, 0, 0, 0, 0, 16, 0], [0, 0, 0, 0, 0, 0, 0, 0, 0, 0, 0, 0, 0, 16, 0, 0], [0, 0, 0, 0, 0, 0, 0, 0, 16, 0, 0, 0, 0, 0, 0, 0], [0, 0, 0, 0, 0, 0, 0, 0, 0, 0, 0, 16, 0, 0, 0, 0], [0, 0, 0, 0, 0, 0, 0, 0, 0, 0, 16, 0, 0, 0, 0, 0], [0, 0, 0, 0, 0, 0, 0, 0, 0, 16, 0, 0, 0, 0, 0, 0], [0, 0, 0, 0, 16, 0, 0, 0, 0, 0, 0, 0, 0, 0, 0, 0], [0, 0, 0, 0, 0, 0, 0, 16, 0, 0, 0, 0, 0, 0, 0, 0], [0, 0, 0, 0, 0, 0, 16, 0, 0, 0, 0, 0, 0, 0, 0, 0], [0, 0, 0, 0, 0, 16, 0, 0, 0, 0, 0, 0, 0, 0, 0, 0]] := by decide +kernel
 have h4 : gsV sD42 tD42 = 4 := by decide +kernel
 unfold TurP
 rw [h1, h2, h3, h4]
 decide +kernel
theorem db42 : DbP 16 (adD 4 2) (ivD 4 2) 51976 sD42 tD42 where
 g := ⟨by decide +kernel, by decide +kernel, by decide +kernel, by decide +kernel, by decide +kernel, by decide +kernel⟩
 n1 := by decide
 n16 := by decide
 lT := rfl
 lS := rfl
 lR := by decide +kernel
 nT := by unfold NL; decide +kernel
 nS := by unfold NL; decide +kernel
 st := by unfold StaP; decide +kernel
 s1 := by decide +kernel
 wh := by decide +kernel
 w' := dw4
 p1 := p1one
 cj := by decide +kernel
 ci := by decide +kernel
 tu := tu42
 mu := by decide +kernel
 ot := by decide +kernel
abbrev sD43 : List (List Int) := [[1, 1, 1, 1, 1, 1, 1, 1, 1, 1, 1, 1, 1, 1, 1, 1], [1, 1, 1, 1, 41001, 41001, 41001, 41001, 55440, 55440, 55440, 55440, 14440, 14440, 14440, 14440], [1, 1, 1, 1, 55440, 55440, 55440, 55440, 1, 1, 1, 1, 55440, 55440, 55440, 55440], [1, 1, 1, 1, 14440, 14440, 14440, 14440, 55440, 55440, 55440, 55440, 41001, 41001, 41001, 41001], [1, 41001, 55440, 14440, 2677, 41938, 52764, 13503, 14440, 1, 41001, 55440, 13503, 2677, 41938, 52764], [1, 41001, 55440, 14440, 41938, 52764, 13503, 2677, 41001, 55440, 14440, 1, 52764, 13503, 2677, 41938], [1, 41001, 55440, 14440, 52764, 13503, 2677, 41938, 14440, 1, 41001, 55440, 41938, 52764, 13503, 2677], [1, 41001, 55440, 14440, 13503, 2677, 41938, 52764, 41001, 55440, 14440, 1, 2677, 41938, 52764, 13503], [1, 55440, 1, 55440, 14440, 41001, 14440, 41001, 55440, 1, 55440, 1, 41001, 14440, 41001, 14440], [1, 55440, 1, 55440, 1, 55440, 1, 55440, 1, 55440, 1, 55440, 1, 55440, 1, 55440], [1, 55440, 1, 55440, 41001, 14440, 41001, 14440, 55440, 1, 55440, 1, 14440, 41001, 14440, 41001], [1, 55440, 1, 55440, 55440, 1, 55440, 1, 1, 55440, 1, 55440, 55440, 1, 55440, 1], [1, 14440, 55440, 41001, 13503, 52764, 41938, 2677, 41001, 1, 14440, 55440, 2677, 13503, 52764, 41938], [1, 14440, 55440, 41001, 2677, 13503, 52764, 41938, 14440, 55440, 41001, 1, 13503, 52764, 41938, 2677], [1, 14440, 55440, 41001, 41938, 2677, 13503, 52764, 41001, 1, 14440, 55440, 52764, 41938, 2677, 13503], [1, 14440, 55440, 41001, 52764, 41938, 2677, 13503, 14440, 55440, 41001, 1, 41938, 2677, 13503, 52764]]
abbrev tD43 : List Int := [1, 1, 1, 1, 23347, 49400, 32094, 6041, 41001, 14440, 41001, 14440, 32094, 49400, 23347, 6041]
theorem dS43 : dS 4 3 = sD43 := by
 unfold dS
 rw [dz4, di4]
 decide +kernel
theorem dT43 : dTs 4 3 = tD43 := by
 unfold dTs
 rw [dz4]
 decide +kernel
theorem tu43 : TurP sD43 tD43 := by
 have h1 : uM sD43 tD43 = [[1, 1, 1, 1, 23347, 49400, 32094, 6041, 41001, 14440, 41001, 14440, 32094, 49400, 23347, 6041], [1, 1, 1, 1, 6041, 23347, 49400, 32094, 14440, 41001, 14440, 41001, 6041, 32094, 49400, 23347], [1, 1, 1, 1, 32094, 6041, 23347, 49400, 41001, 14440, 41001, 14440, 23347, 6041, 32094, 49400], [1, 1, 1, 1, 49400, 32094, 6041, 23347, 14440, 41001, 14440, 41001, 49400, 23347, 6041, 32094], [1, 41001, 55440, 14440, 17912, 17912, 17912, 17912, 1, 14440, 55440, 41001, 38426, 17015, 38426, 17015], [1, 41001, 55440, 14440, 38426, 38426, 38426, 38426, 55440, 41001, 1, 14440, 17912, 37529, 17912, 37529], [1, 41001, 55440, 14440, 37529, 37529, 37529, 37529, 1, 14440, 55440, 41001, 17015, 38426, 17015, 38426], [1, 41001, 55440, 14440, 17015, 17015, 17015, 17015, 55440, 41001, 1, 14440, 37529, 17912, 37529, 17912], [1, 55440, 1, 55440, 49400, 23347, 6041, 32094, 14440, 14440, 14440, 14440, 49400, 32094, 6041, 23347], [1, 55440, 1, 55440, 23347, 6041, 32094, 49400, 41001, 41001, 41001, 41001, 32094, 6041, 23347, 49400], [1, 55440, 1, 55440, 6041, 32094, 49400, 23347, 14440, 14440, 14440, 14440, 6041, 23347, 49400, 32094], [1, 55440, 1, 55440, 32094, 49400, 23347, 6041, 41001, 41001, 41001, 41001, 23347, 49400, 32094, 6041], [1, 14440, 55440, 41001, 17015, 38426, 17015, 38426, 55440, 14440, 1, 41001, 37529, 37529, 37529, 37529], [1, 14440, 55440, 41001, 17912, 37529, 17912, 37529, 1, 41001, 55440, 14440, 38426, 38426, 38426, 38426], [1, 14440, 55440, 41001, 38426, 17015, 38426, 17015, 55440, 14440, 1, 41001, 17912, 17912, 17912, 17912], [1, 14440, 55440, 41001, 37529, 17912, 37529, 17912, 1, 41001, 55440, 14440, 17015, 17015, 17015, 17015]] := by decide +kernel
 have h2 : tms [[1, 1, 1, 1, 23347, 49400, 32094, 6041, 41001, 14440, 41001, 14440, 32094, 49400, 23347, 6041], [1, 1, 1, 1, 6041, 23347, 49400, 32094, 14440, 41001, 14440, 41001, 6041, 32094, 49400, 23347], [1, 1, 1, 1, 32094, 6041, 23347, 49400, 41001, 14440, 41001, 14440, 23347, 6041, 32094, 49400], [1, 1, 1, 1, 49400, 32094, 6041, 23347, 14440, 41001, 14440, 41001, 49400, 23347, 6041, 32094], [1, 41001, 55440, 14440, 17912, 17912, 17912, 17912, 1, 14440, 55440, 41001, 38426, 17015, 38426, 17015], [1, 41001, 55440, 14440, 38426, 38426, 38426, 38426, 55440, 41001, 1, 14440, 17912, 37529, 17912, 37529], [1, 41001, 55440, 14440, 37529, 37529, 37529, 37529, 1, 14440, 55440, 41001, 17015, 38426, 17015, 38426], [1, 41001, 55440, 14440, 17015, 17015, 17015, 17015, 55440, 41001, 1, 14440, 37529, 17912, 37529, 17912], [1, 55440, 1, 55440, 49400, 23347, 6041, 32094, 14440, 14440, 14440, 14440, 49400, 32094, 6041, 23347], [1, 55440, 1, 55440, 23347, 6041, 32094, 49400, 41001, 41001, 41001, 41001, 32094, 6041, 23347, 49400], [1, 55440, 1, 55440, 6041, 32094, 49400, 23347, 14440, 14440, 14440, 14440, 6041, 23347, 49400, 32094], [1, 55440, 1, 55440, 32094, 49400, 23347, 6041, 41001, 41001, 41001, 41001, 23347, 49400, 32094, 6041], [1, 14440, 55440, 41001, 17015, 38426, 17015, 38426, 55440, 14440, 1, 41001, 37529, 37529, 37529, 37529], [1, 14440, 55440, 41001, 17912, 37529, 17912, 37529, 1, 41001, 55440, 14440, 38426, 38426, 38426, 38426], [1, 14440, 55440, 41001, 38426, 17015, 38426, 17015, 55440, 14440, 1, 41001, 17912, 17912, 17912, 17912], [1, 14440, 55440, 41001, 37529, 17912, 37529, 17912, 1, 41001, 55440, 14440, 17015, 17015, 17015, 17015]] [[1, 1, 1, 1, 23347, 49400, 32094, 6041, 41001, 14440, 41001, 14440, 32094, 49400, 23347, 6041], [1, 1, 1, 1, 6041, 23347, 49400, 32094, 14440, 41001, 14440, 41001, 6041, 32094, 49400, 23347], [1, 1, 1, 1, 32094, 6041, 23347, 49400, 41001, 14440, 41001, 14440, 23347, 6041, 32094, 49400], [1, 1, 1, 1, 49400, 32094, 6041, 23347, 14440, 41001, 14440, 41001, 49400, 23347, 6041, 32094], [1, 41001, 55440, 14440, 17912, 17912, 17912, 17912, 1, 14440, 55440, 41001, 38426, 17015, 38426, 17015], [1, 41001, 55440, 14440, 38426, 38426, 38426, 38426, 55440, 41001, 1, 14440, 17912, 37529, 17912, 37529], [1, 41001, 55440, 14440, 37529, 37529, 37529, 37529, 1, 14440, 55440, 41001, 17015, 38426, 17015, 38426], [1, 41001, 55440, 14440, 17015, 17015, 17015, 17015, 55440, 41001, 1, 14440, 37529, 17912, 37529, 17912], [1, 55440, 1, 55440, 49400, 23347, 6041, 32094, 14440, 14440, 14440, 14440, 49400, 32094, 6041, 23347], [1, 55440, 1, 55440, 23347, 6041, 32094, 49400, 41001, 41001, 41001, 41001, 32094, 6041, 23347, 49400], [1, 55440, 1, 55440, 6041, 32094, 49400, 23347, 14440, 14440, 14440, 14440, 6041, 23347, 49400, 32094], [1, 55440, 1, 55440, 32094, 49400, 23347, 6041, 41001, 41001, 41001, 41001, 23347, 49400, 32094, 6041], [1, 14440, 55440, 41001, 17015, 38426, 17015, 38426, 55440, 14440, 1, 41001, 37529, 37529, 37529, 37529], [1, 14440, 55440, 41001, 17912, 37529, 17912, 37529, 1, 41001, 55440, 14440, 38426, 38426, 38426, 38426], [1, 14440, 55440, 41001, 38426, 17015, 38426, 17015, 55440, 14440, 1, 41001, 17912, 17912, 17912, 17912], [1, 14440, 55440, 41001, 37529, 17912, 37529, 17912, 1, 41001, 55440, 14440, 17015, 17015, 17015, 17015]] = [[4, 4, 4, 4, 4, 4, 4, 4, 4, 4, 4, 4, 4, 4, 4, 4], [4, 4, 4, 4, 53122, 53122, 53122, 53122, 55437, 55437, 55437, 55437, 2319, 2319, 2319, 2319], [4, 4, 4, 4, 55437, 55437, 55437, 55437, 4, 4, 4, 4, 55437, 55437, 55437, 55437], [4, 4, 4, 4, 2319, 2319, 2319, 2319, 55437, 55437, 55437, 55437, 53122, 53122, 53122, 53122], [16207, 42822, 39234, 12619, 31277, 37947, 24164, 17494, 12619, 16207, 42822, 39234, 17494, 31277, 37947, 24164], [42822, 39234, 12619, 16207, 24164, 17494, 31277, 37947, 39234, 12619, 16207, 42822, 17494, 31277, 37947, 24164], [39234, 12619, 16207, 42822, 31277, 37947, 24164, 17494, 42822, 39234, 12619, 16207, 17494, 31277, 37947, 24164], [12619, 16207, 42822, 39234, 24164, 17494, 31277, 37947, 16207, 42822, 39234, 12619, 17494, 31277, 37947, 24164], [2319, 53122, 2319, 53122, 55437, 4, 55437, 4, 53122, 2319, 53122, 2319, 4, 55437, 4, 55437], [53122, 2319, 53122, 2319, 53122, 2319, 53122, 2319, 53122, 2319, 53122, 2319, 53122, 2319, 53122, 2319], [2319, 53122, 2319, 53122, 4, 55437, 4, 55437, 53122, 2319, 53122, 2319, 55437, 4, 55437, 4], [53122, 2319, 53122, 2319, 2319, 53122, 2319, 53122, 53122, 2319, 53122, 2319, 2319, 53122, 2319, 53122], [39234, 42822, 16207, 12619, 37947, 31277, 17494, 24164, 12619, 39234, 42822, 16207, 24164, 37947, 31277, 17494], [42822, 16207, 12619, 39234, 37947, 31277, 17494, 24164, 16207, 12619, 39234, 42822, 31277, 17494, 24164, 37947], [16207, 12619, 39234, 42822, 37947, 31277, 17494, 24164, 42822, 16207, 12619, 39234, 24164, 37947, 31277, 17494], [12619, 39234, 42822, 16207, 37947, 31277, 17494, 24164, 39234, 42822, 16207, 12619, 31277, 17494, 24164, 37947]] := by decide +kernel
 have h3 : tms sD43 sD43 = [[16, 0, 0, 0, 0, 0, 0, 0, 0, 0, 0, 0, 0, 0, 0, 0], [0, 0, 0, 16, 0, 0, 0, 0, 0, 0, 0, 0, 0, 0, 0, 0], [0, 0, 16, 0, 0, 0, 0, 0, 0, 0, 0, 0, 0, 0, 0, 0], [0, 16, 0, 0, 0, 0, 0, 0, 0, 0, 0, 0, 0, 0, 0, 0], [0, 0, 0, 0, 0, 0, 0, 0, 0, 0, 0, 0, 0, 0, 16, 0], [0, 0, 0, 0, 0, 0, 0, 0, 0, 0, 0, 0, 0, 16, 0, 0], [0, 0, 0, 0, 0, 0, 0, 0, 0, 0, 0, 0, 16, 0, 0, 0], [0, 0, 0, 0, 0, 0, 0, 0, 0, 0, 0, 0, 0, 0, 0, 16], [0, 0, 0, 0, 0, 0, 0, 0, 0, 0, 16, 0, 0, 0, 0, 0], [0, 0, 0, 0, 0, 0, 0, 0, 0, 16, 0, 0, 0, 0, 0, 0], [0, 0, 0, 0, 0, 0, 0, 0, 16, 0, 0, 0, 0, 0, 0, 0], [0, 0, 0, 0, 0, 0, 0, 0, 0, 0, 0, 16, 0, 0, 0, 0], [0, 0, 0, 0, 0, 0, 16, 0, 0, 0, 0, 0, 0, 0, 0, 0], [0, 0, 0, 0, 0, 16, 0, 0, 0, 0, 0, 0, 0, 0, 0, 0], [0, 0, 0, 0, 16, 0, 0, 0, 0, 0, 0, 0, 0, 0, 0, 0], [0, 0, 0, 0, 0, 0, 0, 16, 0, 0, 0, 0, 0, 0, 0, 0]] := by decide +kernel
 have h4 : gsV sD43 tD43 = 4 := by decide +kernel
 unfold TurP
 rw [h1, h2, h3, h4]
 decide +kernel
theorem db43 : DbP 16 (adD 4 3) (ivD 4 3) 51976 sD43 tD43 where
 g := ⟨by decide +kernel, by decide +kernel, by decide +kernel, by decide +kernel, by decide +kernel, by decide +kernel⟩
 n1 := by decide
 n16 := by decide
 lT := rfl
 lS := rfl
 lR := by decide +kernel
 nT := by unfold NL; decide +kernel
 nS := by unfold NL; decide +kernel
 st := by unfold StaP; decide +kernel
 s1 := by decide +kernel
 wh := by decide +kernel
 w' := dw4
 p1 := p1one
 cj := by decide +kernel
 ci := by decide +kernel
 tu := tu43
 mu := by decide +kernel
 ot := by decide +kernel
end Go.Proofs.YtgcnmlecihegcaaGreat
/- The data of hyperbolic metrics are doubles without a twist. -/
namespace Go.Proofs.YtgcnmlecihegcaaGreat
open Go.RowKit
set_option maxRecDepth 1000000
instance decBil (O : List Int) (M : Int) (V : List Int) : Decidable (BilP O M V) :=
 inferInstanceAs (Decidable (∀ x, x < V.length → atI V (ngN O x) = atI V x ∧ ∀ y, y < V.length → ∀ z, z < V.length → prM O M V (adN O x y) z = (prM O M V x z + prM O M V y z) % M))
structure HyP (n : Int) (V : List Int) (S : List (List Int)) (T : List Int) : Prop where
 m : MetP [n, n] n V
 d : NdP [n, n] n V
 l : 0 < V.length ∧ V.length ≤ 16
 s : mS [n, n] n V = S
 t : mT n V = T
abbrev hV2 : List Int := [0, 0, 0, 1]
theorem hr2 : pw 38 (55440 / 2) = 55440 := by
 have h := pw_nat 38 27720
 have h2 : (38 ^ 27720 % 55441 : Nat) = 55440 := by kernel_rfl
 rw [h2] at h
 exact h
theorem hy2 : HyP 2 hV2 sD20 tD20 where
 m := ⟨⟨⟨by decide, by decide, by decide, by decide +kernel⟩, by decide, by decide +kernel, by decide +kernel⟩, by decide, by decide, by decide +kernel⟩
 d := by unfold NdP; decide +kernel
 l := by decide
 s := by
   unfold mS rpM
   rw [hr2]
   decide +kernel
 t := by
   unfold mT rpM
   rw [hr2]
   decide +kernel
abbrev hV3 : List Int := [0, 0, 0, 0, 1, 2, 0, 2, 1]
theorem hr3 : pw 38 (55440 / 3) = 45943 := by
 have h := pw_nat 38 18480
 have h2 : (38 ^ 18480 % 55441 : Nat) = 45943 := by kernel_rfl
 rw [h2] at h
 exact h
theorem hy3 : HyP 3 hV3 sD30 tD30 where
 m := ⟨⟨⟨by decide, by decide, by decide, by decide +kernel⟩, by decide, by decide +kernel, by decide +kernel⟩, by decide, by decide, by decide +kernel⟩
 d := by unfold NdP; decide +kernel
 l := by decide
 s := by
   unfold mS rpM
   rw [hr3]
   decide +kernel
 t := by
   unfold mT rpM
   rw [hr3]
   decide +kernel
abbrev hV4 : List Int := [0, 0, 0, 0, 0, 1, 2, 3, 0, 2, 0, 2, 0, 3, 2, 1]
theorem hr4 : pw 38 (55440 / 4) = 14440 := by
 have h := pw_nat 38 13860
 have h2 : (38 ^ 13860 % 55441 : Nat) = 14440 := by kernel_rfl
 rw [h2] at h
 exact h
theorem hy4 : HyP 4 hV4 sD40 tD40 where
 m := ⟨⟨⟨by decide, by decide, by decide, by decide +kernel⟩, by decide, by decide +kernel, by decide +kernel⟩, by decide, by decide, by decide +kernel⟩
 d := by unfold NdP; decide +kernel
 l := by decide
 s := by
   unfold mS rpM
   rw [hr4]
   decide +kernel
 t := by
   unfold mT rpM
   rw [hr4]
   decide +kernel
end Go.Proofs.YtgcnmlecihegcaaGreat
