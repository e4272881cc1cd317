/- Texts joined: SuH SuI SuJ Ef3. -/
import Derived.Test.YthfgjapmgjhccaaMj
import Derived.Test.YthfgjapmgjhccaaSe
set_option linter.all false
/- Surfaces: weights of paths. -/
namespace Go.Proofs.Ythfgjapmgjhccaa
open Go.RowKit
set_option maxRecDepth 1000000
def nbF (T : List (List (List Int))) (L p : List Int) (i : Nat) : Int := at3 T (atI p i).toNat (atI L (i + 1)).toNat (atI p (i + 1)).toNat
def wtS (T : List (List (List Int))) (L p : List Int) : Nat → Int × Bool
 | 0 => (1, false)
 | i + 1 => (min 1000000000000000 ((wtS T L p i).1 * nbF T L p i), (wtS T L p i).2 || decide (Int.tdiv 1000000000000000 (nbF T L p i) < (wtS T L p i).1))
def wtP (T : List (List (List Int))) (L p : List Int) : Nat → Int
 | 0 => 1
 | i + 1 => wtP T L p i * nbF T L p i
structure PthP (T : List (List (List Int))) (L p : List Int) : Prop where
 l : p.length = L.length
 b : labP T.length p
 f : atI p 0 = atI L 0
 e : atI p (p.length - 1) = 0
 n : ∀ i, i + 1 < p.length → nbF T L p i ≠ 0
section
variable {T : List (List (List Int))} {c la pa : AV} {L p : List Int}
theorem nbF_b (hc : CubeP T) (hL : labP T.length L) (hp : PthP T L p) {i : Nat} (hi : i + 1 < p.length) : 1 ≤ nbF T L p i ∧ nbF T L p i ≤ 1000 := by
 have h1 := hp.b i (by omega)
 have h2 := hp.b (i + 1) hi
 have h3 := hL (i + 1) (by have := hp.l; omega)
 have h4 := hp.n i hi
 have := ((hc.2.2 (atI p i).toNat (by omega)).2 (atI L (i + 1)).toNat (by omega)).2 (atI p (i + 1)).toNat (by omega)
 unfold nbF at h4 ⊢
 omega
theorem wtS_b (hc : CubeP T) (hL : labP T.length L) (hp : PthP T L p) : ∀ i, i + 1 ≤ p.length → 1 ≤ (wtS T L p i).1 ∧ (wtS T L p i).1 ≤ 1000000000000000 ∧ ((wtS T L p i).2 = false → (wtS T L p i).1 = wtP T L p i)
 | 0, _ => ⟨Int.le_refl _, by show (1 : Int) ≤ 1000000000000000; decide, fun _ => rfl⟩
 | i + 1, hi => by
  obtain ⟨h1, h2, h3⟩ := wtS_b hc hL hp i (by omega)
  obtain ⟨n1, n2⟩ := nbF_b hc hL hp (i := i) (by omega)
  have hm : 1 ≤ (wtS T L p i).1 * nbF T L p i := by
   have := Int.mul_le_mul h1 n1 (by decide) (by omega)
   omega
  rw [wtS, wtP]
  refine ⟨by show 1 ≤ min _ _; omega, by show min _ _ ≤ _; omega, fun h => ?_⟩
  rw [Bool.or_eq_false_iff] at h
  obtain ⟨g1, g2⟩ := h
  have g2' := of_decide_eq_false g2
  rw [← h3 g1]
  have hle : (wtS T L p i).1 * nbF T L p i ≤ 1000000000000000 := by
   rw [Int.tdiv_eq_ediv_of_nonneg (by decide)] at g2'
   have h5 : (wtS T L p i).1 ≤ 1000000000000000 / nbF T L p i := by omega
   exact Int.le_trans (Int.mul_le_mul_of_nonneg_right h5 (by omega)) (Int.ediv_mul_le _ (by omega))
  show min _ _ = _
  omega
def pwV (T : List (List (List Int))) (L p : List Int) : Int × Int := if (wtS T L p (p.length - 1)).2 = true then (0, 3) else ((wtS T L p (p.length - 1)).1, 0)
set_option maxHeartbeats 8000000 in
theorem cPw (ha : isLLL c T) (hz : SzP T) (hl : isL la L) (hpa : isL pa p) (h0 : pcV T L = 0) (hp : PthP T L p) : CallOK Try.prog 13 [.agg [c], la, pa] (.tup [i64 (pwV T L p).1, i64 (pwV T L p).2]) := by
 obtain ⟨hR, hC, l1, l8, hL⟩ := pcV_iff.1 h0
 obtain ⟨h1, h16, h3⟩ := id hR.1
 have hpl := hp.l
 have cc := cPcI ha hz hl (by unfold maxN; omega)
 rw [h0] at cc
 have cA := cAreL ha h16 hpa (by unfold maxN; omega) (t := true) ⟨fun _ => hp.b, fun _ => rfl⟩
 have hplI : (p.length : Int) = L.length := by omega
 have p0 : 0 < p.length := by omega
 have l0 : 0 < L.length := by omega
 have hf := hp.f
 have he := hp.e
 have e1 : ((L.length : Int) - 1) = ((p.length - 1 : Nat) : Int) := by omega
 have hpe : p.length - 1 < p.length := by omega
 refine call_of (fn := Try.f13) (code := bodyOf Try.f13) Try.func13 rfl (by kernel_rfl) (rfl) ?_
 intro sl hs
 have s0 : sl 0 = .agg [c] := hs 0
 have s1 : sl 1 = la := hs 1
 have s2 : sl 2 = pa := hs 2
 dsimp only [Try.f13, bodyOf, Option.getD]
 refine Yaf ?_
 refine CLL_pure _ cc PUt rfl rfl ?_
 simp (maxSteps := 10000000) (disch := first | assumption | omega) only [go_sem, ↓reduceIte, Nat.reduceEqDiff, reduceCtorEq, Nat.reduceAdd, Nat.reduceMul, Nat.reduceLeDiff, zc, Int.reduceToNat, s0, s1, s2, ti33, ti31, isL_len hl, isL_len hpa, hplI]
 refine CLL_pure _ cA PUt rfl rfl ?_
 simp (maxSteps := 10000000) (disch := first | assumption | omega) only [go_sem, ↓reduceIte, Nat.reduceEqDiff, reduceCtorEq, Nat.reduceAdd, Nat.reduceMul, Nat.reduceLeDiff, zc, Int.reduceToNat, s0, s1, s2, ti4, isL_idx0 hpa p0, isL_idx0 hl l0, isL_len hpa, e1, hplI, isL_idx hpa hpe, he, hf, undef]
 refine FIN_of (by kernel_rfl) ?_
 refine Yag ?_
 refine WK_for (fun i st => st.sl 1 = la ∧ st.sl 2 = pa ∧ st.sl 3 = .ptr 4096 1 [] 0 ∧ st.ro 4096 1 = some (.bx [c]) ∧ st.sl 9 = i64 (wtS T L p i).1 ∧ st.sl 10 = bo (wtS T L p i).2 ∧ st.sl 11 = i64 ((i + 1 : Nat) : Int)) ((p.length - 1)) ?_ ?_ ?_
 ·refine Ycm ?_
  exact ⟨rfl, rfl, rfl⟩
 ·rintro i sl ro gn hi ⟨s1, s2, s3, r4096, s9, s10, s11⟩
  dsimp only at s1 s2 s3 r4096 s9 s10 s11
  have hi' : (i : Int) < ((p.length - 1) : Nat) := by omega
  have hi1 : i + 1 < p.length := by omega
  have hi1' : ((i + 1 : Nat) : Int) < p.length := by omega
  have hiL : i + 1 < L.length := by omega
  have hi0 : i < p.length := by omega
  obtain ⟨a0, a1⟩ := hp.b i hi0
  obtain ⟨a, ea⟩ := Int.eq_ofNat_of_zero_le a0
  obtain ⟨d0, d1⟩ := hL (i + 1) hiL
  obtain ⟨d, ed⟩ := Int.eq_ofNat_of_zero_le d0
  obtain ⟨x0, x1⟩ := hp.b (i + 1) hi1
  obtain ⟨x, ex⟩ := Int.eq_ofNat_of_zero_le x0
  have hm := isLLL_mat ha (show a < T.length by omega)
  have lm := (h3 a (by omega)).1
  have hdm : d < (mat T a).length := by omega
  have hr := isLL_row hm hdm
  have lr := ((h3 a (by omega)).2 d (by omega)).1
  have hxr : x < (row (mat T a) d).length := by omega
  have en : atI (row (mat T a) d) x = nbF T L p i := by unfold nbF; rw [ea, ed, ex]; rfl
  obtain ⟨n1, n2⟩ := nbF_b hR.1 hL hp hi1
  obtain ⟨w1, w2, -⟩ := wtS_b hR.1 hL hp i (by omega)
  have han : a < T.length := by omega
  have hdn : d < T.length := by omega
  have e2 : (((i + 1 : Nat) : Int) - 1) = ((i : Nat) : Int) := by omega
  have hw1 : (wtS T L p (i + 1)).1 = min 1000000000000000 ((wtS T L p i).1 * nbF T L p i) := rfl
  have hw2 : (wtS T L p (i + 1)).2 = ((wtS T L p i).2 || decide (Int.tdiv 1000000000000000 (nbF T L p i) < (wtS T L p i).1)) := rfl
  rw [hw1, hw2]
  have hN0 : ¬ nbF T L p i = 0 := by omega
  have hmul := mulB (show 0 ≤ (wtS T L p i).1 by omega) w2 (show 0 ≤ nbF T L p i by omega) n2
  have hdv : 0 ≤ Int.tdiv 1000000000000000 (nbF T L p i) ∧ Int.tdiv 1000000000000000 (nbF T L p i) ≤ 1000000000000000 := by
   rw [Int.tdiv_eq_ediv_of_nonneg (by decide)]
   exact ⟨Int.ediv_nonneg (by decide) (by omega), Int.ediv_le_self _ (by decide)⟩
  generalize hNg : nbF T L p i = N at *
  generalize (wtS T L p i).1 = W at *
  generalize (wtS T L p i).2 = g at *
  simp (maxSteps := 10000000) (disch := first | assumption | omega) only [go_sem, ↓reduceIte, Nat.reduceEqDiff, reduceCtorEq, Nat.reduceAdd, Nat.reduceMul, Nat.reduceLeDiff, zc, Int.reduceToNat, s1, s2, s3, r4096, s9, s10, s11, hi', hi, ti33, ti31, isL_len hpa, hi1', e2, isL_idx hpa hi0, isL_idx hpa hi1, isL_idx hl hiL, ea, ed, ex, isL_idx hr hxr, en]
  refine FIN_of (by kernel_rfl) ?_
  have hmin : (if W * N < 1000000000000000 then W * N else 1000000000000000) = min 1000000000000000 (W * N) := by
   split <;> omega
  cases g with
  | true =>
   simp (maxSteps := 10000000) (disch := first | assumption | omega) only [go_sem, ↓reduceIte, Nat.reduceEqDiff, reduceCtorEq, Nat.reduceAdd, Nat.reduceMul, Nat.reduceLeDiff, zc, Int.reduceToNat, s1, s2, s3, r4096, s9, s10, s11, hi', hi, eq_false hN0, undef, kMin, hmin]
   first | exact i64c (by omega) | exact ⟨rfl, i64c (by omega)⟩
  | false =>
   by_cases hgt : Int.tdiv 1000000000000000 N < W
   ·rw [decide_eq_true hgt]
    simp (maxSteps := 10000000) (disch := first | assumption | omega) only [go_sem, ↓reduceIte, Nat.reduceEqDiff, reduceCtorEq, Nat.reduceAdd, Nat.reduceMul, Nat.reduceLeDiff, zc, Int.reduceToNat, s1, s2, s3, r4096, s9, s10, s11, hi', hi, eq_false hN0, hN0, eq_true hgt, undef, kMin, hmin]
    first | exact i64c (by omega) | exact ⟨rfl, i64c (by omega)⟩
   ·rw [decide_eq_false hgt]
    simp (maxSteps := 10000000) (disch := first | assumption | omega) only [go_sem, ↓reduceIte, Nat.reduceEqDiff, reduceCtorEq, Nat.reduceAdd, Nat.reduceMul, Nat.reduceLeDiff, zc, Int.reduceToNat, s1, s2, s3, r4096, s9, s10, s11, hi', hi, eq_false hN0, hN0, eq_false hgt, undef, kMin, hmin]
    first | exact i64c (by omega) | exact ⟨rfl, i64c (by omega)⟩
 ·rintro sl ro gn ⟨s1, s2, s3, r4096, s9, s10, s11⟩
  dsimp only at s1 s2 s3 r4096 s9 s10 s11
  have hi' : ¬ (((p.length - 1) : Nat) : Int) < ((p.length - 1) : Nat) := by omega
  have hi1' : ¬ ((p.length - 1 + 1 : Nat) : Int) < p.length := by omega
  unfold pwV
  generalize (wtS T L p (p.length - 1)).2 = g at *
  cases g with
  | true =>
   refine Ydp ?_
   exact Yaa
  | false =>
   rw [if_neg (by decide)]
   refine Ydp ?_
   exact Yaa
end
theorem sm0z {f : Nat → Int} : ∀ {n : Nat}, (∀ k, k < n → f k = 0) → sm f n = 0
 | 0, _ => rfl
 | n + 1, h => by simp only [sm]; rw [sm0z fun k hk => h k (by omega), h n (by omega)]; rfl
theorem smAdd (f g : Nat → Int) : ∀ n : Nat, sm (fun k => f k + g k) n = sm f n + sm g n
 | 0 => rfl
 | n + 1 => by simp only [sm]; rw [smAdd f g n]; omega
theorem smCom (f : Nat → Nat → Int) (n : Nat) : ∀ m : Nat, sm (fun k => sm (f k) n) m = sm (fun l => sm (fun k => f k l) m) n
 | 0 => (sm0z fun _ _ => rfl).symm
 | m + 1 => by
  simp only [sm]
  rw [smCom f n m, ← smAdd]
theorem smMul (w : Int) (f : Nat → Int) : ∀ n : Nat, w * sm f n = sm (fun l => w * f l) n
 | 0 => Int.mul_zero w
 | n + 1 => by simp only [sm]; rw [Int.mul_add, smMul w f n]
def vF (T : List (List (List Int))) (x y : Nat → Int) (k : Nat) : Int := sm (fun i => sm (fun j => x i * y j * at3 T i j k) T.length) T.length
def fo (T : List (List (List Int))) (x : Nat → Int) (Ys : List (Nat → Int)) : Nat → Int := Ys.foldl (vF T) x
def eF (i k : Nat) : Int := if k = i then 1 else 0
section
variable {T : List (List (List Int))}
theorem vF_congr {x x' y y' : Nat → Int} (hx : ∀ i, i < T.length → x i = x' i) (hy : ∀ i, i < T.length → y i = y' i) : vF T x y = vF T x' y' := by
 funext k
 unfold vF
 exact sm_congr fun i hi => sm_congr fun j hj => by rw [hx i hi, hy j hj]
theorem fo_congr {x x' : Nat → Int} {Ys : List (Nat → Int)} (hx : ∀ i, i < T.length → x i = x' i) {k : Nat} (hk : k < T.length) : fo T x Ys k = fo T x' Ys k := by
 cases Ys with
 | nil => exact hx k hk
 | cons Y Ys =>
  show fo T (vF T x Y) Ys k = fo T (vF T x' Y) Ys k
  rw [vF_congr hx (fun _ _ => rfl)]
theorem fo_app (x : Nat → Int) (As Bs : List (Nat → Int)) : fo T x (As ++ Bs) = fo T (fo T x As) Bs := List.foldl_append
theorem st_fo {Ys : List (List Int)} : ∀ {X Z : List Int}, stV T X Ys = some Z → ∀ k, k < T.length → atI Z k = fo T (atI X) (Ys.map atI) k := by
 induction Ys with
 | nil =>
  intro X Z h k _
  obtain rfl := Option.some.inj h
  rfl
 | cons Y Ys ih =>
  intro X Z h k hk
  have e : stV T X (Y :: Ys) = Ys.foldl (stB T) (stB T (some X) Y) := rfl
  rw [e] at h
  by_cases hf : fitV T X Y
  ·have e2 : stB T (some X) Y = some (mvL T X Y) := if_pos hf
   rw [e2] at h
   rw [ih h k hk]
   show fo T (atI (mvL T X Y)) (Ys.map atI) k = fo T (vF T (atI X) (atI Y)) (Ys.map atI) k
   refine fo_congr (fun i hi => ?_) hk
   unfold mvL
   rw [atI_rws _ hi]
   rfl
  ·have e2 : stB T (some X) Y = none := if_neg hf
   rw [e2, st_none] at h
   cases h
theorem ring_as (hR : RingP T) {i j k l : Nat} (hi : i < T.length) (hj : j < T.length) (hk : k < T.length) (hl : l < T.length) : sm (fun m => at3 T i j m * at3 T m k l) T.length = sm (fun m => at3 T j k m * at3 T i m l) T.length := by
 have h := fnd_none.1 (fnd_none.1 (fnd_none.1 (fnd_none.1 (rf_all hR.2).2.2.2 i hi) j hj) k hk) l hl
 unfold p4 at h
 split at h
 ·rename_i e; exact e
 ·cases h
theorem ring_un (hR : RingP T) {i k : Nat} (hi : i < T.length) (hk : k < T.length) : at3 T 0 i k = eF i k := by
 have h := fnd_none.1 (fnd_none.1 (rf_all hR.2).1 i hi) k hk
 unfold p1 at h
 split at h
 ·rename_i e
  rw [e.1]
  unfold dlt eF
  by_cases h : i = k
  ·rw [if_pos h, if_pos h.symm]
  ·rw [if_neg h, if_neg (fun e => h e.symm)]
 ·cases h
theorem ring_cm (hC : CmP T) {i j k : Nat} (hi : i < T.length) (hj : j < T.length) : at3 T i j k = at3 T j i k := by
 have h : row (mat T i) j = row (mat T j) i := by
  rcases Nat.lt_trichotomy i j with h | h | h
  ·exact (hC j hj i h).symm
  ·rw [h]
  ·exact hC i hi j h
 unfold at3
 rw [h]
theorem ring_rc (hR : RingP T) (hC : CmP T) {i j k l : Nat} (hi : i < T.length) (hj : j < T.length) (hk : k < T.length) (hl : l < T.length) : sm (fun m => at3 T i j m * at3 T m k l) T.length = sm (fun m => at3 T i k m * at3 T m j l) T.length := by
 rw [ring_as hR hi hj hk hl, ring_as hR hi hk hj hl]
 exact sm_congr fun m _ => by rw [ring_cm hC hj hk]
theorem vF_two (x y z : Nat → Int) (l : Nat) : vF T (vF T x y) z l = sm (fun i => sm (fun j => sm (fun k => x i * y j * z k * sm (fun m => at3 T i j m * at3 T m k l) T.length) T.length) T.length) T.length := by
 unfold vF
 have e : ∀ m k, sm (fun i => sm (fun j => x i * y j * at3 T i j m) T.length) T.length * z k * at3 T m k l = sm (fun i => sm (fun j => x i * y j * z k * (at3 T i j m * at3 T m k l)) T.length) T.length := fun m k => by
  rw [Int.mul_assoc, sm_mul]
  refine sm_congr fun i _ => ?_
  rw [sm_mul]
  refine sm_congr fun j _ => ?_
  rw [Int.mul_assoc (x i * y j) (z k), Int.mul_assoc (x i * y j) (at3 T i j m), Int.mul_left_comm (at3 T i j m) (z k)]
 rw [sm_congr fun m _ => sm_congr fun k _ => e m k]
 rw [sm_congr fun m _ => smCom (fun k i => sm (fun j => x i * y j * z k * (at3 T i j m * at3 T m k l)) T.length) T.length T.length]
 rw [smCom (fun m i => sm (fun k => sm (fun j => x i * y j * z k * (at3 T i j m * at3 T m k l)) T.length) T.length) T.length T.length]
 refine sm_congr fun i _ => ?_
 rw [sm_congr fun m _ => smCom (fun k j => x i * y j * z k * (at3 T i j m * at3 T m k l)) T.length T.length]
 rw [smCom (fun m j => sm (fun k => x i * y j * z k * (at3 T i j m * at3 T m k l)) T.length) T.length T.length]
 refine sm_congr fun j _ => ?_
 rw [smCom (fun m k => x i * y j * z k * (at3 T i j m * at3 T m k l)) T.length T.length]
 exact sm_congr fun k _ => (smMul _ _ _).symm
theorem vF_rc (hR : RingP T) (hC : CmP T) (x y z : Nat → Int) {l : Nat} (hl : l < T.length) : vF T (vF T x y) z l = vF T (vF T x z) y l := by
 rw [vF_two, vF_two]
 refine sm_congr fun i hi => ?_
 rw [smCom (fun j k => x i * y j * z k * sm (fun m => at3 T i j m * at3 T m k l) T.length) T.length T.length]
 refine sm_congr fun k hk => sm_congr fun j hj => ?_
 rw [ring_rc hR hC hi hj hk hl, Int.mul_assoc (x i) (y j) (z k), Int.mul_comm (y j) (z k), ← Int.mul_assoc]
theorem fo_perm (hR : RingP T) (hC : CmP T) {As Bs : List (Nat → Int)} (h : As.Perm Bs) : ∀ (x : Nat → Int) (k : Nat), k < T.length → fo T x As k = fo T x Bs k := by
 induction h with
 | nil => exact fun _ _ _ => rfl
 | cons y _ ih => exact fun x k hk => ih (vF T x y) k hk
 | swap y z l =>
  intro x k hk
  show fo T (vF T (vF T x z) y) l k = fo T (vF T (vF T x y) z) l k
  exact fo_congr (fun i hi => vF_rc hR hC x z y hi) hk
 | trans _ _ ih1 ih2 => exact fun x k hk => (ih1 x k hk).trans (ih2 x k hk)
theorem vF_sm (x : Nat → Nat → Int) (y : Nat → Int) (m k : Nat) : vF T (fun i => sm (fun c => x c i) m) y k = sm (fun c => vF T (x c) y k) m := by
 unfold vF
 rw [sm_congr fun i _ => show sm (fun j => sm (fun c => x c i) m * y j * at3 T i j k) T.length = sm (fun c => sm (fun j => x c i * y j * at3 T i j k) T.length) m from by
  rw [sm_congr fun j _ => show sm (fun c => x c i) m * y j * at3 T i j k = sm (fun c => x c i * y j * at3 T i j k) m from by
   rw [Int.mul_assoc, sm_mul]
   exact sm_congr fun c _ => (Int.mul_assoc _ _ _).symm]
  exact smCom (fun j c => x c i * y j * at3 T i j k) m T.length]
 exact smCom (fun i c => sm (fun j => x c i * y j * at3 T i j k) T.length) m T.length
theorem fo_sm (m : Nat) : ∀ (Ys : List (Nat → Int)) (x : Nat → Nat → Int) (k : Nat), k < T.length → fo T (fun i => sm (fun c => x c i) m) Ys k = sm (fun c => fo T (x c) Ys k) m
 | [], _, _, _ => rfl
 | Y :: Ys, x, k, hk => by
  show fo T (vF T (fun i => sm (fun c => x c i) m) Y) Ys k = sm (fun c => fo T (vF T (x c) Y) Ys k) m
  rw [← fo_sm m Ys (fun c => vF T (x c) Y) k hk]
  exact fo_congr (fun i _ => vF_sm x Y m i) hk
theorem eF_sm {f : Nat → Int} {n b : Nat} (hb : b < n) : sm (fun i => eF b i * f i) n = f b := by
 rw [sm_one (j := b) fun k _ hne => by unfold eF; rw [if_neg hne, Int.zero_mul], if_pos hb]
 unfold eF
 rw [if_pos rfl, Int.one_mul]
theorem vF_e (x : Nat → Int) {i : Nat} (hi : i < T.length) (k : Nat) : vF T x (eF i) k = sm (fun a => x a * at3 T a i k) T.length := by
 unfold vF
 refine sm_congr fun a _ => ?_
 rw [sm_congr fun j _ => show x a * eF i j * at3 T a j k = eF i j * (x a * at3 T a j k) from by rw [Int.mul_comm (x a), Int.mul_assoc]]
 exact eF_sm hi
theorem vF_ee {b i : Nat} (hb : b < T.length) (hi : i < T.length) (k : Nat) : vF T (eF b) (eF i) k = at3 T b i k := by
 rw [vF_e _ hi]
 exact eF_sm hb
theorem vF_hd (hR : RingP T) (hC : CmP T) (x : Nat → Int) {l : Nat} (hl : l < T.length) : vF T x (fun k => sm (fun i => hdF T i k) T.length) l = sm (fun i => vF T (vF T x (eF i)) (eF (dlT T i).toNat) l) T.length := by
 have e1 : ∀ i, i < T.length → vF T (vF T x (eF i)) (eF (dlT T i).toNat) l = sm (fun a => x a * sm (fun m => hdF T i m * at3 T a m l) T.length) T.length := fun i hi => by
  obtain ⟨d, ed, hd⟩ := dl_lt hR hi
  rw [ed, Int.toNat_natCast, vF_e _ hd]
  rw [sm_congr fun m _ => show vF T x (eF i) m * at3 T m d l = sm (fun a => x a * (at3 T a i m * at3 T m d l)) T.length from by
   rw [vF_e _ hi, sm_mul]
   exact sm_congr fun a _ => Int.mul_assoc _ _ _]
  rw [smCom]
  refine sm_congr fun a ha => ?_
  rw [← smMul, ring_as hR ha hi hd hl]
  unfold hdF
  rw [ed, Int.toNat_natCast]
 rw [sm_congr e1, smCom]
 unfold vF
 refine sm_congr fun a ha => ?_
 rw [← smMul]
 rw [sm_congr fun j _ => show x a * sm (fun i => hdF T i j) T.length * at3 T a j l = x a * sm (fun i => hdF T i j * at3 T a j l) T.length from by rw [Int.mul_assoc, sm_mul]]
 rw [← smMul]
 exact congrArg (fun t => x a * t) (smCom (fun j i => hdF T i j * at3 T a j l) T.length T.length)
end
theorem atI_one {n i : Nat} (hi : i < n) : atI (oneL n i) = eF i := by
 funext k
 unfold oneL
 by_cases hk : k < n
 ·rw [atI_rws _ hk]; rfl
 ·unfold atI eF
  rw [List.getD_eq_getElem?_getD, List.getElem?_eq_none (by rw [zfe]; omega), if_neg (by omega)]
  rfl
noncomputable def sf (T : List (List (List Int))) (g : Nat) (L : List Int) : Int := fo T (eF 0) (L.map (fun l => eF l.toNat) ++ List.replicate g (atI (hdL T))) 0
def ws (T : List (List (List Int))) : List Int → Nat → Int
 | [], b => if b = 0 then 1 else 0
 | l :: ls, b => sm (fun c => at3 T b l.toNat c * ws T ls c) T.length
def wq (T : List (List (List Int))) : List Int → Nat → List Int → Int
 | l :: ls, b, c :: p => at3 T b l.toNat c.toNat * wq T ls c.toNat p
 | _, _, _ => 1
def sl (l : List Int) : Int := l.foldr (· + ·) 0
theorem sl_app (a b : List Int) : sl (a ++ b) = sl a + sl b := by
 induction a with
 | nil => exact (Int.zero_add _).symm
 | cons x a ih =>
  show x + sl (a ++ b) = x + sl a + sl b
  rw [ih, Int.add_assoc]
theorem sl_mul (w : Int) (a : List Int) : sl (a.map fun x => w * x) = w * sl a := by
 induction a with
 | nil => exact (Int.mul_zero _).symm
 | cons x a ih =>
  show w * x + sl (a.map _) = w * (x + sl a)
  rw [ih, Int.mul_add]
theorem sl_flat {α : Type} (f : Nat → List α) (w : α → Int) : ∀ n : Nat, sl (((List.range n).flatMap f).map w) = sm (fun c => sl ((f c).map w)) n
 | 0 => rfl
 | n + 1 => by
  rw [List.range_succ, List.flatMap_append, List.map_append, sl_app, sl_flat f w n]
  simp only [sm, List.flatMap_cons, List.flatMap_nil, List.append_nil]
section
variable {T : List (List (List Int))}
theorem labV_f {L : List Int} (hL : labP T.length L) : (labV T L).map atI = L.map fun l => eF l.toNat := by
 unfold labV
 rw [List.map_map]
 refine List.map_congr_left fun l hl => ?_
 obtain ⟨i, hi, rfl⟩ := List.getElem_of_mem hl
 have h := hL i hi
 unfold atI at h
 rw [List.getD_eq_getElem?_getD, List.getElem?_eq_getElem hi] at h
 have h1 : 0 ≤ L[i] := h.1
 have h2 : L[i] ≤ (T.length : Int) - 1 := h.2
 exact atI_one (by omega)
theorem surf_sf (h1 : 1 ≤ T.length) {g : Nat} {L Z : List Int} (hL : labP T.length L) (h : surfO T g L = some Z) : atI Z 0 = sf T g L := by
 rw [st_fo h 0 (by omega)]
 unfold ysV sf
 rw [List.map_append, labV_f hL, List.map_replicate, atI_one (by omega)]
theorem sf_perm (hR : RingP T) (hC : CmP T) {g : Nat} {L L' : List Int} (h : L.Perm L') : sf T g L = sf T g L' :=
 fo_perm hR hC ((h.map _).append_right _) _ 0 (by have := hR.1.1; omega)
theorem sf_genus (hR : RingP T) (hC : CmP T) (g : Nat) (L : List Int) : sf T (g + 1) L = sm (fun i => sf T g (L ++ [(i : Int), dlT T i])) T.length := by
 have h0 : 0 < T.length := hR.1.1
 unfold sf
 rw [List.replicate_succ, fo_app]
 show fo T (vF T (fo T (eF 0) (L.map fun l => eF l.toNat)) (atI (hdL T))) (List.replicate g (atI (hdL T))) 0 = _
 generalize hx : fo T (eF 0) (L.map fun l => eF l.toNat) = x
 rw [fo_congr (x' := fun k => sm (fun i => vF T (vF T x (eF i)) (eF (dlT T i).toNat) k) T.length) (fun k hk => ?_) h0]
 ·rw [fo_sm _ _ _ _ h0]
  refine sm_congr fun i _ => ?_
  rw [List.map_append, List.append_assoc, fo_app, hx]
  rfl
 ·rw [← vF_hd hR hC x hk]
  refine congrFun (vF_congr (fun _ _ => rfl) fun j hj => ?_) k
  unfold hdL
  rw [atI_rws _ hj]
theorem vF_mul (w : Int) (x y : Nat → Int) (k : Nat) : vF T (fun i => w * x i) y k = w * vF T x y k := by
 unfold vF
 rw [smMul]
 refine sm_congr fun i _ => ?_
 rw [smMul]
 exact sm_congr fun j _ => by rw [Int.mul_assoc, Int.mul_assoc, Int.mul_assoc]
theorem fo_mul (w : Int) : ∀ (Ys : List (Nat → Int)) (x : Nat → Int) (k : Nat), k < T.length → fo T (fun i => w * x i) Ys k = w * fo T x Ys k
 | [], _, _, _ => rfl
 | Y :: Ys, x, k, hk => by
  show fo T (vF T (fun i => w * x i) Y) Ys k = w * fo T (vF T x Y) Ys k
  rw [← fo_mul w Ys (vF T x Y) k hk]
  exact fo_congr (fun i _ => vF_mul w x Y i) hk
theorem labP_tail {n : Nat} {l : Int} {ls : List Int} (h : labP n (l :: ls)) : labP n ls := fun i hi => h (i + 1) (by rw [List.length_cons]; omega)
theorem labP_head {n : Nat} {l : Int} {ls : List Int} (h : labP n (l :: ls)) : 0 ≤ l ∧ l ≤ (n : Int) - 1 := h 0 (by rw [List.length_cons]; omega)
theorem fo_ws (h0 : 0 < T.length) : ∀ (ls : List Int) (b : Nat), labP T.length ls → b < T.length → fo T (eF b) (ls.map fun l => eF l.toNat) 0 = ws T ls b
 | [], b, _, _ => by
  show eF b 0 = if b = 0 then 1 else 0
  unfold eF
  by_cases h : b = 0
  ·rw [if_pos h, if_pos h.symm]
  ·rw [if_neg h, if_neg (fun e => h e.symm)]
 | l :: ls, b, hL, hb => by
  have hl := labP_head hL
  have hl' : l.toNat < T.length := by omega
  show fo T (vF T (eF b) (eF l.toNat)) (ls.map fun l => eF l.toNat) 0 = _
  rw [fo_congr (x' := fun k => sm (fun c => at3 T b l.toNat c * eF c k) T.length) (fun k hk => ?_) h0, fo_sm _ _ _ _ h0]
  ·refine sm_congr fun c hc => ?_
   rw [fo_mul _ _ _ _ h0, fo_ws h0 ls c (labP_tail hL) hc]
  ·rw [vF_ee hb hl', sm_one (j := k) fun c _ hne => by unfold eF; rw [if_neg (fun e => hne e.symm), Int.mul_zero], if_pos hk]
   unfold eF
   rw [if_pos rfl, Int.mul_one]
theorem sf_sphere (hR : RingP T) {l : Int} {ls : List Int} (hL : labP T.length (l :: ls)) : sf T 0 (l :: ls) = ws T ls l.toNat := by
 have h0 : 0 < T.length := hR.1.1
 have hl := labP_head hL
 have hl' : l.toNat < T.length := by omega
 unfold sf
 rw [List.replicate_zero, List.append_nil]
 show fo T (vF T (eF 0) (eF l.toNat)) (ls.map fun l => eF l.toNat) 0 = _
 rw [fo_congr (x' := eF l.toNat) (fun k hk => by rw [vF_ee h0 hl']; exact ring_un hR hl' hk) h0]
 exact fo_ws h0 ls _ (labP_tail hL) hl'
theorem ws_0 : ∀ (ls : List Int) (b : Nat), enR T ls b = false → ws T ls b = 0
 | [], b, h => by
  have := of_decide_eq_false h
  show (if b = 0 then (1 : Int) else 0) = 0
  rw [if_neg this]
 | l :: ls, b, h => by
  refine sm0z fun c hc => ?_
  by_cases h1 : at3 T b l.toNat c = 0
  ·rw [h1, Int.zero_mul]
  ·cases h2 : enR T ls c with
   | false => rw [ws_0 ls c h2, Int.mul_zero]
   | true =>
    have : enR T (l :: ls) b = true := anyB_iff.2 ⟨c, hc, by rw [h2, decide_eq_true h1]; rfl⟩
    rw [h] at this
    cases this
theorem gro_ws : ∀ (ls : List Int) (b : Nat), enR T ls b = true → sl ((gro T ls b).map (wq T ls b)) = ws T ls b
 | [], b, h => by
  have := of_decide_eq_true h
  show (1 : Int) + 0 = if b = 0 then (1 : Int) else 0
  rw [if_pos this]; rfl
 | l :: ls, b, h => by
  rw [gro, sl_flat]
  refine sm_congr fun c hc => ?_
  by_cases h1 : at3 T b l.toNat c = 0
  ·rw [if_neg (fun h => h.1 h1), h1, Int.zero_mul]; rfl
  ·cases h2 : enR T ls c with
   | false => rw [if_neg (fun h => by cases h.2), ws_0 ls c h2, Int.mul_zero]; rfl
   | true =>
    rw [if_pos ⟨h1, rfl⟩, List.map_map, ← gro_ws ls c h2, ← sl_mul, List.map_map]
    rfl
theorem gro_ok : ∀ (ls : List Int) (l0 : Int) (b : Nat) (p : List Int), b < T.length → enR T ls b = true → p ∈ gro T ls b → (p.length = ls.length ∧ labP T.length p ∧ atI ((b : Int) :: p) p.length = 0) ∧ (∀ i, i < p.length → nbF T (l0 :: ls) ((b : Int) :: p) i ≠ 0) ∧ wtP T (l0 :: ls) ((b : Int) :: p) p.length = wq T ls b p
 | [], l0, b, p, hb, he, hp => by
  have hp' : p = [] := by
   have : p ∈ ([[]] : List (List Int)) := hp
   simpa using this
  subst hp'
  have h0 := of_decide_eq_true he
  refine ⟨⟨rfl, labP_nil _, ?_⟩, fun i hi => absurd hi (Nat.not_lt_zero _), rfl⟩
  rw [h0]; rfl
 | l :: ls, l0, b, p, hb, he, hp => by
  rw [gro, List.mem_flatMap] at hp
  obtain ⟨c, hc, hp⟩ := hp
  have hcn := List.mem_range.1 hc
  by_cases h : at3 T b l.toNat c ≠ 0 ∧ enR T ls c = true
  ·rw [if_pos h] at hp
   obtain ⟨q, hq, rfl⟩ := List.mem_map.1 hp
   obtain ⟨⟨k1, k2, k3⟩, k4, k5⟩ := gro_ok ls l c q hcn h.2 hq
   have hn0 : nbF T (l0 :: l :: ls) ((b : Int) :: (c : Int) :: q) 0 = at3 T b l.toNat c := rfl
   have hns : ∀ i, nbF T (l0 :: l :: ls) ((b : Int) :: (c : Int) :: q) (i + 1) = nbF T (l :: ls) ((c : Int) :: q) i := fun i => rfl
   refine ⟨⟨by rw [List.length_cons, List.length_cons, k1], fun i hi => ?_, k3⟩, fun i hi => ?_, ?_⟩
   ·cases i with
    | zero => show 0 ≤ (c : Int) ∧ (c : Int) ≤ (T.length : Int) - 1; omega
    | succ i => exact k2 i (by rw [List.length_cons] at hi; omega)
   ·cases i with
    | zero => rw [hn0]; exact h.1
    | succ i => rw [hns]; exact k4 i (by rw [List.length_cons] at hi; omega)
   ·have hsh : ∀ m, wtP T (l0 :: l :: ls) ((b : Int) :: (c : Int) :: q) (m + 1) = at3 T b l.toNat c * wtP T (l :: ls) ((c : Int) :: q) m := by
     intro m
     induction m with
     | zero => rw [wtP, wtP, hn0, wtP, Int.one_mul, Int.mul_one]
     | succ m ih => rw [wtP, ih, hns, wtP, Int.mul_assoc]
    rw [List.length_cons, hsh, k5]
    rfl
  ·rw [if_neg h] at hp
   cases hp
theorem paths_cons (l : Int) (ls : List Int) : paths T (l :: ls) = if enR T ls l.toNat = true then (gro T ls l.toNat).map fun p => l :: p else [] := rfl
theorem paths_ok {L P : List Int} (hL : labP T.length L) (l1 : 1 ≤ L.length) (hP : P ∈ paths T L) : PthP T L P := by
 cases L with
 | nil => exact absurd l1 (by decide)
 | cons l ls =>
  have hl := labP_head hL
  rw [paths_cons] at hP
  by_cases he : enR T ls l.toNat = true
  ·rw [if_pos he] at hP
   obtain ⟨p, hp, rfl⟩ := List.mem_map.1 hP
   obtain ⟨⟨k1, k2, k3⟩, k4, -⟩ := gro_ok ls l l.toNat p (by omega) he hp
   have el : ((l.toNat : Nat) : Int) = l := by omega
   rw [el] at k3 k4
   refine ⟨by rw [List.length_cons, List.length_cons, k1], fun i hi => ?_, rfl, k3, fun i hi => k4 i (by rw [List.length_cons] at hi; omega)⟩
   cases i with
   | zero => exact hl
   | succ i => exact k2 i (by rw [List.length_cons] at hi; omega)
  ·rw [if_neg he] at hP
   cases hP
theorem paths_sum (hR : RingP T) {L : List Int} (hL : labP T.length L) (l1 : 1 ≤ L.length) : sl ((paths T L).map fun P => wtP T L P (P.length - 1)) = sf T 0 L := by
 cases L with
 | nil => exact absurd l1 (by decide)
 | cons l ls =>
  have hl := labP_head hL
  have el : ((l.toNat : Nat) : Int) = l := by omega
  rw [sf_sphere hR hL, paths_cons]
  cases he : enR T ls l.toNat with
  | false => rw [ws_0 _ _ he]; rfl
  | true =>
   rw [if_pos rfl, List.map_map, ← gro_ws ls l.toNat he]
   refine congrArg sl (List.map_congr_left fun p hp => ?_)
   obtain ⟨-, -, k5⟩ := gro_ok ls l l.toNat p (by omega) he hp
   rw [el] at k5
   exact k5
end
theorem cBig {a : AV} {bs : List Int} (ha : isB a bs) : CallOK Try.prog 4 [a] (bo (decide (4096 < bs.length))) := by
 refine call_of (fn := Try.f4) (code := bodyOf Try.f4) Try.func4 rfl (by kernel_rfl) (rfl) ?_
 intro sl hs
 have s0 : sl 0 = a := hs 0
 dsimp only [Try.f4, bodyOf, Option.getD]
 simp (maxSteps := 10000000) (disch := first | assumption | omega) only [go_sem, ↓reduceIte, Nat.reduceEqDiff, reduceCtorEq, Nat.reduceAdd, Nat.reduceMul, Nat.reduceLeDiff, zc, Int.reduceToNat, s0, ha]
 refine Yab ?_
 simp only [decide_eq_decide]; omega
end Go.Proofs.Ythfgjapmgjhccaa
