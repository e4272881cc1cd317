/- Texts joined: SuL SuM Eh0. -/
import Derived.ChangeOld
import Derived.Below
import Derived.Carry
import Derived.Deep.Slices
import Derived.ChangeSlices
import Derived.Lib.SmallJoins
import Derived.Test.YthfgjapmgjhccaaMj
import Derived.Test.YthfgjapmgjhccaaSg
set_option linter.all false
/- Surfaces: the law, second part. -/
namespace Go.Proofs.Ythfgjapmgjhccaa
open Go.RowKit
set_option maxRecDepth 1000000
theorem impE_tLL (b : Nat) (gn : Nat → Nat) (cs : List AV) (v : Value) : impE b gn (.tup [.row cs, .sc v]) = ⟨.tup [.ref b (gn b + 1) [] 0 cs.length, .sc v], none, [], [(b, .row cs)]⟩ := nr _
section
variable {T : List (List (List Int))} {L : List Int}
theorem noI_tLL (X : List (List Int)) {v : Value} : noI (.tup [rowLL X, .sc v]) = true := by
 have h := noI_rowLL X
 show (noI (rowLL X) && (noI (.sc v) && true)) = true
 rw [h]; rfl
end
theorem isLL_nil0 : isLL nilA [] := .inr ⟨rfl, rfl⟩
theorem pathRow {ro : Ro} {s g z m k : Nat} {X : List (List Int)} {x : List Int} (h : ro s g = some (rowLL X)) (hz : X[z]? = some x) (hm : m = x.length) (hk : 2 ≤ k) : exq k ro (.ref s g [z] 0 m) (immL x) := by
 subst hm
 refine ⟨fun q hq => ?_, fun hp => by simp [pureA] at hp⟩
 obtain ⟨j, rfl⟩ : ∃ j, q = j + 2 := ⟨q - 2, by omega⟩
 have hc : ro.cells s g [z] = some (x.map i64) := by
  simp only [Ro.cells, Ro.at, h, ath, rowLL, List.getElem?_map, hz, Option.map_some, rowL]
 simp only [ex, hc]
 congr 1
 rw [List.drop_zero, List.take_of_length_le (by simp), List.map_map]
 rfl
section
variable {T : List (List (List Int))} {L : List Int}
theorem pw_or {p : List Int} (h0 : pcV T L = 0) (hp : PthP T L p) : (pwV T L p = (wtP T L p (p.length - 1), 0) ∧ 1 ≤ wtP T L p (p.length - 1)) ∨ pwV T L p = (0, 3) := by
 obtain ⟨hR, hC, l1, l8, hL⟩ := pcV_iff.1 h0
 have hl := hp.l
 obtain ⟨w1, w2, w3⟩ := wtS_b hR.1 hL hp (p.length - 1) (by omega)
 unfold pwV
 cases h : (wtS T L p (p.length - 1)).2 with
 | true => exact .inr (if_pos rfl)
 | false =>
  rw [if_neg (by decide), ← w3 h]
  exact .inl ⟨rfl, w1⟩
theorem pw_b {p : List Int} (h0 : pcV T L = 0) (hp : PthP T L p) : 0 ≤ (pwV T L p).1 ∧ (pwV T L p).1 ≤ 1000000000000000 := by
 obtain ⟨hR, hC, l1, l8, hL⟩ := pcV_iff.1 h0
 have hl := hp.l
 obtain ⟨w1, w2, w3⟩ := wtS_b hR.1 hL hp (p.length - 1) (by omega)
 unfold pwV
 split
 ·exact ⟨Int.le_refl _, by decide⟩
 ·exact ⟨by show 0 ≤ (wtS T L p (p.length - 1)).1; omega, w2⟩
theorem sm_front (f : Nat → Int) : ∀ n : Nat, sm f (n + 1) = f 0 + sm (fun i => f (i + 1)) n
 | 0 => by simp only [sm]; omega
 | n + 1 => by
  rw [sm, sm_front f n]
  simp only [sm]
  omega
theorem sl_sm (f : List Int → Int) : ∀ P : List (List Int), sl (P.map f) = sm (fun i => f (row P i)) P.length
 | [] => rfl
 | p :: P => by
  rw [List.length_cons, sm_front]
  show f p + sl (P.map f) = _
  rw [sl_sm f P]
  rfl
theorem sm_bd2 {f : Nat → Int} : ∀ {n : Nat}, (∀ i, i < n → 0 ≤ f i ∧ f i ≤ 1000000000000000) → 0 ≤ sm f n ∧ sm f n ≤ 1000000000000000 * n
 | 0, _ => ⟨Int.le_refl _, Int.le_refl _⟩
 | n + 1, h => by
  have := sm_bd2 (n := n) fun i hi => h i (by omega)
  have := h n (by omega)
  simp only [sm]
  omega
end
section
variable {a : AV} {bs : List Int} {sl : Nat → AV} {ro : Ro} {gn : Nat → Nat}
set_option maxHeartbeats 16000000 in
theorem seg2 (hc : Cod a bs) (hb : isB a bs) (hl : bs.length ≤ 4096) (s0 : sl 0 = a) : WK XX (cutA 5 (cutB 7 (bodyOf Try.f3))) [.lp (fun st => st.sl 0 = a)] (RET ti0 [.tmp 2] (bo true)) ⟨sl, ro, gn⟩ := by
 dsimp only [Try.f3, bodyOf, Option.getD, cutA, cutB]
 refine Yad ?_
 refine CLL_inS rfl (sDrawFP hc hl) ?_
 rintro _ ro1 gn1 ⟨fr1, T, c, u3, L, rfl, hT, rL, lu, l9⟩
 obtain ⟨s, u, o, m, cv, rfl, ⟨n1, n2, nm⟩, lu2, hbk, hcv, hz, hx⟩ := hT
 have lL : L.length ≤ maxN := by unfold maxN; omega
 have cI := cFpI hcv hz (isL_imm L) lL
 have cS := cFpS hcv (isL_imm L) lL
 have eM := nm.2.2
 have nS : ∀ S, S ∈ [127056, 131104, 135200] → ¬ s = S := fun S hS e => by
  have := all_WRs (p := fun s => !([127056, 131104, 135200].contains s)) nm.2.1 (by decide)
  rw [e, List.contains_iff_mem.2 hS] at this
  cases this
 have n12 := nS 127056 (by decide)
 have n13 := nS 131104 (by decide)
 have n135 := nS 135200 (by decide)
 simp (maxSteps := 10000000) (disch := first | assumption | omega) only [go_sem, ↓reduceIte, Nat.reduceEqDiff, reduceCtorEq, Nat.reduceAdd, Nat.reduceMul, Nat.reduceLeDiff, zc, Int.reduceToNat, s0, n12, hbk, ti33]
 by_cases hp : pcV T L = 0
 ·obtain ⟨hR, hC, l1, l8, hL⟩ := pcV_iff.1 hp
  by_cases h20 : (paths T L).length ≤ 2000
  ·rw [pthA_0 hp h20] at cI cS
   refine CLL_q _ cI (.cons (exq_agg (n := 7) (.cons (hx _ (by intro x y hy h1 h2; simp only [zdb]; repeat' (first | rfl | rw [if_neg (by rintro ⟨rfl, rfl⟩; omega)]))) .nil)) (.cons (exq_refL (Ue rL) rfl (by decide)) .nil)) rfl rfl (noI_tLL _) ?_
   simp (maxSteps := 10000000) (disch := first | assumption | omega) only [go_sem, ↓reduceIte, Nat.reduceEqDiff, reduceCtorEq, Nat.reduceAdd, Nat.reduceMul, Nat.reduceLeDiff, zc, Int.reduceToNat, s0, rowLL, impE_tLL, List.length_map, n12, n13, hbk, ti33, ti2]
   refine CLL_q _ cS (.cons (exq_agg (n := 7) (.cons (hx _ (by intro x y hy h1 h2; simp only [zdb]; repeat' (first | rfl | rw [if_neg (by rintro ⟨rfl, rfl⟩; omega)]))) .nil)) (.cons (exq_refL (Ue rL) rfl (by decide)) .nil)) rfl rfl (noI_tLL _) ?_
   simp (maxSteps := 10000000) (disch := first | assumption | omega) only [go_sem, ↓reduceIte, Nat.reduceEqDiff, reduceCtorEq, Nat.reduceAdd, Nat.reduceMul, Nat.reduceLeDiff, zc, Int.reduceToNat, s0, rowLL, impE_tLL, List.length_map, n12, n13, n135, hbk, ti33, ti2]
   obtain ⟨P, eP⟩ : ∃ P, P = paths T L := ⟨_, rfl⟩
   rw [← eP] at h20 cI cS ⊢
   have hPP : ∀ i, i < P.length → PthP T L (row P i) := fun i hi => paths_ok hL l1 (by
    rw [← eP]
    unfold row
    rw [List.getD_eq_getElem?_getD, List.getElem?_eq_getElem hi]
    exact List.getElem_mem hi)
   have lP : P.length ≤ maxN := by unfold maxN; omega
   have hPr : ∀ i, i < P.length → (row P i).length ≤ maxN := fun i hi => by rw [(hPP i hi).l]; exact lL
   refine CLL_q _ (cLikeR (isLL_imm P) (isLL_imm P) lP hPr rfl) (.cons (exq_refLL (xs := P) Ur rfl (by decide)) (.cons (exq_refLL (xs := P) Ur rfl (by decide)) .nil)) rfl rfl rfl ?_
   refine Ycw ?_
   have lmP : (P.map rowL).length = P.length := List.length_map _
   refine WK_for (fun i st => st.sl 0 = a ∧ st.sl 21 = .ptr 127056 (gn1 127056 + 1) [] 0 ∧ st.sl 22 = .ref 8192 u3 [] 0 L.length ∧ st.sl 23 = .ref 131104 (gn1 131104 + 1) [] 0 P.length ∧ st.sl 27 = i64 (sm (fun i => (pwV T L (row P i)).1) i) ∧ st.sl 29 = i64 (i : Int) ∧ (∃ w : Bool, st.sl 28 = bo w ∧ (w = true → ∀ j, j < i → (pwV T L (row P j)).2 = 0)) ∧ (∀ x y, y ≤ gn1 x → x ≠ 8288 → x ≠ 4096 → st.ro x y = ro1 x y) ∧ (st.ro 127056 (gn1 127056 + 1) = some (.bx [.ref s u [] o m])) ∧ (st.ro 131104 (gn1 131104 + 1) = some (rowLL P))) P.length ?_ ?_ ?_
   ·refine Yen ?_
    refine ⟨s0, rfl, rfl, ⟨true, rfl, fun _ j hj => absurd hj (Nat.not_lt_zero _)⟩, fun x y hy h1 h2 => ?_⟩
    repeat' (first | rfl | rw [if_neg (by rintro ⟨rfl, rfl⟩; omega)])
   ·rintro i sl ro gn hi ⟨s0, s21, s22, s23, s27, s29, w, k, rB, rP⟩
    dsimp only at s0 s21 s22 s23 s27 s29
    have hi' : (i : Int) < (P.length : Nat) := by omega
    dsimp only at w k rB rP
    obtain ⟨w, s28, hw⟩ := w
    have hbk' : (blkO (ro s u)).isSome = true := by rw [k s u lu2 n1 n2]; exact hbk
    have rL' : ro 8192 u3 = some (rowL L) := (k 8192 u3 lu (by decide) (by decide)).trans rL
    have hPi := hPP i hi
    have lPi := hPi.l
    have ePi : P[i]? = some (row P i) := by
     unfold row
     rw [List.getD_eq_getElem?_getD, List.getElem?_eq_getElem hi]
     rfl
    have gPi : (P.map rowL)[i]? = some (.row ((row P i).map i64)) := by rw [List.getElem?_map, ePi]; rfl
    have cW := cPw hcv hz (isL_imm L) (isL_imm (row P i)) hp hPi
    have hbd := sm_bd2 (f := fun i => (pwV T L (row P i)).1) (n := i) (fun j hj => pw_b hp (hPP j (by omega)))
    have hsm : sm (fun i => (pwV T L (row P i)).1) (i + 1) = sm (fun i => (pwV T L (row P i)).1) i + (pwV T L (row P i)).1 := rfl
    have hvb := pw_b hp hPi
    have hvo := pw_or hp hPi
    have hwS : ∀ w' : Bool, (w' = true → w = true ∧ (pwV T L (row P i)).2 = 0) → (w' = true → ∀ j, j < i + 1 → (pwV T L (row P j)).2 = 0) := fun w' h1 h2 j hj => by
     obtain ⟨h3, h4⟩ := h1 h2
     rcases Nat.lt_or_eq_of_le (Nat.le_of_lt_succ hj) with h | h
     ·exact hw h3 j h
     ·rw [h]; exact h4
    rw [hsm]
    generalize sm (fun i => (pwV T L (row P i)).1) i = tt at *
    generalize pwV T L (row P i) = vv at *
    have rP2 := rP
    rw [rowLL] at rP2
    have lmi : ((row P i).map i64).length = (row P i).length := List.length_map _
    simp (maxSteps := 10000000) (disch := first | assumption | omega) only [go_sem, ↓reduceIte, Nat.reduceEqDiff, reduceCtorEq, Nat.reduceAdd, Nat.reduceMul, Nat.reduceLeDiff, zc, Int.reduceToNat, s0, s21, s22, s23, s27, s29, hi', hi, s0, rB, hbk', ti33, ti2, rP2, lmP, gPi, lmi]
    refine CLLD_q _ cW (.cons (exq_agg (n := 7) (.cons (hx _ k) .nil)) (.cons (exq_refL rL' rfl (by decide)) (.cons (pathRow rP ePi rfl (by decide)) .nil))) rfl rfl ?_
    rcases hvo with ⟨hvo, hw1⟩ | hvo
    ·obtain ⟨v1, v2⟩ := vv
     obtain rfl : v2 = 0 := congrArg Prod.snd hvo
     have hv1 : v1 = wtP T L (row P i) ((row P i).length - 1) := congrArg Prod.fst hvo
     rw [← hv1] at hw1
     dsimp only at hvb hwS ⊢
     have hw1' : ¬ v1 < 1 := by omega
     cases w with
     | true =>
      by_cases hle : v1 ≤ 1000000000000
      ·refine Yde ?_
       refine FIN_of (by split <;> kernel_rfl) ?_
       refine Yde ?_
       exact ⟨i64c (by omega), ⟨true, rfl, hwS true (fun _ => ⟨rfl, rfl⟩)⟩, k, rB, rP⟩
      ·refine Ydd ?_
       refine FIN_of (by split <;> kernel_rfl) ?_
       refine Ydd ?_
       exact ⟨i64c (by omega), ⟨false, rfl, fun h => Bool.noConfusion h⟩, k, rB, rP⟩
     | false =>
      refine Ydk ?_
      refine FIN_of (by split <;> kernel_rfl) ?_
      refine Ydk ?_
      exact ⟨i64c (by omega), ⟨false, rfl, fun h => Bool.noConfusion h⟩, k, rB, rP⟩
    ·obtain ⟨v1, v2⟩ := vv
     obtain rfl : v2 = 3 := congrArg Prod.snd hvo
     dsimp only at hvb hwS ⊢
     cases w with
     | true =>
      refine Yaz ?_
      refine FIN_of (by split <;> kernel_rfl) ?_
      refine Yaz ?_
      exact ⟨i64c (by omega), ⟨false, rfl, fun h => Bool.noConfusion h⟩, k, rB, rP⟩
     | false =>
      refine Yaz ?_
      refine FIN_of (by split <;> kernel_rfl) ?_
      refine Yaz ?_
      exact ⟨i64c (by omega), ⟨false, rfl, fun h => Bool.noConfusion h⟩, k, rB, rP⟩
   ·rintro sl ro gn ⟨s0, s21, s22, s23, s27, s29, w, k, rB, rP⟩
    dsimp only at s0 s21 s22 s23 s27 s29
    have hi' : ¬ ((P.length : Nat) : Int) < (P.length : Nat) := by omega
    dsimp only at w k rB rP
    obtain ⟨w, s28, hw⟩ := w
    have hbk' : (blkO (ro s u)).isSome = true := by rw [k s u lu2 n1 n2]; exact hbk
    have rL' : ro 8192 u3 = some (rowL L) := (k 8192 u3 lu (by decide) (by decide)).trans rL
    have bP : (blkO (ro 131104 (gn1 131104 + 1))).isSome = true := by rw [rP]; rfl
    have cD := cSdI (g := (0 : Int)) hcv hz (isL_imm L) lL
    unfold sdA at cD
    have hzz := sdV_zero (T := T) (L := L) (b := 0)
    simp (maxSteps := 10000000) (disch := first | assumption | omega) only [go_sem, ↓reduceIte, Nat.reduceEqDiff, reduceCtorEq, Nat.reduceAdd, Nat.reduceMul, Nat.reduceLeDiff, zc, Int.reduceToNat, s0, s21, s22, s23, s27, s29, hi', s0, rB, hbk', ti33, ti2, bP]
    refine CLL_q _ cD (.cons (exq_agg (n := 7) (.cons (hx _ k) .nil)) (.cons (exq_sc _ _ _ (by decide)) (.cons (exq_refL rL' rfl (by decide)) .nil))) rfl rfl rfl ?_
    have hzs : w = true → (sdV T 0 L).2 = 0 → (sdV T 0 L).1 = sm (fun i => (pwV T L (row P i)).1) P.length := fun h1 h2 => by
     obtain ⟨g, Z, hg, -, -, -, -, -, -, h⟩ := hzz h2
     have hg0 : g = 0 := by omega
     subst hg0
     rw [h, ← paths_sum hR hL l1, ← eP, sl_sm]
     refine sm_congr fun i hi => ?_
     rcases pw_or hp (hPP i hi) with ⟨hv, -⟩ | hv
     ·rw [hv]
     ·have := hw h1 i hi
      rw [hv] at this
      exact absurd this (by decide)
    generalize sm (fun i => (pwV T L (row P i)).1) P.length = tt at *
    generalize sdV T 0 L = vv at *
    by_cases hv2 : vv.2 = 0
    ·cases w with
     | true =>
      rw [hzs rfl hv2]
      exact Ydl
     | false =>
      exact Ydl
    ·simp (maxSteps := 10000000) (disch := first | assumption | omega) only [go_sem, ↓reduceIte, Nat.reduceEqDiff, reduceCtorEq, Nat.reduceAdd, Nat.reduceMul, Nat.reduceLeDiff, zc, Int.reduceToNat, s0, s21, s22, s23, s27, s29, hi', s0, s28, impE_tS, ti2, undef, eq_false hv2]
  ·rw [pthA_3 hp h20] at cI cS
   refine CLL_q _ cI (.cons (exq_agg (n := 7) (.cons (hx _ (by intro x y hy h1 h2; simp only [zdb]; repeat' (first | rfl | rw [if_neg (by rintro ⟨rfl, rfl⟩; omega)]))) .nil)) (.cons (exq_refL (Ue rL) rfl (by decide)) .nil)) rfl rfl rfl ?_
   refine Yee ?_
   refine CLL_q _ cS (.cons (exq_agg (n := 7) (.cons (hx _ (by intro x y hy h1 h2; simp only [zdb]; repeat' (first | rfl | rw [if_neg (by rintro ⟨rfl, rfl⟩; omega)]))) .nil)) (.cons (exq_refL (Ue rL) rfl (by decide)) .nil)) rfl rfl rfl ?_
   refine Ydx ?_
   refine CLL_pure _ (cLikeR isLL_nil0 isLL_nil0 (Nat.zero_le _) (fun i hi => absurd hi (Nat.not_lt_zero _)) rfl) rfl rfl rfl ?_
   simp (maxSteps := 10000000) (disch := first | assumption | omega) only [go_sem, ↓reduceIte, Nat.reduceEqDiff, reduceCtorEq, Nat.reduceAdd, Nat.reduceMul, Nat.reduceLeDiff, zc, Int.reduceToNat, s0, ti4, ti2, undef]
 ·rw [pthA_x hp] at cI cS
  refine CLL_q _ cI (.cons (exq_agg (n := 7) (.cons (hx _ (by intro x y hy h1 h2; simp only [zdb]; repeat' (first | rfl | rw [if_neg (by rintro ⟨rfl, rfl⟩; omega)]))) .nil)) (.cons (exq_refL (Ue rL) rfl (by decide)) .nil)) rfl rfl rfl ?_
  refine Yee ?_
  refine CLL_q _ cS (.cons (exq_agg (n := 7) (.cons (hx _ (by intro x y hy h1 h2; simp only [zdb]; repeat' (first | rfl | rw [if_neg (by rintro ⟨rfl, rfl⟩; omega)]))) .nil)) (.cons (exq_refL (Ue rL) rfl (by decide)) .nil)) rfl rfl rfl ?_
  refine Ydx ?_
  refine CLL_pure _ (cLikeR isLL_nil0 isLL_nil0 (Nat.zero_le _) (fun i hi => absurd hi (Nat.not_lt_zero _)) rfl) rfl rfl rfl ?_
  have hp' : ¬ pcV T L = 0 := hp
  simp (maxSteps := 10000000) (disch := first | assumption | omega) only [go_sem, ↓reduceIte, Nat.reduceEqDiff, reduceCtorEq, Nat.reduceAdd, Nat.reduceMul, Nat.reduceLeDiff, zc, Int.reduceToNat, s0, ti4, ti2, undef, eq_false hp']
end
section
variable {T : List (List (List Int))}
theorem gn_at (hR : RingP T) (hC : CmP T) {n g : Nat} (hn : n ≤ 20) (hp : gnP T n) (hg : g ≤ n) : sdV T (g : Int) [] = (surfR T g [], 0) := by
 obtain ⟨Z, eZ⟩ := hp g hg
 rw [sdV_0 hR hC ⟨by omega, labP_nil _, by decide⟩ eZ]
 unfold surfR
 rw [eZ]
end
section
variable {a : AV} {bs : List Int} {sl : Nat → AV} {ro : Ro} {gn : Nat → Nat}
set_option maxHeartbeats 16000000 in
theorem seg3 (hc : Cod a bs) (hb : isB a bs) (hl : bs.length ≤ 4096) (s0 : sl 0 = a) : WK XX (cutB 5 (cutB 7 (bodyOf Try.f3))) [] (RET ti0 [.tmp 2] (bo true)) ⟨sl, ro, gn⟩ := by
 dsimp only [Try.f3, bodyOf, Option.getD, cutA, cutB]
 refine Yad ?_
 refine CLL_inS rfl (sDrawGN hc hl) ?_
 rintro _ ro1 gn1 ⟨fr1, T, c, b, rfl, hT⟩
 obtain ⟨s, u, o, m, cv, rfl, ⟨n1, n2, nm⟩, lu2, hbk, hcv, hz, hx⟩ := hT
 have cI := cGnI (g := b) hcv hz
 have cS := cGnS (g := b) hcv
 have nS : ∀ S, S ∈ [200784, 204832, 208928] → ¬ s = S := fun S hS e => by
  have := all_WRs (p := fun s => !([200784, 204832, 208928].contains s)) nm.2.1 (by decide)
  rw [e, List.contains_iff_mem.2 hS] at this
  cases this
 have nA := nS 200784 (by decide)
 have nB := nS 204832 (by decide)
 have nC := nS 208928 (by decide)
 simp (maxSteps := 10000000) (disch := first | assumption | omega) only [go_sem, ↓reduceIte, Nat.reduceEqDiff, reduceCtorEq, Nat.reduceAdd, Nat.reduceMul, Nat.reduceLeDiff, zc, Int.reduceToNat, s0, nA, hbk, ti33]
 have hok : ∀ n : Nat, b = (n : Int) → RingP T → CmP T → (0 ≤ (n : Int) ∧ (n : Int) ≤ 20) → gnP T n → gnA T b = .tup [.row (rws (fun h => i64 (surfR T h [])) (n + 1)), i64 0] := fun n e h1 h2 h3 h4 => by rw [e, gnA_0 h1 h2 h3 h4]; rfl
 have hbad : (∃ n : Nat, b = (n : Int) ∧ RingP T ∧ CmP T ∧ (0 ≤ (n : Int) ∧ (n : Int) ≤ 20) ∧ gnP T n) ∨ ∃ z : Int, gnA T b = .tup [nilA, i64 z] := by
  by_cases h1 : RingP T
  ·by_cases h2 : CmP T
   ·by_cases h3 : 0 ≤ b ∧ b ≤ 20
    ·obtain ⟨n, rfl⟩ := Int.eq_ofNat_of_zero_le h3.1
     by_cases h4 : gnP T n
     ·exact .inl ⟨n, rfl, h1, h2, h3, h4⟩
     ·exact .inr ⟨3, gnA_3 h1 h2 h3 h4⟩
    ·exact .inr ⟨2, gnA_2 h1 h2 h3⟩
   ·exact .inr ⟨5, gnA_5 h1 h2⟩
  ·exact .inr ⟨1, gnA_1 h1⟩
 rcases hbad with ⟨n, rfl, hR, hC, hg, hp⟩ | ⟨z, hv⟩
 ·rw [hok n rfl hR hC hg hp] at cI cS
  have eX : AV.row (rws (fun h => i64 (surfR T h [])) (n + 1)) = rowL (rws (fun h => surfR T h []) (n + 1)) := by rw [rowL, rws_map]
  have lX : (rws (fun h => surfR T h []) (n + 1)).length = n + 1 := zfe _ _
  have hnI : noI (.tup [.row (rws (fun h => i64 (surfR T h [])) (n + 1)), i64 0]) = true := by rw [eX]; exact noI_tV _
  refine CLL_q _ cI (.cons (exq_agg (n := 7) (.cons (hx _ (by intro x y hy h1 h2; simp only [zdb]; repeat' (first | rfl | rw [if_neg (by rintro ⟨rfl, rfl⟩; omega)]))) .nil)) (.cons (exq_sc _ _ _ (by decide)) .nil)) rfl rfl hnI ?_
  simp (maxSteps := 10000000) (disch := first | assumption | omega) only [go_sem, ↓reduceIte, Nat.reduceEqDiff, reduceCtorEq, Nat.reduceAdd, Nat.reduceMul, Nat.reduceLeDiff, zc, Int.reduceToNat, s0, impE_tV, zfe, nA, nB, hbk, ti33, ti2]
  refine CLL_q _ cS (.cons (exq_agg (n := 7) (.cons (hx _ (by intro x y hy h1 h2; simp only [zdb]; repeat' (first | rfl | rw [if_neg (by rintro ⟨rfl, rfl⟩; omega)]))) .nil)) (.cons (exq_sc _ _ _ (by decide)) .nil)) rfl rfl hnI ?_
  simp (maxSteps := 10000000) (disch := first | assumption | omega) only [go_sem, ↓reduceIte, Nat.reduceEqDiff, reduceCtorEq, Nat.reduceAdd, Nat.reduceMul, Nat.reduceLeDiff, zc, Int.reduceToNat, s0, impE_tV, zfe, nA, nB, nC, hbk, ti33, ti2]
  refine CLL_q _ (cLikeI (isL_imm (rws (fun h => surfR T h []) (n + 1))) (isL_imm (rws (fun h => surfR T h []) (n + 1))) (by rw [lX]; unfold maxN; omega) rfl) (.cons (exq_refL (xs := rws (fun h => surfR T h []) (n + 1)) (by simp only [↓za, ↓reduceIte, Nat.reduceEqDiff, zb, reduceCtorEq]; rw [eX]) lX.symm (by decide)) (.cons (exq_refL (xs := rws (fun h => surfR T h []) (n + 1)) (by simp only [↓za, ↓reduceIte, Nat.reduceEqDiff, zb, reduceCtorEq]; rw [eX]) lX.symm (by decide)) .nil)) rfl rfl rfl ?_
  refine Ycw ?_
  refine WK_for (fun g st => st.sl 34 = .ptr 200784 (gn1 200784 + 1) [] 0 ∧ st.sl 36 = .ref 204832 (gn1 204832 + 1) [] 0 (n + 1) ∧ st.sl 40 = i64 (g : Int) ∧ (∀ x y, y ≤ gn1 x → x ≠ 8288 → x ≠ 4096 → st.ro x y = ro1 x y) ∧ (st.ro 200784 (gn1 200784 + 1) = some (.bx [.ref s u [] o m])) ∧ (st.ro 204832 (gn1 204832 + 1) = some (.row (rws (fun h => i64 (surfR T h [])) (n + 1))))) ((n + 1)) ?_ ?_ ?_
  ·refine Yen ?_
   refine ⟨rfl, fun x y hy h1 h2 => ?_⟩
   repeat' (first | rfl | rw [if_neg (by rintro ⟨rfl, rfl⟩; omega)])
  ·rintro g sl ro gn hg ⟨s34, s36, s40, k, rB, rX⟩
   dsimp only at s34 s36 s40
   have hg' : (g : Int) < ((n + 1) : Nat) := by omega
   dsimp only at k rB rX
   have hbk' : (blkO (ro s u)).isSome = true := by rw [k s u lu2 n1 n2]; exact hbk
   have hgX := rws_get (fun h => i64 (surfR T h [])) (n + 1) g hg
   have cD := cSdI (g := (g : Int)) hcv hz isL_nil0 (Nat.zero_le _)
   unfold sdA at cD
   rw [gn_at hR hC (by omega) hp (by omega)] at cD
   simp (maxSteps := 10000000) (disch := first | assumption | omega) only [go_sem, ↓reduceIte, Nat.reduceEqDiff, reduceCtorEq, Nat.reduceAdd, Nat.reduceMul, Nat.reduceLeDiff, zc, Int.reduceToNat, s34, s36, s40, hg', hg, rB, hbk', ti33, ti2, ti3, rX, zfe]
   refine CLL_q _ cD (.cons (exq_agg (n := 7) (.cons (hx _ k) .nil)) (.cons (exq_sc _ _ _ (by decide)) (.cons (exq_sc _ _ _ (by decide)) .nil))) rfl rfl rfl ?_
   simp (maxSteps := 10000000) (disch := first | assumption | omega) only [go_sem, ↓reduceIte, Nat.reduceEqDiff, reduceCtorEq, Nat.reduceAdd, Nat.reduceMul, Nat.reduceLeDiff, zc, Int.reduceToNat, s34, s36, s40, hg', hg, impE_tS, ti2, rX, zfe, hgX, hg, undef]
   exact ⟨i64c (by omega), k, rB⟩
  ·rintro sl ro gn ⟨s34, s36, s40, k, rB, rX⟩
   dsimp only at s34 s36 s40
   have hg' : ¬ (((n + 1) : Nat) : Int) < ((n + 1) : Nat) := by omega
   dsimp only at k rB rX
   have bX : (blkO (ro 204832 (gn1 204832 + 1))).isSome = true := by rw [rX]; rfl
   simp (maxSteps := 10000000) (disch := first | assumption | omega) only [go_sem, ↓reduceIte, Nat.reduceEqDiff, reduceCtorEq, Nat.reduceAdd, Nat.reduceMul, Nat.reduceLeDiff, zc, Int.reduceToNat, s34, s36, s40, hg', bX]
   exact Yaa
 ·rw [hv] at cI cS
  refine CLL_q _ cI (.cons (exq_agg (n := 7) (.cons (hx _ (by intro x y hy h1 h2; simp only [zdb]; repeat' (first | rfl | rw [if_neg (by rintro ⟨rfl, rfl⟩; omega)]))) .nil)) (.cons (exq_sc _ _ _ (by decide)) .nil)) rfl rfl rfl ?_
  simp (maxSteps := 10000000) (disch := first | assumption | omega) only [go_sem, ↓reduceIte, Nat.reduceEqDiff, reduceCtorEq, Nat.reduceAdd, Nat.reduceMul, Nat.reduceLeDiff, zc, Int.reduceToNat, s0, impE_tS, nA, nB, hbk, ti33, ti2]
  refine CLL_q _ cS (.cons (exq_agg (n := 7) (.cons (hx _ (by intro x y hy h1 h2; simp only [zdb]; repeat' (first | rfl | rw [if_neg (by rintro ⟨rfl, rfl⟩; omega)]))) .nil)) (.cons (exq_sc _ _ _ (by decide)) .nil)) rfl rfl rfl ?_
  simp (maxSteps := 10000000) (disch := first | assumption | omega) only [go_sem, ↓reduceIte, Nat.reduceEqDiff, reduceCtorEq, Nat.reduceAdd, Nat.reduceMul, Nat.reduceLeDiff, zc, Int.reduceToNat, s0, impE_tS, nA, nB, nC, hbk, ti33, ti2]
  refine CLL_pure _ (cLikeI isL_nil0 isL_nil0 (Nat.zero_le _) rfl) rfl rfl rfl ?_
  refine Ycw ?_
  refine WK_for (fun g st => st.sl 36 = nilA ∧ st.sl 40 = i64 (g : Int)) 0 ?_ ?_ ?_
  ·refine Yen ?_
   exact rfl
  ·rintro g sl ro gn hg ⟨s36, s40⟩
   dsimp only at s36 s40
   have hg' : (g : Int) < (0 : Nat) := by omega
   exact absurd hg (Nat.not_lt_zero _)
  ·rintro sl ro gn ⟨s36, s40⟩
   dsimp only at s36 s40
   have hg' : ¬ ((0 : Nat) : Int) < (0 : Nat) := by omega
   simp (maxSteps := 10000000) (disch := first | assumption | omega) only [go_sem, ↓reduceIte, Nat.reduceEqDiff, reduceCtorEq, Nat.reduceAdd, Nat.reduceMul, Nat.reduceLeDiff, zc, Int.reduceToNat, s36, s40, hg']
   exact Yaa
theorem cSurfaces (hb : isB a bs) (hr : ∀ k, 0 ≤ atI bs k ∧ atI bs k < 256) : CallOK Try.prog 3 [a] (bo true) := by
 have hpa : pureA a = true := isB_pure hb
 refine call_of (fn := Try.f3) (code := bodyOf Try.f3) Try.func3 rfl (by kernel_rfl) (rfl) ?_
 intro sl hs
 have s0 : sl 0 = a := hs 0
 by_cases hl : 4096 < bs.length
 ·have cB := cBig hb
  rw [decide_eq_true hl] at cB
  dsimp only [Try.f3, bodyOf, Option.getD]
  refine Yad ?_
  refine CLL_pure _ cB (by simp only [pureL, hpa, Bool.and_self]) rfl rfl ?_
  refine Yad ?_
  exact Yaa
 ·have hl' : bs.length ≤ 4096 := by omega
  have hc : Cod a bs := ⟨hb, fun k _ => hr k, by omega⟩
  refine WK_cut (fun st => st.sl 0 = a) 7 (seg1 hc hb hl' s0) ?_
  intro sl ro gn h
  refine WK_cut (fun st => st.sl 0 = a) 5 (seg2 hc hb hl' h) ?_
  intro sl ro gn h
  exact seg3 hc hb hl' h
end
end Go.Proofs.Ythfgjapmgjhccaa
/- What the law hands in, read by the machine: bytes. -/
namespace Go.Proofs.Ythfgjapmgjhccaa
open Go.RowKit Go.ChangeShapes Go.WideShapes Go.Deep Go.Joins
theorem walk_below {P : Program} {f : Nat} {args : List AV} {b : Bool} (h : CallOK P f args (bo b)) {w : World} {vs : List Value} (hv : RelL (cx0 w (fun _ => False)) args vs []) (hg : Gd w) :
  Calls P f vs.toArray w fun e w' => e = .returned (.bool b) ∧ Below w.heap.size w w' := by
 refine (h.2.2 w (fun _ => False) vs hv (fun _ h => h.elim) hg).mono ?_
 rintro e w' ⟨v, A', F', rfl, h1, _, _, h4⟩
 obtain ⟨h2, _⟩ := Rel.sc_inv h1
 exact ⟨by rw [h2], ⟨h4.os, h4.tape, h4.output.1, h4.size, fun k hk => h4.block k hk (by simp)⟩⟩
theorem cell_spot {w : World} {a : Addr} {v : Value} (h : w.cell? a = some v) : a.spot = none ∧ a.block < w.heap.size := by
 unfold World.cell? at h
 split at h
 ·rename_i c E fr hb
  split at h
  ·cases h
  ·rename_i hs
   refine ⟨by cases hsp : a.spot <;> simp_all, ?_⟩
   exact (Array.getElem?_eq_some_iff.1 hb).1
 ·cases h
theorem add_plain {a : Addr} (h : a.spot = none) (i : Nat) : a.add i = ⟨a.block, a.off + i, none⟩ := by
 unfold Addr.add
 split
 ·rename_i hi; subst hi; cases a; simp_all
 ·rfl
theorem wf8 {n : Int} (h : (Lit.int .u8 n).wf = true) : 0 ≤ n ∧ n < 256 := by
 have e : IntKind.bits .u8 = 8 := rfl
 have s : IntKind.signed .u8 = false := rfl
 simp only [Lit.wf, IntKind.min, IntKind.max, s, e] at h
 simp at h
 omega
section
variable {H : Type} {enc : TypeId × Value → H} {P : Program} {w : World} {held : Bool}
theorem open_b1 {t e : TypeId} {fuel : Nat} {v : Value} {x : DataW H × List MemPlace} (ht : P.underlying t = some (.slice e)) (he : P.underlying e = some (.int .u8)) (hc : P.cellsOf e = 1) (h : DataW.trod enc P w 0 (fun _ => true) held fuel t [v] = some x) :
  ∃ a xs, Rel (cx0 w (fun _ => False)) a v [] ∧ isB a xs ∧ xs.length < 2^63 ∧ ∀ j, 0 ≤ atI xs j ∧ atI xs j < 256 := by
 rcases open_ints ht he hc h with ⟨hcs, _⟩ | ⟨ad, len, cap, zs, hcs, _, hl, hm, hz, _, hcell, hwf⟩
 ·simp only [List.cons.injEq, and_true] at hcs
  subst hcs
  exact ⟨.sc (.slice none 0 0), [], .sc _ .nil, .inr ⟨rfl, _, _, rfl⟩, by simp, fun j => by simp [atI]⟩
 ·simp only [List.cons.injEq, and_true] at hcs
  subst hcs
  simp only [if_true] at hz
  have hmx : cap < 2^63 := Nat.lt_of_le_of_lt hm (by decide)
  rcases Nat.eq_zero_or_pos len with h0 | hpos
  ·subst h0
   exact ⟨.sc (.slice (some ad) 0 cap), [], .sc _ .nil, .inr ⟨rfl, _, _, rfl⟩, by simp, fun j => by simp [atI]⟩
  ·have hc0 := hcell 0 (by omega)
   obtain ⟨hs, hb⟩ := cell_spot hc0
   have hs' : ad.spot = none := by simpa [Addr.add] using hs
   have hb' : ad.block < w.heap.size := by simpa [Addr.add] using hb
   have hlen : (zs.take len).length = len := by rw [List.length_take]; omega
   have hlen2 : ((zs.take len).map (Value.int .u8)).length = len := by rw [List.length_map, hlen]
   refine ⟨.imm ((zs.take len).map u8), zs.take len, ?_, .inl rfl, by omega, fun j => ?_⟩
   ·have hr : RelL (cx0 w (fun _ => False)) ((zs.take len).map u8) ((zs.take len).map (Value.int .u8)) [] := by
     have := relL_sc (cx0 w (fun _ => False)) ((zs.take len).map (Value.int .u8))
     rwa [List.map_map] at this
    have := RelL.imm (c := cx0 w (fun _ => False)) ad.block ad.off cap hr ⟨fun h => h, hb', fun i u hu => ?_⟩ (by rw [hlen2]; exact hl) RelL.nil
    ·rw [hlen2] at this
     have e : (⟨ad.block, ad.off, none⟩ : Addr) = ad := by cases ad; simp_all
     rwa [e] at this
    ·show w.cell? ⟨ad.block, ad.off + i, none⟩ = some u
     rw [← add_plain hs' i]
     have hi : i < len := by
      have := (List.getElem?_eq_some_iff.1 hu).1
      rwa [hlen2] at this
     rw [hcell i (by omega)]
     rw [List.getElem?_map, List.getElem?_take, if_pos hi] at hu
     cases hzi : zs[i]? with
     | none => rw [hzi] at hu; cases hu
     | some z =>
      rw [hzi] at hu
      simp only [Option.map_some, Option.some.injEq] at hu
      rw [← hu]
      simp [List.getD_eq_getElem?_getD, hzi]
   ·rcases Nat.lt_or_ge j (zs.take len).length with hj | hj
    ·have hmem : atI (zs.take len) j ∈ zs := by
      have : atI (zs.take len) j = (zs.take len)[j] := by simp only [atI, List.getD_eq_getElem?_getD, List.getElem?_eq_getElem hj, Option.getD_some]
      rw [this]
      exact List.mem_of_mem_take (List.getElem_mem hj)
     exact wf8 (hwf _ hmem)
    ·rw [atI_out hj]; exact ⟨by decide, by decide⟩
end
end Go.Proofs.Ythfgjapmgjhccaa
