/- Texts joined: SuK. -/
import Derived.Test.YthfgjapmgjhccaaSc
import Derived.Test.YthfgjapmgjhccaaSf
set_option linter.all false
/- Surfaces: the law, first part. -/
namespace Go.Proofs.Ythfgjapmgjhccaa
open Go.RowKit
set_option maxRecDepth 1000000
def cutA : Nat → Code → Code
 | 0, _ => .skip
 | n + 1, .seq a b => .seq a (cutA n b)
 | _ + 1, c => c
def cutB : Nat → Code → Code
 | 0, c => c
 | n + 1, .seq _ b => cutB n b
 | _ + 1, _ => .skip
theorem WK_cut {X : WX} {Q : Exit → St → Prop} (I : St → Prop) : ∀ (n : Nat) {c : Code} {K : List Fr} {st : St}, WK X (cutA n c) (.lp I :: K) Q st → (∀ sl ro gn, I ⟨sl, ro, gn⟩ → WK X (cutB n c) K Q ⟨sl, ro, gn⟩) → WK X c K Q st
 | 0, c, K, st, h, ht => ht st.sl st.ro st.gn h
 | n + 1, c, K, st, h, ht => by
  cases c with
  | seq a b =>
   have h' : WK X a (.sq (cutA n b) :: .lp I :: K) Q st := by
    have := h
    rw [show cutA (n + 1) (Code.seq a b) = Code.seq a (cutA n b) from rfl, zan] at this
    exact this
   rw [zan]
   refine wk_mono a ?_ h'
   intro e st' he
   cases e with
   | normal => exact WK_cut I n (c := b) he ht
   | _ => exact he
  | _ =>
   refine wk_mono _ ?_ h
   intro e st' he
   cases e with
   | normal => exact ht st'.sl st'.ro st'.gn he
   | _ => exact he
theorem kSlice_lo1 {ro : Ro} {s g : Nat} {p : List Nat} {off n : Nat} {a1 : Nat} {a2 : Bool} {a3 : List Value} {e : Nat} {a5 : List (Nat × Nat)} {a6 : Option IntKind} {a7 a8 : Bool} {a9 a10 : Option (Nat × Nat)} : kSlice (some ⟨a1, a2, a3, some e, a5, a6, a7, a8, a9, a10⟩) ro (.ref s g p off n) (some (.sc (.int .i64 1))) none = if 1 ≤ n ∧ (ro.cells s g p).isSome = true then some ⟨.ref s g p (off + 1) (n - 1), none, [], []⟩ else none :=
 kSlice_lo (l := 1)
section
variable {T : List (List (List Int))} {L : List Int}
theorem sdV_zero {b : Int} (h : (sdV T b L).2 = 0) : ∃ (g : Nat) (Z : List Int), b = (g : Int) ∧ RingP T ∧ CmP T ∧ g ≤ 20 ∧ labP T.length L ∧ L.length ≤ 8 ∧ surfO T g L = some Z ∧ (sdV T b L).1 = sf T g L := by
 by_cases h1 : RingP T
 ·by_cases h2 : CmP T
  ·by_cases h3 : (0 ≤ b ∧ b ≤ 20) ∧ labP T.length L ∧ L.length ≤ 8
   ·obtain ⟨g, rfl⟩ := Int.eq_ofNat_of_zero_le h3.1.1
    cases e : surfO T g L with
    | none => rw [sdV_3 h1 h2 h3 e] at h; exact absurd h (by decide)
    | some Z =>
     refine ⟨g, Z, rfl, h1, h2, by omega, h3.2.1, h3.2.2, e, ?_⟩
     rw [sdV_0 h1 h2 h3 e]
     exact surf_sf h1.1.1 h3.2.1 e
   ·rw [sdV_2 h1 h2 h3] at h; exact absurd h (by decide)
  ·rw [sdV_5 h1 h2] at h; exact absurd h (by decide)
 ·rw [sdV_1 h1] at h; exact absurd h (by decide)
theorem sdV_or (h1 : RingP T) (h2 : CmP T) {g : Nat} (hg : g ≤ 20) (hL : labP T.length L) (l8 : L.length ≤ 8) : sdV T (g : Int) L = (sf T g L, 0) ∨ sdV T (g : Int) L = (0, 3) := by
 have h3 : (0 ≤ (g : Int) ∧ (g : Int) ≤ 20) ∧ labP T.length L ∧ L.length ≤ 8 := ⟨by omega, hL, l8⟩
 cases e : surfO T g L with
 | none => exact .inr (sdV_3 h1 h2 h3 e)
 | some Z => exact .inl (by rw [sdV_0 h1 h2 h3 e, surf_sf h1.1.1 hL e])
theorem sdV_b (b : Int) : 0 ≤ (sdV T b L).1 ∧ (sdV T b L).1 ≤ 1000000000000 := by
 by_cases h1 : RingP T
 ·by_cases h2 : CmP T
  ·by_cases h3 : (0 ≤ b ∧ b ≤ 20) ∧ labP T.length L ∧ L.length ≤ 8
   ·obtain ⟨g, rfl⟩ := Int.eq_ofNat_of_zero_le h3.1.1
    cases e : surfO T g L with
    | none => rw [sdV_3 h1 h2 h3 e]; exact ⟨Int.le_refl _, by decide⟩
    | some Z => rw [sdV_0 h1 h2 h3 e]; exact surf_nn h1 e
   ·rw [sdV_2 h1 h2 h3]; exact ⟨Int.le_refl _, by decide⟩
  ·rw [sdV_5 h1 h2]; exact ⟨Int.le_refl _, by decide⟩
 ·rw [sdV_1 h1]; exact ⟨Int.le_refl _, by decide⟩
def trnL (L : List Int) : List Int := L.drop 1 ++ [atI L 0]
theorem trn_perm (h : 0 < L.length) : L.Perm (trnL L) := by
 cases L with
 | nil => exact absurd h (Nat.lt_irrefl _)
 | cons l ls => exact (List.perm_append_comm (l₁ := [l]) (l₂ := ls))
theorem trn_len (h : 0 < L.length) : (trnL L).length = L.length := (trn_perm h).length_eq.symm
theorem labP_mem {n : Nat} : labP n L ↔ ∀ x, x ∈ L → 0 ≤ x ∧ x ≤ (n : Int) - 1 := by
 constructor
 ·intro h x hx
  obtain ⟨i, hi, rfl⟩ := List.getElem_of_mem hx
  have := h i hi
  unfold atI at this
  rw [List.getD_eq_getElem?_getD, List.getElem?_eq_getElem hi] at this
  exact this
 ·intro h i hi
  unfold atI
  rw [List.getD_eq_getElem?_getD, List.getElem?_eq_getElem hi]
  exact h _ (List.getElem_mem hi)
theorem mor_lab {i : Nat} (hR : RingP T) (h : labP T.length L) (hi : i < T.length) : labP T.length (L ++ [(i : Int), dlT T i]) := labP_mem.2 fun x hx => by
 obtain ⟨d, ed, hd⟩ := dl_lt hR hi
 rcases List.mem_append.1 hx with hx | hx
 ·exact labP_mem.1 h x hx
 ·rw [ed] at hx
  simp only [List.mem_cons, List.not_mem_nil, or_false] at hx
  rcases hx with rfl | rfl <;> omega
theorem sm_bd {f : Nat → Int} (h : ∀ i, 0 ≤ f i ∧ f i ≤ 1000000000000) : ∀ n : Nat, 0 ≤ sm f n ∧ sm f n ≤ 1000000000000 * n
 | 0 => ⟨Int.le_refl _, Int.le_refl _⟩
 | n + 1 => by
  have := sm_bd h n
  have := h n
  simp only [sm]
  omega
theorem trn_lab {n : Nat} (h0 : 0 < L.length) (h : labP n L) : labP n (trnL L) := labP_mem.2 fun x hx => labP_mem.1 h x ((trn_perm h0).mem_iff.2 hx)
end
section
variable {a : AV} {bs : List Int} {sl : Nat → AV} {ro : Ro} {gn : Nat → Nat}
set_option maxHeartbeats 16000000 in
theorem seg1 (hc : Cod a bs) (hb : isB a bs) (hl : bs.length ≤ 4096) (s0 : sl 0 = a) : WK XX (cutA 7 (bodyOf Try.f3)) [.lp (fun st => st.sl 0 = a)] (RET ti0 [.tmp 2] (bo true)) ⟨sl, ro, gn⟩ := by
 have hpa : pureA a = true := isB_pure hb
 have cB := cBig hb
 rw [decide_eq_false (by omega)] at cB
 dsimp only [Try.f3, bodyOf, Option.getD, cutA]
 refine Yad ?_
 refine CLL_pure _ cB (by simp only [pureL, hpa, Bool.and_self]) rfl rfl ?_
 refine Yad ?_
 refine CLL_inS rfl (sDrawSD hc hl) ?_
 rintro _ ro1 gn1 ⟨fr1, T, c, b, u3, L, rfl, hT, rL, lu, l9⟩
 obtain ⟨s, u, o, m, cv, rfl, ⟨n1, n2, nm⟩, lu2, hbk, hcv, hz, hx⟩ := hT
 have eM := nm.2.2
 have nS : ∀ S, S ∈ [16480, 45056, 45168, 65552, 94208, 94336] → ¬ s = S := fun S hS e => by
  have := all_WRs (p := fun s => !([16480, 45056, 45168, 65552, 94208, 94336].contains s)) nm.2.1 (by decide)
  rw [e, List.contains_iff_mem.2 hS] at this
  cases this
 have n65 := nS 65552 (by decide)
 have n45 := nS 45056 (by decide)
 have n451 := nS 45168 (by decide)
 have hne : ¬ (s = 16480 ∧ u = gn1 16480 + 1) := by rintro ⟨rfl, rfl⟩; omega
 have hq : ∀ (ro2 : Ro), (∀ x y, y ≤ gn1 x → x ≠ 8288 → x ≠ 4096 → ro2 x y = ro1 x y) → exqL 8 ro2 [.agg [.ref s u [] o m], i64 b, .ref 8192 u3 [] 0 L.length] [.agg [cv], i64 b, .imm (L.map i64)] := fun ro2 h => .cons (exq_agg (n := 7) (.cons (hx ro2 h) .nil)) (.cons (exq_sc _ _ _ (by decide)) (.cons (exq_refL ((h 8192 u3 lu (by decide) (by decide)).trans rL) rfl (by decide)) .nil))
 have lL : L.length ≤ maxN := by unfold maxN; omega
 simp (maxSteps := 10000000) (disch := first | assumption | omega) only [go_sem, ↓reduceIte, Nat.reduceEqDiff, reduceCtorEq, Nat.reduceAdd, Nat.reduceMul, Nat.reduceLeDiff, zc, Int.reduceToNat, s0, hne, hbk, ti33]
 refine CLL_q _ (cSdI (g := b) hcv hz (isL_imm L) lL) (hq _ (by intro x y hy h1 h2; simp only [zdb]; repeat' (first | rfl | rw [if_neg (by rintro ⟨rfl, rfl⟩; omega)]))) rfl rfl rfl ?_
 simp (maxSteps := 10000000) (disch := first | assumption | omega) only [go_sem, ↓reduceIte, Nat.reduceEqDiff, reduceCtorEq, Nat.reduceAdd, Nat.reduceMul, Nat.reduceLeDiff, zc, Int.reduceToNat, impE_tS, ti2, hne, hbk, ti33]
 refine CLL_q _ (cSdS (g := b) hcv (isL_imm L) lL) (hq _ (by intro x y hy h1 h2; simp only [zdb]; repeat' (first | rfl | rw [if_neg (by rintro ⟨rfl, rfl⟩; omega)]))) rfl rfl rfl ?_
 have bL : (blkO (ro1 8192 u3)).isSome = true := by rw [rL]; rfl
 by_cases hz0 : (sdV T b L).2 = 0
 ·obtain ⟨g, Z, rfl, hR, hC, hg20, hLb, l8, eZ, eN⟩ := sdV_zero hz0
  by_cases l0 : (0 : Int) < L.length
  ·have l0t := l0
   have l1 : 1 ≤ L.length := by omega
   have l0' : 0 < L.length := by omega
   have lk : L.length ≤ 4294967296 := by omega
   have hL0 : (L.map i64)[0]? = some (i64 (atI L 0)) := by
    rw [List.getElem?_map, List.getElem?_eq_getElem l0']
    unfold atI
    rw [List.getD_eq_getElem?_getD, List.getElem?_eq_getElem l0']
    rfl
   have hk0 : ∀ (t : Option TI) (ro : Ro), kIdx t ro (.ref 8192 u3 [] 0 L.length) (.sc (.int .i64 0)) = kIdx t ro (.ref 8192 u3 [] 0 L.length) (i64 ((0 : Nat) : Int)) := fun _ _ => rfl
   obtain ⟨D, eD⟩ : ∃ D, D = L.drop 1 := ⟨_, rfl⟩
   have hDl : L.length - 1 = D.length := by rw [eD, List.length_drop]
   have hD : (L.map i64).drop 1 = D.map i64 := by rw [eD, List.map_drop]
   have hDt : (D.map i64).take (L.length - 1) = D.map i64 := List.take_of_length_le (by rw [List.length_map]; omega)
   have hDt2 : (D.map i64).take D.length = D.map i64 := List.take_of_length_le (by rw [List.length_map]; omega)
   have hal : ∀ xs : List Int, (xs.map i64).all zez = true := fun xs => List.all_eq_true.2 fun x hx => by obtain ⟨y, -, rfl⟩ := List.mem_map.1 hx; rfl
   have hDk : D.length ≤ 4294967296 := by omega
   have hDk2 : D.length + 1 ≤ 4294967296 := by omega
   have hDm : (D.map i64).length = D.length := List.length_map _
   simp (maxSteps := 10000000) (disch := first | assumption | omega) only [go_sem, ↓reduceIte, Nat.reduceEqDiff, reduceCtorEq, Nat.reduceAdd, Nat.reduceMul, Nat.reduceLeDiff, zc, Int.reduceToNat, impE_tS, ti2, hne, hbk, ti33, eq_true hz0, eq_true l0, bL, kSlice_lo1, Option.map_some, Option.map_none, l1, rL, rowL, hk0, hL0, l0', lk, hD, hDt, hal, hDl, hDk, hDm, hDk2, hDt2]
   refine FIN_of (by kernel_rfl) ?_
   have hTl : (trnL L).length = D.length + 1 := by rw [trn_len l0']; omega
   simp (maxSteps := 10000000) (disch := first | assumption | omega) only [go_sem, ↓reduceIte, Nat.reduceEqDiff, reduceCtorEq, Nat.reduceAdd, Nat.reduceMul, Nat.reduceLeDiff, zc, Int.reduceToNat, s0, impE_tS, ti2, hne, hbk, ti33]
   have cT := cSdI (g := (g : Int)) hcv hz (isL_imm (trnL L)) (show (trnL L).length ≤ maxN by unfold maxN; omega)
   replace l0 : ¬ False := not_false
   have eP : sf T g (trnL L) = sf T g L := (sf_perm hR hC (trn_perm l0')).symm
   unfold sdA at cT
   rcases sdV_or hR hC hg20 (trn_lab l0' hLb) (show (trnL L).length ≤ 8 by omega) with hv | hv
   ·rw [hv, eP, ← eN] at cT
    refine CLL_q _ cT (.cons (exq_agg (n := 7) (.cons (hx _ (by intro x y hy h1 h2; simp only [zdb]; repeat' (first | rfl | rw [if_neg (by rintro ⟨rfl, rfl⟩; omega)]))) .nil)) (.cons (exq_sc _ _ _ (by decide)) (.cons (exq_refL (by simp only [↓za, ↓reduceIte, Nat.reduceEqDiff, zb, reduceCtorEq]; refine congrArg some ?_; show AV.row _ = AV.row _; unfold trnL; rw [← eD, List.map_append]; rfl) hTl.symm (by decide)) .nil))) rfl rfl rfl ?_
    by_cases hg0 : (0 : Int) < (g : Int)
    ·by_cases hl2 : ((L.length : Int) + 2) ≤ 8
     ·refine Ybh ?_
      refine CLL_q _ (cDualsOf hcv hz hR) (.cons (exq_agg (n := 7) (.cons (hx _ (by intro x y hy h1 h2; simp only [zdb]; repeat' (first | rfl | rw [if_neg (by rintro ⟨rfl, rfl⟩; omega)]))) .nil)) .nil) rfl rfl (by rw [← rowL_dl]; exact noI_tV _) ?_
      refine Ybv ?_
      have eg1 : ((g : Int) - 1) = ((g - 1 : Nat) : Int) := by omega
      refine WK_for (fun i st => st.sl 0 = a ∧ st.sl 3 = .ptr 16480 (gn1 16480 + 1) [] 0 ∧ st.sl 4 = i64 (g : Int) ∧ st.sl 5 = .ref 8192 u3 [] 0 L.length ∧ st.sl 6 = i64 (sdV T (g : Int) L).1 ∧ st.sl 13 = .ref 65552 (gn1 65552 + 1) [] 0 m ∧ st.sl 15 = i64 (sm (fun i => (sdV T ((g - 1 : Nat) : Int) (L ++ [(i : Int), dlT T i])).1) i) ∧ st.sl 17 = i64 (i : Int) ∧ (∃ w : Bool, st.sl 16 = bo w ∧ (w = true → ∀ j, j < i → (sdV T ((g - 1 : Nat) : Int) (L ++ [(j : Int), dlT T j])).2 = 0)) ∧ (∀ x y, y ≤ gn1 x → x ≠ 8288 → x ≠ 4096 → st.ro x y = ro1 x y) ∧ (gn1 94208 ≤ st.gn 94208 ∧ gn1 94336 ≤ st.gn 94336) ∧ (st.ro 16480 (gn1 16480 + 1) = some (.bx [.ref s u [] o m])) ∧ (st.ro 65552 (gn1 65552 + 1) = some (.row (rws (fun i => i64 (dlT T i)) m)))) m ?_ ?_ ?_
      ·refine Yen ?_
       refine ⟨s0, rfl, rfl, ⟨true, rfl, fun _ j hj => absurd hj (Nat.not_lt_zero _)⟩, fun x y hy h1 h2 => ?_, Nat.le_refl _, Nat.le_refl _⟩
       repeat' (first | rfl | rw [if_neg (by rintro ⟨rfl, rfl⟩; omega)])
      ·rintro i sl ro gn hi ⟨s0, s3, s4, s5, s6, s13, s15, s17, w, k, g9, rB, rD⟩
       dsimp only at s0 s3 s4 s5 s6 s13 s15 s17
       have hi' : (i : Int) < (m : Nat) := by omega
       dsimp only at w k g9 rB rD
       obtain ⟨w, s16, hw⟩ := w
       have hbk' : (blkO (ro s u)).isSome = true := by rw [k s u lu2 n1 n2]; exact hbk
       have rL' : ro 8192 u3 = some (rowL L) := (k 8192 u3 lu (by decide) (by decide)).trans rL
       have hgd := rws_get (fun i => i64 (dlT T i)) m i hi
       have lk : L.length ≤ 4294967296 := by omega
       have lk2 : L.length + 2 ≤ 4294967296 := by omega
       have hal : ∀ xs : List Int, (xs.map i64).all zez = true := fun xs => List.all_eq_true.2 fun x hx => by obtain ⟨y, -, rfl⟩ := List.mem_map.1 hx; rfl
       have hLt : (L.map i64).take L.length = L.map i64 := List.take_of_length_le (by rw [List.length_map]; exact Nat.le_refl _)
       have lmL : (L.map i64).length = L.length := List.length_map _
       refine Ybc ?_
       refine FIN_of (by kernel_rfl) ?_
       have hiT : i < T.length := by omega
       have hL2 : labP T.length (L ++ [(i : Int), dlT T i]) := mor_lab hR hLb hiT
       have lL2 : (L ++ [(i : Int), dlT T i]).length = L.length + 2 := List.length_append
       have cT2 := cSdI (g := ((g - 1 : Nat) : Int)) hcv hz (isL_imm (L ++ [(i : Int), dlT T i])) (show (L ++ [(i : Int), dlT T i]).length ≤ maxN by unfold maxN; omega)
       have hbd := sm_bd (f := fun i => (sdV T ((g - 1 : Nat) : Int) (L ++ [(i : Int), dlT T i])).1) (fun i => sdV_b _) i
       have hsm : sm (fun i => (sdV T ((g - 1 : Nat) : Int) (L ++ [(i : Int), dlT T i])).1) (i + 1) = sm (fun i => (sdV T ((g - 1 : Nat) : Int) (L ++ [(i : Int), dlT T i])).1) i + (sdV T ((g - 1 : Nat) : Int) (L ++ [(i : Int), dlT T i])).1 := rfl
       have hvb := sdV_b (T := T) (L := L ++ [(i : Int), dlT T i]) ((g - 1 : Nat) : Int)
       have hvo := sdV_or hR hC (g := g - 1) (by omega) hL2 (by omega)
       have hwS : ∀ w' : Bool, (w' = true → w = true ∧ (sdV T ((g - 1 : Nat) : Int) (L ++ [(i : Int), dlT T i])).2 = 0) → (w' = true → ∀ j, j < i + 1 → (sdV T ((g - 1 : Nat) : Int) (L ++ [(j : Int), dlT T j])).2 = 0) := fun w' h1 h2 j hj => by
        obtain ⟨h3, h4⟩ := h1 h2
        rcases Nat.lt_or_eq_of_le (Nat.le_of_lt_succ hj) with h | h
        ·exact hw h3 j h
        ·rw [h]; exact h4
       rw [hsm]
       unfold sdA at cT2
       generalize sm (fun i => (sdV T ((g - 1 : Nat) : Int) (L ++ [(i : Int), dlT T i])).1) i = tt at *
       generalize sdV T ((g - 1 : Nat) : Int) (L ++ [(i : Int), dlT T i]) = vv at *
       refine Yby ?_
       refine CLL_q _ cT2 (.cons (exq_agg (n := 7) (.cons (hx _ (by intro x y hy h1 h2; refine Eq.trans ?_ (k x y hy h1 h2); simp only [zdb]; repeat' (first | rfl | rw [if_neg (by rintro ⟨rfl, rfl⟩; omega)]))) .nil)) (.cons (exq_sc _ _ _ (by decide)) (.cons (exq_refL (by simp only [↓za, ↓reduceIte, Nat.reduceEqDiff, zb, reduceCtorEq]; refine congrArg some ?_; show AV.row _ = AV.row _; rw [List.map_append]; rfl) lL2.symm (by decide)) .nil))) rfl rfl rfl ?_
       have hfin : ∀ ro2 : Ro, (∀ x y, ¬ (x = 94208 ∧ gn 94208 < y) → ¬ (x = 94336 ∧ gn 94336 < y) → ro2 x y = ro x y) → ∀ x y, y ≤ gn1 x → ¬ x = 8288 → ¬ x = 4096 → ro2 x y = ro1 x y := fun ro2 h x y hy h1 h2 => (h x y (by rintro ⟨rfl, e⟩; omega) (by rintro ⟨rfl, e⟩; omega)).trans (k x y hy h1 h2)
       rcases hvo with hvo | hvo
       ·obtain ⟨v1, v2⟩ := vv
        obtain rfl : v2 = 0 := congrArg Prod.snd hvo
        dsimp only at hvb cT2 hwS ⊢
        cases w with
        | true =>
         refine Yah ?_
         refine ⟨i64c (by omega), ⟨true, rfl, hwS true (fun _ => ⟨rfl, rfl⟩)⟩, hfin _ (fun x y p q => by repeat' (first | rfl | rw [if_neg (by rintro ⟨rfl, rfl⟩; omega)])), ⟨by omega, by omega⟩, rB, rD⟩
        | false =>
         refine Yah ?_
         refine ⟨i64c (by omega), ⟨false, rfl, fun h => (nomatch h)⟩, hfin _ (fun x y p q => by repeat' (first | rfl | rw [if_neg (by rintro ⟨rfl, rfl⟩; omega)])), ⟨by omega, by omega⟩, rB, rD⟩
       ·obtain ⟨v1, v2⟩ := vv
        obtain rfl : v2 = 3 := congrArg Prod.snd hvo
        dsimp only at hvb cT2 hwS ⊢
        cases w with
        | true =>
         refine Yah ?_
         refine ⟨i64c (by omega), ⟨false, rfl, fun h => (nomatch h)⟩, hfin _ (fun x y p q => by repeat' (first | rfl | rw [if_neg (by rintro ⟨rfl, rfl⟩; omega)])), ⟨by omega, by omega⟩, rB, rD⟩
        | false =>
         refine Yah ?_
         refine ⟨i64c (by omega), ⟨false, rfl, fun h => (nomatch h)⟩, hfin _ (fun x y p q => by repeat' (first | rfl | rw [if_neg (by rintro ⟨rfl, rfl⟩; omega)])), ⟨by omega, by omega⟩, rB, rD⟩
      ·rintro sl ro gn ⟨s0, s3, s4, s5, s6, s13, s15, s17, w, k, g9, rB, rD⟩
       dsimp only at s0 s3 s4 s5 s6 s13 s15 s17
       have hi' : ¬ ((m : Nat) : Int) < (m : Nat) := by omega
       dsimp only at w k g9 rB rD
       obtain ⟨w, s16, hw⟩ := w
       have hbk' : (blkO (ro s u)).isSome = true := by rw [k s u lu2 n1 n2]; exact hbk
       cases w with
       | true =>
        have hw := hw rfl
        have hgs : sm (fun i => (sdV T ((g - 1 : Nat) : Int) (L ++ [(i : Int), dlT T i])).1) m = (sdV T (g : Int) L).1 := by
         rw [eN, ← eM]
         have := sf_genus hR hC (g - 1) L
         rw [show g - 1 + 1 = g by omega] at this
         rw [this]
         refine sm_congr fun i hi => ?_
         rcases sdV_or hR hC (g := g - 1) (by omega) (mor_lab hR hLb hi) (show (L ++ [(i : Int), dlT T i]).length ≤ 8 by rw [List.length_append]; show L.length + 2 ≤ 8; omega) with hv | hv
         ·rw [hv]
         ·have := hw i (by omega)
          rw [hv] at this
          exact absurd this (by decide)
        rw [hgs] at s15
        exact Ybz
       | false =>
        exact Ybu
     ·exact Ydb
    ·exact Ybl
   ·rw [hv] at cT
    refine CLL_q _ cT (.cons (exq_agg (n := 7) (.cons (hx _ (by intro x y hy h1 h2; simp only [zdb]; repeat' (first | rfl | rw [if_neg (by rintro ⟨rfl, rfl⟩; omega)]))) .nil)) (.cons (exq_sc _ _ _ (by decide)) (.cons (exq_refL (by simp only [↓za, ↓reduceIte, Nat.reduceEqDiff, zb, reduceCtorEq]; refine congrArg some ?_; show AV.row _ = AV.row _; unfold trnL; rw [← eD, List.map_append]; rfl) hTl.symm (by decide)) .nil))) rfl rfl rfl ?_
    by_cases hg0 : (0 : Int) < (g : Int)
    ·by_cases hl2 : ((L.length : Int) + 2) ≤ 8
     ·refine Ybh ?_
      refine CLL_q _ (cDualsOf hcv hz hR) (.cons (exq_agg (n := 7) (.cons (hx _ (by intro x y hy h1 h2; simp only [zdb]; repeat' (first | rfl | rw [if_neg (by rintro ⟨rfl, rfl⟩; omega)]))) .nil)) .nil) rfl rfl (by rw [← rowL_dl]; exact noI_tV _) ?_
      refine Ybv ?_
      have eg1 : ((g : Int) - 1) = ((g - 1 : Nat) : Int) := by omega
      refine WK_for (fun i st => st.sl 0 = a ∧ st.sl 3 = .ptr 16480 (gn1 16480 + 1) [] 0 ∧ st.sl 4 = i64 (g : Int) ∧ st.sl 5 = .ref 8192 u3 [] 0 L.length ∧ st.sl 6 = i64 (sdV T (g : Int) L).1 ∧ st.sl 13 = .ref 65552 (gn1 65552 + 1) [] 0 m ∧ st.sl 15 = i64 (sm (fun i => (sdV T ((g - 1 : Nat) : Int) (L ++ [(i : Int), dlT T i])).1) i) ∧ st.sl 17 = i64 (i : Int) ∧ (∃ w : Bool, st.sl 16 = bo w ∧ (w = true → ∀ j, j < i → (sdV T ((g - 1 : Nat) : Int) (L ++ [(j : Int), dlT T j])).2 = 0)) ∧ (∀ x y, y ≤ gn1 x → x ≠ 8288 → x ≠ 4096 → st.ro x y = ro1 x y) ∧ (gn1 94208 ≤ st.gn 94208 ∧ gn1 94336 ≤ st.gn 94336) ∧ (st.ro 16480 (gn1 16480 + 1) = some (.bx [.ref s u [] o m])) ∧ (st.ro 65552 (gn1 65552 + 1) = some (.row (rws (fun i => i64 (dlT T i)) m)))) m ?_ ?_ ?_
      ·refine Yen ?_
       refine ⟨s0, rfl, rfl, ⟨true, rfl, fun _ j hj => absurd hj (Nat.not_lt_zero _)⟩, fun x y hy h1 h2 => ?_, Nat.le_refl _, Nat.le_refl _⟩
       repeat' (first | rfl | rw [if_neg (by rintro ⟨rfl, rfl⟩; omega)])
      ·rintro i sl ro gn hi ⟨s0, s3, s4, s5, s6, s13, s15, s17, w, k, g9, rB, rD⟩
       dsimp only at s0 s3 s4 s5 s6 s13 s15 s17
       have hi' : (i : Int) < (m : Nat) := by omega
       dsimp only at w k g9 rB rD
       obtain ⟨w, s16, hw⟩ := w
       have hbk' : (blkO (ro s u)).isSome = true := by rw [k s u lu2 n1 n2]; exact hbk
       have rL' : ro 8192 u3 = some (rowL L) := (k 8192 u3 lu (by decide) (by decide)).trans rL
       have hgd := rws_get (fun i => i64 (dlT T i)) m i hi
       have lk : L.length ≤ 4294967296 := by omega
       have lk2 : L.length + 2 ≤ 4294967296 := by omega
       have hal : ∀ xs : List Int, (xs.map i64).all zez = true := fun xs => List.all_eq_true.2 fun x hx => by obtain ⟨y, -, rfl⟩ := List.mem_map.1 hx; rfl
       have hLt : (L.map i64).take L.length = L.map i64 := List.take_of_length_le (by rw [List.length_map]; exact Nat.le_refl _)
       have lmL : (L.map i64).length = L.length := List.length_map _
       refine Ybc ?_
       refine FIN_of (by kernel_rfl) ?_
       have hiT : i < T.length := by omega
       have hL2 : labP T.length (L ++ [(i : Int), dlT T i]) := mor_lab hR hLb hiT
       have lL2 : (L ++ [(i : Int), dlT T i]).length = L.length + 2 := List.length_append
       have cT2 := cSdI (g := ((g - 1 : Nat) : Int)) hcv hz (isL_imm (L ++ [(i : Int), dlT T i])) (show (L ++ [(i : Int), dlT T i]).length ≤ maxN by unfold maxN; omega)
       have hbd := sm_bd (f := fun i => (sdV T ((g - 1 : Nat) : Int) (L ++ [(i : Int), dlT T i])).1) (fun i => sdV_b _) i
       have hsm : sm (fun i => (sdV T ((g - 1 : Nat) : Int) (L ++ [(i : Int), dlT T i])).1) (i + 1) = sm (fun i => (sdV T ((g - 1 : Nat) : Int) (L ++ [(i : Int), dlT T i])).1) i + (sdV T ((g - 1 : Nat) : Int) (L ++ [(i : Int), dlT T i])).1 := rfl
       have hvb := sdV_b (T := T) (L := L ++ [(i : Int), dlT T i]) ((g - 1 : Nat) : Int)
       have hvo := sdV_or hR hC (g := g - 1) (by omega) hL2 (by omega)
       have hwS : ∀ w' : Bool, (w' = true → w = true ∧ (sdV T ((g - 1 : Nat) : Int) (L ++ [(i : Int), dlT T i])).2 = 0) → (w' = true → ∀ j, j < i + 1 → (sdV T ((g - 1 : Nat) : Int) (L ++ [(j : Int), dlT T j])).2 = 0) := fun w' h1 h2 j hj => by
        obtain ⟨h3, h4⟩ := h1 h2
        rcases Nat.lt_or_eq_of_le (Nat.le_of_lt_succ hj) with h | h
        ·exact hw h3 j h
        ·rw [h]; exact h4
       rw [hsm]
       unfold sdA at cT2
       generalize sm (fun i => (sdV T ((g - 1 : Nat) : Int) (L ++ [(i : Int), dlT T i])).1) i = tt at *
       generalize sdV T ((g - 1 : Nat) : Int) (L ++ [(i : Int), dlT T i]) = vv at *
       refine Yby ?_
       refine CLL_q _ cT2 (.cons (exq_agg (n := 7) (.cons (hx _ (by intro x y hy h1 h2; refine Eq.trans ?_ (k x y hy h1 h2); simp only [zdb]; repeat' (first | rfl | rw [if_neg (by rintro ⟨rfl, rfl⟩; omega)]))) .nil)) (.cons (exq_sc _ _ _ (by decide)) (.cons (exq_refL (by simp only [↓za, ↓reduceIte, Nat.reduceEqDiff, zb, reduceCtorEq]; refine congrArg some ?_; show AV.row _ = AV.row _; rw [List.map_append]; rfl) lL2.symm (by decide)) .nil))) rfl rfl rfl ?_
       have hfin : ∀ ro2 : Ro, (∀ x y, ¬ (x = 94208 ∧ gn 94208 < y) → ¬ (x = 94336 ∧ gn 94336 < y) → ro2 x y = ro x y) → ∀ x y, y ≤ gn1 x → ¬ x = 8288 → ¬ x = 4096 → ro2 x y = ro1 x y := fun ro2 h x y hy h1 h2 => (h x y (by rintro ⟨rfl, e⟩; omega) (by rintro ⟨rfl, e⟩; omega)).trans (k x y hy h1 h2)
       rcases hvo with hvo | hvo
       ·obtain ⟨v1, v2⟩ := vv
        obtain rfl : v2 = 0 := congrArg Prod.snd hvo
        dsimp only at hvb cT2 hwS ⊢
        cases w with
        | true =>
         refine Yah ?_
         refine ⟨i64c (by omega), ⟨true, rfl, hwS true (fun _ => ⟨rfl, rfl⟩)⟩, hfin _ (fun x y p q => by repeat' (first | rfl | rw [if_neg (by rintro ⟨rfl, rfl⟩; omega)])), ⟨by omega, by omega⟩, rB, rD⟩
        | false =>
         refine Yah ?_
         refine ⟨i64c (by omega), ⟨false, rfl, fun h => (nomatch h)⟩, hfin _ (fun x y p q => by repeat' (first | rfl | rw [if_neg (by rintro ⟨rfl, rfl⟩; omega)])), ⟨by omega, by omega⟩, rB, rD⟩
       ·obtain ⟨v1, v2⟩ := vv
        obtain rfl : v2 = 3 := congrArg Prod.snd hvo
        dsimp only at hvb cT2 hwS ⊢
        cases w with
        | true =>
         refine Yah ?_
         refine ⟨i64c (by omega), ⟨false, rfl, fun h => (nomatch h)⟩, hfin _ (fun x y p q => by repeat' (first | rfl | rw [if_neg (by rintro ⟨rfl, rfl⟩; omega)])), ⟨by omega, by omega⟩, rB, rD⟩
        | false =>
         refine Yah ?_
         refine ⟨i64c (by omega), ⟨false, rfl, fun h => (nomatch h)⟩, hfin _ (fun x y p q => by repeat' (first | rfl | rw [if_neg (by rintro ⟨rfl, rfl⟩; omega)])), ⟨by omega, by omega⟩, rB, rD⟩
      ·rintro sl ro gn ⟨s0, s3, s4, s5, s6, s13, s15, s17, w, k, g9, rB, rD⟩
       dsimp only at s0 s3 s4 s5 s6 s13 s15 s17
       have hi' : ¬ ((m : Nat) : Int) < (m : Nat) := by omega
       dsimp only at w k g9 rB rD
       obtain ⟨w, s16, hw⟩ := w
       have hbk' : (blkO (ro s u)).isSome = true := by rw [k s u lu2 n1 n2]; exact hbk
       cases w with
       | true =>
        have hw := hw rfl
        have hgs : sm (fun i => (sdV T ((g - 1 : Nat) : Int) (L ++ [(i : Int), dlT T i])).1) m = (sdV T (g : Int) L).1 := by
         rw [eN, ← eM]
         have := sf_genus hR hC (g - 1) L
         rw [show g - 1 + 1 = g by omega] at this
         rw [this]
         refine sm_congr fun i hi => ?_
         rcases sdV_or hR hC (g := g - 1) (by omega) (mor_lab hR hLb hi) (show (L ++ [(i : Int), dlT T i]).length ≤ 8 by rw [List.length_append]; show L.length + 2 ≤ 8; omega) with hv | hv
         ·rw [hv]
         ·have := hw i (by omega)
          rw [hv] at this
          exact absurd this (by decide)
        rw [hgs] at s15
        exact Ybz
       | false =>
        exact Ybu
     ·exact Ydb
    ·exact Ybl
  ·by_cases hg0 : (0 : Int) < (g : Int)
   ·have hl2 : ((L.length : Int) + 2) ≤ 8 := by omega
    refine Ybh ?_
    refine CLL_q _ (cDualsOf hcv hz hR) (.cons (exq_agg (n := 7) (.cons (hx _ (by intro x y hy h1 h2; simp only [zdb]; repeat' (first | rfl | rw [if_neg (by rintro ⟨rfl, rfl⟩; omega)]))) .nil)) .nil) rfl rfl (by rw [← rowL_dl]; exact noI_tV _) ?_
    refine Ybv ?_
    have eg1 : ((g : Int) - 1) = ((g - 1 : Nat) : Int) := by omega
    refine WK_for (fun i st => st.sl 0 = a ∧ st.sl 3 = .ptr 16480 (gn1 16480 + 1) [] 0 ∧ st.sl 4 = i64 (g : Int) ∧ st.sl 5 = .ref 8192 u3 [] 0 L.length ∧ st.sl 6 = i64 (sdV T (g : Int) L).1 ∧ st.sl 13 = .ref 65552 (gn1 65552 + 1) [] 0 m ∧ st.sl 15 = i64 (sm (fun i => (sdV T ((g - 1 : Nat) : Int) (L ++ [(i : Int), dlT T i])).1) i) ∧ st.sl 17 = i64 (i : Int) ∧ (∃ w : Bool, st.sl 16 = bo w ∧ (w = true → ∀ j, j < i → (sdV T ((g - 1 : Nat) : Int) (L ++ [(j : Int), dlT T j])).2 = 0)) ∧ (∀ x y, y ≤ gn1 x → x ≠ 8288 → x ≠ 4096 → st.ro x y = ro1 x y) ∧ (gn1 94208 ≤ st.gn 94208 ∧ gn1 94336 ≤ st.gn 94336) ∧ (st.ro 16480 (gn1 16480 + 1) = some (.bx [.ref s u [] o m])) ∧ (st.ro 65552 (gn1 65552 + 1) = some (.row (rws (fun i => i64 (dlT T i)) m)))) m ?_ ?_ ?_
    ·refine Yen ?_
     refine ⟨s0, rfl, rfl, ⟨true, rfl, fun _ j hj => absurd hj (Nat.not_lt_zero _)⟩, fun x y hy h1 h2 => ?_, Nat.le_refl _, Nat.le_refl _⟩
     repeat' (first | rfl | rw [if_neg (by rintro ⟨rfl, rfl⟩; omega)])
    ·rintro i sl ro gn hi ⟨s0, s3, s4, s5, s6, s13, s15, s17, w, k, g9, rB, rD⟩
     dsimp only at s0 s3 s4 s5 s6 s13 s15 s17
     have hi' : (i : Int) < (m : Nat) := by omega
     dsimp only at w k g9 rB rD
     obtain ⟨w, s16, hw⟩ := w
     have hbk' : (blkO (ro s u)).isSome = true := by rw [k s u lu2 n1 n2]; exact hbk
     have rL' : ro 8192 u3 = some (rowL L) := (k 8192 u3 lu (by decide) (by decide)).trans rL
     have hgd := rws_get (fun i => i64 (dlT T i)) m i hi
     have lk : L.length ≤ 4294967296 := by omega
     have lk2 : L.length + 2 ≤ 4294967296 := by omega
     have hal : ∀ xs : List Int, (xs.map i64).all zez = true := fun xs => List.all_eq_true.2 fun x hx => by obtain ⟨y, -, rfl⟩ := List.mem_map.1 hx; rfl
     have hLt : (L.map i64).take L.length = L.map i64 := List.take_of_length_le (by rw [List.length_map]; exact Nat.le_refl _)
     have lmL : (L.map i64).length = L.length := List.length_map _
     refine Ybc ?_
     refine FIN_of (by kernel_rfl) ?_
     have hiT : i < T.length := by omega
     have hL2 : labP T.length (L ++ [(i : Int), dlT T i]) := mor_lab hR hLb hiT
     have lL2 : (L ++ [(i : Int), dlT T i]).length = L.length + 2 := List.length_append
     have cT2 := cSdI (g := ((g - 1 : Nat) : Int)) hcv hz (isL_imm (L ++ [(i : Int), dlT T i])) (show (L ++ [(i : Int), dlT T i]).length ≤ maxN by unfold maxN; omega)
     have hbd := sm_bd (f := fun i => (sdV T ((g - 1 : Nat) : Int) (L ++ [(i : Int), dlT T i])).1) (fun i => sdV_b _) i
     have hsm : sm (fun i => (sdV T ((g - 1 : Nat) : Int) (L ++ [(i : Int), dlT T i])).1) (i + 1) = sm (fun i => (sdV T ((g - 1 : Nat) : Int) (L ++ [(i : Int), dlT T i])).1) i + (sdV T ((g - 1 : Nat) : Int) (L ++ [(i : Int), dlT T i])).1 := rfl
     have hvb := sdV_b (T := T) (L := L ++ [(i : Int), dlT T i]) ((g - 1 : Nat) : Int)
     have hvo := sdV_or hR hC (g := g - 1) (by omega) hL2 (by omega)
     have hwS : ∀ w' : Bool, (w' = true → w = true ∧ (sdV T ((g - 1 : Nat) : Int) (L ++ [(i : Int), dlT T i])).2 = 0) → (w' = true → ∀ j, j < i + 1 → (sdV T ((g - 1 : Nat) : Int) (L ++ [(j : Int), dlT T j])).2 = 0) := fun w' h1 h2 j hj => by
      obtain ⟨h3, h4⟩ := h1 h2
      rcases Nat.lt_or_eq_of_le (Nat.le_of_lt_succ hj) with h | h
      ·exact hw h3 j h
      ·rw [h]; exact h4
     rw [hsm]
     unfold sdA at cT2
     generalize sm (fun i => (sdV T ((g - 1 : Nat) : Int) (L ++ [(i : Int), dlT T i])).1) i = tt at *
     generalize sdV T ((g - 1 : Nat) : Int) (L ++ [(i : Int), dlT T i]) = vv at *
     refine Yby ?_
     refine CLL_q _ cT2 (.cons (exq_agg (n := 7) (.cons (hx _ (by intro x y hy h1 h2; refine Eq.trans ?_ (k x y hy h1 h2); simp only [zdb]; repeat' (first | rfl | rw [if_neg (by rintro ⟨rfl, rfl⟩; omega)]))) .nil)) (.cons (exq_sc _ _ _ (by decide)) (.cons (exq_refL (by simp only [↓za, ↓reduceIte, Nat.reduceEqDiff, zb, reduceCtorEq]; refine congrArg some ?_; show AV.row _ = AV.row _; rw [List.map_append]; rfl) lL2.symm (by decide)) .nil))) rfl rfl rfl ?_
     have hfin : ∀ ro2 : Ro, (∀ x y, ¬ (x = 94208 ∧ gn 94208 < y) → ¬ (x = 94336 ∧ gn 94336 < y) → ro2 x y = ro x y) → ∀ x y, y ≤ gn1 x → ¬ x = 8288 → ¬ x = 4096 → ro2 x y = ro1 x y := fun ro2 h x y hy h1 h2 => (h x y (by rintro ⟨rfl, e⟩; omega) (by rintro ⟨rfl, e⟩; omega)).trans (k x y hy h1 h2)
     rcases hvo with hvo | hvo
     ·obtain ⟨v1, v2⟩ := vv
      obtain rfl : v2 = 0 := congrArg Prod.snd hvo
      dsimp only at hvb cT2 hwS ⊢
      cases w with
      | true =>
       refine Yah ?_
       refine ⟨i64c (by omega), ⟨true, rfl, hwS true (fun _ => ⟨rfl, rfl⟩)⟩, hfin _ (fun x y p q => by repeat' (first | rfl | rw [if_neg (by rintro ⟨rfl, rfl⟩; omega)])), ⟨by omega, by omega⟩, rB, rD⟩
      | false =>
       refine Yah ?_
       refine ⟨i64c (by omega), ⟨false, rfl, fun h => (nomatch h)⟩, hfin _ (fun x y p q => by repeat' (first | rfl | rw [if_neg (by rintro ⟨rfl, rfl⟩; omega)])), ⟨by omega, by omega⟩, rB, rD⟩
     ·obtain ⟨v1, v2⟩ := vv
      obtain rfl : v2 = 3 := congrArg Prod.snd hvo
      dsimp only at hvb cT2 hwS ⊢
      cases w with
      | true =>
       refine Yah ?_
       refine ⟨i64c (by omega), ⟨false, rfl, fun h => (nomatch h)⟩, hfin _ (fun x y p q => by repeat' (first | rfl | rw [if_neg (by rintro ⟨rfl, rfl⟩; omega)])), ⟨by omega, by omega⟩, rB, rD⟩
      | false =>
       refine Yah ?_
       refine ⟨i64c (by omega), ⟨false, rfl, fun h => (nomatch h)⟩, hfin _ (fun x y p q => by repeat' (first | rfl | rw [if_neg (by rintro ⟨rfl, rfl⟩; omega)])), ⟨by omega, by omega⟩, rB, rD⟩
    ·rintro sl ro gn ⟨s0, s3, s4, s5, s6, s13, s15, s17, w, k, g9, rB, rD⟩
     dsimp only at s0 s3 s4 s5 s6 s13 s15 s17
     have hi' : ¬ ((m : Nat) : Int) < (m : Nat) := by omega
     dsimp only at w k g9 rB rD
     obtain ⟨w, s16, hw⟩ := w
     have hbk' : (blkO (ro s u)).isSome = true := by rw [k s u lu2 n1 n2]; exact hbk
     cases w with
     | true =>
      have hw := hw rfl
      have hgs : sm (fun i => (sdV T ((g - 1 : Nat) : Int) (L ++ [(i : Int), dlT T i])).1) m = (sdV T (g : Int) L).1 := by
       rw [eN, ← eM]
       have := sf_genus hR hC (g - 1) L
       rw [show g - 1 + 1 = g by omega] at this
       rw [this]
       refine sm_congr fun i hi => ?_
       rcases sdV_or hR hC (g := g - 1) (by omega) (mor_lab hR hLb hi) (show (L ++ [(i : Int), dlT T i]).length ≤ 8 by rw [List.length_append]; show L.length + 2 ≤ 8; omega) with hv | hv
       ·rw [hv]
       ·have := hw i (by omega)
        rw [hv] at this
        exact absurd this (by decide)
      rw [hgs] at s15
      exact Ybz
     | false =>
      exact Ybu
   ·exact Ybl
 ·simp (maxSteps := 10000000) (disch := first | assumption | omega) only [go_sem, ↓reduceIte, Nat.reduceEqDiff, reduceCtorEq, Nat.reduceAdd, Nat.reduceMul, Nat.reduceLeDiff, zc, Int.reduceToNat, impE_tS, ti2, hne, hbk, ti33, eq_false hz0]
  exact s0
end
end Go.Proofs.Ythfgjapmgjhccaa
