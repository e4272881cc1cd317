/- Texts joined: QE QF. -/
import Derived.Test.YtmchdjiigfiabaaGreatOc
set_option linter.all false
/- Cocycles, drawn and mostly left as they are. -/
namespace Go.Proofs.YtmchdjiigfiabaaGreat
open Go.RowKit
set_option maxRecDepth 1000000
def BkL (W : List Nat) (gb : Nat → Nat) (ro : Ro) (gn : Nat → Nat) (a : AV) (xs : List Int) : Prop := ∃ s u, a = .ref s u [] 0 xs.length ∧ s ∈ W ∧ gb s < u ∧ u ≤ gn s ∧ ro s u = some (rowL xs)
def BkC (W : List Nat) (gb : Nat → Nat) (ro : Ro) (gn : Nat → Nat) (a : AV) (F : Nat → Nat → Nat → Int) (n : Nat) : Prop := ∃ s u, a = .ref s u [] 0 n ∧ s ∈ W ∧ gb s < u ∧ u ≤ gn s ∧ ro s u = some (cubeA F n)
def WDa : List Nat := 8224 :: 36896 :: 45072 :: 45104 :: 32784 :: 40992 :: 41008 :: 41040 :: W17
def L17c : List Nat := [24673, 41025, 53377, 61441, 69841]
def RCd (gn : Nat → Nat) (r : AV) (ro' : Ro) (gn' : Nat → Nat) : Prop := ∃ (o c : AV) (O : List Int) (M : Int) (F : Nat → Nat → Nat → Int) (n : Nat), r = .agg [o, i64 M, c] ∧ BkL L17 gn ro' gn' o O ∧ BkC L17c gn ro' gn' c F n ∧ O.length ≤ 6 ∧ n ≤ 8 ∧ 0 ≤ M ∧ M ≤ 2000
section
variable {a : AV} {bs : List Int} {g : Nat} {rb : Ro} {gb : Nat → Nat}
set_option maxHeartbeats 8000000 in
theorem sDrawAny17 (hc : Cod a bs) (hs : Src a bs (rb 8288 g)) : InS Tryz.prog 39 [.ptr 8288 g [] 0] rb gb
  (fun r ro' gn' => Frm WDa g rb gb ro' gn' ∧ Src a bs (ro' 8288 g) ∧ RCd gb r ro' gn') := by
 have hS0 := hs
 refine in_ofS (fn := Tryz.f39) (code := bodyOf Tryz.f39) Tryz.func39 rfl (by kernel_rfl) ?_
 intro sl hs
 have s0 : sl 0 = .ptr 8288 g [] 0 := hs 0
 dsimp only [Tryz.f39, bodyOf, Option.getD]
 refine Yaa ?_
 refine CLL_inS rfl (sDraw17 hc (Ue hS0)) ?_
 rintro _ ro2 gn2 ⟨hF2, hS2, O, M, F, n, so, uo, uv, rfl, hso, h1, h2, h3, h4, hO, hV, CV⟩
 dsimp only at hF2 h1 h3
 simp only [L17, List.mem_cons, List.not_mem_nil, or_false] at hso
 rcases hso with rfl | rfl | rfl | rfl | rfl
 ·have e2 : ro2 4096 (gb 4096 + 1) = some (.bx [nilA, i64 0, nilA]) := (hF2.kp 4096 _ Ur (by rintro ⟨h, _⟩; omega)).trans Ur
  have hF3 : Frm WDa g rb gb ro2 gn2 := Frm.trans KPt (hF2.monoB (W' := WDa) (by decide))
  have u8224 := hF3.up 8224
  have uSP := hF3.up 24673
  have uSO := hF3.up 24672
  have hb1 : gb 24672 < uo := by simpa only [↓za, ↓reduceIte, Nat.reduceEqDiff, zb, reduceCtorEq] using h1
  have hb2 : gb 24673 < uv := by simpa only [↓za, ↓reduceIte, Nat.reduceEqDiff, zb, reduceCtorEq] using h3
  refine Ybf ?_
  refine CLL_inS rfl (sNext hc (Ue hS2) (n := 16) (by omega)) ?_
  intro r3 ro3 gn3 hN
  obtain ⟨x, rfl, -, hx, hgE, k3, hS3, f3⟩ := hN.out
  dsimp only at hgE k3 f3
  subst hgE
  have hF4 := f3 WDa rb gb (by decide) KPt
  have c1 : ro3 8224 (gn2 8224 + 1) = some (.bx [.ref 24672 uo [] 0 O.length, i64 M, .ref 24673 uv [] 0 n]) := (k3 _ _ (by decide)).trans Ur
  have c2 : ro3 4096 (gb 4096 + 1) = some (.bx [nilA, i64 0, nilA]) := (k3 _ _ (by decide)).trans (Ue e2)
  have c3 : ro3 24672 uo = some (rowL O) := (k3 _ _ (by decide)).trans (Ue hO)
  have c4 : ro3 24673 uv = some (cubeA F n) := (k3 _ _ (by decide)).trans (Ue hV)
  have hn1 := CV.pos
  have hn8 := CV.n8
  have hM := CV.m
  have hO4 := CV.l
  by_cases hx0 : x = 0
  ·refine Ybb ?_
   refine CLLD_inS [⟨some [8224], []⟩, ⟨some [8224], []⟩, e0, e0, ⟨some [], [8288]⟩, ⟨some [24673], []⟩, ⟨some [24673], []⟩, e0, e0, ⟨some [], [8288]⟩, ⟨some [24673], []⟩, ⟨some [24673], []⟩, e0, e0, ⟨some [], [8288]⟩, e0, ⟨some [8224], []⟩, ⟨some [8224], []⟩, e0, ⟨some [], [8288]⟩, ⟨some [24673], []⟩, ⟨some [24673], [24673]⟩] (xNext hc hS3 (n := (n : Int)) (by omega) (by kernel_rfl)) rfl ?_ rfl (by kernel_rfl) rfl
   intro r4 ro4 gn4 hN
   obtain ⟨i, rfl, -, hi, hgE, k4, hS4, f4⟩ := hN.out
   dsimp only at hgE k4 f4
   subst hgE
   obtain ⟨i0, i1⟩ := hi (by omega)
   obtain ⟨i, rfl⟩ := Int.eq_ofNat_of_zero_le i0
   have hF5 := f4 WDa rb gb (by decide) hF4
   have d1 := (k4 8224 _ (by decide)).trans c1
   have d2 := (k4 4096 _ (by decide)).trans c2
   have d3 := (k4 24672 _ (by decide)).trans c3
   have d4 := (k4 24673 _ (by decide)).trans c4
   have hin : i < n := by omega
   refine Ybi ?_
   refine CLLG_inS (xNext hc hS4 (n := (n : Int)) (by omega) (by kernel_rfl)) ?_ rfl
   intro r5 ro5 gn5 hN
   obtain ⟨j, rfl, -, hj, hgE, k5, hS5, f5⟩ := hN.out
   dsimp only at hgE k5 f5
   subst hgE
   obtain ⟨j0, j1⟩ := hj (by omega)
   obtain ⟨j, rfl⟩ := Int.eq_ofNat_of_zero_le j0
   have hF6 := f5 WDa rb gb (by decide) hF5
   have g1 := (k5 8224 _ (by decide)).trans d1
   have g2 := (k5 4096 _ (by decide)).trans d2
   have g3 := (k5 24672 _ (by decide)).trans d3
   have g4 := (k5 24673 _ (by decide)).trans d4
   have hjn : j < n := by omega
   refine Ybj ?_
   refine CLLG_inS (xNext hc hS5 (n := (n : Int)) (by omega) (by kernel_rfl)) ?_ rfl
   intro r6 ro6 gn6 hN
   obtain ⟨z, rfl, -, hz, hgE, k6, hS6, f6⟩ := hN.out
   dsimp only at hgE k6 f6
   subst hgE
   obtain ⟨z0, z1⟩ := hz (by omega)
   obtain ⟨z, rfl⟩ := Int.eq_ofNat_of_zero_le z0
   have hF7 := f6 WDa rb gb (by decide) hF6
   have g1 := (k6 8224 _ (by decide)).trans g1
   have g2 := (k6 4096 _ (by decide)).trans g2
   have g3 := (k6 24672 _ (by decide)).trans g3
   have g4 := (k6 24673 _ (by decide)).trans g4
   have hzn : z < n := by omega
   refine Yav ?_
   refine CLLG_inS (xNext hc hS6 (n := M + 1) (by omega) (by kernel_rfl)) ?_ rfl
   intro r7 ro7 gn7 hN
   obtain ⟨v, rfl, -, hv, hgE, k7, hS7, f7⟩ := hN.out
   dsimp only at hgE k7 f7
   subst hgE
   have hF8 := f7 WDa rb gb (by decide) hF7
   have g1 := (k7 8224 _ (by decide)).trans g1
   have g2 := (k7 4096 _ (by decide)).trans g2
   have g3 := (k7 24672 _ (by decide)).trans g3
   have g4 := (k7 24673 _ (by decide)).trans g4
   refine Yaq ?_
   refine FING_of rfl ?_
   refine Ybc ?_
   refine RETS_C Ur (upr_same _ _ _ _) rfl ⟨KPt, by simp only [↓za, ↓reduceIte, Nat.reduceEqDiff, zb, reduceCtorEq]; exact hS7, _, _, O, M, _, n, rfl, ⟨_, _, rfl, by decide, hb1, h2, ?_⟩, ⟨_, _, rfl, by decide, hb2, h4, upr_same _ _ _ _⟩, by omega, hn8, by omega, by omega⟩
   refine Yax ?_
   exact g3
  ·by_cases hx1 : x = 1
   ·subst hx1
    refine Yaj ?_
    refine CLL_inS rfl (sPick (s2 := 32784) hc (Ue hS3) (xs := [0, 1001, 2]) Ur (by decide) (by decide) (by decide)) ?_
    intro r4 ro4 gn4 hN
    obtain ⟨k, hk, rfl, hgE, k4, hS4, f4⟩ := hN.out
    dsimp only at hgE k4 f4
    subst hgE
    have hF5 := f4 WDa rb gb (by decide) KPt
    have d1 := (k4 8224 (gn2 8224 + 1) (by decide)).trans (Ue c1)
    have d2 := (k4 4096 (gb 4096 + 1) (by decide)).trans (Ue c2)
    have d3 := (k4 24672 uo (by decide)).trans (Ue c3)
    have d4 := (k4 24673 uv (by decide)).trans (Ue c4)
    have hk3 : k = 0 ∨ k = 1 ∨ k = 2 := by have : k < 3 := hk; omega
    have hkM : 0 ≤ atI [0, 1001, 2] k ∧ atI [0, 1001, 2] k ≤ 2000 := by rcases hk3 with rfl | rfl | rfl <;> decide
    generalize atI [0, 1001, 2] k = M' at hkM
    refine Ybd ?_
    refine RETS_C Ur (upr_same _ _ _ _) rfl ⟨KPt, by simp only [↓za, ↓reduceIte, Nat.reduceEqDiff, zb, reduceCtorEq]; exact hS4, _, _, O, M', F, n, rfl, ⟨_, _, rfl, by decide, hb1, h2, ?_⟩, ⟨_, _, rfl, by decide, hb2, h4, ?_⟩, by omega, hn8, by omega, by omega⟩
    all_goals simp only [↓za, ↓reduceIte, Nat.reduceEqDiff, zb, reduceCtorEq]
    all_goals assumption
   ·by_cases hx2 : x = 2
    ·subst hx2
     refine Yaj ?_
     refine CLLD_inS [⟨some [8224], []⟩, ⟨some [8224], []⟩, e0, ⟨some [], [41008]⟩, ⟨some [41008], [8288]⟩, ⟨some [], [41040]⟩, ⟨some [24672, 41040], [24672, 24672]⟩, ⟨some [8224], []⟩, ⟨some [8224, 24672], [8224]⟩] (xPick (s2 := 41008) hc (Ue hS3) (xs := [0, 2]) Ur (by decide) (by decide) (by decide) (by kernel_rfl)) rfl ?_ rfl (by kernel_rfl) rfl
     intro r4 ro4 gn4 hN
     obtain ⟨k, hk, rfl, hgE, k4, hS4, f4⟩ := hN.out
     dsimp only at hgE k4 f4
     subst hgE
     have hF5 := f4 WDa rb gb (by decide) KPt
     have d1 := (k4 8224 (gn2 8224 + 1) (by decide)).trans (Ue c1)
     have d2 := (k4 4096 (gb 4096 + 1) (by decide)).trans (Ue c2)
     have d3 := (k4 24672 uo (by decide)).trans (Ue c3)
     have d4 := (k4 24673 uv (by decide)).trans (Ue c4)
     generalize atI [0, 2] k = o'
     refine Ybg ?_
     refine FING_of rfl ?_
     refine Ybh ?_
     refine RETS_C Ur (upr_same _ _ _ _) rfl ⟨KPt, by simp only [↓za, ↓reduceIte, Nat.reduceEqDiff, zb, reduceCtorEq]; exact hS4, _, _, O ++ [o'], M, F, n, by rw [List.length_append]; exact rfl, ⟨_, _, rfl, by decide, Nat.lt_succ_of_le uSO, ?_, ?_⟩, ⟨_, _, rfl, by decide, hb2, h4, ?_⟩, by rw [List.length_append]; simp only [List.length_cons, List.length_nil]; omega, hn8, by omega, by omega⟩
     all_goals simp only [↓za, ↓reduceIte, Nat.reduceEqDiff, zb, reduceCtorEq, Nat.le_refl]
     ·rw [show O.length = (O.map i64).length from (List.length_map _).symm, List.take_length, rowL, List.map_append]
      rfl
     ·exact d4
    ·refine Yat ?_
     refine RETS_C Ur (upr_same _ _ _ _) rfl ⟨KPt, by simp only [↓za, ↓reduceIte, Nat.reduceEqDiff, zb, reduceCtorEq]; exact hS3, _, _, O, M, F, n, rfl, ⟨_, _, rfl, by decide, hb1, h2, ?_⟩, ⟨_, _, rfl, by decide, hb2, h4, ?_⟩, by omega, hn8, by omega, by omega⟩
     all_goals simp only [↓za, ↓reduceIte, Nat.reduceEqDiff, zb, reduceCtorEq]
     all_goals assumption
 ·have e2 : ro2 4096 (gb 4096 + 1) = some (.bx [nilA, i64 0, nilA]) := (hF2.kp 4096 _ Ur (by rintro ⟨h, _⟩; omega)).trans Ur
  have hF3 : Frm WDa g rb gb ro2 gn2 := Frm.trans KPt (hF2.monoB (W' := WDa) (by decide))
  have u8224 := hF3.up 8224
  have uSP := hF3.up 41025
  have uSO := hF3.up 41024
  have hb1 : gb 41024 < uo := by simpa only [↓za, ↓reduceIte, Nat.reduceEqDiff, zb, reduceCtorEq] using h1
  have hb2 : gb 41025 < uv := by simpa only [↓za, ↓reduceIte, Nat.reduceEqDiff, zb, reduceCtorEq] using h3
  refine Ybf ?_
  refine CLL_inS rfl (sNext hc (Ue hS2) (n := 16) (by omega)) ?_
  intro r3 ro3 gn3 hN
  obtain ⟨x, rfl, -, hx, hgE, k3, hS3, f3⟩ := hN.out
  dsimp only at hgE k3 f3
  subst hgE
  have hF4 := f3 WDa rb gb (by decide) KPt
  have c1 : ro3 8224 (gn2 8224 + 1) = some (.bx [.ref 41024 uo [] 0 O.length, i64 M, .ref 41025 uv [] 0 n]) := (k3 _ _ (by decide)).trans Ur
  have c2 : ro3 4096 (gb 4096 + 1) = some (.bx [nilA, i64 0, nilA]) := (k3 _ _ (by decide)).trans (Ue e2)
  have c3 : ro3 41024 uo = some (rowL O) := (k3 _ _ (by decide)).trans (Ue hO)
  have c4 : ro3 41025 uv = some (cubeA F n) := (k3 _ _ (by decide)).trans (Ue hV)
  have hn1 := CV.pos
  have hn8 := CV.n8
  have hM := CV.m
  have hO4 := CV.l
  by_cases hx0 : x = 0
  ·refine Ybb ?_
   refine CLLD_inS [⟨some [8224], []⟩, ⟨some [8224], []⟩, e0, e0, ⟨some [], [8288]⟩, ⟨some [41025], []⟩, ⟨some [41025], []⟩, e0, e0, ⟨some [], [8288]⟩, ⟨some [41025], []⟩, ⟨some [41025], []⟩, e0, e0, ⟨some [], [8288]⟩, e0, ⟨some [8224], []⟩, ⟨some [8224], []⟩, e0, ⟨some [], [8288]⟩, ⟨some [41025], []⟩, ⟨some [41025], [41025]⟩] (xNext hc hS3 (n := (n : Int)) (by omega) (by kernel_rfl)) rfl ?_ rfl (by kernel_rfl) rfl
   intro r4 ro4 gn4 hN
   obtain ⟨i, rfl, -, hi, hgE, k4, hS4, f4⟩ := hN.out
   dsimp only at hgE k4 f4
   subst hgE
   obtain ⟨i0, i1⟩ := hi (by omega)
   obtain ⟨i, rfl⟩ := Int.eq_ofNat_of_zero_le i0
   have hF5 := f4 WDa rb gb (by decide) hF4
   have d1 := (k4 8224 _ (by decide)).trans c1
   have d2 := (k4 4096 _ (by decide)).trans c2
   have d3 := (k4 41024 _ (by decide)).trans c3
   have d4 := (k4 41025 _ (by decide)).trans c4
   have hin : i < n := by omega
   refine Ybi ?_
   refine CLLG_inS (xNext hc hS4 (n := (n : Int)) (by omega) (by kernel_rfl)) ?_ rfl
   intro r5 ro5 gn5 hN
   obtain ⟨j, rfl, -, hj, hgE, k5, hS5, f5⟩ := hN.out
   dsimp only at hgE k5 f5
   subst hgE
   obtain ⟨j0, j1⟩ := hj (by omega)
   obtain ⟨j, rfl⟩ := Int.eq_ofNat_of_zero_le j0
   have hF6 := f5 WDa rb gb (by decide) hF5
   have g1 := (k5 8224 _ (by decide)).trans d1
   have g2 := (k5 4096 _ (by decide)).trans d2
   have g3 := (k5 41024 _ (by decide)).trans d3
   have g4 := (k5 41025 _ (by decide)).trans d4
   have hjn : j < n := by omega
   refine Ybj ?_
   refine CLLG_inS (xNext hc hS5 (n := (n : Int)) (by omega) (by kernel_rfl)) ?_ rfl
   intro r6 ro6 gn6 hN
   obtain ⟨z, rfl, -, hz, hgE, k6, hS6, f6⟩ := hN.out
   dsimp only at hgE k6 f6
   subst hgE
   obtain ⟨z0, z1⟩ := hz (by omega)
   obtain ⟨z, rfl⟩ := Int.eq_ofNat_of_zero_le z0
   have hF7 := f6 WDa rb gb (by decide) hF6
   have g1 := (k6 8224 _ (by decide)).trans g1
   have g2 := (k6 4096 _ (by decide)).trans g2
   have g3 := (k6 41024 _ (by decide)).trans g3
   have g4 := (k6 41025 _ (by decide)).trans g4
   have hzn : z < n := by omega
   refine Yav ?_
   refine CLLG_inS (xNext hc hS6 (n := M + 1) (by omega) (by kernel_rfl)) ?_ rfl
   intro r7 ro7 gn7 hN
   obtain ⟨v, rfl, -, hv, hgE, k7, hS7, f7⟩ := hN.out
   dsimp only at hgE k7 f7
   subst hgE
   have hF8 := f7 WDa rb gb (by decide) hF7
   have g1 := (k7 8224 _ (by decide)).trans g1
   have g2 := (k7 4096 _ (by decide)).trans g2
   have g3 := (k7 41024 _ (by decide)).trans g3
   have g4 := (k7 41025 _ (by decide)).trans g4
   refine Yaq ?_
   refine FING_of rfl ?_
   refine Ybc ?_
   refine RETS_C Ur (upr_same _ _ _ _) rfl ⟨KPt, by simp only [↓za, ↓reduceIte, Nat.reduceEqDiff, zb, reduceCtorEq]; exact hS7, _, _, O, M, _, n, rfl, ⟨_, _, rfl, by decide, hb1, h2, ?_⟩, ⟨_, _, rfl, by decide, hb2, h4, upr_same _ _ _ _⟩, by omega, hn8, by omega, by omega⟩
   refine Yax ?_
   exact g3
  ·by_cases hx1 : x = 1
   ·subst hx1
    refine Yaj ?_
    refine CLL_inS rfl (sPick (s2 := 32784) hc (Ue hS3) (xs := [0, 1001, 2]) Ur (by decide) (by decide) (by decide)) ?_
    intro r4 ro4 gn4 hN
    obtain ⟨k, hk, rfl, hgE, k4, hS4, f4⟩ := hN.out
    dsimp only at hgE k4 f4
    subst hgE
    have hF5 := f4 WDa rb gb (by decide) KPt
    have d1 := (k4 8224 (gn2 8224 + 1) (by decide)).trans (Ue c1)
    have d2 := (k4 4096 (gb 4096 + 1) (by decide)).trans (Ue c2)
    have d3 := (k4 41024 uo (by decide)).trans (Ue c3)
    have d4 := (k4 41025 uv (by decide)).trans (Ue c4)
    have hk3 : k = 0 ∨ k = 1 ∨ k = 2 := by have : k < 3 := hk; omega
    have hkM : 0 ≤ atI [0, 1001, 2] k ∧ atI [0, 1001, 2] k ≤ 2000 := by rcases hk3 with rfl | rfl | rfl <;> decide
    generalize atI [0, 1001, 2] k = M' at hkM
    refine Ybd ?_
    refine RETS_C Ur (upr_same _ _ _ _) rfl ⟨KPt, by simp only [↓za, ↓reduceIte, Nat.reduceEqDiff, zb, reduceCtorEq]; exact hS4, _, _, O, M', F, n, rfl, ⟨_, _, rfl, by decide, hb1, h2, ?_⟩, ⟨_, _, rfl, by decide, hb2, h4, ?_⟩, by omega, hn8, by omega, by omega⟩
    all_goals simp only [↓za, ↓reduceIte, Nat.reduceEqDiff, zb, reduceCtorEq]
    all_goals assumption
   ·by_cases hx2 : x = 2
    ·subst hx2
     refine Yaj ?_
     refine CLLD_inS [⟨some [8224], []⟩, ⟨some [8224], []⟩, e0, ⟨some [], [41008]⟩, ⟨some [41008], [8288]⟩, ⟨some [], [41040]⟩, ⟨some [41024, 41040], [41024, 41024]⟩, ⟨some [8224], []⟩, ⟨some [8224, 41024], [8224]⟩] (xPick (s2 := 41008) hc (Ue hS3) (xs := [0, 2]) Ur (by decide) (by decide) (by decide) (by kernel_rfl)) rfl ?_ rfl (by kernel_rfl) rfl
     intro r4 ro4 gn4 hN
     obtain ⟨k, hk, rfl, hgE, k4, hS4, f4⟩ := hN.out
     dsimp only at hgE k4 f4
     subst hgE
     have hF5 := f4 WDa rb gb (by decide) KPt
     have d1 := (k4 8224 (gn2 8224 + 1) (by decide)).trans (Ue c1)
     have d2 := (k4 4096 (gb 4096 + 1) (by decide)).trans (Ue c2)
     have d3 := (k4 41024 uo (by decide)).trans (Ue c3)
     have d4 := (k4 41025 uv (by decide)).trans (Ue c4)
     generalize atI [0, 2] k = o'
     refine Ybg ?_
     refine FING_of rfl ?_
     refine Ybh ?_
     refine RETS_C Ur (upr_same _ _ _ _) rfl ⟨KPt, by simp only [↓za, ↓reduceIte, Nat.reduceEqDiff, zb, reduceCtorEq]; exact hS4, _, _, O ++ [o'], M, F, n, by rw [List.length_append]; exact rfl, ⟨_, _, rfl, by decide, Nat.lt_succ_of_le uSO, ?_, ?_⟩, ⟨_, _, rfl, by decide, hb2, h4, ?_⟩, by rw [List.length_append]; simp only [List.length_cons, List.length_nil]; omega, hn8, by omega, by omega⟩
     all_goals simp only [↓za, ↓reduceIte, Nat.reduceEqDiff, zb, reduceCtorEq, Nat.le_refl]
     ·rw [show O.length = (O.map i64).length from (List.length_map _).symm, List.take_length, rowL, List.map_append]
      rfl
     ·exact d4
    ·refine Yat ?_
     refine RETS_C Ur (upr_same _ _ _ _) rfl ⟨KPt, by simp only [↓za, ↓reduceIte, Nat.reduceEqDiff, zb, reduceCtorEq]; exact hS3, _, _, O, M, F, n, rfl, ⟨_, _, rfl, by decide, hb1, h2, ?_⟩, ⟨_, _, rfl, by decide, hb2, h4, ?_⟩, by omega, hn8, by omega, by omega⟩
     all_goals simp only [↓za, ↓reduceIte, Nat.reduceEqDiff, zb, reduceCtorEq]
     all_goals assumption
 ·have e2 : ro2 4096 (gb 4096 + 1) = some (.bx [nilA, i64 0, nilA]) := (hF2.kp 4096 _ Ur (by rintro ⟨h, _⟩; omega)).trans Ur
  have hF3 : Frm WDa g rb gb ro2 gn2 := Frm.trans KPt (hF2.monoB (W' := WDa) (by decide))
  have u8224 := hF3.up 8224
  have uSP := hF3.up 53377
  have uSO := hF3.up 53376
  have hb1 : gb 53376 < uo := by simpa only [↓za, ↓reduceIte, Nat.reduceEqDiff, zb, reduceCtorEq] using h1
  have hb2 : gb 53377 < uv := by simpa only [↓za, ↓reduceIte, Nat.reduceEqDiff, zb, reduceCtorEq] using h3
  refine Ybf ?_
  refine CLL_inS rfl (sNext hc (Ue hS2) (n := 16) (by omega)) ?_
  intro r3 ro3 gn3 hN
  obtain ⟨x, rfl, -, hx, hgE, k3, hS3, f3⟩ := hN.out
  dsimp only at hgE k3 f3
  subst hgE
  have hF4 := f3 WDa rb gb (by decide) KPt
  have c1 : ro3 8224 (gn2 8224 + 1) = some (.bx [.ref 53376 uo [] 0 O.length, i64 M, .ref 53377 uv [] 0 n]) := (k3 _ _ (by decide)).trans Ur
  have c2 : ro3 4096 (gb 4096 + 1) = some (.bx [nilA, i64 0, nilA]) := (k3 _ _ (by decide)).trans (Ue e2)
  have c3 : ro3 53376 uo = some (rowL O) := (k3 _ _ (by decide)).trans (Ue hO)
  have c4 : ro3 53377 uv = some (cubeA F n) := (k3 _ _ (by decide)).trans (Ue hV)
  have hn1 := CV.pos
  have hn8 := CV.n8
  have hM := CV.m
  have hO4 := CV.l
  by_cases hx0 : x = 0
  ·refine Ybb ?_
   refine CLLD_inS [⟨some [8224], []⟩, ⟨some [8224], []⟩, e0, e0, ⟨some [], [8288]⟩, ⟨some [53377], []⟩, ⟨some [53377], []⟩, e0, e0, ⟨some [], [8288]⟩, ⟨some [53377], []⟩, ⟨some [53377], []⟩, e0, e0, ⟨some [], [8288]⟩, e0, ⟨some [8224], []⟩, ⟨some [8224], []⟩, e0, ⟨some [], [8288]⟩, ⟨some [53377], []⟩, ⟨some [53377], [53377]⟩] (xNext hc hS3 (n := (n : Int)) (by omega) (by kernel_rfl)) rfl ?_ rfl (by kernel_rfl) rfl
   intro r4 ro4 gn4 hN
   obtain ⟨i, rfl, -, hi, hgE, k4, hS4, f4⟩ := hN.out
   dsimp only at hgE k4 f4
   subst hgE
   obtain ⟨i0, i1⟩ := hi (by omega)
   obtain ⟨i, rfl⟩ := Int.eq_ofNat_of_zero_le i0
   have hF5 := f4 WDa rb gb (by decide) hF4
   have d1 := (k4 8224 _ (by decide)).trans c1
   have d2 := (k4 4096 _ (by decide)).trans c2
   have d3 := (k4 53376 _ (by decide)).trans c3
   have d4 := (k4 53377 _ (by decide)).trans c4
   have hin : i < n := by omega
   refine Ybi ?_
   refine CLLG_inS (xNext hc hS4 (n := (n : Int)) (by omega) (by kernel_rfl)) ?_ rfl
   intro r5 ro5 gn5 hN
   obtain ⟨j, rfl, -, hj, hgE, k5, hS5, f5⟩ := hN.out
   dsimp only at hgE k5 f5
   subst hgE
   obtain ⟨j0, j1⟩ := hj (by omega)
   obtain ⟨j, rfl⟩ := Int.eq_ofNat_of_zero_le j0
   have hF6 := f5 WDa rb gb (by decide) hF5
   have g1 := (k5 8224 _ (by decide)).trans d1
   have g2 := (k5 4096 _ (by decide)).trans d2
   have g3 := (k5 53376 _ (by decide)).trans d3
   have g4 := (k5 53377 _ (by decide)).trans d4
   have hjn : j < n := by omega
   refine Ybj ?_
   refine CLLG_inS (xNext hc hS5 (n := (n : Int)) (by omega) (by kernel_rfl)) ?_ rfl
   intro r6 ro6 gn6 hN
   obtain ⟨z, rfl, -, hz, hgE, k6, hS6, f6⟩ := hN.out
   dsimp only at hgE k6 f6
   subst hgE
   obtain ⟨z0, z1⟩ := hz (by omega)
   obtain ⟨z, rfl⟩ := Int.eq_ofNat_of_zero_le z0
   have hF7 := f6 WDa rb gb (by decide) hF6
   have g1 := (k6 8224 _ (by decide)).trans g1
   have g2 := (k6 4096 _ (by decide)).trans g2
   have g3 := (k6 53376 _ (by decide)).trans g3
   have g4 := (k6 53377 _ (by decide)).trans g4
   have hzn : z < n := by omega
   refine Yav ?_
   refine CLLG_inS (xNext hc hS6 (n := M + 1) (by omega) (by kernel_rfl)) ?_ rfl
   intro r7 ro7 gn7 hN
   obtain ⟨v, rfl, -, hv, hgE, k7, hS7, f7⟩ := hN.out
   dsimp only at hgE k7 f7
   subst hgE
   have hF8 := f7 WDa rb gb (by decide) hF7
   have g1 := (k7 8224 _ (by decide)).trans g1
   have g2 := (k7 4096 _ (by decide)).trans g2
   have g3 := (k7 53376 _ (by decide)).trans g3
   have g4 := (k7 53377 _ (by decide)).trans g4
   refine Yaq ?_
   refine FING_of rfl ?_
   refine Ybc ?_
   refine RETS_C Ur (upr_same _ _ _ _) rfl ⟨KPt, by simp only [↓za, ↓reduceIte, Nat.reduceEqDiff, zb, reduceCtorEq]; exact hS7, _, _, O, M, _, n, rfl, ⟨_, _, rfl, by decide, hb1, h2, ?_⟩, ⟨_, _, rfl, by decide, hb2, h4, upr_same _ _ _ _⟩, by omega, hn8, by omega, by omega⟩
   refine Yax ?_
   exact g3
  ·by_cases hx1 : x = 1
   ·subst hx1
    refine Yaj ?_
    refine CLL_inS rfl (sPick (s2 := 32784) hc (Ue hS3) (xs := [0, 1001, 2]) Ur (by decide) (by decide) (by decide)) ?_
    intro r4 ro4 gn4 hN
    obtain ⟨k, hk, rfl, hgE, k4, hS4, f4⟩ := hN.out
    dsimp only at hgE k4 f4
    subst hgE
    have hF5 := f4 WDa rb gb (by decide) KPt
    have d1 := (k4 8224 (gn2 8224 + 1) (by decide)).trans (Ue c1)
    have d2 := (k4 4096 (gb 4096 + 1) (by decide)).trans (Ue c2)
    have d3 := (k4 53376 uo (by decide)).trans (Ue c3)
    have d4 := (k4 53377 uv (by decide)).trans (Ue c4)
    have hk3 : k = 0 ∨ k = 1 ∨ k = 2 := by have : k < 3 := hk; omega
    have hkM : 0 ≤ atI [0, 1001, 2] k ∧ atI [0, 1001, 2] k ≤ 2000 := by rcases hk3 with rfl | rfl | rfl <;> decide
    generalize atI [0, 1001, 2] k = M' at hkM
    refine Ybd ?_
    refine RETS_C Ur (upr_same _ _ _ _) rfl ⟨KPt, by simp only [↓za, ↓reduceIte, Nat.reduceEqDiff, zb, reduceCtorEq]; exact hS4, _, _, O, M', F, n, rfl, ⟨_, _, rfl, by decide, hb1, h2, ?_⟩, ⟨_, _, rfl, by decide, hb2, h4, ?_⟩, by omega, hn8, by omega, by omega⟩
    all_goals simp only [↓za, ↓reduceIte, Nat.reduceEqDiff, zb, reduceCtorEq]
    all_goals assumption
   ·by_cases hx2 : x = 2
    ·subst hx2
     refine Yaj ?_
     refine CLLD_inS [⟨some [8224], []⟩, ⟨some [8224], []⟩, e0, ⟨some [], [41008]⟩, ⟨some [41008], [8288]⟩, ⟨some [], [41040]⟩, ⟨some [53376, 41040], [53376, 53376]⟩, ⟨some [8224], []⟩, ⟨some [8224, 53376], [8224]⟩] (xPick (s2 := 41008) hc (Ue hS3) (xs := [0, 2]) Ur (by decide) (by decide) (by decide) (by kernel_rfl)) rfl ?_ rfl (by kernel_rfl) rfl
     intro r4 ro4 gn4 hN
     obtain ⟨k, hk, rfl, hgE, k4, hS4, f4⟩ := hN.out
     dsimp only at hgE k4 f4
     subst hgE
     have hF5 := f4 WDa rb gb (by decide) KPt
     have d1 := (k4 8224 (gn2 8224 + 1) (by decide)).trans (Ue c1)
     have d2 := (k4 4096 (gb 4096 + 1) (by decide)).trans (Ue c2)
     have d3 := (k4 53376 uo (by decide)).trans (Ue c3)
     have d4 := (k4 53377 uv (by decide)).trans (Ue c4)
     generalize atI [0, 2] k = o'
     refine Ybg ?_
     refine FING_of rfl ?_
     refine Ybh ?_
     refine RETS_C Ur (upr_same _ _ _ _) rfl ⟨KPt, by simp only [↓za, ↓reduceIte, Nat.reduceEqDiff, zb, reduceCtorEq]; exact hS4, _, _, O ++ [o'], M, F, n, by rw [List.length_append]; exact rfl, ⟨_, _, rfl, by decide, Nat.lt_succ_of_le uSO, ?_, ?_⟩, ⟨_, _, rfl, by decide, hb2, h4, ?_⟩, by rw [List.length_append]; simp only [List.length_cons, List.length_nil]; omega, hn8, by omega, by omega⟩
     all_goals simp only [↓za, ↓reduceIte, Nat.reduceEqDiff, zb, reduceCtorEq, Nat.le_refl]
     ·rw [show O.length = (O.map i64).length from (List.length_map _).symm, List.take_length, rowL, List.map_append]
      rfl
     ·exact d4
    ·refine Yat ?_
     refine RETS_C Ur (upr_same _ _ _ _) rfl ⟨KPt, by simp only [↓za, ↓reduceIte, Nat.reduceEqDiff, zb, reduceCtorEq]; exact hS3, _, _, O, M, F, n, rfl, ⟨_, _, rfl, by decide, hb1, h2, ?_⟩, ⟨_, _, rfl, by decide, hb2, h4, ?_⟩, by omega, hn8, by omega, by omega⟩
     all_goals simp only [↓za, ↓reduceIte, Nat.reduceEqDiff, zb, reduceCtorEq]
     all_goals assumption
 ·have e2 : ro2 4096 (gb 4096 + 1) = some (.bx [nilA, i64 0, nilA]) := (hF2.kp 4096 _ Ur (by rintro ⟨h, _⟩; omega)).trans Ur
  have hF3 : Frm WDa g rb gb ro2 gn2 := Frm.trans KPt (hF2.monoB (W' := WDa) (by decide))
  have u8224 := hF3.up 8224
  have uSP := hF3.up 61441
  have uSO := hF3.up 61440
  have hb1 : gb 61440 < uo := by simpa only [↓za, ↓reduceIte, Nat.reduceEqDiff, zb, reduceCtorEq] using h1
  have hb2 : gb 61441 < uv := by simpa only [↓za, ↓reduceIte, Nat.reduceEqDiff, zb, reduceCtorEq] using h3
  refine Ybf ?_
  refine CLL_inS rfl (sNext hc (Ue hS2) (n := 16) (by omega)) ?_
  intro r3 ro3 gn3 hN
  obtain ⟨x, rfl, -, hx, hgE, k3, hS3, f3⟩ := hN.out
  dsimp only at hgE k3 f3
  subst hgE
  have hF4 := f3 WDa rb gb (by decide) KPt
  have c1 : ro3 8224 (gn2 8224 + 1) = some (.bx [.ref 61440 uo [] 0 O.length, i64 M, .ref 61441 uv [] 0 n]) := (k3 _ _ (by decide)).trans Ur
  have c2 : ro3 4096 (gb 4096 + 1) = some (.bx [nilA, i64 0, nilA]) := (k3 _ _ (by decide)).trans (Ue e2)
  have c3 : ro3 61440 uo = some (rowL O) := (k3 _ _ (by decide)).trans (Ue hO)
  have c4 : ro3 61441 uv = some (cubeA F n) := (k3 _ _ (by decide)).trans (Ue hV)
  have hn1 := CV.pos
  have hn8 := CV.n8
  have hM := CV.m
  have hO4 := CV.l
  by_cases hx0 : x = 0
  ·refine Ybb ?_
   refine CLLD_inS [⟨some [8224], []⟩, ⟨some [8224], []⟩, e0, e0, ⟨some [], [8288]⟩, ⟨some [61441], []⟩, ⟨some [61441], []⟩, e0, e0, ⟨some [], [8288]⟩, ⟨some [61441], []⟩, ⟨some [61441], []⟩, e0, e0, ⟨some [], [8288]⟩, e0, ⟨some [8224], []⟩, ⟨some [8224], []⟩, e0, ⟨some [], [8288]⟩, ⟨some [61441], []⟩, ⟨some [61441], [61441]⟩] (xNext hc hS3 (n := (n : Int)) (by omega) (by kernel_rfl)) rfl ?_ rfl (by kernel_rfl) rfl
   intro r4 ro4 gn4 hN
   obtain ⟨i, rfl, -, hi, hgE, k4, hS4, f4⟩ := hN.out
   dsimp only at hgE k4 f4
   subst hgE
   obtain ⟨i0, i1⟩ := hi (by omega)
   obtain ⟨i, rfl⟩ := Int.eq_ofNat_of_zero_le i0
   have hF5 := f4 WDa rb gb (by decide) hF4
   have d1 := (k4 8224 _ (by decide)).trans c1
   have d2 := (k4 4096 _ (by decide)).trans c2
   have d3 := (k4 61440 _ (by decide)).trans c3
   have d4 := (k4 61441 _ (by decide)).trans c4
   have hin : i < n := by omega
   refine Ybi ?_
   refine CLLG_inS (xNext hc hS4 (n := (n : Int)) (by omega) (by kernel_rfl)) ?_ rfl
   intro r5 ro5 gn5 hN
   obtain ⟨j, rfl, -, hj, hgE, k5, hS5, f5⟩ := hN.out
   dsimp only at hgE k5 f5
   subst hgE
   obtain ⟨j0, j1⟩ := hj (by omega)
   obtain ⟨j, rfl⟩ := Int.eq_ofNat_of_zero_le j0
   have hF6 := f5 WDa rb gb (by decide) hF5
   have g1 := (k5 8224 _ (by decide)).trans d1
   have g2 := (k5 4096 _ (by decide)).trans d2
   have g3 := (k5 61440 _ (by decide)).trans d3
   have g4 := (k5 61441 _ (by decide)).trans d4
   have hjn : j < n := by omega
   refine Ybj ?_
   refine CLLG_inS (xNext hc hS5 (n := (n : Int)) (by omega) (by kernel_rfl)) ?_ rfl
   intro r6 ro6 gn6 hN
   obtain ⟨z, rfl, -, hz, hgE, k6, hS6, f6⟩ := hN.out
   dsimp only at hgE k6 f6
   subst hgE
   obtain ⟨z0, z1⟩ := hz (by omega)
   obtain ⟨z, rfl⟩ := Int.eq_ofNat_of_zero_le z0
   have hF7 := f6 WDa rb gb (by decide) hF6
   have g1 := (k6 8224 _ (by decide)).trans g1
   have g2 := (k6 4096 _ (by decide)).trans g2
   have g3 := (k6 61440 _ (by decide)).trans g3
   have g4 := (k6 61441 _ (by decide)).trans g4
   have hzn : z < n := by omega
   refine Yav ?_
   refine CLLG_inS (xNext hc hS6 (n := M + 1) (by omega) (by kernel_rfl)) ?_ rfl
   intro r7 ro7 gn7 hN
   obtain ⟨v, rfl, -, hv, hgE, k7, hS7, f7⟩ := hN.out
   dsimp only at hgE k7 f7
   subst hgE
   have hF8 := f7 WDa rb gb (by decide) hF7
   have g1 := (k7 8224 _ (by decide)).trans g1
   have g2 := (k7 4096 _ (by decide)).trans g2
   have g3 := (k7 61440 _ (by decide)).trans g3
   have g4 := (k7 61441 _ (by decide)).trans g4
   refine Yaq ?_
   refine FING_of rfl ?_
   refine Ybc ?_
   refine RETS_C Ur (upr_same _ _ _ _) rfl ⟨KPt, by simp only [↓za, ↓reduceIte, Nat.reduceEqDiff, zb, reduceCtorEq]; exact hS7, _, _, O, M, _, n, rfl, ⟨_, _, rfl, by decide, hb1, h2, ?_⟩, ⟨_, _, rfl, by decide, hb2, h4, upr_same _ _ _ _⟩, by omega, hn8, by omega, by omega⟩
   refine Yax ?_
   exact g3
  ·by_cases hx1 : x = 1
   ·subst hx1
    refine Yaj ?_
    refine CLL_inS rfl (sPick (s2 := 32784) hc (Ue hS3) (xs := [0, 1001, 2]) Ur (by decide) (by decide) (by decide)) ?_
    intro r4 ro4 gn4 hN
    obtain ⟨k, hk, rfl, hgE, k4, hS4, f4⟩ := hN.out
    dsimp only at hgE k4 f4
    subst hgE
    have hF5 := f4 WDa rb gb (by decide) KPt
    have d1 := (k4 8224 (gn2 8224 + 1) (by decide)).trans (Ue c1)
    have d2 := (k4 4096 (gb 4096 + 1) (by decide)).trans (Ue c2)
    have d3 := (k4 61440 uo (by decide)).trans (Ue c3)
    have d4 := (k4 61441 uv (by decide)).trans (Ue c4)
    have hk3 : k = 0 ∨ k = 1 ∨ k = 2 := by have : k < 3 := hk; omega
    have hkM : 0 ≤ atI [0, 1001, 2] k ∧ atI [0, 1001, 2] k ≤ 2000 := by rcases hk3 with rfl | rfl | rfl <;> decide
    generalize atI [0, 1001, 2] k = M' at hkM
    refine Ybd ?_
    refine RETS_C Ur (upr_same _ _ _ _) rfl ⟨KPt, by simp only [↓za, ↓reduceIte, Nat.reduceEqDiff, zb, reduceCtorEq]; exact hS4, _, _, O, M', F, n, rfl, ⟨_, _, rfl, by decide, hb1, h2, ?_⟩, ⟨_, _, rfl, by decide, hb2, h4, ?_⟩, by omega, hn8, by omega, by omega⟩
    all_goals simp only [↓za, ↓reduceIte, Nat.reduceEqDiff, zb, reduceCtorEq]
    all_goals assumption
   ·by_cases hx2 : x = 2
    ·subst hx2
     refine Yaj ?_
     refine CLLD_inS [⟨some [8224], []⟩, ⟨some [8224], []⟩, e0, ⟨some [], [41008]⟩, ⟨some [41008], [8288]⟩, ⟨some [], [41040]⟩, ⟨some [61440, 41040], [61440, 61440]⟩, ⟨some [8224], []⟩, ⟨some [8224, 61440], [8224]⟩] (xPick (s2 := 41008) hc (Ue hS3) (xs := [0, 2]) Ur (by decide) (by decide) (by decide) (by kernel_rfl)) rfl ?_ rfl (by kernel_rfl) rfl
     intro r4 ro4 gn4 hN
     obtain ⟨k, hk, rfl, hgE, k4, hS4, f4⟩ := hN.out
     dsimp only at hgE k4 f4
     subst hgE
     have hF5 := f4 WDa rb gb (by decide) KPt
     have d1 := (k4 8224 (gn2 8224 + 1) (by decide)).trans (Ue c1)
     have d2 := (k4 4096 (gb 4096 + 1) (by decide)).trans (Ue c2)
     have d3 := (k4 61440 uo (by decide)).trans (Ue c3)
     have d4 := (k4 61441 uv (by decide)).trans (Ue c4)
     generalize atI [0, 2] k = o'
     refine Ybg ?_
     refine FING_of rfl ?_
     refine Ybh ?_
     refine RETS_C Ur (upr_same _ _ _ _) rfl ⟨KPt, by simp only [↓za, ↓reduceIte, Nat.reduceEqDiff, zb, reduceCtorEq]; exact hS4, _, _, O ++ [o'], M, F, n, by rw [List.length_append]; exact rfl, ⟨_, _, rfl, by decide, Nat.lt_succ_of_le uSO, ?_, ?_⟩, ⟨_, _, rfl, by decide, hb2, h4, ?_⟩, by rw [List.length_append]; simp only [List.length_cons, List.length_nil]; omega, hn8, by omega, by omega⟩
     all_goals simp only [↓za, ↓reduceIte, Nat.reduceEqDiff, zb, reduceCtorEq, Nat.le_refl]
     ·rw [show O.length = (O.map i64).length from (List.length_map _).symm, List.take_length, rowL, List.map_append]
      rfl
     ·exact d4
    ·refine Yat ?_
     refine RETS_C Ur (upr_same _ _ _ _) rfl ⟨KPt, by simp only [↓za, ↓reduceIte, Nat.reduceEqDiff, zb, reduceCtorEq]; exact hS3, _, _, O, M, F, n, rfl, ⟨_, _, rfl, by decide, hb1, h2, ?_⟩, ⟨_, _, rfl, by decide, hb2, h4, ?_⟩, by omega, hn8, by omega, by omega⟩
     all_goals simp only [↓za, ↓reduceIte, Nat.reduceEqDiff, zb, reduceCtorEq]
     all_goals assumption
 ·have e2 : ro2 4096 (gb 4096 + 1) = some (.bx [nilA, i64 0, nilA]) := (hF2.kp 4096 _ Ur (by rintro ⟨h, _⟩; omega)).trans Ur
  have hF3 : Frm WDa g rb gb ro2 gn2 := Frm.trans KPt (hF2.monoB (W' := WDa) (by decide))
  have u8224 := hF3.up 8224
  have uSP := hF3.up 69841
  have uSO := hF3.up 69840
  have hb1 : gb 69840 < uo := by simpa only [↓za, ↓reduceIte, Nat.reduceEqDiff, zb, reduceCtorEq] using h1
  have hb2 : gb 69841 < uv := by simpa only [↓za, ↓reduceIte, Nat.reduceEqDiff, zb, reduceCtorEq] using h3
  refine Ybf ?_
  refine CLL_inS rfl (sNext hc (Ue hS2) (n := 16) (by omega)) ?_
  intro r3 ro3 gn3 hN
  obtain ⟨x, rfl, -, hx, hgE, k3, hS3, f3⟩ := hN.out
  dsimp only at hgE k3 f3
  subst hgE
  have hF4 := f3 WDa rb gb (by decide) KPt
  have c1 : ro3 8224 (gn2 8224 + 1) = some (.bx [.ref 69840 uo [] 0 O.length, i64 M, .ref 69841 uv [] 0 n]) := (k3 _ _ (by decide)).trans Ur
  have c2 : ro3 4096 (gb 4096 + 1) = some (.bx [nilA, i64 0, nilA]) := (k3 _ _ (by decide)).trans (Ue e2)
  have c3 : ro3 69840 uo = some (rowL O) := (k3 _ _ (by decide)).trans (Ue hO)
  have c4 : ro3 69841 uv = some (cubeA F n) := (k3 _ _ (by decide)).trans (Ue hV)
  have hn1 := CV.pos
  have hn8 := CV.n8
  have hM := CV.m
  have hO4 := CV.l
  by_cases hx0 : x = 0
  ·refine Ybb ?_
   refine CLLD_inS [⟨some [8224], []⟩, ⟨some [8224], []⟩, e0, e0, ⟨some [], [8288]⟩, ⟨some [69841], []⟩, ⟨some [69841], []⟩, e0, e0, ⟨some [], [8288]⟩, ⟨some [69841], []⟩, ⟨some [69841], []⟩, e0, e0, ⟨some [], [8288]⟩, e0, ⟨some [8224], []⟩, ⟨some [8224], []⟩, e0, ⟨some [], [8288]⟩, ⟨some [69841], []⟩, ⟨some [69841], [69841]⟩] (xNext hc hS3 (n := (n : Int)) (by omega) (by kernel_rfl)) rfl ?_ rfl (by kernel_rfl) rfl
   intro r4 ro4 gn4 hN
   obtain ⟨i, rfl, -, hi, hgE, k4, hS4, f4⟩ := hN.out
   dsimp only at hgE k4 f4
   subst hgE
   obtain ⟨i0, i1⟩ := hi (by omega)
   obtain ⟨i, rfl⟩ := Int.eq_ofNat_of_zero_le i0
   have hF5 := f4 WDa rb gb (by decide) hF4
   have d1 := (k4 8224 _ (by decide)).trans c1
   have d2 := (k4 4096 _ (by decide)).trans c2
   have d3 := (k4 69840 _ (by decide)).trans c3
   have d4 := (k4 69841 _ (by decide)).trans c4
   have hin : i < n := by omega
   refine Ybi ?_
   refine CLLG_inS (xNext hc hS4 (n := (n : Int)) (by omega) (by kernel_rfl)) ?_ rfl
   intro r5 ro5 gn5 hN
   obtain ⟨j, rfl, -, hj, hgE, k5, hS5, f5⟩ := hN.out
   dsimp only at hgE k5 f5
   subst hgE
   obtain ⟨j0, j1⟩ := hj (by omega)
   obtain ⟨j, rfl⟩ := Int.eq_ofNat_of_zero_le j0
   have hF6 := f5 WDa rb gb (by decide) hF5
   have g1 := (k5 8224 _ (by decide)).trans d1
   have g2 := (k5 4096 _ (by decide)).trans d2
   have g3 := (k5 69840 _ (by decide)).trans d3
   have g4 := (k5 69841 _ (by decide)).trans d4
   have hjn : j < n := by omega
   refine Ybj ?_
   refine CLLG_inS (xNext hc hS5 (n := (n : Int)) (by omega) (by kernel_rfl)) ?_ rfl
   intro r6 ro6 gn6 hN
   obtain ⟨z, rfl, -, hz, hgE, k6, hS6, f6⟩ := hN.out
   dsimp only at hgE k6 f6
   subst hgE
   obtain ⟨z0, z1⟩ := hz (by omega)
   obtain ⟨z, rfl⟩ := Int.eq_ofNat_of_zero_le z0
   have hF7 := f6 WDa rb gb (by decide) hF6
   have g1 := (k6 8224 _ (by decide)).trans g1
   have g2 := (k6 4096 _ (by decide)).trans g2
   have g3 := (k6 69840 _ (by decide)).trans g3
   have g4 := (k6 69841 _ (by decide)).trans g4
   have hzn : z < n := by omega
   refine Yav ?_
   refine CLLG_inS (xNext hc hS6 (n := M + 1) (by omega) (by kernel_rfl)) ?_ rfl
   intro r7 ro7 gn7 hN
   obtain ⟨v, rfl, -, hv, hgE, k7, hS7, f7⟩ := hN.out
   dsimp only at hgE k7 f7
   subst hgE
   have hF8 := f7 WDa rb gb (by decide) hF7
   have g1 := (k7 8224 _ (by decide)).trans g1
   have g2 := (k7 4096 _ (by decide)).trans g2
   have g3 := (k7 69840 _ (by decide)).trans g3
   have g4 := (k7 69841 _ (by decide)).trans g4
   refine Yaq ?_
   refine FING_of rfl ?_
   refine Ybc ?_
   refine RETS_C Ur (upr_same _ _ _ _) rfl ⟨KPt, by simp only [↓za, ↓reduceIte, Nat.reduceEqDiff, zb, reduceCtorEq]; exact hS7, _, _, O, M, _, n, rfl, ⟨_, _, rfl, by decide, hb1, h2, ?_⟩, ⟨_, _, rfl, by decide, hb2, h4, upr_same _ _ _ _⟩, by omega, hn8, by omega, by omega⟩
   refine Yax ?_
   exact g3
  ·by_cases hx1 : x = 1
   ·subst hx1
    refine Yaj ?_
    refine CLL_inS rfl (sPick (s2 := 32784) hc (Ue hS3) (xs := [0, 1001, 2]) Ur (by decide) (by decide) (by decide)) ?_
    intro r4 ro4 gn4 hN
    obtain ⟨k, hk, rfl, hgE, k4, hS4, f4⟩ := hN.out
    dsimp only at hgE k4 f4
    subst hgE
    have hF5 := f4 WDa rb gb (by decide) KPt
    have d1 := (k4 8224 (gn2 8224 + 1) (by decide)).trans (Ue c1)
    have d2 := (k4 4096 (gb 4096 + 1) (by decide)).trans (Ue c2)
    have d3 := (k4 69840 uo (by decide)).trans (Ue c3)
    have d4 := (k4 69841 uv (by decide)).trans (Ue c4)
    have hk3 : k = 0 ∨ k = 1 ∨ k = 2 := by have : k < 3 := hk; omega
    have hkM : 0 ≤ atI [0, 1001, 2] k ∧ atI [0, 1001, 2] k ≤ 2000 := by rcases hk3 with rfl | rfl | rfl <;> decide
    generalize atI [0, 1001, 2] k = M' at hkM
    refine Ybd ?_
    refine RETS_C Ur (upr_same _ _ _ _) rfl ⟨KPt, by simp only [↓za, ↓reduceIte, Nat.reduceEqDiff, zb, reduceCtorEq]; exact hS4, _, _, O, M', F, n, rfl, ⟨_, _, rfl, by decide, hb1, h2, ?_⟩, ⟨_, _, rfl, by decide, hb2, h4, ?_⟩, by omega, hn8, by omega, by omega⟩
    all_goals simp only [↓za, ↓reduceIte, Nat.reduceEqDiff, zb, reduceCtorEq]
    all_goals assumption
   ·by_cases hx2 : x = 2
    ·subst hx2
     refine Yaj ?_
     refine CLLD_inS [⟨some [8224], []⟩, ⟨some [8224], []⟩, e0, ⟨some [], [41008]⟩, ⟨some [41008], [8288]⟩, ⟨some [], [41040]⟩, ⟨some [69840, 41040], [69840, 69840]⟩, ⟨some [8224], []⟩, ⟨some [8224, 69840], [8224]⟩] (xPick (s2 := 41008) hc (Ue hS3) (xs := [0, 2]) Ur (by decide) (by decide) (by decide) (by kernel_rfl)) rfl ?_ rfl (by kernel_rfl) rfl
     intro r4 ro4 gn4 hN
     obtain ⟨k, hk, rfl, hgE, k4, hS4, f4⟩ := hN.out
     dsimp only at hgE k4 f4
     subst hgE
     have hF5 := f4 WDa rb gb (by decide) KPt
     have d1 := (k4 8224 (gn2 8224 + 1) (by decide)).trans (Ue c1)
     have d2 := (k4 4096 (gb 4096 + 1) (by decide)).trans (Ue c2)
     have d3 := (k4 69840 uo (by decide)).trans (Ue c3)
     have d4 := (k4 69841 uv (by decide)).trans (Ue c4)
     generalize atI [0, 2] k = o'
     refine Ybg ?_
     refine FING_of rfl ?_
     refine Ybh ?_
     refine RETS_C Ur (upr_same _ _ _ _) rfl ⟨KPt, by simp only [↓za, ↓reduceIte, Nat.reduceEqDiff, zb, reduceCtorEq]; exact hS4, _, _, O ++ [o'], M, F, n, by rw [List.length_append]; exact rfl, ⟨_, _, rfl, by decide, Nat.lt_succ_of_le uSO, ?_, ?_⟩, ⟨_, _, rfl, by decide, hb2, h4, ?_⟩, by rw [List.length_append]; simp only [List.length_cons, List.length_nil]; omega, hn8, by omega, by omega⟩
     all_goals simp only [↓za, ↓reduceIte, Nat.reduceEqDiff, zb, reduceCtorEq, Nat.le_refl]
     ·rw [show O.length = (O.map i64).length from (List.length_map _).symm, List.take_length, rowL, List.map_append]
      rfl
     ·exact d4
    ·refine Yat ?_
     refine RETS_C Ur (upr_same _ _ _ _) rfl ⟨KPt, by simp only [↓za, ↓reduceIte, Nat.reduceEqDiff, zb, reduceCtorEq]; exact hS3, _, _, O, M, F, n, rfl, ⟨_, _, rfl, by decide, hb1, h2, ?_⟩, ⟨_, _, rfl, by decide, hb2, h4, ?_⟩, by omega, hn8, by omega, by omega⟩
     all_goals simp only [↓za, ↓reduceIte, Nat.reduceEqDiff, zb, reduceCtorEq]
     all_goals assumption
end
end Go.Proofs.YtmchdjiigfiabaaGreat
/- Braidings, drawn. -/
namespace Go.Proofs.YtmchdjiigfiabaaGreat
open Go.RowKit
set_option maxRecDepth 1000000
structure BrV (O : List Int) (M : Int) (F : Nat → Nat → Nat → Int) (G : Nat → Nat → Int) (n : Nat) : Prop where
 w : CoV O M F n
 g : ∀ x, x < n → ∀ y, y < n → 0 ≤ G x y ∧ G x y < M
theorem BrV.std {n : Nat} {a : Int} (hn : 1 ≤ n ∧ n ≤ 8) : BrV [(n : Int)] (2 * n) (stW n a) (stC n a) n := by
 refine ⟨⟨⟨by simp, fun i hi => ?_⟩, by simp, by simp [pfx, atI], hn.2, by omega, fun x _ y _ z _ => ?_⟩, fun x _ y _ => ?_⟩
 ·have : i = 0 := by simpa using hi
  subst this
  show (1 : Int) ≤ n
  omega
 ·unfold stW
  split
  ·exact ⟨Int.emod_nonneg _ (by omega), Int.emod_lt_of_pos _ (by omega)⟩
  ·omega
 ·exact ⟨Int.emod_nonneg _ (by omega), Int.emod_lt_of_pos _ (by omega)⟩
theorem BrV.sum {O : List Int} {M : Int} {F F' : Nat → Nat → Nat → Int} {G G' : Nat → Nat → Int} {n : Nat} (h : BrV O M F G n) : BrV O M (smF F F' M) (sm2 G G' M) n := by
 have hm := h.w.m
 exact ⟨h.w.sum, fun x _ y _ => by unfold sm2; exact ⟨Int.emod_nonneg _ (by omega), Int.emod_lt_of_pos _ (by omega)⟩⟩
theorem BrV.cob {O : List Int} {M : Int} {F : List (List Int)} {n : Nat} (ho : OrdP O) (hl : O.length ≤ 4) (hn : (n : Int) = pfx O O.length) (h8 : n ≤ 8) (hm : 1 ≤ M ∧ M ≤ 1000) : BrV O M (cobF O M F) (tuF M F) n :=
 ⟨CoV.cob ho hl hn h8 hm, fun x _ y _ => by unfold tuF; exact ⟨Int.emod_nonneg _ (by omega), Int.emod_lt_of_pos _ (by omega)⟩⟩
def L18 : List (Nat × Nat × Nat) := [(28704, 28705, 28706), (41168, 41169, 41170), (12304, 12352, 127040), (69776, 69777, 69778)]
def W18 : List Nat := [8288, 8256, 24608, 8192, 24576, 45072, 49232, 53280, 4096, 12304, 12352, 12400, 16384, 32768, 53376, 57376, 73728, 90144, 90192, 122944, 127024, 127040, 28704, 28705, 28706, 28720, 41072, 41073, 41120, 41136, 41168, 41169, 41170, 53264, 57408, 69696, 69697, 69744, 69760, 69776, 69777, 69778]
def RBr (gn : Nat → Nat) (r : AV) (ro' : Ro) (gn' : Nat → Nat) : Prop := ∃ (O : List Int) (M : Int) (F : Nat → Nat → Nat → Int) (G : Nat → Nat → Int) (n so sp sq uo uv uc : Nat), r = .agg [.ref so uo [] 0 O.length, i64 M, .ref sp uv [] 0 n, .ref sq uc [] 0 n] ∧ (so, sp, sq) ∈ L18 ∧ (gn so < uo ∧ uo ≤ gn' so) ∧ (gn sp < uv ∧ uv ≤ gn' sp) ∧ (gn sq < uc ∧ uc ≤ gn' sq) ∧ ro' so uo = some (rowL O) ∧ ro' sp uv = some (cubeA F n) ∧ ro' sq uc = some (matA G n n) ∧ BrV O M F G n
section
variable {a : AV} {bs : List Int} {g : Nat} {rb : Ro} {gb : Nat → Nat}
theorem noI_bb (O : List Int) (m : Int) (F : Nat → Nat → Nat → Int) (n : Nat) (G : Nat → Nat → Int) : noI (.agg [rowL O, i64 m, cubeA F n, matA G n n]) = true := by
 show (noI (rowL O) && (true && (noI (cubeA F n) && (noI (matA G n n) && true)))) = true
 rw [noI_rowL, noI_cube, noI_mat]; rfl
set_option maxHeartbeats 8000000 in
theorem sDraw18 (hc : Cod a bs) (hs : Src a bs (rb 8288 g)) : InS Tryz.prog 41 [.ptr 8288 g [] 0] rb gb
  (fun r ro' gn' => Frm W18 g rb gb ro' gn' ∧ Src a bs (ro' 8288 g) ∧ RBr gb r ro' gn') := by
 have hS0 := hs
 refine in_ofS (fn := Tryz.f41) (code := bodyOf Tryz.f41) Tryz.func41 rfl (by kernel_rfl) ?_
 intro sl hs
 have s0 : sl 0 = .ptr 8288 g [] 0 := hs 0
 dsimp only [Tryz.f41, bodyOf, Option.getD]
 refine Yaa ?_
 refine CLL_inS rfl (sNext hc (Ue hS0) (n := 2) (by omega)) ?_
 rintro _ _ _ ⟨x, rfl, -, hx, hgE, w, rfl, hw⟩
 dsimp only at hgE
 subst hgE
 by_cases hx0 : x = 0
 ·refine Yao ?_
  refine CLL_inS rfl (sNext hc (Ue hw) (n := 6) (by omega)) ?_
  rintro _ _ _ ⟨y, rfl, -, hy, hgE, w2, rfl, hw2⟩
  dsimp only at hgE
  subst hgE
  obtain ⟨y0, y1⟩ := hy (by omega)
  obtain ⟨y, rfl⟩ := Int.eq_ofNat_of_zero_le y0
  have eN : (2 : Int) + (y : Int) = ((2 + y : Nat) : Int) := by omega
  have hN : 2 ≤ 2 + y ∧ 2 + y ≤ 7 := by omega
  refine Yca ?_
  generalize 2 + y = N at hN
  refine CLL_inS rfl (sNext hc (Ue hw2) (n := 2 * (N : Int)) (by omega)) ?_
  rintro _ _ _ ⟨k, rfl, -, hk, hgE, w3, rfl, hw3⟩
  dsimp only at hgE
  subst hgE
  obtain ⟨k0, k1⟩ := hk (by omega)
  have p0 : 0 ≤ k * (N : Int) := Int.mul_nonneg k0 (Int.natCast_nonneg _)
  have p1 : k * (N : Int) ≤ 14 * 7 := Int.mul_le_mul (by omega) (by omega) (Int.natCast_nonneg _) (by omega)
  by_cases hodd : (k * (N : Int)).tmod 2 = 1
  ·have k2 : 1 ≤ k := by
    rcases (by omega : k = 0 ∨ 1 ≤ k) with rfl | h
    ·rw [Int.zero_mul] at hodd; simp at hodd
    ·exact h
   have q0 : 0 ≤ k - 1 := by omega
   have q1 : k - 1 < 2 * N := by omega
   simp (maxSteps := 10000000) (disch := first | assumption | omega) only [go_sem, ↓reduceIte, Nat.reduceEqDiff, reduceCtorEq, Nat.reduceAdd, Nat.reduceMul, Nat.reduceLeDiff, zc, Int.reduceToNat, s0, eq_true hodd]
   refine CLL_pure _ (cStd (n := N) (a := (k - 1)) (by omega) (by omega) (by omega)) rfl rfl rfl ?_
   refine Yaa ?_
   refine CLL_inS rfl (sNext hc (Ue hw3) (n := 2) (by omega)) ?_
   rintro _ _ _ ⟨z, rfl, -, hz, hgE, w4, rfl, hw4⟩
   dsimp only at hgE
   subst hgE
   have BV := BrV.std (n := N) (a := (k - 1)) (by omega)
   by_cases hz0 : z = 0
   ·refine Ycm ?_
    refine CLL_inS rfl (sPairing hc (Ue hw4) (n := N) (m := 2 * (N : Int)) (by omega) (by omega)) ?_
    rintro _ ro4 gn4 ⟨hF4, hS4, G, u4, rfl, hu3, hu4, hG4, hb4⟩
    dsimp only at hF4 hu3
    have e1 := off_at hF4 (s := 4096) (u := gb 4096 + 1) (by decide) Ur
    have e2 := off_at hF4 (s := 28720) (u := gb 28720 + 1) (by decide) Ur
    have e3 := off_at hF4 (s := 28704) (u := gb 28704 + 1) (by decide) Ur
    have e4 := off_at hF4 (s := 28705) (u := gb 28705 + 1) (by decide) Ur
    have e5 := off_at hF4 (s := 28706) (u := gb 28706 + 1) (by decide) Ur
    have hF5 : Frm W18 g rb gb ro4 gn4 := Frm.trans KPt (hF4.monoB (W' := W18) (by decide))
    have hsq := Sq.mat fun x hx y hy => ⟨(hb4 x hx y hy).1, (hb4 x hx y hy).2.1⟩
    have CB := fun F : List (List Int) => BrV.cob (F := F) BV.w.o BV.w.l BV.w.e BV.w.n8 BV.w.m
    simp (maxSteps := 10000000) (disch := first | assumption | omega) only [go_sem, ↓reduceIte, Nat.reduceEqDiff, reduceCtorEq, Nat.reduceAdd, Nat.reduceMul, Nat.reduceLeDiff, zc, Int.reduceToNat, s0, e1, e2, e3, e4, e5]
    refine CLLD_q _ (cCobL BV.w.g BV.w.e (isLL_imm _) hsq BV.w.m) (.cons (exq_refL e3 rfl (by decide)) (.cons (exq_sc _ _ _ (by decide)) (.cons (exq_mat hG4 (by decide)) .nil))) rfl (noI_cc _ _ _ _) ?_
    refine Yar ?_
    refine CLLD_q _ (cTurn (isLL_imm _) hsq (by omega) BV.w.m) (.cons (exq_mat (Ue hG4) (by decide)) (.cons (exq_sc _ _ _ (by decide)) .nil)) rfl (noI_mat _ _ _) ?_
    refine Yar ?_
    refine CLLD_q _ (cSum8 (O := [(N : Int)]) (O' := [(N : Int)]) (isL_imm _) (isL_imm _) (by show 1 ≤ maxN; decide) (isLLL_immC (stW N (k - 1)) _) (isLLL_immC (cobF [(N : Int)] (2 * N) (matL G N N)) _) (isLL_imm (matL (stC N (k - 1)) N N)) (isLL_imm (matL (tuF (2 * N) (matL G N N)) N N)) (by omega) (by omega) BV.w.m BV.w.b (CB _).w.b BV.g (CB _).g) (.cons (exq_agg (.cons (exq_refL (Ue e3) rfl (by decide)) (.cons (exq_sc _ _ _ (by decide)) (.cons (exq_cube (Ue e4) (by decide)) (.cons (exq_mat (Ue e5) (by decide)) .nil))))) (.cons (exq_agg (.cons (exq_refL (xs := [(N : Int)]) Ur rfl (by decide)) (.cons (exq_sc _ _ _ (by decide)) (.cons (exq_cube Ur (by decide)) (.cons (exq_mat Ur (by decide)) .nil))))) .nil)) rfl (noI_bb _ _ _ _ _) ?_
    refine Yar ?_
    refine FIN_of (by kernel_rfl) ?_
    simp (maxSteps := 10000000) (disch := first | assumption | omega) only [go_sem, ↓reduceIte, Nat.reduceEqDiff, reduceCtorEq, Nat.reduceAdd, Nat.reduceMul, Nat.reduceLeDiff, zc, Int.reduceToNat, s0, e1]
    have g1 := hF5.up 41168
    have g2 := hF5.up 41169
    have g3 := hF5.up 41170
    refine RETS_D Ur (upr_same _ _ _ _) rfl ⟨KPt, by simp only [↓za, ↓reduceIte, Nat.reduceEqDiff, zb, reduceCtorEq]; exact hS4, _, _, _, _, N, 41168, 41169, 41170, _, _, _, rfl, by decide, ⟨Nat.lt_succ_of_le g1, ?_⟩, ⟨Nat.lt_succ_of_le g2, ?_⟩, ⟨Nat.lt_succ_of_le g3, ?_⟩, ?_, ?_, ?_, BV.sum (F' := cobF [(N : Int)] (2 * N) (matL G N N)) (G' := tuF (2 * N) (matL G N N))⟩
    all_goals simp only [↓za, ↓reduceIte, Nat.reduceEqDiff, zb, reduceCtorEq]
    all_goals first | exact Nat.le_refl _ | exact rfl
   ·simp (maxSteps := 10000000) (disch := first | assumption | omega) only [go_sem, ↓reduceIte, Nat.reduceEqDiff, reduceCtorEq, Nat.reduceAdd, Nat.reduceMul, Nat.reduceLeDiff, zc, Int.reduceToNat, s0, eq_false hz0]
    refine RETS_D Ur (upr_same _ _ _ _) rfl ⟨KPt, by simp only [↓za, ↓reduceIte, Nat.reduceEqDiff, zb, reduceCtorEq]; exact hw4, [(N : Int)], 2 * N, stW N (k - 1), stC N (k - 1), N, 28704, 28705, 28706, _, _, _, rfl, by decide, ⟨Nat.lt_succ_self _, ?_⟩, ⟨Nat.lt_succ_self _, ?_⟩, ⟨Nat.lt_succ_self _, ?_⟩, ?_, ?_, ?_, BV⟩
    all_goals simp only [↓za, ↓reduceIte, Nat.reduceEqDiff, zb, reduceCtorEq]
    all_goals first | exact Nat.le_refl _ | exact rfl
  ·have q0 : 0 ≤ k := k0
   have q1 : k < 2 * N := k1
   simp (maxSteps := 10000000) (disch := first | assumption | omega) only [go_sem, ↓reduceIte, Nat.reduceEqDiff, reduceCtorEq, Nat.reduceAdd, Nat.reduceMul, Nat.reduceLeDiff, zc, Int.reduceToNat, s0, eq_false hodd]
   refine CLL_pure _ (cStd (n := N) (a := k) (by omega) (by omega) (by omega)) rfl rfl rfl ?_
   refine Yaa ?_
   refine CLL_inS rfl (sNext hc (Ue hw3) (n := 2) (by omega)) ?_
   rintro _ _ _ ⟨z, rfl, -, hz, hgE, w4, rfl, hw4⟩
   dsimp only at hgE
   subst hgE
   have BV := BrV.std (n := N) (a := k) (by omega)
   by_cases hz0 : z = 0
   ·refine Ycm ?_
    refine CLL_inS rfl (sPairing hc (Ue hw4) (n := N) (m := 2 * (N : Int)) (by omega) (by omega)) ?_
    rintro _ ro4 gn4 ⟨hF4, hS4, G, u4, rfl, hu3, hu4, hG4, hb4⟩
    dsimp only at hF4 hu3
    have e1 := off_at hF4 (s := 4096) (u := gb 4096 + 1) (by decide) Ur
    have e2 := off_at hF4 (s := 28720) (u := gb 28720 + 1) (by decide) Ur
    have e3 := off_at hF4 (s := 28704) (u := gb 28704 + 1) (by decide) Ur
    have e4 := off_at hF4 (s := 28705) (u := gb 28705 + 1) (by decide) Ur
    have e5 := off_at hF4 (s := 28706) (u := gb 28706 + 1) (by decide) Ur
    have hF5 : Frm W18 g rb gb ro4 gn4 := Frm.trans KPt (hF4.monoB (W' := W18) (by decide))
    have hsq := Sq.mat fun x hx y hy => ⟨(hb4 x hx y hy).1, (hb4 x hx y hy).2.1⟩
    have CB := fun F : List (List Int) => BrV.cob (F := F) BV.w.o BV.w.l BV.w.e BV.w.n8 BV.w.m
    simp (maxSteps := 10000000) (disch := first | assumption | omega) only [go_sem, ↓reduceIte, Nat.reduceEqDiff, reduceCtorEq, Nat.reduceAdd, Nat.reduceMul, Nat.reduceLeDiff, zc, Int.reduceToNat, s0, e1, e2, e3, e4, e5]
    refine CLLD_q _ (cCobL BV.w.g BV.w.e (isLL_imm _) hsq BV.w.m) (.cons (exq_refL e3 rfl (by decide)) (.cons (exq_sc _ _ _ (by decide)) (.cons (exq_mat hG4 (by decide)) .nil))) rfl (noI_cc _ _ _ _) ?_
    refine Yar ?_
    refine CLLD_q _ (cTurn (isLL_imm _) hsq (by omega) BV.w.m) (.cons (exq_mat (Ue hG4) (by decide)) (.cons (exq_sc _ _ _ (by decide)) .nil)) rfl (noI_mat _ _ _) ?_
    refine Yar ?_
    refine CLLD_q _ (cSum8 (O := [(N : Int)]) (O' := [(N : Int)]) (isL_imm _) (isL_imm _) (by show 1 ≤ maxN; decide) (isLLL_immC (stW N k) _) (isLLL_immC (cobF [(N : Int)] (2 * N) (matL G N N)) _) (isLL_imm (matL (stC N k) N N)) (isLL_imm (matL (tuF (2 * N) (matL G N N)) N N)) (by omega) (by omega) BV.w.m BV.w.b (CB _).w.b BV.g (CB _).g) (.cons (exq_agg (.cons (exq_refL (Ue e3) rfl (by decide)) (.cons (exq_sc _ _ _ (by decide)) (.cons (exq_cube (Ue e4) (by decide)) (.cons (exq_mat (Ue e5) (by decide)) .nil))))) (.cons (exq_agg (.cons (exq_refL (xs := [(N : Int)]) Ur rfl (by decide)) (.cons (exq_sc _ _ _ (by decide)) (.cons (exq_cube Ur (by decide)) (.cons (exq_mat Ur (by decide)) .nil))))) .nil)) rfl (noI_bb _ _ _ _ _) ?_
    refine Yar ?_
    refine FIN_of (by kernel_rfl) ?_
    simp (maxSteps := 10000000) (disch := first | assumption | omega) only [go_sem, ↓reduceIte, Nat.reduceEqDiff, reduceCtorEq, Nat.reduceAdd, Nat.reduceMul, Nat.reduceLeDiff, zc, Int.reduceToNat, s0, e1]
    have g1 := hF5.up 41168
    have g2 := hF5.up 41169
    have g3 := hF5.up 41170
    refine RETS_D Ur (upr_same _ _ _ _) rfl ⟨KPt, by simp only [↓za, ↓reduceIte, Nat.reduceEqDiff, zb, reduceCtorEq]; exact hS4, _, _, _, _, N, 41168, 41169, 41170, _, _, _, rfl, by decide, ⟨Nat.lt_succ_of_le g1, ?_⟩, ⟨Nat.lt_succ_of_le g2, ?_⟩, ⟨Nat.lt_succ_of_le g3, ?_⟩, ?_, ?_, ?_, BV.sum (F' := cobF [(N : Int)] (2 * N) (matL G N N)) (G' := tuF (2 * N) (matL G N N))⟩
    all_goals simp only [↓za, ↓reduceIte, Nat.reduceEqDiff, zb, reduceCtorEq]
    all_goals first | exact Nat.le_refl _ | exact rfl
   ·simp (maxSteps := 10000000) (disch := first | assumption | omega) only [go_sem, ↓reduceIte, Nat.reduceEqDiff, reduceCtorEq, Nat.reduceAdd, Nat.reduceMul, Nat.reduceLeDiff, zc, Int.reduceToNat, s0, eq_false hz0]
    refine RETS_D Ur (upr_same _ _ _ _) rfl ⟨KPt, by simp only [↓za, ↓reduceIte, Nat.reduceEqDiff, zb, reduceCtorEq]; exact hw4, [(N : Int)], 2 * N, stW N k, stC N k, N, 28704, 28705, 28706, _, _, _, rfl, by decide, ⟨Nat.lt_succ_self _, ?_⟩, ⟨Nat.lt_succ_self _, ?_⟩, ⟨Nat.lt_succ_self _, ?_⟩, ?_, ?_, ?_, BV⟩
    all_goals simp only [↓za, ↓reduceIte, Nat.reduceEqDiff, zb, reduceCtorEq]
    all_goals first | exact Nat.le_refl _ | exact rfl
 ·refine Yau ?_
  refine CLL_inS rfl (sOrders hc (Ue hw) (m := 8) (by omega)) ?_
  rintro _ ro2 gn2 ⟨hF2, hS2, O, u, rfl, hu1, hu2, hO, hP, hp8, hO4⟩
  dsimp only at hF2 hu1
  have e2 := off_at hF2 (s := 4096) (u := gb 4096 + 1) (by decide) Ur
  have hF3 : Frm W18 g rb gb ro2 gn2 := Frm.trans KPt (hF2.monoB (W' := W18) (by decide))
  have hG : GrpP O := hP.grp (by omega) (by omega)
  have pp := pfx_pos1 hP.2
  obtain ⟨N, hN⟩ := Int.eq_ofNat_of_zero_le (show 0 ≤ pfx O O.length by omega)
  have en : l6s O = N := by unfold l6s; rw [if_pos hp8]; exact hN
  have cs := cL7s (isL_imm O) (Nat.le_trans hO4 (by decide)) hP.2
  rw [en] at cs
  refine Yaa ?_
  refine CLL_inS rfl (sPick hc (Ue hS2) (xs := [1, 2, 3, 4, 6, 8, 12]) Ur (by decide) (by decide) (by decide)) ?_
  rintro _ _ _ ⟨k, hk, rfl, hgE, w3, rfl, hw3⟩
  dsimp only at hgE
  subst hgE
  have hM : ∀ k, k < 7 → 1 ≤ atI [1, 2, 3, 4, 6, 8, 12] k ∧ atI [1, 2, 3, 4, 6, 8, 12] k ≤ 1000 := by decide
  have hM := hM k hk
  generalize atI [1, 2, 3, 4, 6, 8, 12] k = M at hM
  refine Yaa ?_
  refine CLL_inS rfl (sChar (n := N) hc (Ue hw3) (Ue hu2) (by rintro ⟨h, -⟩; exact absurd h (by decide)) (Ue hO) hG hN.symm (by omega) hM) ?_
  rintro _ ro4 gn4 ⟨hF4, hS4, C, u1, u2, u3, rfl, a1, b1, a2, b2, a3, b3, r1, r2, r3, hC⟩
  dsimp only at hF4 a1 a2 a3
  simp only [↓za, ↓reduceIte, Nat.reduceEqDiff, zb, reduceCtorEq] at a1 a2 a3
  have e3 := off_at hF4 (s := 8256) (u := u) (by decide) (Ue hO)
  have q4 : gn2 4096 = gb 4096 + 1 := (hF2.off 4096 (by decide)).2.trans Ur
  have e4 : ro4 4096 (gb 4096 + 1) = some (.bx [nilA, i64 0, nilA, nilA]) := (hF4.kp 4096 _ (by simp only [↓za, ↓reduceIte, Nat.reduceEqDiff, zb, reduceCtorEq]; exact Nat.le_of_eq q4.symm) (by rintro ⟨h, -⟩; exact absurd h (by decide))).trans (Ue e2)
  have hF5 : Frm W18 g rb gb ro4 gn4 := Frm.trans KPt (hF4.monoB (W' := W18) (by decide))
  have c1 : gb 12304 < u1 := Nat.lt_of_le_of_lt (hF3.up 12304) a1
  have c2 : gb 12352 < u2 := Nat.lt_of_le_of_lt (hF3.up 12352) a2
  have c3 : gb 127040 < u3 := Nat.lt_of_le_of_lt (hF3.up 127040) a3
  have hZ : CoV O M (fun _ _ _ => 0) N := ⟨hP, hO4, hN.symm, by omega, hM, fun _ _ _ _ _ _ => by omega⟩
  have BV : BrV O M (fun _ _ _ => 0) C N := ⟨hZ, hC⟩
  have u57 := hF5.up 57408
  simp (maxSteps := 10000000) (disch := first | assumption | omega) only [go_sem, ↓reduceIte, Nat.reduceEqDiff, reduceCtorEq, Nat.reduceAdd, Nat.reduceMul, Nat.reduceLeDiff, zc, Int.reduceToNat, s0, r1, r2, r3]
  refine CLL_inS rfl (sNext hc (by first | exact hS4 | (simp only [↓za, ↓reduceIte, Nat.reduceEqDiff, zb, reduceCtorEq]; exact hS4)) (n := 2) (by omega)) ?_
  rintro _ _ _ ⟨z, rfl, -, hz, hgE, w4, rfl, hw4⟩
  dsimp only at hgE
  subst hgE
  by_cases hz0 : z = 0
  ·refine Ycm ?_
   refine CLL_q _ cs (.cons (exq_refL (by first | exact e3 | (simp only [↓za, ↓reduceIte, Nat.reduceEqDiff, zb, reduceCtorEq]; exact e3)) rfl (by decide)) .nil) rfl rfl rfl ?_
   refine Yaa ?_
   refine CLL_inS rfl (sPairing hc (Ue hw4) (n := N) (by omega) hM) ?_
   rintro _ ro6 gn6 ⟨hF6, hS6, G, u6, rfl, hu5, hu6, hG6, hb6⟩
   dsimp only at hF6 hu5
   have f1 := off_at hF6 (s := 4096) (u := gb 4096 + 1) (by decide) (Ue e4)
   have f2 := off_at hF6 (s := 8256) (u := u) (by decide) (Ue e3)
   have f3 := off_at hF6 (s := 57408) (u := gn4 57408 + 1) (by decide) Ur
   have f4 := off_at hF6 (s := 12304) (u := u1) (by decide) (Ue r1)
   have f5 := off_at hF6 (s := 12352) (u := u2) (by decide) (Ue r2)
   have f6 := off_at hF6 (s := 127040) (u := u3) (by decide) (Ue r3)
   have hF7 : Frm W18 g rb gb ro6 gn6 := Frm.trans KPt (hF6.monoB (W' := W18) (by decide))
   have hsq := Sq.mat fun x hx y hy => ⟨(hb6 x hx y hy).1, (hb6 x hx y hy).2.1⟩
   have CB := fun F : List (List Int) => BrV.cob (F := F) BV.w.o BV.w.l BV.w.e BV.w.n8 BV.w.m
   refine Ybr ?_
   refine CLLD_q _ (cCobL BV.w.g BV.w.e (isLL_imm _) hsq BV.w.m) (.cons (exq_refL f2 rfl (by decide)) (.cons (exq_sc _ _ _ (by decide)) (.cons (exq_mat hG6 (by decide)) .nil))) rfl (noI_cc _ _ _ _) ?_
   refine Ybr ?_
   refine CLLD_q _ (cTurn (isLL_imm _) hsq (by omega) BV.w.m) (.cons (exq_mat (Ue hG6) (by decide)) (.cons (exq_sc _ _ _ (by decide)) .nil)) rfl (noI_mat _ _ _) ?_
   refine Ybr ?_
   refine CLLD_q _ (cSum8 (O := O) (O' := O) (isL_imm _) (isL_imm _) (Nat.le_trans hO4 (by decide)) (isLLL_immC (fun _ _ _ => 0) _) (isLLL_immC (cobF O M (matL G N N)) _) (isLL_imm (matL C N N)) (isLL_imm (matL (tuF M (matL G N N)) N N)) (by omega) (by omega) BV.w.m BV.w.b (CB _).w.b BV.g (CB _).g) (.cons (exq_agg (.cons (exq_refL (Ue f4) rfl (by decide)) (.cons (exq_sc _ _ _ (by decide)) (.cons (exq_cube (Ue f5) (by decide)) (.cons (exq_mat (Ue f6) (by decide)) .nil))))) (.cons (exq_agg (.cons (exq_refL (xs := O) (by first | (simp only [↓za, ↓reduceIte, Nat.reduceEqDiff, zb, reduceCtorEq]; done) | (simp only [↓za, ↓reduceIte, Nat.reduceEqDiff, zb, reduceCtorEq]; exact rfl)) rfl (by decide)) (.cons (exq_sc _ _ _ (by decide)) (.cons (exq_cube Ur (by decide)) (.cons (exq_mat Ur (by decide)) .nil))))) .nil)) rfl (noI_bb _ _ _ _ _) ?_
   refine Ybr ?_
   refine FIN_of (by kernel_rfl) ?_
   simp (maxSteps := 10000000) (disch := first | assumption | omega) only [go_sem, ↓reduceIte, Nat.reduceEqDiff, reduceCtorEq, Nat.reduceAdd, Nat.reduceMul, Nat.reduceLeDiff, zc, Int.reduceToNat, s0, f1]
   have g1 := hF7.up 69776
   have g2 := hF7.up 69777
   have g3 := hF7.up 69778
   refine RETS_D Ur (upr_same _ _ _ _) rfl ⟨KPt, by simp only [↓za, ↓reduceIte, Nat.reduceEqDiff, zb, reduceCtorEq]; exact hS6, _, _, _, _, N, 69776, 69777, 69778, _, _, _, rfl, by decide, ⟨Nat.lt_succ_of_le g1, ?_⟩, ⟨Nat.lt_succ_of_le g2, ?_⟩, ⟨Nat.lt_succ_of_le g3, ?_⟩, ?_, ?_, ?_, BV.sum (F' := cobF O M (matL G N N)) (G' := tuF M (matL G N N))⟩
   all_goals simp only [↓za, ↓reduceIte, Nat.reduceEqDiff, zb, reduceCtorEq]
   all_goals first | exact Nat.le_refl _ | exact rfl
  ·simp (maxSteps := 10000000) (disch := first | assumption | omega) only [go_sem, ↓reduceIte, Nat.reduceEqDiff, reduceCtorEq, Nat.reduceAdd, Nat.reduceMul, Nat.reduceLeDiff, zc, Int.reduceToNat, s0, eq_false hz0, e4, r1, r2, r3]
   refine RETS_D Ur (upr_same _ _ _ _) rfl ⟨KPt, by simp only [↓za, ↓reduceIte, Nat.reduceEqDiff, zb, reduceCtorEq]; exact hw4, O, M, _, C, N, 12304, 12352, 127040, _, _, _, rfl, by decide, ⟨c1, ?_⟩, ⟨c2, ?_⟩, ⟨c3, ?_⟩, ?_, ?_, ?_, BV⟩
   all_goals simp only [↓za, ↓reduceIte, Nat.reduceEqDiff, zb, reduceCtorEq]
   all_goals assumption
end
end Go.Proofs.YtmchdjiigfiabaaGreat
