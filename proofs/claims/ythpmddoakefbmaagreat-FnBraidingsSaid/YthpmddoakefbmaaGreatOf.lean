/- Texts joined: QI QJ QJz QK. -/
import Derived.Test.YthpmddoakefbmaaGreatOa
import Derived.Test.YthpmddoakefbmaaGreatOe
set_option linter.all false
/- Braidings, drawn and mostly left as they are. -/
namespace Go.Proofs.YthpmddoakefbmaaGreat
open Go.RowKit
set_option maxRecDepth 1000000
theorem mat_cells {ro : Ro} {s g i n m : Nat} {f : Nat → Nat → Int} (h : ro s g = some (matA f n m)) (hi : i < n) : ro.cells s g [i] = some (rws (fun j => i64 (f i j)) m) := by
 unfold Ro.cells Ro.at
 simp only [h, ath, rws_get _ _ _ hi]
theorem mat_bx {ro : Ro} {s g i n m : Nat} {f : Nat → Nat → Int} (h : ro s g = some (matA f n m)) (hi : i < n) : isBxAt ro s g [i] = false := by
 unfold isBxAt Ro.at
 simp only [h, ath, rws_get _ _ _ hi]
theorem mat_wr {ro : Ro} {s g i j n m : Nat} {f : Nat → Nat → Int} {v : Int} (h : ro s g = some (matA f n m)) (hi : i < n) (hj : j < m) : ro.wr ⟨s, g, [i], j, [i64 v]⟩ = upr ro s g (matA (upd2 f i j v) n m) := by
 unfold Ro.wr
 simp only [h, putR, rws_get _ _ _ hi, setL]
 rw [rws_set, rws_set]
 refine congrArg (upr ro s g) (congrArg AV.row (rws_congr fun x hx => ?_))
 by_cases hxi : x = i
 ·subst hxi
  rw [if_pos rfl]
  refine congrArg AV.row (rws_congr fun y hy => ?_)
  by_cases hyj : y = j
  ·subst hyj; rw [if_pos rfl]; simp [upd2]
  ·rw [if_neg hyj]; simp [upd2, hyj]
 ·rw [if_neg hxi]
  refine congrArg AV.row (rws_congr fun y hy => ?_)
  simp [upd2, hxi]
def LO : List Nat := [28704, 41168, 12304, 69776, 24672, 41024, 53376, 61440, 69840]
def LC : List Nat := [28705, 41169, 12352, 69777, 24673, 41025, 53377, 61441, 69841]
def LQ : List Nat := [28706, 41170, 127040, 69778]
def WSp : List Nat := 8224 :: 28800 :: (W18 ++ WDa)
theorem inLO (s : Nat) (h : s ∈ L17) : s ∈ LO := by
 simp only [L17, List.mem_cons, List.not_mem_nil, or_false] at h
 rcases h with rfl | rfl | rfl | rfl | rfl <;> decide
theorem inLC (s : Nat) (h : s ∈ L17c) : s ∈ LC := by
 simp only [L17c, List.mem_cons, List.not_mem_nil, or_false] at h
 rcases h with rfl | rfl | rfl | rfl | rfl <;> decide
def RSp (gb : Nat → Nat) (r : AV) (ro : Ro) (gn : Nat → Nat) : Prop := ∃ (o c : AV) (O : List Int) (M : Int) (F : Nat → Nat → Nat → Int) (n sq uq off k l : Nat) (G : Nat → Nat → Int), r = .agg [o, i64 M, c, .ref sq uq [] off k] ∧ BkL LO gb ro gn o O ∧ BkC LC gb ro gn c F n ∧ sq ∈ LQ ∧ gb sq < uq ∧ uq ≤ gn sq ∧ ro sq uq = some (matA G (off + k) l) ∧ O.length ≤ 6 ∧ n ≤ 8 ∧ (0 ≤ M ∧ M ≤ 2000) ∧ off ≤ 1 ∧ k ≤ 8 ∧ l ≤ 8
section
variable {a : AV} {bs : List Int} {g : Nat} {rb : Ro} {gb : Nat → Nat}
set_option maxHeartbeats 8000000 in
theorem sSpoil (hc : Cod a bs) (hs : Src a bs (rb 8288 g)) : InS Tryz.prog 38 [.ptr 8288 g [] 0] rb gb
  (fun r ro' gn' => Frm WSp g rb gb ro' gn' ∧ Src a bs (ro' 8288 g) ∧ RSp gb r ro' gn') := by
 have hS0 := hs
 refine in_ofS (fn := Tryz.f38) (code := bodyOf Tryz.f38) Tryz.func38 rfl (by kernel_rfl) ?_
 intro sl hs
 have s0 : sl 0 = .ptr 8288 g [] 0 := hs 0
 dsimp only [Tryz.f38, bodyOf, Option.getD]
 simp (maxSteps := 10000000) (disch := first | assumption | omega) only [go_sem, ↓reduceIte, Nat.reduceEqDiff, reduceCtorEq, Nat.reduceAdd, Nat.reduceMul, Nat.reduceLeDiff, zc, Int.reduceToNat, s0]
 refine CLL_inS rfl (sDraw18 hc (Ue hS0)) ?_
 rintro _ ro2 gn2 ⟨hF2, hS2, O, M, F, G, n, so, sp, sq, uo, uv, uc, rfl, hso, h1, h2, h3, hO, hV, hC, BV⟩
 dsimp only at hF2 h1 h2 h3
 have hm := BV.w.m
 have hn1 := BV.w.pos
 have hn8 := BV.w.n8
 have e2 : ro2 4096 (gb 4096 + 1) = some (.bx [nilA, i64 0, nilA, nilA]) := (hF2.kp 4096 _ Ur (by rintro ⟨h, _⟩; omega)).trans Ur
 have hF3 : Frm WSp g rb gb ro2 gn2 := Frm.trans KPt (hF2.monoB (W' := WSp) (by decide))
 have u8224 := hF3.up 8224
 have w4096 : gb 4096 + 1 ≤ gn2 4096 := by have := hF2.up 4096; simpa only [↓za, ↓reduceIte, Nat.reduceEqDiff, zb, reduceCtorEq] using this
 simp only [L18, List.mem_cons, List.not_mem_nil, or_false, Prod.mk.injEq] at hso
 rcases hso with ⟨rfl, rfl, rfl⟩ | ⟨rfl, rfl, rfl⟩ | ⟨rfl, rfl, rfl⟩ | ⟨rfl, rfl, rfl⟩
 ·have hb1 : gb 28704 < uo := by simpa only [↓za, ↓reduceIte, Nat.reduceEqDiff, zb, reduceCtorEq] using h1.1
  have hb2 : gb 28705 < uv := by simpa only [↓za, ↓reduceIte, Nat.reduceEqDiff, zb, reduceCtorEq] using h2.1
  have hb3 : gb 28706 < uc := by simpa only [↓za, ↓reduceIte, Nat.reduceEqDiff, zb, reduceCtorEq] using h3.1
  have h1' := h1.2
  have h2' := h2.2
  have h3' := h3.2
  simp (maxSteps := 10000000) (disch := first | assumption | omega) only [go_sem, ↓reduceIte, Nat.reduceEqDiff, reduceCtorEq, Nat.reduceAdd, Nat.reduceMul, Nat.reduceLeDiff, zc, Int.reduceToNat, s0, hO, hV, hC]
  refine CLL_inS rfl (sNext hc (Ue hS2) (n := 20) (by omega)) ?_
  intro r3 ro3 gn3 hN
  obtain ⟨x, rfl, -, hx, hgE, k3, hS3, f3⟩ := hN.out
  dsimp only at hgE k3 f3
  subst hgE
  have hF4 := f3 WSp rb gb (by decide) KPt
  have c1 : ro3 8224 (gn2 8224 + 1) = some (.bx [.ref 28704 uo [] 0 O.length, i64 M, .ref 28705 uv [] 0 n, .ref 28706 uc [] 0 n]) := (k3 _ _ (by decide)).trans Ur
  have c2 : ro3 4096 (gb 4096 + 1) = some (.bx [nilA, i64 0, nilA, nilA]) := (k3 _ _ (by decide)).trans (Ue e2)
  have c3 : ro3 28704 uo = some (rowL O) := (k3 _ _ (by decide)).trans (Ue hO)
  have c4 : ro3 28705 uv = some (cubeA F n) := (k3 _ _ (by decide)).trans (Ue hV)
  have c5 : ro3 28706 uc = some (matA G n n) := (k3 _ _ (by decide)).trans (Ue hC)
  have u28800 := hF4.up 28800
  by_cases hx0 : x = 0
  ·simp (maxSteps := 10000000) (disch := first | assumption | omega) only [go_sem, ↓reduceIte, Nat.reduceEqDiff, reduceCtorEq, Nat.reduceAdd, Nat.reduceMul, Nat.reduceLeDiff, zc, Int.reduceToNat, s0, eq_true hx0, c1]
   refine CLLD_inS [⟨some [8224], []⟩, ⟨some [8224], []⟩, e0, e0, ⟨some [], [8288]⟩, ⟨some [28706], []⟩, ⟨some [28706], []⟩, e0] (xNext hc hS3 (n := (n : Int)) (by omega) (by kernel_rfl)) rfl ?_ rfl (by kernel_rfl) rfl
   intro r4 ro4 gn4 hN
   obtain ⟨i, rfl, -, hi, hgE, k4, hS4, f4⟩ := hN.out
   dsimp only at hgE k4 f4
   subst hgE
   obtain ⟨i0, i1⟩ := hi (by omega)
   obtain ⟨i, rfl⟩ := Int.eq_ofNat_of_zero_le i0
   have hF5 := f4 WSp rb gb (by decide) hF4
   have d1 := (k4 8224 _ (by decide)).trans c1
   have d2 := (k4 4096 _ (by decide)).trans c2
   have d3 := (k4 28704 _ (by decide)).trans c3
   have d4 := (k4 28705 _ (by decide)).trans c4
   have d5 := (k4 28706 _ (by decide)).trans c5
   have hin : i < n := by omega
   simp (maxSteps := 10000000) (disch := first | assumption | omega) only [go_sem, ↓reduceIte, Nat.reduceEqDiff, reduceCtorEq, Nat.reduceAdd, Nat.reduceMul, Nat.reduceLeDiff, zc, Int.reduceToNat, s0, d5]
   refine FING_of rfl ?_
   simp (maxSteps := 10000000) (disch := first | assumption | omega) only [go_sem, ↓reduceIte, Nat.reduceEqDiff, reduceCtorEq, Nat.reduceAdd, Nat.reduceMul, Nat.reduceLeDiff, zc, Int.reduceToNat, s0, d1, d5]
   refine CLLD_inS [e0, e0, e0, ⟨some [], [8288]⟩, e0, ⟨some [8224], []⟩, ⟨some [8224], []⟩, ⟨some [8224], []⟩, ⟨some [], [28800]⟩, ⟨some [28800], [8288]⟩, ⟨some [28706], []⟩, ⟨some [28706], [28706]⟩] (xNext hc hS4 (n := (n : Int)) (by omega) (by kernel_rfl)) rfl ?_ rfl (by kernel_rfl) rfl
   intro r5 ro5 gn5 hN
   obtain ⟨j, rfl, -, hj, hgE, k5, hS5, f5⟩ := hN.out
   dsimp only at hgE k5 f5
   subst hgE
   obtain ⟨j0, j1⟩ := hj (by omega)
   obtain ⟨j, rfl⟩ := Int.eq_ofNat_of_zero_le j0
   have hF6 := f5 WSp rb gb (by decide) hF5
   have g1 := (k5 8224 _ (by decide)).trans d1
   have g2 := (k5 4096 _ (by decide)).trans d2
   have g3 := (k5 28704 _ (by decide)).trans d3
   have g4 := (k5 28705 _ (by decide)).trans d4
   have g5 := (k5 28706 _ (by decide)).trans d5
   have hjn : j < n := by omega
   simp (maxSteps := 10000000) (disch := first | assumption | omega) only [go_sem, ↓reduceIte, Nat.reduceEqDiff, reduceCtorEq, Nat.reduceAdd, Nat.reduceMul, Nat.reduceLeDiff, zc, Int.reduceToNat, s0, g1, g5]
   refine CLLG_inS (xPick (s2 := 28800) hc (Ue hS5) (xs := [0, 1, -1, M]) Ur (by decide) (by show 0 < 4; decide) (by show 4 < 4611686018427387904; decide) (by kernel_rfl)) ?_ rfl
   intro r6 ro6 gn6 hN
   obtain ⟨z, hz, rfl, hgE, k6, hS6, f6⟩ := hN.out
   dsimp only at hgE k6 f6
   subst hgE
   have hF7 := f6 WSp rb gb (by decide) KPt
   have p1 := (k6 8224 (gn2 8224 + 1) (by decide)).trans (Ue g1)
   have p2 := (k6 4096 (gb 4096 + 1) (by decide)).trans (Ue g2)
   have p3 := (k6 28704 uo (by decide)).trans (Ue g3)
   have p4 := (k6 28705 uv (by decide)).trans (Ue g4)
   have p5 := (k6 28706 uc (by decide)).trans (Ue g5)
   generalize atI [0, 1, -1, M] z = w'
   simp (maxSteps := 10000000) (disch := first | assumption | omega) only [go_sem, ↓reduceIte, Nat.reduceEqDiff, reduceCtorEq, Nat.reduceAdd, Nat.reduceMul, Nat.reduceLeDiff, zc, Int.reduceToNat, s0, p1, p5, mat_cells p5 hin, mat_bx p5 hin, mat_wr p5 hin hjn]
   refine FING_of rfl ?_
   simp (maxSteps := 10000000) (disch := first | assumption | omega) only [go_sem, ↓reduceIte, Nat.reduceEqDiff, reduceCtorEq, Nat.reduceAdd, Nat.reduceMul, Nat.reduceLeDiff, zc, Int.reduceToNat, s0, p1, p2, p3, p4]
   refine RETS_D Ur (upr_same _ _ _ _) rfl ⟨KPt, by simp only [↓za, ↓reduceIte, Nat.reduceEqDiff, zb, reduceCtorEq]; exact hS6, _, _, O, M, F, n, 28706, uc, 0, n, n, upd2 G i j w', rfl, ⟨_, _, rfl, by decide, hb1, h1', ?_⟩, ⟨_, _, rfl, by decide, hb2, h2', ?_⟩, by decide, hb3, h3', ?_, Nat.le_trans BV.w.l (by decide), BV.w.n8, ⟨by omega, by omega⟩, by omega, BV.w.n8, BV.w.n8⟩
   ·simp only [↓za, ↓reduceIte, Nat.reduceEqDiff, zb, reduceCtorEq]; exact p3
   ·simp only [↓za, ↓reduceIte, Nat.reduceEqDiff, zb, reduceCtorEq]; exact p4
   ·simp only [↓za, ↓reduceIte, Nat.reduceEqDiff, zb, reduceCtorEq, Nat.zero_add]
  ·by_cases hx1 : x = 1
   ·subst hx1
    simp (maxSteps := 10000000) (disch := first | assumption | omega) only [go_sem, ↓reduceIte, Nat.reduceEqDiff, reduceCtorEq, Nat.reduceAdd, Nat.reduceMul, Nat.reduceLeDiff, zc, Int.reduceToNat, s0, c1]
    refine CLL_inS rfl (sDrawAny17 hc (Ue hS3)) ?_
    rintro _ ro4 gn4 ⟨hF5, hS5, o', c', O', M', F', n', rfl, ⟨so', uo', rfl, q1, q2, q3, q4⟩, ⟨sp', up', rfl, q5, q6, q7, q8⟩, q9, q10, q11⟩
    dsimp only at hF5 q2 q6
    have hF6 : Frm WSp g rb gb ro4 gn4 := Frm.trans hF4 (hF5.monoB (W' := WSp) (by decide))
    have d1 := (hF5.kp 8224 (gn2 8224 + 1) Ur (by rintro ⟨h, _⟩; omega)).trans c1
    have d2 := (hF5.kp 4096 (gb 4096 + 1) (Ue w4096) (by rintro ⟨h, _⟩; omega)).trans c2
    have d5 := (hF5.kp 28706 uc (Ue h3') (by rintro ⟨h, _⟩; omega)).trans c5
    have n1 : ¬ so' = 8224 := by rintro rfl; exact absurd q1 (by decide)
    have n2 : ¬ so' = 4096 := by rintro rfl; exact absurd q1 (by decide)
    have n3 : ¬ sp' = 8224 := by rintro rfl; exact absurd q5 (by decide)
    have n4 : ¬ sp' = 4096 := by rintro rfl; exact absurd q5 (by decide)
    have i1 : gb so' < uo' := Nat.lt_of_le_of_lt (hF4.up so') q2
    have i2 : gb sp' < up' := Nat.lt_of_le_of_lt (hF4.up sp') q6
    have i3 : uc ≤ gn4 28706 := Nat.le_trans h3' (Nat.le_trans Ur (hF5.up 28706))
    simp (maxSteps := 10000000) (disch := first | assumption | omega) only [go_sem, ↓reduceIte, Nat.reduceEqDiff, reduceCtorEq, Nat.reduceAdd, Nat.reduceMul, Nat.reduceLeDiff, zc, Int.reduceToNat, s0, d1, d2, d5, q4, q8, eq_false n1, eq_false n2, eq_false n3, eq_false n4]
    refine RETS_D Ur (upr_same _ _ _ _) rfl ⟨KPt, by simp only [↓za, ↓reduceIte, Nat.reduceEqDiff, zb, reduceCtorEq]; exact hS5, _, _, O', M', F', n', 28706, uc, 0, n, n, G, rfl, ⟨_, _, rfl, inLO _ q1, i1, q3, ?_⟩, ⟨_, _, rfl, inLC _ q5, i2, q7, ?_⟩, by decide, hb3, i3, ?_, q9, q10, q11, by omega, BV.w.n8, BV.w.n8⟩
    all_goals simp only [↓za, ↓reduceIte, Nat.reduceEqDiff, zb, reduceCtorEq, Nat.zero_add, eq_false n1, eq_false n2, eq_false n3, eq_false n4]
    all_goals assumption
   ·by_cases hx2 : x = 2
    ·subst hx2
     have hn1 : (0 : Int) ≤ 1 ∧ (1 : Int) ≤ (n : Int) := by omega
     have en : ((n : Int) - 1).toNat = n - 1 := by omega
     have hcs : (ro3.cells 28706 uc []).isSome = true := by unfold Ro.cells Ro.at; rw [c5]; rfl
     simp (maxSteps := 10000000) (disch := first | assumption | omega) only [go_sem, ↓reduceIte, Nat.reduceEqDiff, reduceCtorEq, Nat.reduceAdd, Nat.reduceMul, Nat.reduceLeDiff, zc, Int.reduceToNat, s0, c1, c2, c3, c4, c5, hn1, en, hcs, Option.map_some, Option.map_none, Int.toNat_one]
     have e1n : 1 + (n - 1) = n := by omega
     refine RETS_D Ur (upr_same _ _ _ _) rfl ⟨(hF4.wr 8224 _ _ (by decide) (by omega)).wr 4096 _ _ (by decide) (by omega), by simp only [↓za, ↓reduceIte, Nat.reduceEqDiff, zb, reduceCtorEq]; exact hS3, _, _, O, M, F, n, 28706, uc, 1, n - 1, n, G, rfl, ⟨_, _, rfl, by decide, hb1, h1', ?_⟩, ⟨_, _, rfl, by decide, hb2, h2', ?_⟩, by decide, hb3, h3', ?_, Nat.le_trans BV.w.l (by decide), BV.w.n8, ⟨by omega, by omega⟩, by omega, by omega, BV.w.n8⟩
     all_goals simp only [↓za, ↓reduceIte, Nat.reduceEqDiff, zb, reduceCtorEq, e1n]
     all_goals assumption
    ·simp (maxSteps := 10000000) (disch := first | assumption | omega) only [go_sem, ↓reduceIte, Nat.reduceEqDiff, reduceCtorEq, Nat.reduceAdd, Nat.reduceMul, Nat.reduceLeDiff, zc, Int.reduceToNat, s0, eq_false hx0, eq_false hx1, eq_false hx2, c1, c2, c3, c4, c5]
     refine RETS_D Ur (upr_same _ _ _ _) rfl ⟨KPt, by simp only [↓za, ↓reduceIte, Nat.reduceEqDiff, zb, reduceCtorEq]; exact hS3, _, _, O, M, F, n, 28706, uc, 0, n, n, G, rfl, ⟨_, _, rfl, by decide, hb1, h1', ?_⟩, ⟨_, _, rfl, by decide, hb2, h2', ?_⟩, by decide, hb3, h3', ?_, Nat.le_trans BV.w.l (by decide), BV.w.n8, ⟨by omega, by omega⟩, by omega, BV.w.n8, BV.w.n8⟩
     all_goals simp only [↓za, ↓reduceIte, Nat.reduceEqDiff, zb, reduceCtorEq, Nat.zero_add]
     all_goals assumption
 ·have hb1 : gb 41168 < uo := by simpa only [↓za, ↓reduceIte, Nat.reduceEqDiff, zb, reduceCtorEq] using h1.1
  have hb2 : gb 41169 < uv := by simpa only [↓za, ↓reduceIte, Nat.reduceEqDiff, zb, reduceCtorEq] using h2.1
  have hb3 : gb 41170 < uc := by simpa only [↓za, ↓reduceIte, Nat.reduceEqDiff, zb, reduceCtorEq] using h3.1
  have h1' := h1.2
  have h2' := h2.2
  have h3' := h3.2
  simp (maxSteps := 10000000) (disch := first | assumption | omega) only [go_sem, ↓reduceIte, Nat.reduceEqDiff, reduceCtorEq, Nat.reduceAdd, Nat.reduceMul, Nat.reduceLeDiff, zc, Int.reduceToNat, s0, hO, hV, hC]
  refine CLL_inS rfl (sNext hc (Ue hS2) (n := 20) (by omega)) ?_
  intro r3 ro3 gn3 hN
  obtain ⟨x, rfl, -, hx, hgE, k3, hS3, f3⟩ := hN.out
  dsimp only at hgE k3 f3
  subst hgE
  have hF4 := f3 WSp rb gb (by decide) KPt
  have c1 : ro3 8224 (gn2 8224 + 1) = some (.bx [.ref 41168 uo [] 0 O.length, i64 M, .ref 41169 uv [] 0 n, .ref 41170 uc [] 0 n]) := (k3 _ _ (by decide)).trans Ur
  have c2 : ro3 4096 (gb 4096 + 1) = some (.bx [nilA, i64 0, nilA, nilA]) := (k3 _ _ (by decide)).trans (Ue e2)
  have c3 : ro3 41168 uo = some (rowL O) := (k3 _ _ (by decide)).trans (Ue hO)
  have c4 : ro3 41169 uv = some (cubeA F n) := (k3 _ _ (by decide)).trans (Ue hV)
  have c5 : ro3 41170 uc = some (matA G n n) := (k3 _ _ (by decide)).trans (Ue hC)
  have u28800 := hF4.up 28800
  by_cases hx0 : x = 0
  ·simp (maxSteps := 10000000) (disch := first | assumption | omega) only [go_sem, ↓reduceIte, Nat.reduceEqDiff, reduceCtorEq, Nat.reduceAdd, Nat.reduceMul, Nat.reduceLeDiff, zc, Int.reduceToNat, s0, eq_true hx0, c1]
   refine CLLD_inS [⟨some [8224], []⟩, ⟨some [8224], []⟩, e0, e0, ⟨some [], [8288]⟩, ⟨some [41170], []⟩, ⟨some [41170], []⟩, e0] (xNext hc hS3 (n := (n : Int)) (by omega) (by kernel_rfl)) rfl ?_ rfl (by kernel_rfl) rfl
   intro r4 ro4 gn4 hN
   obtain ⟨i, rfl, -, hi, hgE, k4, hS4, f4⟩ := hN.out
   dsimp only at hgE k4 f4
   subst hgE
   obtain ⟨i0, i1⟩ := hi (by omega)
   obtain ⟨i, rfl⟩ := Int.eq_ofNat_of_zero_le i0
   have hF5 := f4 WSp rb gb (by decide) hF4
   have d1 := (k4 8224 _ (by decide)).trans c1
   have d2 := (k4 4096 _ (by decide)).trans c2
   have d3 := (k4 41168 _ (by decide)).trans c3
   have d4 := (k4 41169 _ (by decide)).trans c4
   have d5 := (k4 41170 _ (by decide)).trans c5
   have hin : i < n := by omega
   simp (maxSteps := 10000000) (disch := first | assumption | omega) only [go_sem, ↓reduceIte, Nat.reduceEqDiff, reduceCtorEq, Nat.reduceAdd, Nat.reduceMul, Nat.reduceLeDiff, zc, Int.reduceToNat, s0, d5]
   refine FING_of rfl ?_
   simp (maxSteps := 10000000) (disch := first | assumption | omega) only [go_sem, ↓reduceIte, Nat.reduceEqDiff, reduceCtorEq, Nat.reduceAdd, Nat.reduceMul, Nat.reduceLeDiff, zc, Int.reduceToNat, s0, d1, d5]
   refine CLLD_inS [e0, e0, e0, ⟨some [], [8288]⟩, e0, ⟨some [8224], []⟩, ⟨some [8224], []⟩, ⟨some [8224], []⟩, ⟨some [], [28800]⟩, ⟨some [28800], [8288]⟩, ⟨some [41170], []⟩, ⟨some [41170], [41170]⟩] (xNext hc hS4 (n := (n : Int)) (by omega) (by kernel_rfl)) rfl ?_ rfl (by kernel_rfl) rfl
   intro r5 ro5 gn5 hN
   obtain ⟨j, rfl, -, hj, hgE, k5, hS5, f5⟩ := hN.out
   dsimp only at hgE k5 f5
   subst hgE
   obtain ⟨j0, j1⟩ := hj (by omega)
   obtain ⟨j, rfl⟩ := Int.eq_ofNat_of_zero_le j0
   have hF6 := f5 WSp rb gb (by decide) hF5
   have g1 := (k5 8224 _ (by decide)).trans d1
   have g2 := (k5 4096 _ (by decide)).trans d2
   have g3 := (k5 41168 _ (by decide)).trans d3
   have g4 := (k5 41169 _ (by decide)).trans d4
   have g5 := (k5 41170 _ (by decide)).trans d5
   have hjn : j < n := by omega
   simp (maxSteps := 10000000) (disch := first | assumption | omega) only [go_sem, ↓reduceIte, Nat.reduceEqDiff, reduceCtorEq, Nat.reduceAdd, Nat.reduceMul, Nat.reduceLeDiff, zc, Int.reduceToNat, s0, g1, g5]
   refine CLLG_inS (xPick (s2 := 28800) hc (Ue hS5) (xs := [0, 1, -1, M]) Ur (by decide) (by show 0 < 4; decide) (by show 4 < 4611686018427387904; decide) (by kernel_rfl)) ?_ rfl
   intro r6 ro6 gn6 hN
   obtain ⟨z, hz, rfl, hgE, k6, hS6, f6⟩ := hN.out
   dsimp only at hgE k6 f6
   subst hgE
   have hF7 := f6 WSp rb gb (by decide) KPt
   have p1 := (k6 8224 (gn2 8224 + 1) (by decide)).trans (Ue g1)
   have p2 := (k6 4096 (gb 4096 + 1) (by decide)).trans (Ue g2)
   have p3 := (k6 41168 uo (by decide)).trans (Ue g3)
   have p4 := (k6 41169 uv (by decide)).trans (Ue g4)
   have p5 := (k6 41170 uc (by decide)).trans (Ue g5)
   generalize atI [0, 1, -1, M] z = w'
   simp (maxSteps := 10000000) (disch := first | assumption | omega) only [go_sem, ↓reduceIte, Nat.reduceEqDiff, reduceCtorEq, Nat.reduceAdd, Nat.reduceMul, Nat.reduceLeDiff, zc, Int.reduceToNat, s0, p1, p5, mat_cells p5 hin, mat_bx p5 hin, mat_wr p5 hin hjn]
   refine FING_of rfl ?_
   simp (maxSteps := 10000000) (disch := first | assumption | omega) only [go_sem, ↓reduceIte, Nat.reduceEqDiff, reduceCtorEq, Nat.reduceAdd, Nat.reduceMul, Nat.reduceLeDiff, zc, Int.reduceToNat, s0, p1, p2, p3, p4]
   refine RETS_D Ur (upr_same _ _ _ _) rfl ⟨KPt, by simp only [↓za, ↓reduceIte, Nat.reduceEqDiff, zb, reduceCtorEq]; exact hS6, _, _, O, M, F, n, 41170, uc, 0, n, n, upd2 G i j w', rfl, ⟨_, _, rfl, by decide, hb1, h1', ?_⟩, ⟨_, _, rfl, by decide, hb2, h2', ?_⟩, by decide, hb3, h3', ?_, Nat.le_trans BV.w.l (by decide), BV.w.n8, ⟨by omega, by omega⟩, by omega, BV.w.n8, BV.w.n8⟩
   ·simp only [↓za, ↓reduceIte, Nat.reduceEqDiff, zb, reduceCtorEq]; exact p3
   ·simp only [↓za, ↓reduceIte, Nat.reduceEqDiff, zb, reduceCtorEq]; exact p4
   ·simp only [↓za, ↓reduceIte, Nat.reduceEqDiff, zb, reduceCtorEq, Nat.zero_add]
  ·by_cases hx1 : x = 1
   ·subst hx1
    simp (maxSteps := 10000000) (disch := first | assumption | omega) only [go_sem, ↓reduceIte, Nat.reduceEqDiff, reduceCtorEq, Nat.reduceAdd, Nat.reduceMul, Nat.reduceLeDiff, zc, Int.reduceToNat, s0, c1]
    refine CLL_inS rfl (sDrawAny17 hc (Ue hS3)) ?_
    rintro _ ro4 gn4 ⟨hF5, hS5, o', c', O', M', F', n', rfl, ⟨so', uo', rfl, q1, q2, q3, q4⟩, ⟨sp', up', rfl, q5, q6, q7, q8⟩, q9, q10, q11⟩
    dsimp only at hF5 q2 q6
    have hF6 : Frm WSp g rb gb ro4 gn4 := Frm.trans hF4 (hF5.monoB (W' := WSp) (by decide))
    have d1 := (hF5.kp 8224 (gn2 8224 + 1) Ur (by rintro ⟨h, _⟩; omega)).trans c1
    have d2 := (hF5.kp 4096 (gb 4096 + 1) (Ue w4096) (by rintro ⟨h, _⟩; omega)).trans c2
    have d5 := (hF5.kp 41170 uc (Ue h3') (by rintro ⟨h, _⟩; omega)).trans c5
    have n1 : ¬ so' = 8224 := by rintro rfl; exact absurd q1 (by decide)
    have n2 : ¬ so' = 4096 := by rintro rfl; exact absurd q1 (by decide)
    have n3 : ¬ sp' = 8224 := by rintro rfl; exact absurd q5 (by decide)
    have n4 : ¬ sp' = 4096 := by rintro rfl; exact absurd q5 (by decide)
    have i1 : gb so' < uo' := Nat.lt_of_le_of_lt (hF4.up so') q2
    have i2 : gb sp' < up' := Nat.lt_of_le_of_lt (hF4.up sp') q6
    have i3 : uc ≤ gn4 41170 := Nat.le_trans h3' (Nat.le_trans Ur (hF5.up 41170))
    simp (maxSteps := 10000000) (disch := first | assumption | omega) only [go_sem, ↓reduceIte, Nat.reduceEqDiff, reduceCtorEq, Nat.reduceAdd, Nat.reduceMul, Nat.reduceLeDiff, zc, Int.reduceToNat, s0, d1, d2, d5, q4, q8, eq_false n1, eq_false n2, eq_false n3, eq_false n4]
    refine RETS_D Ur (upr_same _ _ _ _) rfl ⟨KPt, by simp only [↓za, ↓reduceIte, Nat.reduceEqDiff, zb, reduceCtorEq]; exact hS5, _, _, O', M', F', n', 41170, uc, 0, n, n, G, rfl, ⟨_, _, rfl, inLO _ q1, i1, q3, ?_⟩, ⟨_, _, rfl, inLC _ q5, i2, q7, ?_⟩, by decide, hb3, i3, ?_, q9, q10, q11, by omega, BV.w.n8, BV.w.n8⟩
    all_goals simp only [↓za, ↓reduceIte, Nat.reduceEqDiff, zb, reduceCtorEq, Nat.zero_add, eq_false n1, eq_false n2, eq_false n3, eq_false n4]
    all_goals assumption
   ·by_cases hx2 : x = 2
    ·subst hx2
     have hn1 : (0 : Int) ≤ 1 ∧ (1 : Int) ≤ (n : Int) := by omega
     have en : ((n : Int) - 1).toNat = n - 1 := by omega
     have hcs : (ro3.cells 41170 uc []).isSome = true := by unfold Ro.cells Ro.at; rw [c5]; rfl
     simp (maxSteps := 10000000) (disch := first | assumption | omega) only [go_sem, ↓reduceIte, Nat.reduceEqDiff, reduceCtorEq, Nat.reduceAdd, Nat.reduceMul, Nat.reduceLeDiff, zc, Int.reduceToNat, s0, c1, c2, c3, c4, c5, hn1, en, hcs, Option.map_some, Option.map_none, Int.toNat_one]
     have e1n : 1 + (n - 1) = n := by omega
     refine RETS_D Ur (upr_same _ _ _ _) rfl ⟨(hF4.wr 8224 _ _ (by decide) (by omega)).wr 4096 _ _ (by decide) (by omega), by simp only [↓za, ↓reduceIte, Nat.reduceEqDiff, zb, reduceCtorEq]; exact hS3, _, _, O, M, F, n, 41170, uc, 1, n - 1, n, G, rfl, ⟨_, _, rfl, by decide, hb1, h1', ?_⟩, ⟨_, _, rfl, by decide, hb2, h2', ?_⟩, by decide, hb3, h3', ?_, Nat.le_trans BV.w.l (by decide), BV.w.n8, ⟨by omega, by omega⟩, by omega, by omega, BV.w.n8⟩
     all_goals simp only [↓za, ↓reduceIte, Nat.reduceEqDiff, zb, reduceCtorEq, e1n]
     all_goals assumption
    ·simp (maxSteps := 10000000) (disch := first | assumption | omega) only [go_sem, ↓reduceIte, Nat.reduceEqDiff, reduceCtorEq, Nat.reduceAdd, Nat.reduceMul, Nat.reduceLeDiff, zc, Int.reduceToNat, s0, eq_false hx0, eq_false hx1, eq_false hx2, c1, c2, c3, c4, c5]
     refine RETS_D Ur (upr_same _ _ _ _) rfl ⟨KPt, by simp only [↓za, ↓reduceIte, Nat.reduceEqDiff, zb, reduceCtorEq]; exact hS3, _, _, O, M, F, n, 41170, uc, 0, n, n, G, rfl, ⟨_, _, rfl, by decide, hb1, h1', ?_⟩, ⟨_, _, rfl, by decide, hb2, h2', ?_⟩, by decide, hb3, h3', ?_, Nat.le_trans BV.w.l (by decide), BV.w.n8, ⟨by omega, by omega⟩, by omega, BV.w.n8, BV.w.n8⟩
     all_goals simp only [↓za, ↓reduceIte, Nat.reduceEqDiff, zb, reduceCtorEq, Nat.zero_add]
     all_goals assumption
 ·have hb1 : gb 12304 < uo := by simpa only [↓za, ↓reduceIte, Nat.reduceEqDiff, zb, reduceCtorEq] using h1.1
  have hb2 : gb 12352 < uv := by simpa only [↓za, ↓reduceIte, Nat.reduceEqDiff, zb, reduceCtorEq] using h2.1
  have hb3 : gb 127040 < uc := by simpa only [↓za, ↓reduceIte, Nat.reduceEqDiff, zb, reduceCtorEq] using h3.1
  have h1' := h1.2
  have h2' := h2.2
  have h3' := h3.2
  simp (maxSteps := 10000000) (disch := first | assumption | omega) only [go_sem, ↓reduceIte, Nat.reduceEqDiff, reduceCtorEq, Nat.reduceAdd, Nat.reduceMul, Nat.reduceLeDiff, zc, Int.reduceToNat, s0, hO, hV, hC]
  refine CLL_inS rfl (sNext hc (Ue hS2) (n := 20) (by omega)) ?_
  intro r3 ro3 gn3 hN
  obtain ⟨x, rfl, -, hx, hgE, k3, hS3, f3⟩ := hN.out
  dsimp only at hgE k3 f3
  subst hgE
  have hF4 := f3 WSp rb gb (by decide) KPt
  have c1 : ro3 8224 (gn2 8224 + 1) = some (.bx [.ref 12304 uo [] 0 O.length, i64 M, .ref 12352 uv [] 0 n, .ref 127040 uc [] 0 n]) := (k3 _ _ (by decide)).trans Ur
  have c2 : ro3 4096 (gb 4096 + 1) = some (.bx [nilA, i64 0, nilA, nilA]) := (k3 _ _ (by decide)).trans (Ue e2)
  have c3 : ro3 12304 uo = some (rowL O) := (k3 _ _ (by decide)).trans (Ue hO)
  have c4 : ro3 12352 uv = some (cubeA F n) := (k3 _ _ (by decide)).trans (Ue hV)
  have c5 : ro3 127040 uc = some (matA G n n) := (k3 _ _ (by decide)).trans (Ue hC)
  have u28800 := hF4.up 28800
  by_cases hx0 : x = 0
  ·simp (maxSteps := 10000000) (disch := first | assumption | omega) only [go_sem, ↓reduceIte, Nat.reduceEqDiff, reduceCtorEq, Nat.reduceAdd, Nat.reduceMul, Nat.reduceLeDiff, zc, Int.reduceToNat, s0, eq_true hx0, c1]
   refine CLLD_inS [⟨some [8224], []⟩, ⟨some [8224], []⟩, e0, e0, ⟨some [], [8288]⟩, ⟨some [127040], []⟩, ⟨some [127040], []⟩, e0] (xNext hc hS3 (n := (n : Int)) (by omega) (by kernel_rfl)) rfl ?_ rfl (by kernel_rfl) rfl
   intro r4 ro4 gn4 hN
   obtain ⟨i, rfl, -, hi, hgE, k4, hS4, f4⟩ := hN.out
   dsimp only at hgE k4 f4
   subst hgE
   obtain ⟨i0, i1⟩ := hi (by omega)
   obtain ⟨i, rfl⟩ := Int.eq_ofNat_of_zero_le i0
   have hF5 := f4 WSp rb gb (by decide) hF4
   have d1 := (k4 8224 _ (by decide)).trans c1
   have d2 := (k4 4096 _ (by decide)).trans c2
   have d3 := (k4 12304 _ (by decide)).trans c3
   have d4 := (k4 12352 _ (by decide)).trans c4
   have d5 := (k4 127040 _ (by decide)).trans c5
   have hin : i < n := by omega
   simp (maxSteps := 10000000) (disch := first | assumption | omega) only [go_sem, ↓reduceIte, Nat.reduceEqDiff, reduceCtorEq, Nat.reduceAdd, Nat.reduceMul, Nat.reduceLeDiff, zc, Int.reduceToNat, s0, d5]
   refine FING_of rfl ?_
   simp (maxSteps := 10000000) (disch := first | assumption | omega) only [go_sem, ↓reduceIte, Nat.reduceEqDiff, reduceCtorEq, Nat.reduceAdd, Nat.reduceMul, Nat.reduceLeDiff, zc, Int.reduceToNat, s0, d1, d5]
   refine CLLD_inS [e0, e0, e0, ⟨some [], [8288]⟩, e0, ⟨some [8224], []⟩, ⟨some [8224], []⟩, ⟨some [8224], []⟩, ⟨some [], [28800]⟩, ⟨some [28800], [8288]⟩, ⟨some [127040], []⟩, ⟨some [127040], [127040]⟩] (xNext hc hS4 (n := (n : Int)) (by omega) (by kernel_rfl)) rfl ?_ rfl (by kernel_rfl) rfl
   intro r5 ro5 gn5 hN
   obtain ⟨j, rfl, -, hj, hgE, k5, hS5, f5⟩ := hN.out
   dsimp only at hgE k5 f5
   subst hgE
   obtain ⟨j0, j1⟩ := hj (by omega)
   obtain ⟨j, rfl⟩ := Int.eq_ofNat_of_zero_le j0
   have hF6 := f5 WSp rb gb (by decide) hF5
   have g1 := (k5 8224 _ (by decide)).trans d1
   have g2 := (k5 4096 _ (by decide)).trans d2
   have g3 := (k5 12304 _ (by decide)).trans d3
   have g4 := (k5 12352 _ (by decide)).trans d4
   have g5 := (k5 127040 _ (by decide)).trans d5
   have hjn : j < n := by omega
   simp (maxSteps := 10000000) (disch := first | assumption | omega) only [go_sem, ↓reduceIte, Nat.reduceEqDiff, reduceCtorEq, Nat.reduceAdd, Nat.reduceMul, Nat.reduceLeDiff, zc, Int.reduceToNat, s0, g1, g5]
   refine CLLG_inS (xPick (s2 := 28800) hc (Ue hS5) (xs := [0, 1, -1, M]) Ur (by decide) (by show 0 < 4; decide) (by show 4 < 4611686018427387904; decide) (by kernel_rfl)) ?_ rfl
   intro r6 ro6 gn6 hN
   obtain ⟨z, hz, rfl, hgE, k6, hS6, f6⟩ := hN.out
   dsimp only at hgE k6 f6
   subst hgE
   have hF7 := f6 WSp rb gb (by decide) KPt
   have p1 := (k6 8224 (gn2 8224 + 1) (by decide)).trans (Ue g1)
   have p2 := (k6 4096 (gb 4096 + 1) (by decide)).trans (Ue g2)
   have p3 := (k6 12304 uo (by decide)).trans (Ue g3)
   have p4 := (k6 12352 uv (by decide)).trans (Ue g4)
   have p5 := (k6 127040 uc (by decide)).trans (Ue g5)
   generalize atI [0, 1, -1, M] z = w'
   simp (maxSteps := 10000000) (disch := first | assumption | omega) only [go_sem, ↓reduceIte, Nat.reduceEqDiff, reduceCtorEq, Nat.reduceAdd, Nat.reduceMul, Nat.reduceLeDiff, zc, Int.reduceToNat, s0, p1, p5, mat_cells p5 hin, mat_bx p5 hin, mat_wr p5 hin hjn]
   refine FING_of rfl ?_
   simp (maxSteps := 10000000) (disch := first | assumption | omega) only [go_sem, ↓reduceIte, Nat.reduceEqDiff, reduceCtorEq, Nat.reduceAdd, Nat.reduceMul, Nat.reduceLeDiff, zc, Int.reduceToNat, s0, p1, p2, p3, p4]
   refine RETS_D Ur (upr_same _ _ _ _) rfl ⟨KPt, by simp only [↓za, ↓reduceIte, Nat.reduceEqDiff, zb, reduceCtorEq]; exact hS6, _, _, O, M, F, n, 127040, uc, 0, n, n, upd2 G i j w', rfl, ⟨_, _, rfl, by decide, hb1, h1', ?_⟩, ⟨_, _, rfl, by decide, hb2, h2', ?_⟩, by decide, hb3, h3', ?_, Nat.le_trans BV.w.l (by decide), BV.w.n8, ⟨by omega, by omega⟩, by omega, BV.w.n8, BV.w.n8⟩
   ·simp only [↓za, ↓reduceIte, Nat.reduceEqDiff, zb, reduceCtorEq]; exact p3
   ·simp only [↓za, ↓reduceIte, Nat.reduceEqDiff, zb, reduceCtorEq]; exact p4
   ·simp only [↓za, ↓reduceIte, Nat.reduceEqDiff, zb, reduceCtorEq, Nat.zero_add]
  ·by_cases hx1 : x = 1
   ·subst hx1
    simp (maxSteps := 10000000) (disch := first | assumption | omega) only [go_sem, ↓reduceIte, Nat.reduceEqDiff, reduceCtorEq, Nat.reduceAdd, Nat.reduceMul, Nat.reduceLeDiff, zc, Int.reduceToNat, s0, c1]
    refine CLL_inS rfl (sDrawAny17 hc (Ue hS3)) ?_
    rintro _ ro4 gn4 ⟨hF5, hS5, o', c', O', M', F', n', rfl, ⟨so', uo', rfl, q1, q2, q3, q4⟩, ⟨sp', up', rfl, q5, q6, q7, q8⟩, q9, q10, q11⟩
    dsimp only at hF5 q2 q6
    have hF6 : Frm WSp g rb gb ro4 gn4 := Frm.trans hF4 (hF5.monoB (W' := WSp) (by decide))
    have d1 := (hF5.kp 8224 (gn2 8224 + 1) Ur (by rintro ⟨h, _⟩; omega)).trans c1
    have d2 := (hF5.kp 4096 (gb 4096 + 1) (Ue w4096) (by rintro ⟨h, _⟩; omega)).trans c2
    have d5 := (hF5.kp 127040 uc (Ue h3') (by rintro ⟨h, _⟩; omega)).trans c5
    have n1 : ¬ so' = 8224 := by rintro rfl; exact absurd q1 (by decide)
    have n2 : ¬ so' = 4096 := by rintro rfl; exact absurd q1 (by decide)
    have n3 : ¬ sp' = 8224 := by rintro rfl; exact absurd q5 (by decide)
    have n4 : ¬ sp' = 4096 := by rintro rfl; exact absurd q5 (by decide)
    have i1 : gb so' < uo' := Nat.lt_of_le_of_lt (hF4.up so') q2
    have i2 : gb sp' < up' := Nat.lt_of_le_of_lt (hF4.up sp') q6
    have i3 : uc ≤ gn4 127040 := Nat.le_trans h3' (Nat.le_trans Ur (hF5.up 127040))
    simp (maxSteps := 10000000) (disch := first | assumption | omega) only [go_sem, ↓reduceIte, Nat.reduceEqDiff, reduceCtorEq, Nat.reduceAdd, Nat.reduceMul, Nat.reduceLeDiff, zc, Int.reduceToNat, s0, d1, d2, d5, q4, q8, eq_false n1, eq_false n2, eq_false n3, eq_false n4]
    refine RETS_D Ur (upr_same _ _ _ _) rfl ⟨KPt, by simp only [↓za, ↓reduceIte, Nat.reduceEqDiff, zb, reduceCtorEq]; exact hS5, _, _, O', M', F', n', 127040, uc, 0, n, n, G, rfl, ⟨_, _, rfl, inLO _ q1, i1, q3, ?_⟩, ⟨_, _, rfl, inLC _ q5, i2, q7, ?_⟩, by decide, hb3, i3, ?_, q9, q10, q11, by omega, BV.w.n8, BV.w.n8⟩
    all_goals simp only [↓za, ↓reduceIte, Nat.reduceEqDiff, zb, reduceCtorEq, Nat.zero_add, eq_false n1, eq_false n2, eq_false n3, eq_false n4]
    all_goals assumption
   ·by_cases hx2 : x = 2
    ·subst hx2
     have hn1 : (0 : Int) ≤ 1 ∧ (1 : Int) ≤ (n : Int) := by omega
     have en : ((n : Int) - 1).toNat = n - 1 := by omega
     have hcs : (ro3.cells 127040 uc []).isSome = true := by unfold Ro.cells Ro.at; rw [c5]; rfl
     simp (maxSteps := 10000000) (disch := first | assumption | omega) only [go_sem, ↓reduceIte, Nat.reduceEqDiff, reduceCtorEq, Nat.reduceAdd, Nat.reduceMul, Nat.reduceLeDiff, zc, Int.reduceToNat, s0, c1, c2, c3, c4, c5, hn1, en, hcs, Option.map_some, Option.map_none, Int.toNat_one]
     have e1n : 1 + (n - 1) = n := by omega
     refine RETS_D Ur (upr_same _ _ _ _) rfl ⟨(hF4.wr 8224 _ _ (by decide) (by omega)).wr 4096 _ _ (by decide) (by omega), by simp only [↓za, ↓reduceIte, Nat.reduceEqDiff, zb, reduceCtorEq]; exact hS3, _, _, O, M, F, n, 127040, uc, 1, n - 1, n, G, rfl, ⟨_, _, rfl, by decide, hb1, h1', ?_⟩, ⟨_, _, rfl, by decide, hb2, h2', ?_⟩, by decide, hb3, h3', ?_, Nat.le_trans BV.w.l (by decide), BV.w.n8, ⟨by omega, by omega⟩, by omega, by omega, BV.w.n8⟩
     all_goals simp only [↓za, ↓reduceIte, Nat.reduceEqDiff, zb, reduceCtorEq, e1n]
     all_goals assumption
    ·simp (maxSteps := 10000000) (disch := first | assumption | omega) only [go_sem, ↓reduceIte, Nat.reduceEqDiff, reduceCtorEq, Nat.reduceAdd, Nat.reduceMul, Nat.reduceLeDiff, zc, Int.reduceToNat, s0, eq_false hx0, eq_false hx1, eq_false hx2, c1, c2, c3, c4, c5]
     refine RETS_D Ur (upr_same _ _ _ _) rfl ⟨KPt, by simp only [↓za, ↓reduceIte, Nat.reduceEqDiff, zb, reduceCtorEq]; exact hS3, _, _, O, M, F, n, 127040, uc, 0, n, n, G, rfl, ⟨_, _, rfl, by decide, hb1, h1', ?_⟩, ⟨_, _, rfl, by decide, hb2, h2', ?_⟩, by decide, hb3, h3', ?_, Nat.le_trans BV.w.l (by decide), BV.w.n8, ⟨by omega, by omega⟩, by omega, BV.w.n8, BV.w.n8⟩
     all_goals simp only [↓za, ↓reduceIte, Nat.reduceEqDiff, zb, reduceCtorEq, Nat.zero_add]
     all_goals assumption
 ·have hb1 : gb 69776 < uo := by simpa only [↓za, ↓reduceIte, Nat.reduceEqDiff, zb, reduceCtorEq] using h1.1
  have hb2 : gb 69777 < uv := by simpa only [↓za, ↓reduceIte, Nat.reduceEqDiff, zb, reduceCtorEq] using h2.1
  have hb3 : gb 69778 < uc := by simpa only [↓za, ↓reduceIte, Nat.reduceEqDiff, zb, reduceCtorEq] using h3.1
  have h1' := h1.2
  have h2' := h2.2
  have h3' := h3.2
  simp (maxSteps := 10000000) (disch := first | assumption | omega) only [go_sem, ↓reduceIte, Nat.reduceEqDiff, reduceCtorEq, Nat.reduceAdd, Nat.reduceMul, Nat.reduceLeDiff, zc, Int.reduceToNat, s0, hO, hV, hC]
  refine CLL_inS rfl (sNext hc (Ue hS2) (n := 20) (by omega)) ?_
  intro r3 ro3 gn3 hN
  obtain ⟨x, rfl, -, hx, hgE, k3, hS3, f3⟩ := hN.out
  dsimp only at hgE k3 f3
  subst hgE
  have hF4 := f3 WSp rb gb (by decide) KPt
  have c1 : ro3 8224 (gn2 8224 + 1) = some (.bx [.ref 69776 uo [] 0 O.length, i64 M, .ref 69777 uv [] 0 n, .ref 69778 uc [] 0 n]) := (k3 _ _ (by decide)).trans Ur
  have c2 : ro3 4096 (gb 4096 + 1) = some (.bx [nilA, i64 0, nilA, nilA]) := (k3 _ _ (by decide)).trans (Ue e2)
  have c3 : ro3 69776 uo = some (rowL O) := (k3 _ _ (by decide)).trans (Ue hO)
  have c4 : ro3 69777 uv = some (cubeA F n) := (k3 _ _ (by decide)).trans (Ue hV)
  have c5 : ro3 69778 uc = some (matA G n n) := (k3 _ _ (by decide)).trans (Ue hC)
  have u28800 := hF4.up 28800
  by_cases hx0 : x = 0
  ·simp (maxSteps := 10000000) (disch := first | assumption | omega) only [go_sem, ↓reduceIte, Nat.reduceEqDiff, reduceCtorEq, Nat.reduceAdd, Nat.reduceMul, Nat.reduceLeDiff, zc, Int.reduceToNat, s0, eq_true hx0, c1]
   refine CLLD_inS [⟨some [8224], []⟩, ⟨some [8224], []⟩, e0, e0, ⟨some [], [8288]⟩, ⟨some [69778], []⟩, ⟨some [69778], []⟩, e0] (xNext hc hS3 (n := (n : Int)) (by omega) (by kernel_rfl)) rfl ?_ rfl (by kernel_rfl) rfl
   intro r4 ro4 gn4 hN
   obtain ⟨i, rfl, -, hi, hgE, k4, hS4, f4⟩ := hN.out
   dsimp only at hgE k4 f4
   subst hgE
   obtain ⟨i0, i1⟩ := hi (by omega)
   obtain ⟨i, rfl⟩ := Int.eq_ofNat_of_zero_le i0
   have hF5 := f4 WSp rb gb (by decide) hF4
   have d1 := (k4 8224 _ (by decide)).trans c1
   have d2 := (k4 4096 _ (by decide)).trans c2
   have d3 := (k4 69776 _ (by decide)).trans c3
   have d4 := (k4 69777 _ (by decide)).trans c4
   have d5 := (k4 69778 _ (by decide)).trans c5
   have hin : i < n := by omega
   simp (maxSteps := 10000000) (disch := first | assumption | omega) only [go_sem, ↓reduceIte, Nat.reduceEqDiff, reduceCtorEq, Nat.reduceAdd, Nat.reduceMul, Nat.reduceLeDiff, zc, Int.reduceToNat, s0, d5]
   refine FING_of rfl ?_
   simp (maxSteps := 10000000) (disch := first | assumption | omega) only [go_sem, ↓reduceIte, Nat.reduceEqDiff, reduceCtorEq, Nat.reduceAdd, Nat.reduceMul, Nat.reduceLeDiff, zc, Int.reduceToNat, s0, d1, d5]
   refine CLLD_inS [e0, e0, e0, ⟨some [], [8288]⟩, e0, ⟨some [8224], []⟩, ⟨some [8224], []⟩, ⟨some [8224], []⟩, ⟨some [], [28800]⟩, ⟨some [28800], [8288]⟩, ⟨some [69778], []⟩, ⟨some [69778], [69778]⟩] (xNext hc hS4 (n := (n : Int)) (by omega) (by kernel_rfl)) rfl ?_ rfl (by kernel_rfl) rfl
   intro r5 ro5 gn5 hN
   obtain ⟨j, rfl, -, hj, hgE, k5, hS5, f5⟩ := hN.out
   dsimp only at hgE k5 f5
   subst hgE
   obtain ⟨j0, j1⟩ := hj (by omega)
   obtain ⟨j, rfl⟩ := Int.eq_ofNat_of_zero_le j0
   have hF6 := f5 WSp rb gb (by decide) hF5
   have g1 := (k5 8224 _ (by decide)).trans d1
   have g2 := (k5 4096 _ (by decide)).trans d2
   have g3 := (k5 69776 _ (by decide)).trans d3
   have g4 := (k5 69777 _ (by decide)).trans d4
   have g5 := (k5 69778 _ (by decide)).trans d5
   have hjn : j < n := by omega
   simp (maxSteps := 10000000) (disch := first | assumption | omega) only [go_sem, ↓reduceIte, Nat.reduceEqDiff, reduceCtorEq, Nat.reduceAdd, Nat.reduceMul, Nat.reduceLeDiff, zc, Int.reduceToNat, s0, g1, g5]
   refine CLLG_inS (xPick (s2 := 28800) hc (Ue hS5) (xs := [0, 1, -1, M]) Ur (by decide) (by show 0 < 4; decide) (by show 4 < 4611686018427387904; decide) (by kernel_rfl)) ?_ rfl
   intro r6 ro6 gn6 hN
   obtain ⟨z, hz, rfl, hgE, k6, hS6, f6⟩ := hN.out
   dsimp only at hgE k6 f6
   subst hgE
   have hF7 := f6 WSp rb gb (by decide) KPt
   have p1 := (k6 8224 (gn2 8224 + 1) (by decide)).trans (Ue g1)
   have p2 := (k6 4096 (gb 4096 + 1) (by decide)).trans (Ue g2)
   have p3 := (k6 69776 uo (by decide)).trans (Ue g3)
   have p4 := (k6 69777 uv (by decide)).trans (Ue g4)
   have p5 := (k6 69778 uc (by decide)).trans (Ue g5)
   generalize atI [0, 1, -1, M] z = w'
   simp (maxSteps := 10000000) (disch := first | assumption | omega) only [go_sem, ↓reduceIte, Nat.reduceEqDiff, reduceCtorEq, Nat.reduceAdd, Nat.reduceMul, Nat.reduceLeDiff, zc, Int.reduceToNat, s0, p1, p5, mat_cells p5 hin, mat_bx p5 hin, mat_wr p5 hin hjn]
   refine FING_of rfl ?_
   simp (maxSteps := 10000000) (disch := first | assumption | omega) only [go_sem, ↓reduceIte, Nat.reduceEqDiff, reduceCtorEq, Nat.reduceAdd, Nat.reduceMul, Nat.reduceLeDiff, zc, Int.reduceToNat, s0, p1, p2, p3, p4]
   refine RETS_D Ur (upr_same _ _ _ _) rfl ⟨KPt, by simp only [↓za, ↓reduceIte, Nat.reduceEqDiff, zb, reduceCtorEq]; exact hS6, _, _, O, M, F, n, 69778, uc, 0, n, n, upd2 G i j w', rfl, ⟨_, _, rfl, by decide, hb1, h1', ?_⟩, ⟨_, _, rfl, by decide, hb2, h2', ?_⟩, by decide, hb3, h3', ?_, Nat.le_trans BV.w.l (by decide), BV.w.n8, ⟨by omega, by omega⟩, by omega, BV.w.n8, BV.w.n8⟩
   ·simp only [↓za, ↓reduceIte, Nat.reduceEqDiff, zb, reduceCtorEq]; exact p3
   ·simp only [↓za, ↓reduceIte, Nat.reduceEqDiff, zb, reduceCtorEq]; exact p4
   ·simp only [↓za, ↓reduceIte, Nat.reduceEqDiff, zb, reduceCtorEq, Nat.zero_add]
  ·by_cases hx1 : x = 1
   ·subst hx1
    simp (maxSteps := 10000000) (disch := first | assumption | omega) only [go_sem, ↓reduceIte, Nat.reduceEqDiff, reduceCtorEq, Nat.reduceAdd, Nat.reduceMul, Nat.reduceLeDiff, zc, Int.reduceToNat, s0, c1]
    refine CLL_inS rfl (sDrawAny17 hc (Ue hS3)) ?_
    rintro _ ro4 gn4 ⟨hF5, hS5, o', c', O', M', F', n', rfl, ⟨so', uo', rfl, q1, q2, q3, q4⟩, ⟨sp', up', rfl, q5, q6, q7, q8⟩, q9, q10, q11⟩
    dsimp only at hF5 q2 q6
    have hF6 : Frm WSp g rb gb ro4 gn4 := Frm.trans hF4 (hF5.monoB (W' := WSp) (by decide))
    have d1 := (hF5.kp 8224 (gn2 8224 + 1) Ur (by rintro ⟨h, _⟩; omega)).trans c1
    have d2 := (hF5.kp 4096 (gb 4096 + 1) (Ue w4096) (by rintro ⟨h, _⟩; omega)).trans c2
    have d5 := (hF5.kp 69778 uc (Ue h3') (by rintro ⟨h, _⟩; omega)).trans c5
    have n1 : ¬ so' = 8224 := by rintro rfl; exact absurd q1 (by decide)
    have n2 : ¬ so' = 4096 := by rintro rfl; exact absurd q1 (by decide)
    have n3 : ¬ sp' = 8224 := by rintro rfl; exact absurd q5 (by decide)
    have n4 : ¬ sp' = 4096 := by rintro rfl; exact absurd q5 (by decide)
    have i1 : gb so' < uo' := Nat.lt_of_le_of_lt (hF4.up so') q2
    have i2 : gb sp' < up' := Nat.lt_of_le_of_lt (hF4.up sp') q6
    have i3 : uc ≤ gn4 69778 := Nat.le_trans h3' (Nat.le_trans Ur (hF5.up 69778))
    simp (maxSteps := 10000000) (disch := first | assumption | omega) only [go_sem, ↓reduceIte, Nat.reduceEqDiff, reduceCtorEq, Nat.reduceAdd, Nat.reduceMul, Nat.reduceLeDiff, zc, Int.reduceToNat, s0, d1, d2, d5, q4, q8, eq_false n1, eq_false n2, eq_false n3, eq_false n4]
    refine RETS_D Ur (upr_same _ _ _ _) rfl ⟨KPt, by simp only [↓za, ↓reduceIte, Nat.reduceEqDiff, zb, reduceCtorEq]; exact hS5, _, _, O', M', F', n', 69778, uc, 0, n, n, G, rfl, ⟨_, _, rfl, inLO _ q1, i1, q3, ?_⟩, ⟨_, _, rfl, inLC _ q5, i2, q7, ?_⟩, by decide, hb3, i3, ?_, q9, q10, q11, by omega, BV.w.n8, BV.w.n8⟩
    all_goals simp only [↓za, ↓reduceIte, Nat.reduceEqDiff, zb, reduceCtorEq, Nat.zero_add, eq_false n1, eq_false n2, eq_false n3, eq_false n4]
    all_goals assumption
   ·by_cases hx2 : x = 2
    ·subst hx2
     have hn1 : (0 : Int) ≤ 1 ∧ (1 : Int) ≤ (n : Int) := by omega
     have en : ((n : Int) - 1).toNat = n - 1 := by omega
     have hcs : (ro3.cells 69778 uc []).isSome = true := by unfold Ro.cells Ro.at; rw [c5]; rfl
     simp (maxSteps := 10000000) (disch := first | assumption | omega) only [go_sem, ↓reduceIte, Nat.reduceEqDiff, reduceCtorEq, Nat.reduceAdd, Nat.reduceMul, Nat.reduceLeDiff, zc, Int.reduceToNat, s0, c1, c2, c3, c4, c5, hn1, en, hcs, Option.map_some, Option.map_none, Int.toNat_one]
     have e1n : 1 + (n - 1) = n := by omega
     refine RETS_D Ur (upr_same _ _ _ _) rfl ⟨(hF4.wr 8224 _ _ (by decide) (by omega)).wr 4096 _ _ (by decide) (by omega), by simp only [↓za, ↓reduceIte, Nat.reduceEqDiff, zb, reduceCtorEq]; exact hS3, _, _, O, M, F, n, 69778, uc, 1, n - 1, n, G, rfl, ⟨_, _, rfl, by decide, hb1, h1', ?_⟩, ⟨_, _, rfl, by decide, hb2, h2', ?_⟩, by decide, hb3, h3', ?_, Nat.le_trans BV.w.l (by decide), BV.w.n8, ⟨by omega, by omega⟩, by omega, by omega, BV.w.n8⟩
     all_goals simp only [↓za, ↓reduceIte, Nat.reduceEqDiff, zb, reduceCtorEq, e1n]
     all_goals assumption
    ·simp (maxSteps := 10000000) (disch := first | assumption | omega) only [go_sem, ↓reduceIte, Nat.reduceEqDiff, reduceCtorEq, Nat.reduceAdd, Nat.reduceMul, Nat.reduceLeDiff, zc, Int.reduceToNat, s0, eq_false hx0, eq_false hx1, eq_false hx2, c1, c2, c3, c4, c5]
     refine RETS_D Ur (upr_same _ _ _ _) rfl ⟨KPt, by simp only [↓za, ↓reduceIte, Nat.reduceEqDiff, zb, reduceCtorEq]; exact hS3, _, _, O, M, F, n, 69778, uc, 0, n, n, G, rfl, ⟨_, _, rfl, by decide, hb1, h1', ?_⟩, ⟨_, _, rfl, by decide, hb2, h2', ?_⟩, by decide, hb3, h3', ?_, Nat.le_trans BV.w.l (by decide), BV.w.n8, ⟨by omega, by omega⟩, by omega, BV.w.n8, BV.w.n8⟩
     all_goals simp only [↓za, ↓reduceIte, Nat.reduceEqDiff, zb, reduceCtorEq, Nat.zero_add]
     all_goals assumption
end
end Go.Proofs.YthpmddoakefbmaaGreat
/- Draws of the law on braidings. -/
namespace Go.Proofs.YthpmddoakefbmaaGreat
open Go.RowKit
set_option maxRecDepth 1000000
structure Kpt (rb : Ro) (gb : Nat → Nat) (ro : Ro) (gn : Nat → Nat) : Prop where
 up : ∀ x, gb x ≤ gn x
 kp : ∀ x y, y ≤ gb x → ro x y = rb x y
theorem Frm.kpt {W : List Nat} {rb ro : Ro} {gb gn : Nat → Nat} (h : Frm W (gb 8288 + 1) rb gb ro gn) : Kpt rb gb ro gn :=
 ⟨h.up, fun x y hy => h.kp x y hy (by rintro ⟨rfl, rfl⟩; omega)⟩
def LvB (r : AV) (ro : Ro) (gn : Nat → Nat) : Prop := ∃ (O : List Int) (M : Int) (F : Nat → Nat → Nat → Int) (n so uo sp up sq uq off k l : Nat) (G : Nat → Nat → Int), r = .agg [.ref so uo [] 0 O.length, i64 M, .ref sp up [] 0 n, .ref sq uq [] off k] ∧ uo ≤ gn so ∧ up ≤ gn sp ∧ uq ≤ gn sq ∧ ro so uo = some (rowL O) ∧ ro sp up = some (cubeA F n) ∧ ro sq uq = some (matA G (off + k) l) ∧ O.length ≤ 6 ∧ n ≤ 8 ∧ (0 ≤ M ∧ M ≤ 2000) ∧ k ≤ 8 ∧ l ≤ 8
abbrev shG (G : Nat → Nat → Int) (off : Nat) : Nat → Nat → Int := fun x y => G (off + x) y
theorem rws_cut {α : Type} (f : Nat → α) (off k : Nat) : ((rws f (off + k)).drop off).take k = rws (fun i => f (off + i)) k := by
 apply List.ext_getElem?
 intro i
 by_cases hi : i < k
 ·simp [rws, hi]
 ·simp [rws, hi]
theorem exq_mato {n : Nat} {ro : Ro} {s g off k m : Nat} {f : Nat → Nat → Int} (h : ro s g = some (matA f (off + k) m)) (hn : 3 ≤ n) : exq n ro (.ref s g [] off k) (immLL (matL (shG f off) k m)) := by
 refine ⟨fun j hj => ?_, fun hp => by simp [pureA] at hp⟩
 obtain ⟨j, rfl⟩ : ∃ i, j = i + 3 := ⟨j - 3, by omega⟩
 show (match ro.cells s g [] with | some cs => AV.imm (((cs.drop off).take k).map (ex ro (j + 2))) | none => .dead) = _
 rw [zef, h, ← rowLL_mat]
 simp only [zeh]
 rw [← List.map_drop, ← List.map_take, exLL]
 unfold matL
 rw [rws_cut]
theorem upg_ge (gn : Nat → Nat) (s x : Nat) : gn x ≤ upg gn s (gn s + 1) x := by
 rw [zda]
 split
 ·rename_i h; subst h; omega
 ·exact Nat.le_refl _
theorem Frm.ug {W : List Nat} {g : Nat} {rb ro : Ro} {gb gn : Nat → Nat} (h : Frm W g rb gb ro gn) (t : Nat) (hW : t ∈ W) : Frm W g rb gb ro (upg gn t (gn t + 1)) :=
 ⟨fun s hs => ⟨(h.off s hs).1, by rw [zda, if_neg (fun e => hs (by rw [e]; exact hW))]; exact (h.off s hs).2⟩, fun x => Nat.le_trans (h.up x) (upg_ge _ _ _), h.kp⟩
def WL : List Nat := 12320 :: 28752 :: 28896 :: 12304 :: WSp
section
variable {a : AV} {bs : List Int} {rb : Ro} {gb : Nat → Nat}
set_option maxHeartbeats 8000000 in
theorem sRev (hc : Cod a bs) (hl : bs.length ≤ 4096) : InS Tryz.prog 16 [a] rb gb
  (fun r ro' gn' => Frm WL (gb 8288 + 1) rb gb ro' gn' ∧ LvB r ro' gn') := by
 have hb := hc.b
 refine in_ofS (fn := Tryz.f16) (code := bodyOf Tryz.f16) Tryz.func16 rfl (by kernel_rfl) ?_
 intro sl hs
 have s0 : sl 0 = a := hs 0
 dsimp only [Tryz.f16, bodyOf, Option.getD]
 simp (maxSteps := 10000000) (disch := first | assumption | omega) only [go_sem, ↓reduceIte, Nat.reduceEqDiff, reduceCtorEq, Nat.reduceAdd, Nat.reduceMul, Nat.reduceLeDiff, zc, Int.reduceToNat, s0]
 refine CLL_in rfl _ _ _ (inFrom hb hl _ _) ?_
 simp (maxSteps := 10000000) (disch := first | assumption | omega) only [go_sem, ↓reduceIte, Nat.reduceEqDiff, reduceCtorEq, Nat.reduceAdd, Nat.reduceMul, Nat.reduceLeDiff, zc, Int.reduceToNat, s0]
 refine CLL_inS rfl (sSpoil (g := gb 8288 + 1) hc (by simp only [↓za, ↓reduceIte, Nat.reduceEqDiff, zb, reduceCtorEq]; exact ⟨0, _, Nat.zero_le _, rfl⟩)) ?_
 rintro _ ro2 gn2 ⟨hF2, hS2, o, c, O, M, F, n, sq, uq, off, k, l, G, rfl, ⟨so, uo, rfl, h1, -, h2, h3⟩, ⟨sp, up, rfl, h4, -, h5, h6⟩, h7, -, h8, h9, h10, h11, h12, -, h13, h14⟩
 dsimp only at hF2
 have n1 : ¬ so = 4096 := by rintro rfl; exact absurd h1 (by decide)
 have n2 : ¬ sp = 4096 := by rintro rfl; exact absurd h4 (by decide)
 have n3 : ¬ sq = 4096 := by rintro rfl; exact absurd h7 (by decide)
 have hF : Frm WL (gb 8288 + 1) rb gb ro2 gn2 := Frm.trans KPt (hF2.monoB (W' := WL) (by decide))
 have e2 := hF2.kp 4096 (gb 4096 + 1) Ur (by rintro ⟨h, _⟩; omega)
 simp only [↓za, ↓reduceIte, Nat.reduceEqDiff, zb, reduceCtorEq] at e2
 simp (maxSteps := 10000000) (disch := first | assumption | omega) only [go_sem, ↓reduceIte, Nat.reduceEqDiff, reduceCtorEq, Nat.reduceAdd, Nat.reduceMul, Nat.reduceLeDiff, zc, Int.reduceToNat, s0, e2, h3, h6, h9]
 refine RETS_D Ur (upr_same _ _ _ _) rfl ⟨KPt, O, M, F, n, so, uo, sp, up, sq, uq, off, k, l, G, rfl, h2, h5, h8, ?_, ?_, ?_, h10, h11, h12, h13, h14⟩
 all_goals simp only [↓za, ↓reduceIte, Nat.reduceEqDiff, zb, reduceCtorEq, eq_false n1, eq_false n2, eq_false n3]
 all_goals assumption
set_option maxHeartbeats 8000000 in
theorem sBF (hc : Cod a bs) (hl : bs.length ≤ 4096) : InS Tryz.prog 6 [a] rb gb
  (fun r ro' gn' => Frm WL (gb 8288 + 1) rb gb ro' gn' ∧ LvB r ro' gn') := by
 have hb := hc.b
 refine in_ofS (fn := Tryz.f6) (code := bodyOf Tryz.f6) Tryz.func6 rfl (by kernel_rfl) ?_
 intro sl hs
 have s0 : sl 0 = a := hs 0
 dsimp only [Tryz.f6, bodyOf, Option.getD]
 simp (maxSteps := 10000000) (disch := first | assumption | omega) only [go_sem, ↓reduceIte, Nat.reduceEqDiff, reduceCtorEq, Nat.reduceAdd, Nat.reduceMul, Nat.reduceLeDiff, zc, Int.reduceToNat, s0]
 refine CLL_in rfl _ _ _ (inFrom hb hl _ _) ?_
 simp (maxSteps := 10000000) (disch := first | assumption | omega) only [go_sem, ↓reduceIte, Nat.reduceEqDiff, reduceCtorEq, Nat.reduceAdd, Nat.reduceMul, Nat.reduceLeDiff, zc, Int.reduceToNat, s0]
 refine CLL_inS rfl (sSpoil (g := gb 8288 + 1) hc (by simp only [↓za, ↓reduceIte, Nat.reduceEqDiff, zb, reduceCtorEq]; exact ⟨0, _, Nat.zero_le _, rfl⟩)) ?_
 rintro _ ro2 gn2 ⟨hF2, hS2, o, c, O, M, F, n, sq, uq, off, k, l, G, rfl, ⟨so, uo, rfl, h1, -, h2, h3⟩, ⟨sp, up, rfl, h4, -, h5, h6⟩, h7, h7b, h8, h9, h10, h11, h12, ho1, h13, h14⟩
 dsimp only at hF2 h7b
 have hF : Frm WL (gb 8288 + 1) rb gb ro2 gn2 := Frm.trans (by (repeat' first | assumption | exact Frm.refl _ _ _ _ | refine Frm.src ?_ _ (by decide) | refine Frm.wr ?_ _ _ _ (by decide) (by omega) | refine Frm.al ?_ _ _ _ (by decide) rfl | refine Frm.ug ?_ _ (by decide))) (hF2.monoB (W' := WL) (by decide))
 have e2 := hF2.kp 4096 (gb 4096 + 1) Ur (by rintro ⟨h, _⟩; omega)
 simp only [↓za, ↓reduceIte, Nat.reduceEqDiff, zb, reduceCtorEq] at e2
 have n1 : ¬ so = 4096 := by rintro rfl; exact absurd h1 (by decide)
 have n2 : ¬ sp = 4096 := by rintro rfl; exact absurd h4 (by decide)
 have n3 : ¬ sq = 4096 := by rintro rfl; exact absurd h7 (by decide)
 have m1 : ¬ so = 12320 := by rintro rfl; exact absurd h1 (by decide)
 have m2 : ¬ sp = 12320 := by rintro rfl; exact absurd h4 (by decide)
 have m3 : ¬ sq = 12320 := by rintro rfl; exact absurd h7 (by decide)
 have u1 := hF.up 12320
 have u2 := hF.up 4096
 simp (maxSteps := 10000000) (disch := first | assumption | omega) only [go_sem, ↓reduceIte, Nat.reduceEqDiff, reduceCtorEq, Nat.reduceAdd, Nat.reduceMul, Nat.reduceLeDiff, zc, Int.reduceToNat, s0, h3, h6, h9, eq_false m1, eq_false m2, eq_false m3]
 obtain ⟨t, ht⟩ : ∃ t : Bool, (t = true ↔ BrP O M F n (shG G off) k l) := ⟨@decide _ (Classical.propDecidable _), @decide_eq_true_iff _ (Classical.propDecidable _)⟩
 have c1 := cIs18 (isL_imm O) h10 (isLLL_immC F n) (isLL_imm (matL (shG G off) k l)) (by omega) (by omega) ht
 refine CLL_q _ c1 (.cons (exq_agg (.cons (exq_refL (by simp only [↓za, ↓reduceIte, Nat.reduceEqDiff, zb, reduceCtorEq, eq_false m1]; exact h3) rfl (by decide)) (.cons (exq_sc _ _ _ (by decide)) (.cons (exq_cube (by simp only [↓za, ↓reduceIte, Nat.reduceEqDiff, zb, reduceCtorEq, eq_false m2]; exact h6) (by decide)) (.cons (exq_mato (by simp only [↓za, ↓reduceIte, Nat.reduceEqDiff, zb, reduceCtorEq, eq_false m3]; exact h9) (by decide)) .nil))))) .nil) rfl rfl rfl ?_
 cases t with
 | false =>
  simp (maxSteps := 10000000) (disch := first | assumption | omega) only [go_sem, ↓reduceIte, Nat.reduceEqDiff, reduceCtorEq, Nat.reduceAdd, Nat.reduceMul, Nat.reduceLeDiff, zc, Int.reduceToNat, s0, undef, e2, h3, h6, h9, eq_false m1, eq_false m2, eq_false m3]
  refine RETS_D Ur (upr_same _ _ _ _) rfl ⟨by (repeat' first | assumption | exact Frm.refl _ _ _ _ | refine Frm.src ?_ _ (by decide) | refine Frm.wr ?_ _ _ _ (by decide) (by omega) | refine Frm.al ?_ _ _ _ (by decide) rfl | refine Frm.ug ?_ _ (by decide)), O, M, F, n, so, uo, sp, up, sq, uq, off, k, l, G, rfl, Nat.le_trans h2 (upg_ge _ _ _), Nat.le_trans h5 (upg_ge _ _ _), Nat.le_trans h8 (upg_ge _ _ _), ?_, ?_, ?_, h10, h11, h12, h13, h14⟩
  all_goals simp only [↓za, ↓reduceIte, Nat.reduceEqDiff, zb, reduceCtorEq, eq_false n1, eq_false n2, eq_false n3, eq_false m1, eq_false m2, eq_false m3]
  all_goals assumption
 | true =>
  by_cases hk : (1 : Int) < (k : Int)
  ·simp (maxSteps := 10000000) (disch := first | assumption | omega) only [go_sem, ↓reduceIte, Nat.reduceEqDiff, reduceCtorEq, Nat.reduceAdd, Nat.reduceMul, Nat.reduceLeDiff, zc, Int.reduceToNat, s0, eq_true hk, h9, eq_false m3]
   refine CLL_inS rfl (sNext (g := gb 8288 + 1) hc (Ue hS2) (n := 2) (by omega)) ?_
   intro r4 ro4 gn4 hN
   obtain ⟨x, rfl, -, hx, hgE, k4, hS4, f4⟩ := hN.out
   dsimp only at hgE k4 f4
   subst hgE
   have u1 := hF.up 12320
   have hF4 := f4 WL rb gb (by decide) (by (repeat' first | assumption | exact Frm.refl _ _ _ _ | refine Frm.src ?_ _ (by decide) | refine Frm.wr ?_ _ _ _ (by decide) (by omega) | refine Frm.al ?_ _ _ _ (by decide) rfl | refine Frm.ug ?_ _ (by decide)))
   have N1 : so ≠ 8288 := by rintro rfl; exact absurd h1 (by decide)
   have N2 : sp ≠ 8288 := by rintro rfl; exact absurd h4 (by decide)
   have N3 : sq ≠ 8288 := by rintro rfl; exact absurd h7 (by decide)
   have c1 := (k4 12320 (gn2 12320 + 1) (by decide)).trans Ur
   have c2 := (k4 4096 (gb 4096 + 1) (by decide)).trans (Ue e2)
   have c3 := (k4 so uo N1).trans (by simp only [↓za, ↓reduceIte, Nat.reduceEqDiff, zb, reduceCtorEq, eq_false m1]; exact h3)
   have c4 := (k4 sp up N2).trans (by simp only [↓za, ↓reduceIte, Nat.reduceEqDiff, zb, reduceCtorEq, eq_false m2]; exact h6)
   have c5 := (k4 sq uq N3).trans (by simp only [↓za, ↓reduceIte, Nat.reduceEqDiff, zb, reduceCtorEq, eq_false m3]; exact h9)
   by_cases hx0 : x = 0
   ·obtain ⟨hkn, hln⟩ := (ht.1 rfl).s.sq
    have hbq : gb sq < uq := Nat.lt_of_le_of_lt (by rw [zda, if_neg N3]; exact upg_ge _ _ _) h7b
    simp (maxSteps := 10000000) (disch := first | assumption | omega) only [go_sem, ↓reduceIte, Nat.reduceEqDiff, reduceCtorEq, Nat.reduceAdd, Nat.reduceMul, Nat.reduceLeDiff, zc, Int.reduceToNat, s0, eq_true hx0, c1, c5]
    simp only [LQ, List.mem_cons, List.not_mem_nil, or_false] at h7
    rcases h7 with rfl | rfl | rfl | rfl
    ·have w1 : ¬ (so = 28706 ∧ uo = uq) := by rintro ⟨rfl, _⟩; exact absurd h1 (by decide)
     have w2 : ¬ (sp = 28706 ∧ up = uq) := by rintro ⟨rfl, _⟩; exact absurd h4 (by decide)
     refine CLLD_inS [⟨some [12320], []⟩, ⟨some [12320], []⟩, e0, e0, e0, ⟨some [], [8288]⟩, e0, ⟨some [28706], []⟩, ⟨some [28706], []⟩, e0] (xNext hc hS4 (n := (k : Int) - 1) (by omega) (by kernel_rfl)) rfl ?_ rfl (by kernel_rfl) rfl
     intro r5 ro5 gn5 hN
     obtain ⟨i, rfl, -, hi, hgE, k5, hS5, f5⟩ := hN.out
     dsimp only at hgE k5 f5
     subst hgE
     obtain ⟨i0, i1⟩ := hi (by omega)
     obtain ⟨i, rfl⟩ := Int.eq_ofNat_of_zero_le i0
     have hF5 := f5 WL rb gb (by decide) hF4
     have d1 := (k5 12320 _ (by decide)).trans c1
     have d2 := (k5 4096 _ (by decide)).trans c2
     have d3 := (k5 so uo N1).trans c3
     have d4 := (k5 sp up N2).trans c4
     have d5 := (k5 28706 uq (by decide)).trans c5
     have hik : 1 + i < k := by omega
     have eI : (1 : Int) + (i : Int) = ((1 + i : Nat) : Int) := by omega
     have hin : off + (1 + i) < off + k := by omega
     simp (maxSteps := 10000000) (disch := first | assumption | omega) only [go_sem, ↓reduceIte, Nat.reduceEqDiff, reduceCtorEq, Nat.reduceAdd, Nat.reduceMul, Nat.reduceLeDiff, zc, Int.reduceToNat, s0, d5, eI]
     refine FING_of rfl ?_
     simp (maxSteps := 10000000) (disch := first | assumption | omega) only [go_sem, ↓reduceIte, Nat.reduceEqDiff, reduceCtorEq, Nat.reduceAdd, Nat.reduceMul, Nat.reduceLeDiff, zc, Int.reduceToNat, s0, d1]
     refine CLLD_inS [e0, e0, e0, e0, ⟨some [], [8288]⟩, e0, e0, ⟨some [12320], []⟩, ⟨some [12320], []⟩, ⟨some [12320], []⟩, ⟨some [], [8288]⟩, ⟨some [28706], []⟩, ⟨some [28706], [28706]⟩] (xNext hc hS5 (n := (k : Int) - 1) (by omega) (by kernel_rfl)) rfl ?_ rfl (by kernel_rfl) rfl
     intro r6 ro6 gn6 hN
     obtain ⟨j, rfl, -, hj, hgE, k6, hS6, f6⟩ := hN.out
     dsimp only at hgE k6 f6
     subst hgE
     obtain ⟨j0, j1⟩ := hj (by omega)
     obtain ⟨j, rfl⟩ := Int.eq_ofNat_of_zero_le j0
     have hF6 := f6 WL rb gb (by decide) hF5
     have g1 := (k6 12320 _ (by decide)).trans d1
     have g2 := (k6 4096 _ (by decide)).trans d2
     have g3 := (k6 so uo N1).trans d3
     have g4 := (k6 sp up N2).trans d4
     have g5 := (k6 28706 uq (by decide)).trans d5
     have hjl : 1 + j < l := by omega
     have eJ : (1 : Int) + (j : Int) = ((1 + j : Nat) : Int) := by omega
     simp (maxSteps := 10000000) (disch := first | assumption | omega) only [go_sem, ↓reduceIte, Nat.reduceEqDiff, reduceCtorEq, Nat.reduceAdd, Nat.reduceMul, Nat.reduceLeDiff, zc, Int.reduceToNat, s0, g1, eJ]
     refine CLLG_inS (xNext hc hS6 (n := M) (by omega) (by kernel_rfl)) ?_ rfl
     intro r7 ro7 gn7 hN
     obtain ⟨v, rfl, -, hv, hgE, k7, hS7, f7⟩ := hN.out
     dsimp only at hgE k7 f7
     subst hgE
     have hF7 := f7 WL rb gb (by decide) hF6
     have p1 := (k7 12320 _ (by decide)).trans g1
     have p2 := (k7 4096 _ (by decide)).trans g2
     have p3 := (k7 so uo N1).trans g3
     have p4 := (k7 sp up N2).trans g4
     have p5 := (k7 28706 uq (by decide)).trans g5
     simp (maxSteps := 10000000) (disch := first | assumption | omega) only [go_sem, ↓reduceIte, Nat.reduceEqDiff, reduceCtorEq, Nat.reduceAdd, Nat.reduceMul, Nat.reduceLeDiff, zc, Int.reduceToNat, s0, p1, p5, mat_cells p5 hin, mat_bx p5 hin, mat_wr p5 hin hjl]
     refine FING_of rfl ?_
     simp (maxSteps := 10000000) (disch := first | assumption | omega) only [go_sem, ↓reduceIte, Nat.reduceEqDiff, reduceCtorEq, Nat.reduceAdd, Nat.reduceMul, Nat.reduceLeDiff, zc, Int.reduceToNat, s0, p1, p2, p3, p4, eq_false w1, eq_false w2]
     refine RETS_D Ur (upr_same _ _ _ _) rfl ⟨by (repeat' first | assumption | exact Frm.refl _ _ _ _ | refine Frm.src ?_ _ (by decide) | refine Frm.wr ?_ _ _ _ (by decide) (by omega) | refine Frm.al ?_ _ _ _ (by decide) rfl | refine Frm.ug ?_ _ (by decide)), O, M, F, n, so, uo, sp, up, 28706, uq, off, k, l, upd2 G (off + (1 + i)) (1 + j) v, rfl, Nat.le_trans h2 (upg_ge _ _ _), Nat.le_trans h5 (upg_ge _ _ _), Nat.le_trans h8 (upg_ge _ _ _), ?_, ?_, ?_, h10, h11, h12, h13, h14⟩
     all_goals simp only [↓za, ↓reduceIte, Nat.reduceEqDiff, zb, reduceCtorEq, eq_false n1, eq_false n2, eq_false w1, eq_false w2]
     all_goals assumption
    ·have w1 : ¬ (so = 41170 ∧ uo = uq) := by rintro ⟨rfl, _⟩; exact absurd h1 (by decide)
     have w2 : ¬ (sp = 41170 ∧ up = uq) := by rintro ⟨rfl, _⟩; exact absurd h4 (by decide)
     refine CLLD_inS [⟨some [12320], []⟩, ⟨some [12320], []⟩, e0, e0, e0, ⟨some [], [8288]⟩, e0, ⟨some [41170], []⟩, ⟨some [41170], []⟩, e0] (xNext hc hS4 (n := (k : Int) - 1) (by omega) (by kernel_rfl)) rfl ?_ rfl (by kernel_rfl) rfl
     intro r5 ro5 gn5 hN
     obtain ⟨i, rfl, -, hi, hgE, k5, hS5, f5⟩ := hN.out
     dsimp only at hgE k5 f5
     subst hgE
     obtain ⟨i0, i1⟩ := hi (by omega)
     obtain ⟨i, rfl⟩ := Int.eq_ofNat_of_zero_le i0
     have hF5 := f5 WL rb gb (by decide) hF4
     have d1 := (k5 12320 _ (by decide)).trans c1
     have d2 := (k5 4096 _ (by decide)).trans c2
     have d3 := (k5 so uo N1).trans c3
     have d4 := (k5 sp up N2).trans c4
     have d5 := (k5 41170 uq (by decide)).trans c5
     have hik : 1 + i < k := by omega
     have eI : (1 : Int) + (i : Int) = ((1 + i : Nat) : Int) := by omega
     have hin : off + (1 + i) < off + k := by omega
     simp (maxSteps := 10000000) (disch := first | assumption | omega) only [go_sem, ↓reduceIte, Nat.reduceEqDiff, reduceCtorEq, Nat.reduceAdd, Nat.reduceMul, Nat.reduceLeDiff, zc, Int.reduceToNat, s0, d5, eI]
     refine FING_of rfl ?_
     simp (maxSteps := 10000000) (disch := first | assumption | omega) only [go_sem, ↓reduceIte, Nat.reduceEqDiff, reduceCtorEq, Nat.reduceAdd, Nat.reduceMul, Nat.reduceLeDiff, zc, Int.reduceToNat, s0, d1]
     refine CLLD_inS [e0, e0, e0, e0, ⟨some [], [8288]⟩, e0, e0, ⟨some [12320], []⟩, ⟨some [12320], []⟩, ⟨some [12320], []⟩, ⟨some [], [8288]⟩, ⟨some [41170], []⟩, ⟨some [41170], [41170]⟩] (xNext hc hS5 (n := (k : Int) - 1) (by omega) (by kernel_rfl)) rfl ?_ rfl (by kernel_rfl) rfl
     intro r6 ro6 gn6 hN
     obtain ⟨j, rfl, -, hj, hgE, k6, hS6, f6⟩ := hN.out
     dsimp only at hgE k6 f6
     subst hgE
     obtain ⟨j0, j1⟩ := hj (by omega)
     obtain ⟨j, rfl⟩ := Int.eq_ofNat_of_zero_le j0
     have hF6 := f6 WL rb gb (by decide) hF5
     have g1 := (k6 12320 _ (by decide)).trans d1
     have g2 := (k6 4096 _ (by decide)).trans d2
     have g3 := (k6 so uo N1).trans d3
     have g4 := (k6 sp up N2).trans d4
     have g5 := (k6 41170 uq (by decide)).trans d5
     have hjl : 1 + j < l := by omega
     have eJ : (1 : Int) + (j : Int) = ((1 + j : Nat) : Int) := by omega
     simp (maxSteps := 10000000) (disch := first | assumption | omega) only [go_sem, ↓reduceIte, Nat.reduceEqDiff, reduceCtorEq, Nat.reduceAdd, Nat.reduceMul, Nat.reduceLeDiff, zc, Int.reduceToNat, s0, g1, eJ]
     refine CLLG_inS (xNext hc hS6 (n := M) (by omega) (by kernel_rfl)) ?_ rfl
     intro r7 ro7 gn7 hN
     obtain ⟨v, rfl, -, hv, hgE, k7, hS7, f7⟩ := hN.out
     dsimp only at hgE k7 f7
     subst hgE
     have hF7 := f7 WL rb gb (by decide) hF6
     have p1 := (k7 12320 _ (by decide)).trans g1
     have p2 := (k7 4096 _ (by decide)).trans g2
     have p3 := (k7 so uo N1).trans g3
     have p4 := (k7 sp up N2).trans g4
     have p5 := (k7 41170 uq (by decide)).trans g5
     simp (maxSteps := 10000000) (disch := first | assumption | omega) only [go_sem, ↓reduceIte, Nat.reduceEqDiff, reduceCtorEq, Nat.reduceAdd, Nat.reduceMul, Nat.reduceLeDiff, zc, Int.reduceToNat, s0, p1, p5, mat_cells p5 hin, mat_bx p5 hin, mat_wr p5 hin hjl]
     refine FING_of rfl ?_
     simp (maxSteps := 10000000) (disch := first | assumption | omega) only [go_sem, ↓reduceIte, Nat.reduceEqDiff, reduceCtorEq, Nat.reduceAdd, Nat.reduceMul, Nat.reduceLeDiff, zc, Int.reduceToNat, s0, p1, p2, p3, p4, eq_false w1, eq_false w2]
     refine RETS_D Ur (upr_same _ _ _ _) rfl ⟨by (repeat' first | assumption | exact Frm.refl _ _ _ _ | refine Frm.src ?_ _ (by decide) | refine Frm.wr ?_ _ _ _ (by decide) (by omega) | refine Frm.al ?_ _ _ _ (by decide) rfl | refine Frm.ug ?_ _ (by decide)), O, M, F, n, so, uo, sp, up, 41170, uq, off, k, l, upd2 G (off + (1 + i)) (1 + j) v, rfl, Nat.le_trans h2 (upg_ge _ _ _), Nat.le_trans h5 (upg_ge _ _ _), Nat.le_trans h8 (upg_ge _ _ _), ?_, ?_, ?_, h10, h11, h12, h13, h14⟩
     all_goals simp only [↓za, ↓reduceIte, Nat.reduceEqDiff, zb, reduceCtorEq, eq_false n1, eq_false n2, eq_false w1, eq_false w2]
     all_goals assumption
    ·have w1 : ¬ (so = 127040 ∧ uo = uq) := by rintro ⟨rfl, _⟩; exact absurd h1 (by decide)
     have w2 : ¬ (sp = 127040 ∧ up = uq) := by rintro ⟨rfl, _⟩; exact absurd h4 (by decide)
     refine CLLD_inS [⟨some [12320], []⟩, ⟨some [12320], []⟩, e0, e0, e0, ⟨some [], [8288]⟩, e0, ⟨some [127040], []⟩, ⟨some [127040], []⟩, e0] (xNext hc hS4 (n := (k : Int) - 1) (by omega) (by kernel_rfl)) rfl ?_ rfl (by kernel_rfl) rfl
     intro r5 ro5 gn5 hN
     obtain ⟨i, rfl, -, hi, hgE, k5, hS5, f5⟩ := hN.out
     dsimp only at hgE k5 f5
     subst hgE
     obtain ⟨i0, i1⟩ := hi (by omega)
     obtain ⟨i, rfl⟩ := Int.eq_ofNat_of_zero_le i0
     have hF5 := f5 WL rb gb (by decide) hF4
     have d1 := (k5 12320 _ (by decide)).trans c1
     have d2 := (k5 4096 _ (by decide)).trans c2
     have d3 := (k5 so uo N1).trans c3
     have d4 := (k5 sp up N2).trans c4
     have d5 := (k5 127040 uq (by decide)).trans c5
     have hik : 1 + i < k := by omega
     have eI : (1 : Int) + (i : Int) = ((1 + i : Nat) : Int) := by omega
     have hin : off + (1 + i) < off + k := by omega
     simp (maxSteps := 10000000) (disch := first | assumption | omega) only [go_sem, ↓reduceIte, Nat.reduceEqDiff, reduceCtorEq, Nat.reduceAdd, Nat.reduceMul, Nat.reduceLeDiff, zc, Int.reduceToNat, s0, d5, eI]
     refine FING_of rfl ?_
     simp (maxSteps := 10000000) (disch := first | assumption | omega) only [go_sem, ↓reduceIte, Nat.reduceEqDiff, reduceCtorEq, Nat.reduceAdd, Nat.reduceMul, Nat.reduceLeDiff, zc, Int.reduceToNat, s0, d1]
     refine CLLD_inS [e0, e0, e0, e0, ⟨some [], [8288]⟩, e0, e0, ⟨some [12320], []⟩, ⟨some [12320], []⟩, ⟨some [12320], []⟩, ⟨some [], [8288]⟩, ⟨some [127040], []⟩, ⟨some [127040], [127040]⟩] (xNext hc hS5 (n := (k : Int) - 1) (by omega) (by kernel_rfl)) rfl ?_ rfl (by kernel_rfl) rfl
     intro r6 ro6 gn6 hN
     obtain ⟨j, rfl, -, hj, hgE, k6, hS6, f6⟩ := hN.out
     dsimp only at hgE k6 f6
     subst hgE
     obtain ⟨j0, j1⟩ := hj (by omega)
     obtain ⟨j, rfl⟩ := Int.eq_ofNat_of_zero_le j0
     have hF6 := f6 WL rb gb (by decide) hF5
     have g1 := (k6 12320 _ (by decide)).trans d1
     have g2 := (k6 4096 _ (by decide)).trans d2
     have g3 := (k6 so uo N1).trans d3
     have g4 := (k6 sp up N2).trans d4
     have g5 := (k6 127040 uq (by decide)).trans d5
     have hjl : 1 + j < l := by omega
     have eJ : (1 : Int) + (j : Int) = ((1 + j : Nat) : Int) := by omega
     simp (maxSteps := 10000000) (disch := first | assumption | omega) only [go_sem, ↓reduceIte, Nat.reduceEqDiff, reduceCtorEq, Nat.reduceAdd, Nat.reduceMul, Nat.reduceLeDiff, zc, Int.reduceToNat, s0, g1, eJ]
     refine CLLG_inS (xNext hc hS6 (n := M) (by omega) (by kernel_rfl)) ?_ rfl
     intro r7 ro7 gn7 hN
     obtain ⟨v, rfl, -, hv, hgE, k7, hS7, f7⟩ := hN.out
     dsimp only at hgE k7 f7
     subst hgE
     have hF7 := f7 WL rb gb (by decide) hF6
     have p1 := (k7 12320 _ (by decide)).trans g1
     have p2 := (k7 4096 _ (by decide)).trans g2
     have p3 := (k7 so uo N1).trans g3
     have p4 := (k7 sp up N2).trans g4
     have p5 := (k7 127040 uq (by decide)).trans g5
     simp (maxSteps := 10000000) (disch := first | assumption | omega) only [go_sem, ↓reduceIte, Nat.reduceEqDiff, reduceCtorEq, Nat.reduceAdd, Nat.reduceMul, Nat.reduceLeDiff, zc, Int.reduceToNat, s0, p1, p5, mat_cells p5 hin, mat_bx p5 hin, mat_wr p5 hin hjl]
     refine FING_of rfl ?_
     simp (maxSteps := 10000000) (disch := first | assumption | omega) only [go_sem, ↓reduceIte, Nat.reduceEqDiff, reduceCtorEq, Nat.reduceAdd, Nat.reduceMul, Nat.reduceLeDiff, zc, Int.reduceToNat, s0, p1, p2, p3, p4, eq_false w1, eq_false w2]
     refine RETS_D Ur (upr_same _ _ _ _) rfl ⟨by (repeat' first | assumption | exact Frm.refl _ _ _ _ | refine Frm.src ?_ _ (by decide) | refine Frm.wr ?_ _ _ _ (by decide) (by omega) | refine Frm.al ?_ _ _ _ (by decide) rfl | refine Frm.ug ?_ _ (by decide)), O, M, F, n, so, uo, sp, up, 127040, uq, off, k, l, upd2 G (off + (1 + i)) (1 + j) v, rfl, Nat.le_trans h2 (upg_ge _ _ _), Nat.le_trans h5 (upg_ge _ _ _), Nat.le_trans h8 (upg_ge _ _ _), ?_, ?_, ?_, h10, h11, h12, h13, h14⟩
     all_goals simp only [↓za, ↓reduceIte, Nat.reduceEqDiff, zb, reduceCtorEq, eq_false n1, eq_false n2, eq_false w1, eq_false w2]
     all_goals assumption
    ·have w1 : ¬ (so = 69778 ∧ uo = uq) := by rintro ⟨rfl, _⟩; exact absurd h1 (by decide)
     have w2 : ¬ (sp = 69778 ∧ up = uq) := by rintro ⟨rfl, _⟩; exact absurd h4 (by decide)
     refine CLLD_inS [⟨some [12320], []⟩, ⟨some [12320], []⟩, e0, e0, e0, ⟨some [], [8288]⟩, e0, ⟨some [69778], []⟩, ⟨some [69778], []⟩, e0] (xNext hc hS4 (n := (k : Int) - 1) (by omega) (by kernel_rfl)) rfl ?_ rfl (by kernel_rfl) rfl
     intro r5 ro5 gn5 hN
     obtain ⟨i, rfl, -, hi, hgE, k5, hS5, f5⟩ := hN.out
     dsimp only at hgE k5 f5
     subst hgE
     obtain ⟨i0, i1⟩ := hi (by omega)
     obtain ⟨i, rfl⟩ := Int.eq_ofNat_of_zero_le i0
     have hF5 := f5 WL rb gb (by decide) hF4
     have d1 := (k5 12320 _ (by decide)).trans c1
     have d2 := (k5 4096 _ (by decide)).trans c2
     have d3 := (k5 so uo N1).trans c3
     have d4 := (k5 sp up N2).trans c4
     have d5 := (k5 69778 uq (by decide)).trans c5
     have hik : 1 + i < k := by omega
     have eI : (1 : Int) + (i : Int) = ((1 + i : Nat) : Int) := by omega
     have hin : off + (1 + i) < off + k := by omega
     simp (maxSteps := 10000000) (disch := first | assumption | omega) only [go_sem, ↓reduceIte, Nat.reduceEqDiff, reduceCtorEq, Nat.reduceAdd, Nat.reduceMul, Nat.reduceLeDiff, zc, Int.reduceToNat, s0, d5, eI]
     refine FING_of rfl ?_
     simp (maxSteps := 10000000) (disch := first | assumption | omega) only [go_sem, ↓reduceIte, Nat.reduceEqDiff, reduceCtorEq, Nat.reduceAdd, Nat.reduceMul, Nat.reduceLeDiff, zc, Int.reduceToNat, s0, d1]
     refine CLLD_inS [e0, e0, e0, e0, ⟨some [], [8288]⟩, e0, e0, ⟨some [12320], []⟩, ⟨some [12320], []⟩, ⟨some [12320], []⟩, ⟨some [], [8288]⟩, ⟨some [69778], []⟩, ⟨some [69778], [69778]⟩] (xNext hc hS5 (n := (k : Int) - 1) (by omega) (by kernel_rfl)) rfl ?_ rfl (by kernel_rfl) rfl
     intro r6 ro6 gn6 hN
     obtain ⟨j, rfl, -, hj, hgE, k6, hS6, f6⟩ := hN.out
     dsimp only at hgE k6 f6
     subst hgE
     obtain ⟨j0, j1⟩ := hj (by omega)
     obtain ⟨j, rfl⟩ := Int.eq_ofNat_of_zero_le j0
     have hF6 := f6 WL rb gb (by decide) hF5
     have g1 := (k6 12320 _ (by decide)).trans d1
     have g2 := (k6 4096 _ (by decide)).trans d2
     have g3 := (k6 so uo N1).trans d3
     have g4 := (k6 sp up N2).trans d4
     have g5 := (k6 69778 uq (by decide)).trans d5
     have hjl : 1 + j < l := by omega
     have eJ : (1 : Int) + (j : Int) = ((1 + j : Nat) : Int) := by omega
     simp (maxSteps := 10000000) (disch := first | assumption | omega) only [go_sem, ↓reduceIte, Nat.reduceEqDiff, reduceCtorEq, Nat.reduceAdd, Nat.reduceMul, Nat.reduceLeDiff, zc, Int.reduceToNat, s0, g1, eJ]
     refine CLLG_inS (xNext hc hS6 (n := M) (by omega) (by kernel_rfl)) ?_ rfl
     intro r7 ro7 gn7 hN
     obtain ⟨v, rfl, -, hv, hgE, k7, hS7, f7⟩ := hN.out
     dsimp only at hgE k7 f7
     subst hgE
     have hF7 := f7 WL rb gb (by decide) hF6
     have p1 := (k7 12320 _ (by decide)).trans g1
     have p2 := (k7 4096 _ (by decide)).trans g2
     have p3 := (k7 so uo N1).trans g3
     have p4 := (k7 sp up N2).trans g4
     have p5 := (k7 69778 uq (by decide)).trans g5
     simp (maxSteps := 10000000) (disch := first | assumption | omega) only [go_sem, ↓reduceIte, Nat.reduceEqDiff, reduceCtorEq, Nat.reduceAdd, Nat.reduceMul, Nat.reduceLeDiff, zc, Int.reduceToNat, s0, p1, p5, mat_cells p5 hin, mat_bx p5 hin, mat_wr p5 hin hjl]
     refine FING_of rfl ?_
     simp (maxSteps := 10000000) (disch := first | assumption | omega) only [go_sem, ↓reduceIte, Nat.reduceEqDiff, reduceCtorEq, Nat.reduceAdd, Nat.reduceMul, Nat.reduceLeDiff, zc, Int.reduceToNat, s0, p1, p2, p3, p4, eq_false w1, eq_false w2]
     refine RETS_D Ur (upr_same _ _ _ _) rfl ⟨by (repeat' first | assumption | exact Frm.refl _ _ _ _ | refine Frm.src ?_ _ (by decide) | refine Frm.wr ?_ _ _ _ (by decide) (by omega) | refine Frm.al ?_ _ _ _ (by decide) rfl | refine Frm.ug ?_ _ (by decide)), O, M, F, n, so, uo, sp, up, 69778, uq, off, k, l, upd2 G (off + (1 + i)) (1 + j) v, rfl, Nat.le_trans h2 (upg_ge _ _ _), Nat.le_trans h5 (upg_ge _ _ _), Nat.le_trans h8 (upg_ge _ _ _), ?_, ?_, ?_, h10, h11, h12, h13, h14⟩
     all_goals simp only [↓za, ↓reduceIte, Nat.reduceEqDiff, zb, reduceCtorEq, eq_false n1, eq_false n2, eq_false w1, eq_false w2]
     all_goals assumption
   ·simp (maxSteps := 10000000) (disch := first | assumption | omega) only [go_sem, ↓reduceIte, Nat.reduceEqDiff, reduceCtorEq, Nat.reduceAdd, Nat.reduceMul, Nat.reduceLeDiff, zc, Int.reduceToNat, s0, eq_false hx0, c1, c2, c3, c4, c5]
    refine RETS_D Ur (upr_same _ _ _ _) rfl ⟨by (repeat' first | assumption | exact Frm.refl _ _ _ _ | refine Frm.src ?_ _ (by decide) | refine Frm.wr ?_ _ _ _ (by decide) (by omega) | refine Frm.al ?_ _ _ _ (by decide) rfl | refine Frm.ug ?_ _ (by decide)), O, M, F, n, so, uo, sp, up, sq, uq, off, k, l, G, rfl, Nat.le_trans h2 (upg_ge _ _ _), Nat.le_trans h5 (upg_ge _ _ _), Nat.le_trans h8 (upg_ge _ _ _), ?_, ?_, ?_, h10, h11, h12, h13, h14⟩
    all_goals simp only [↓za, ↓reduceIte, Nat.reduceEqDiff, zb, reduceCtorEq, eq_false n1, eq_false n2, eq_false n3, eq_false m1, eq_false m2, eq_false m3]
    all_goals assumption
  ·simp (maxSteps := 10000000) (disch := first | assumption | omega) only [go_sem, ↓reduceIte, Nat.reduceEqDiff, reduceCtorEq, Nat.reduceAdd, Nat.reduceMul, Nat.reduceLeDiff, zc, Int.reduceToNat, s0, eq_false hk, e2, h3, h6, h9, eq_false m1, eq_false m2, eq_false m3, undef]
   refine RETS_D Ur (upr_same _ _ _ _) rfl ⟨by (repeat' first | assumption | exact Frm.refl _ _ _ _ | refine Frm.src ?_ _ (by decide) | refine Frm.wr ?_ _ _ _ (by decide) (by omega) | refine Frm.al ?_ _ _ _ (by decide) rfl | refine Frm.ug ?_ _ (by decide)), O, M, F, n, so, uo, sp, up, sq, uq, off, k, l, G, rfl, Nat.le_trans h2 (upg_ge _ _ _), Nat.le_trans h5 (upg_ge _ _ _), Nat.le_trans h8 (upg_ge _ _ _), ?_, ?_, ?_, h10, h11, h12, h13, h14⟩
   all_goals simp only [↓za, ↓reduceIte, Nat.reduceEqDiff, zb, reduceCtorEq, eq_false n1, eq_false n2, eq_false n3, eq_false m1, eq_false m2, eq_false m3]
   all_goals assumption
end
end Go.Proofs.YthpmddoakefbmaaGreat
/- Short names, IV. -/
namespace Go.Proofs.YthpmddoakefbmaaGreat
open Go.RowKit
theorem KQt {p : Prop} (h : p := by (repeat' first | assumption | exact Frm.refl _ _ _ _ | refine Frm.src ?_ _ (by decide) | refine Frm.wr ?_ _ _ _ (by decide) (by omega) | refine Frm.al ?_ _ _ _ (by decide) rfl | refine Frm.ug ?_ _ (by decide))) : p := h
end Go.Proofs.YthpmddoakefbmaaGreat
/- Draws of the law on braidings, II. -/
namespace Go.Proofs.YthpmddoakefbmaaGreat
open Go.RowKit
set_option maxRecDepth 1000000
theorem RETS_DD {k k2 : Nat} {Po : AV → Ro → (Nat → Nat) → Prop} {sl : Nat → AV} {ro : Ro} {gn : Nat → Nat} {s g s2 g2 : Nat} {o i v c o2 i2 v2 c2 : AV} (h1 : sl k = .ptr s g [] 0) (h2 : ro s g = some (.bx [o, i, v, c])) (hl : zfi s g [] 0 [o, i, v, c] = [o, i, v, c]) (h3 : sl k2 = .ptr s2 g2 [] 0) (h4 : ro s2 g2 = some (.bx [o2, i2, v2, c2])) (hl2 : zfi s2 g2 [] 0 [o2, i2, v2, c2] = [o2, i2, v2, c2]) (hp : Po (.tup [.agg [o, i, v, c], .agg [o2, i2, v2, c2]]) ro gn) : RETS ti0 [.cell k 30, .cell k2 30] Po .ret ⟨sl, ro, gn⟩ := by
 refine ⟨.inr rfl, [.agg [o, i, v, c], .agg [o2, i2, v2, c2]], ?_, hp⟩
 have e : (⟨sl, ro, gn⟩ : St).ev (.tmp k) = .ptr s g [] 0 := h1
 have e2 : (⟨sl, ro, gn⟩ : St).ev (.tmp k2) = .ptr s2 g2 [] 0 := h3
 have q1 : opC ti0 0 ro gn (⟨sl, ro, gn⟩ : St).ev (.load 30 (.tmp k)) = some ⟨.agg [o, i, v, c], none, [], []⟩ := by
  simp only [opC, e, tiD, Ro.cells, h2, blk]
  simp [hl]
 have q2 : opC ti0 0 ro gn (⟨sl, ro, gn⟩ : St).ev (.load 30 (.tmp k2)) = some ⟨.agg [o2, i2, v2, c2], none, [], []⟩ := by
  simp only [opC, e2, tiD, Ro.cells, h4, blk]
  simp [hl2]
 simp only [resL, q1, q2]
theorem cob_rng {O : List Int} {M : Int} {F : List (List Int)} (hm : 1 ≤ M) (n : Nat) : ∀ x, x < n → ∀ y, y < n → ∀ z, z < n → 0 ≤ cobF O M F x y z ∧ cobF O M F x y z < M := fun x _ y _ z _ => by
 unfold cobF; exact ⟨Int.emod_nonneg _ (by omega), Int.emod_lt_of_pos _ (by omega)⟩
theorem tu_rng {M : Int} {F : List (List Int)} (hm : 1 ≤ M) (n : Nat) : ∀ x, x < n → ∀ y, y < n → 0 ≤ tuF M F x y ∧ tuF M F x y < M := fun x _ y _ => by
 unfold tuF; exact ⟨Int.emod_nonneg _ (by omega), Int.emod_lt_of_pos _ (by omega)⟩
theorem RCh.loc {O : List Int} {n : Nat} {m : Int} : ∀ gn r ro' gn' ro2 gn1 gn2, (∀ s, s ∈ WCh ++ LO → ro2 s = ro' s ∧ gn1 s = gn s ∧ gn2 s = gn' s) → RCh O n m gn r ro' gn' → RCh O n m gn1 r ro2 gn2 := by
 rintro gn r ro' gn' ro2 gn1 gn2 h ⟨C, u1, u2, u3, e0, p1, p2, p3, p4, p5, p6, q1, q2, q3, q4⟩
 obtain ⟨a1, a2, a3⟩ := h 12304 (by decide)
 obtain ⟨b1, b2, b3⟩ := h 12352 (by decide)
 obtain ⟨c1, c2, c3⟩ := h 127040 (by decide)
 exact ⟨C, u1, u2, u3, e0, by rw [a2]; exact p1, by rw [a3]; exact p2, by rw [b2]; exact p3, by rw [b3]; exact p4, by rw [c2]; exact p5, by rw [c3]; exact p6, by rw [a1]; exact q1, by rw [b1]; exact q2, by rw [c1]; exact q3, q4⟩
theorem le_of {q r w : List Nat} (h : ∀ s, s ∈ q → s ∈ r) : FP.le ⟨some q, w⟩ ⟨some r, w⟩ := ⟨⟨_, rfl, h⟩, fun _ h => h⟩
def LB : List Nat := LO ++ LC ++ LQ
theorem inLB {so sp sq : Nat} (h1 : so ∈ LO) (h2 : sp ∈ LC) (h3 : sq ∈ LQ) (t : Nat) : ∀ s, s ∈ [t, so, sp, sq] → s ∈ t :: LB := by
 intro s hs
 simp only [List.mem_cons, List.not_mem_nil, or_false] at hs
 simp only [LB, List.mem_cons, List.mem_append]
 rcases hs with rfl | rfl | rfl | rfl
 ·exact .inl rfl
 ·exact .inr (.inl (.inl h1))
 ·exact .inr (.inl (.inr h2))
 ·exact .inr (.inr h3)
def WM : List Nat := 4112 :: 28784 :: 28785 :: 28864 :: 32928 :: 32929 :: 32930 :: 69776 :: 69777 :: 69778 :: (W17 ++ WL ++ WCh)
def FW : List Nat := WCh ++ LO
theorem RBr.loc : ∀ gn r ro' gn' ro2 gn1 gn2, (∀ s, s ∈ W18 → ro2 s = ro' s ∧ gn1 s = gn s ∧ gn2 s = gn' s) → RBr gn r ro' gn' → RBr gn1 r ro2 gn2 := by
 rintro gn r ro' gn' ro2 gn1 gn2 h ⟨O, M, F, G, n, so, sp, sq, uo, uv, uc, e0, hso, h1, h2, h3, hO, hV, hC, BV⟩
 have hin : so ∈ W18 ∧ sp ∈ W18 ∧ sq ∈ W18 := by
  simp only [L18, List.mem_cons, List.not_mem_nil, or_false, Prod.mk.injEq] at hso
  rcases hso with ⟨rfl, rfl, rfl⟩ | ⟨rfl, rfl, rfl⟩ | ⟨rfl, rfl, rfl⟩ | ⟨rfl, rfl, rfl⟩ <;> decide
 obtain ⟨a1, a2, a3⟩ := h so hin.1
 obtain ⟨b1, b2, b3⟩ := h sp hin.2.1
 obtain ⟨c1, c2, c3⟩ := h sq hin.2.2
 exact ⟨O, M, F, G, n, so, sp, sq, uo, uv, uc, e0, hso, by rw [a2, a3]; exact h1, by rw [b2, b3]; exact h2, by rw [c2, c3]; exact h3, by rw [a1]; exact hO, by rw [b1]; exact hV, by rw [c1]; exact hC, BV⟩
section
variable {a : AV} {bs : List Int} {rb : Ro} {gb : Nat → Nat}
set_option maxHeartbeats 8000000 in
theorem sAdd (hc : Cod a bs) (hl : bs.length ≤ 4096) : InS Tryz.prog 12 [a] rb gb
  (fun r ro' gn' => Frm WM (gb 8288 + 1) rb gb ro' gn' ∧ ∃ x y, r = .tup [x, y] ∧ LvB x ro' gn' ∧ LvB y ro' gn') := by
 have hb := hc.b
 refine in_ofS (fn := Tryz.f12) (code := bodyOf Tryz.f12) Tryz.func12 rfl (by kernel_rfl) ?_
 intro sl hs
 have s0 : sl 0 = a := hs 0
 dsimp only [Tryz.f12, bodyOf, Option.getD]
 simp (maxSteps := 10000000) (disch := first | assumption | omega) only [go_sem, ↓reduceIte, Nat.reduceEqDiff, reduceCtorEq, Nat.reduceAdd, Nat.reduceMul, Nat.reduceLeDiff, zc, Int.reduceToNat, s0]
 refine CLL_in rfl _ _ _ (inFrom hb hl _ _) ?_
 simp (maxSteps := 10000000) (disch := first | assumption | omega) only [go_sem, ↓reduceIte, Nat.reduceEqDiff, reduceCtorEq, Nat.reduceAdd, Nat.reduceMul, Nat.reduceLeDiff, zc, Int.reduceToNat, s0]
 refine CLL_inS rfl (sSpoil (g := gb 8288 + 1) hc (by simp only [↓za, ↓reduceIte, Nat.reduceEqDiff, zb, reduceCtorEq]; exact ⟨0, _, Nat.zero_le _, rfl⟩)) ?_
 rintro _ ro2 gn2 ⟨hF2, hS2, o, c, O, M, F, n, sq, uq, off, k, l, G, rfl, ⟨so, uo, rfl, h1, -, h2, h3⟩, ⟨sp, up, rfl, h4, -, h5, h6⟩, h7, h7b, h8, h9, h10, h11, h12, ho1, h13, h14⟩
 dsimp only at hF2 h7b
 have hF : Frm WM (gb 8288 + 1) rb gb ro2 gn2 := Frm.trans KPt (hF2.monoB (W' := WM) (by decide))
 have e2 := hF2.kp 4096 (gb 4096 + 1) Ur (by rintro ⟨h, _⟩; omega)
 have e3 := hF2.kp 4112 (gb 4112 + 1) Ur (by rintro ⟨h, _⟩; omega)
 simp only [↓za, ↓reduceIte, Nat.reduceEqDiff, zb, reduceCtorEq] at e2 e3
 have w4096 : gb 4096 + 1 ≤ gn2 4096 := by have := hF2.up 4096; simpa only [↓za, ↓reduceIte, Nat.reduceEqDiff, zb, reduceCtorEq] using this
 have w4112 : gb 4112 + 1 ≤ gn2 4112 := by have := hF2.up 4112; simpa only [↓za, ↓reduceIte, Nat.reduceEqDiff, zb, reduceCtorEq] using this
 have n1 : ¬ so = 4096 := by rintro rfl; exact absurd h1 (by decide)
 have n2 : ¬ sp = 4096 := by rintro rfl; exact absurd h4 (by decide)
 have n3 : ¬ sq = 4096 := by rintro rfl; exact absurd h7 (by decide)
 have m1 : ¬ so = 12320 := by rintro rfl; exact absurd h1 (by decide)
 have m2 : ¬ sp = 12320 := by rintro rfl; exact absurd h4 (by decide)
 have m3 : ¬ sq = 12320 := by rintro rfl; exact absurd h7 (by decide)
 have r1 : ¬ so = 4112 := by rintro rfl; exact absurd h1 (by decide)
 have r2 : ¬ sp = 4112 := by rintro rfl; exact absurd h4 (by decide)
 have r3 : ¬ sq = 4112 := by rintro rfl; exact absurd h7 (by decide)
 have N1 : so ≠ 8288 := by rintro rfl; exact absurd h1 (by decide)
 have N2 : sp ≠ 8288 := by rintro rfl; exact absurd h4 (by decide)
 have N3 : sq ≠ 8288 := by rintro rfl; exact absurd h7 (by decide)
 have u1 := hF.up 12320
 have u2 := hF.up 4096
 have u3 := hF.up 4112
 simp (maxSteps := 10000000) (disch := first | assumption | omega) only [go_sem, ↓reduceIte, Nat.reduceEqDiff, reduceCtorEq, Nat.reduceAdd, Nat.reduceMul, Nat.reduceLeDiff, zc, Int.reduceToNat, s0, h3, h6, h9, eq_false m1, eq_false m2, eq_false m3]
 obtain ⟨t, ht⟩ : ∃ t : Bool, (t = true ↔ BrP O M F n (shG G off) k l) := ⟨@decide _ (Classical.propDecidable _), @decide_eq_true_iff _ (Classical.propDecidable _)⟩
 have c1 := cIs18 (isL_imm O) h10 (isLLL_immC F n) (isLL_imm (matL (shG G off) k l)) (by omega) (by omega) ht
 refine CLL_q _ c1 (.cons (exq_agg (.cons (exq_refL (by simp only [↓za, ↓reduceIte, Nat.reduceEqDiff, zb, reduceCtorEq, eq_false m1]; exact h3) rfl (by decide)) (.cons (exq_sc _ _ _ (by decide)) (.cons (exq_cube (by simp only [↓za, ↓reduceIte, Nat.reduceEqDiff, zb, reduceCtorEq, eq_false m2]; exact h6) (by decide)) (.cons (exq_mato (by simp only [↓za, ↓reduceIte, Nat.reduceEqDiff, zb, reduceCtorEq, eq_false m3]; exact h9) (by decide)) .nil))))) .nil) rfl rfl rfl ?_
 cases t with
 | false =>
  have hSS := hS2
  simp (maxSteps := 10000000) (disch := first | assumption | omega) only [go_sem, ↓reduceIte, Nat.reduceEqDiff, reduceCtorEq, Nat.reduceAdd, Nat.reduceMul, Nat.reduceLeDiff, zc, Int.reduceToNat, s0, undef]
  refine CLLD_inS [⟨some [12320], []⟩, e0, ⟨some [], W18⟩, ⟨some (4096 :: LB), [4096]⟩, ⟨some (4112 :: LB), [4112]⟩] (inX_frm (W := W18) (g := gb 8288 + 1) (a := a) (bs := bs) (R := []) (by decide) (fun ro1 gn1 k1 k2 => sDraw18 hc (by rw [k1 8288 (.inr (by decide))]; first | exact hSS | (simp only [↓za, ↓reduceIte, Nat.reduceEqDiff, zb, reduceCtorEq]; exact hSS))) RBr.loc (by kernel_rfl) (.inr (aftB_ok (by kernel_rfl)))) rfl ?_ rfl (by kernel_rfl) rfl
  rintro _ ro5 gn5 ⟨hF5, hS5, O', M', F', G', n', so', sp', sq', uo', uv', uc', rfl, hso, j1, j2, j3, hO, hV, hC, BV⟩
  dsimp only at hF5 j1 j2 j3
  have d1 : ro5 12320 (gn2 12320 + 1) = some (.bx [.ref so uo [] 0 O.length, i64 M, .ref sp up [] 0 n, .ref sq uq [] off k]) := (hF5.kp 12320 _ Ur (by rintro ⟨h, _⟩; omega)).trans (by first | exact c1 | (simp only [↓za, ↓reduceIte, Nat.reduceEqDiff, zb, reduceCtorEq]))
  have d2 := (hF5.kp 4096 (gb 4096 + 1) (Ue w4096) (by rintro ⟨h, _⟩; omega)).trans (by first | exact c2 | (simp only [↓za, ↓reduceIte, Nat.reduceEqDiff, zb, reduceCtorEq]; exact e2))
  have d3 := (hF5.kp 4112 (gb 4112 + 1) (Ue w4112) (by rintro ⟨h, _⟩; omega)).trans (by first | exact c3 | (simp only [↓za, ↓reduceIte, Nat.reduceEqDiff, zb, reduceCtorEq]; exact e3))
  have d4 := (hF5.kp so uo (Nat.le_trans h2 (upg_ge _ _ _)) (fun h => N1 h.1)).trans (by first | exact c4 | (simp only [↓za, ↓reduceIte, Nat.reduceEqDiff, zb, reduceCtorEq, eq_false m1]; exact h3))
  have d5 := (hF5.kp sp up (Nat.le_trans h5 (upg_ge _ _ _)) (fun h => N2 h.1)).trans (by first | exact c5 | (simp only [↓za, ↓reduceIte, Nat.reduceEqDiff, zb, reduceCtorEq, eq_false m2]; exact h6))
  have d6 := (hF5.kp sq uq (Nat.le_trans h8 (upg_ge _ _ _)) (fun h => N3 h.1)).trans (by first | exact c6 | (simp only [↓za, ↓reduceIte, Nat.reduceEqDiff, zb, reduceCtorEq, eq_false m3]; exact h9))
  have j11 := j1.2
  have j21 := j2.2
  have j31 := j3.2
  have i1 : uo ≤ gn5 so := Nat.le_trans (Nat.le_trans h2 (upg_ge _ _ _)) (hF5.up so)
  have i2 : up ≤ gn5 sp := Nat.le_trans (Nat.le_trans h5 (upg_ge _ _ _)) (hF5.up sp)
  have i3 : uq ≤ gn5 sq := Nat.le_trans (Nat.le_trans h8 (upg_ge _ _ _)) (hF5.up sq)
  have hF6 : Frm WM (gb 8288 + 1) rb gb ro5 gn5 := Frm.trans KQt (hF5.monoB (W' := WM) (by decide))
  simp (maxSteps := 10000000) (disch := first | assumption | omega) only [go_sem, ↓reduceIte, Nat.reduceEqDiff, reduceCtorEq, Nat.reduceAdd, Nat.reduceMul, Nat.reduceLeDiff, zc, Int.reduceToNat, s0, d1, d4, d5, d6, d2]
  simp only [L18, List.mem_cons, List.not_mem_nil, or_false, Prod.mk.injEq] at hso
  rcases hso with ⟨rfl, rfl, rfl⟩ | ⟨rfl, rfl, rfl⟩ | ⟨rfl, rfl, rfl⟩ | ⟨rfl, rfl, rfl⟩
  all_goals
   simp (maxSteps := 10000000) (disch := first | assumption | omega) only [go_sem, ↓reduceIte, Nat.reduceEqDiff, reduceCtorEq, Nat.reduceAdd, Nat.reduceMul, Nat.reduceLeDiff, zc, Int.reduceToNat, s0, d3, hO, hV, hC]
   refine FING_le ⟨FP.le_refl _, FP.le_refl _, FP.le_refl _, le_of (inLB h1 h4 h7 _), le_of (by decide), trivial⟩ ?_
   simp (maxSteps := 10000000) (disch := first | assumption | omega) only [go_sem, ↓reduceIte, Nat.reduceEqDiff, reduceCtorEq, Nat.reduceAdd, Nat.reduceMul, Nat.reduceLeDiff, zc, Int.reduceToNat, s0]
   refine RETS_DD (s := 4096) (g := gb 4096 + 1) (s2 := 4112) (g2 := gb 4112 + 1) Ur Ur rfl Ur Ur rfl ⟨KQt, _, _, rfl, ⟨O, M, F, n, so, uo, sp, up, sq, uq, off, k, l, G, rfl, i1, i2, i3, ?_, ?_, ?_, h10, h11, h12, h13, h14⟩, ⟨O', M', F', n', _, uo', _, uv', _, uc', 0, n', n', G', rfl, j11, j21, j31, ?_, ?_, ?_, Nat.le_trans BV.w.l (by decide), BV.w.n8, ⟨by have := BV.w.m; omega, by have := BV.w.m; omega⟩, BV.w.n8, BV.w.n8⟩⟩
   all_goals simp only [↓za, ↓reduceIte, Nat.reduceEqDiff, zb, reduceCtorEq, Nat.zero_add, eq_false n1, eq_false n2, eq_false n3, eq_false r1, eq_false r2, eq_false r3]
   all_goals assumption
 | true =>
  have hbr := ht.1 rfl
  obtain ⟨hkn, hln⟩ := hbr.s.sq
  have hM := hbr.s.w.s.m
  have hG := hbr.s.w.s.g h10
  have hn0 := hbr.s.w.s.pos
  have hne : (k : Int) = pfx O O.length := by rw [hkn]; exact hbr.s.w.s.e
  simp (maxSteps := 10000000) (disch := first | assumption | omega) only [go_sem, ↓reduceIte, Nat.reduceEqDiff, reduceCtorEq, Nat.reduceAdd, Nat.reduceMul, Nat.reduceLeDiff, zc, Int.reduceToNat, s0]
  refine CLL_inS rfl (sNext (g := gb 8288 + 1) hc (Ue hS2) (n := 8) (by omega)) ?_
  intro r4 ro4 gn4 hN
  obtain ⟨x, rfl, -, hx, hgE, k4, hS4, f4⟩ := hN.out
  dsimp only at hgE k4 f4
  subst hgE
  have hF4 := f4 WM rb gb (by decide) KQt
  have c1 := (k4 12320 (gn2 12320 + 1) (by decide)).trans Ur
  have c2 := (k4 4096 (gb 4096 + 1) (by decide)).trans (Ue e2)
  have c3 := (k4 4112 (gb 4112 + 1) (by decide)).trans (Ue e3)
  have c4 := (k4 so uo N1).trans (by simp only [↓za, ↓reduceIte, Nat.reduceEqDiff, zb, reduceCtorEq, eq_false m1]; exact h3)
  have c5 := (k4 sp up N2).trans (by simp only [↓za, ↓reduceIte, Nat.reduceEqDiff, zb, reduceCtorEq, eq_false m2]; exact h6)
  have c6 := (k4 sq uq N3).trans (by simp only [↓za, ↓reduceIte, Nat.reduceEqDiff, zb, reduceCtorEq, eq_false m3]; exact h9)
  by_cases hx0 : x = 0
  ·have hSS := hS4
   simp (maxSteps := 10000000) (disch := first | assumption | omega) only [go_sem, ↓reduceIte, Nat.reduceEqDiff, reduceCtorEq, Nat.reduceAdd, Nat.reduceMul, Nat.reduceLeDiff, zc, Int.reduceToNat, s0, eq_true hx0, c1, c4, c5, c6]
   refine CLLD_inS [⟨some [12320], []⟩, e0, ⟨some [], W18⟩, ⟨some (4096 :: LB), [4096]⟩, ⟨some (4112 :: LB), [4112]⟩] (inX_frm (W := W18) (g := gb 8288 + 1) (a := a) (bs := bs) (R := []) (by decide) (fun ro1 gn1 k1 k2 => sDraw18 hc (by rw [k1 8288 (.inr (by decide))]; first | exact hSS | (simp only [↓za, ↓reduceIte, Nat.reduceEqDiff, zb, reduceCtorEq]; exact hSS))) RBr.loc (by kernel_rfl) (.inr (aftB_ok (by kernel_rfl)))) rfl ?_ rfl (by kernel_rfl) rfl
   rintro _ ro5 gn5 ⟨hF5, hS5, O', M', F', G', n', so', sp', sq', uo', uv', uc', rfl, hso, j1, j2, j3, hO, hV, hC, BV⟩
   dsimp only at hF5 j1 j2 j3
   have d1 : ro5 12320 (gn2 12320 + 1) = some (.bx [.ref so uo [] 0 O.length, i64 M, .ref sp up [] 0 n, .ref sq uq [] off k]) := (hF5.kp 12320 _ Ur (by rintro ⟨h, _⟩; omega)).trans (by first | exact c1 | (simp only [↓za, ↓reduceIte, Nat.reduceEqDiff, zb, reduceCtorEq]))
   have d2 := (hF5.kp 4096 (gb 4096 + 1) (Ue w4096) (by rintro ⟨h, _⟩; omega)).trans (by first | exact c2 | (simp only [↓za, ↓reduceIte, Nat.reduceEqDiff, zb, reduceCtorEq]; exact e2))
   have d3 := (hF5.kp 4112 (gb 4112 + 1) (Ue w4112) (by rintro ⟨h, _⟩; omega)).trans (by first | exact c3 | (simp only [↓za, ↓reduceIte, Nat.reduceEqDiff, zb, reduceCtorEq]; exact e3))
   have d4 := (hF5.kp so uo (Nat.le_trans h2 (upg_ge _ _ _)) (fun h => N1 h.1)).trans (by first | exact c4 | (simp only [↓za, ↓reduceIte, Nat.reduceEqDiff, zb, reduceCtorEq, eq_false m1]; exact h3))
   have d5 := (hF5.kp sp up (Nat.le_trans h5 (upg_ge _ _ _)) (fun h => N2 h.1)).trans (by first | exact c5 | (simp only [↓za, ↓reduceIte, Nat.reduceEqDiff, zb, reduceCtorEq, eq_false m2]; exact h6))
   have d6 := (hF5.kp sq uq (Nat.le_trans h8 (upg_ge _ _ _)) (fun h => N3 h.1)).trans (by first | exact c6 | (simp only [↓za, ↓reduceIte, Nat.reduceEqDiff, zb, reduceCtorEq, eq_false m3]; exact h9))
   have j11 := j1.2
   have j21 := j2.2
   have j31 := j3.2
   have i1 : uo ≤ gn5 so := Nat.le_trans (Nat.le_trans h2 (upg_ge _ _ _)) (hF5.up so)
   have i2 : up ≤ gn5 sp := Nat.le_trans (Nat.le_trans h5 (upg_ge _ _ _)) (hF5.up sp)
   have i3 : uq ≤ gn5 sq := Nat.le_trans (Nat.le_trans h8 (upg_ge _ _ _)) (hF5.up sq)
   have hF6 : Frm WM (gb 8288 + 1) rb gb ro5 gn5 := Frm.trans KQt (hF5.monoB (W' := WM) (by decide))
   simp (maxSteps := 10000000) (disch := first | assumption | omega) only [go_sem, ↓reduceIte, Nat.reduceEqDiff, reduceCtorEq, Nat.reduceAdd, Nat.reduceMul, Nat.reduceLeDiff, zc, Int.reduceToNat, s0, d1, d4, d5, d6, d2]
   simp only [L18, List.mem_cons, List.not_mem_nil, or_false, Prod.mk.injEq] at hso
   rcases hso with ⟨rfl, rfl, rfl⟩ | ⟨rfl, rfl, rfl⟩ | ⟨rfl, rfl, rfl⟩ | ⟨rfl, rfl, rfl⟩
   all_goals
    simp (maxSteps := 10000000) (disch := first | assumption | omega) only [go_sem, ↓reduceIte, Nat.reduceEqDiff, reduceCtorEq, Nat.reduceAdd, Nat.reduceMul, Nat.reduceLeDiff, zc, Int.reduceToNat, s0, d3, hO, hV, hC]
    refine FING_le ⟨FP.le_refl _, FP.le_refl _, FP.le_refl _, le_of (inLB h1 h4 h7 _), le_of (by decide), trivial⟩ ?_
    simp (maxSteps := 10000000) (disch := first | assumption | omega) only [go_sem, ↓reduceIte, Nat.reduceEqDiff, reduceCtorEq, Nat.reduceAdd, Nat.reduceMul, Nat.reduceLeDiff, zc, Int.reduceToNat, s0]
    refine RETS_DD (s := 4096) (g := gb 4096 + 1) (s2 := 4112) (g2 := gb 4112 + 1) Ur Ur rfl Ur Ur rfl ⟨KQt, _, _, rfl, ⟨O, M, F, n, so, uo, sp, up, sq, uq, off, k, l, G, rfl, i1, i2, i3, ?_, ?_, ?_, h10, h11, h12, h13, h14⟩, ⟨O', M', F', n', _, uo', _, uv', _, uc', 0, n', n', G', rfl, j11, j21, j31, ?_, ?_, ?_, Nat.le_trans BV.w.l (by decide), BV.w.n8, ⟨by have := BV.w.m; omega, by have := BV.w.m; omega⟩, BV.w.n8, BV.w.n8⟩⟩
    all_goals simp only [↓za, ↓reduceIte, Nat.reduceEqDiff, zb, reduceCtorEq, Nat.zero_add, eq_false n1, eq_false n2, eq_false n3, eq_false r1, eq_false r2, eq_false r3]
    all_goals assumption
  ·simp (maxSteps := 10000000) (disch := first | assumption | omega) only [go_sem, ↓reduceIte, Nat.reduceEqDiff, reduceCtorEq, Nat.reduceAdd, Nat.reduceMul, Nat.reduceLeDiff, zc, Int.reduceToNat, s0, eq_false hx0, c1, c4, c5, c6]
   refine CLL_inS rfl (sPairing hc (Ue hS4) (n := k) (by omega) hM) ?_
   rintro _ ro5 gn5 ⟨hF5, hS5, P, u5, rfl, hp1, hp2, hP, hbP⟩
   dsimp only at hF5 hp1
   have d1 := off_at hF5 (s := 12320) (u := gn2 12320 + 1) (by decide) c1
   have d2 := off_at hF5 (s := 4096) (u := gb 4096 + 1) (by decide) c2
   have d3 := off_at hF5 (s := 4112) (u := gb 4112 + 1) (by decide) c3
   have d4 := (hF5.kp so uo (Nat.le_trans h2 (upg_ge _ _ _)) (fun h => N1 h.1)).trans c4
   have d5 := (hF5.kp sp up (Nat.le_trans h5 (upg_ge _ _ _)) (fun h => N2 h.1)).trans c5
   have d6 := (hF5.kp sq uq (Nat.le_trans h8 (upg_ge _ _ _)) (fun h => N3 h.1)).trans c6
   have hF6 : Frm WM (gb 8288 + 1) rb gb ro5 gn5 := Frm.trans hF4 (hF5.monoB (W' := WM) (by decide))
   have hsq := Sq.mat fun x hx y hy => ⟨(hbP x hx y hy).1, (hbP x hx y hy).2.1⟩
   simp (maxSteps := 10000000) (disch := first | assumption | omega) only [go_sem, ↓reduceIte, Nat.reduceEqDiff, reduceCtorEq, Nat.reduceAdd, Nat.reduceMul, Nat.reduceLeDiff, zc, Int.reduceToNat, s0, d1, d4]
   refine CLLD_q _ (cCobL hG hne (isLL_imm _) hsq hM) (.cons (exq_refL d4 rfl (by decide)) (.cons (exq_sc _ _ _ (by decide)) (.cons (exq_mat hP (by decide)) .nil))) rfl (noI_cc _ _ _ _) ?_
   simp (maxSteps := 10000000) (disch := first | assumption | omega) only [go_sem, ↓reduceIte, Nat.reduceEqDiff, reduceCtorEq, Nat.reduceAdd, Nat.reduceMul, Nat.reduceLeDiff, zc, Int.reduceToNat, s0, d1, d4, hP]
   refine CLLD_q _ (cTurn (isLL_imm _) hsq (by omega) hM) (.cons (exq_mat (Ue hP) (by decide)) (.cons (exq_sc _ _ _ (by decide)) .nil)) rfl (noI_mat _ _ _) ?_
   simp (maxSteps := 10000000) (disch := first | assumption | omega) only [go_sem, ↓reduceIte, Nat.reduceEqDiff, reduceCtorEq, Nat.reduceAdd, Nat.reduceMul, Nat.reduceLeDiff, zc, Int.reduceToNat, s0, d1, d4, hP]
   refine FIN_of (by simp only [LO, List.mem_cons, List.not_mem_nil, or_false] at h1; rcases h1 with rfl | rfl | rfl | rfl | rfl | rfl | rfl | rfl | rfl <;> kernel_rfl) ?_
   have hmO : so ∈ WCh ++ LO := List.mem_append.2 (.inr h1)
   have x1 : ¬ so = 28784 := by rintro rfl; exact absurd h1 (by decide)
   have x2 : ¬ so = 28785 := by rintro rfl; exact absurd h1 (by decide)
   have x3 : ¬ so = 28864 := by rintro rfl; exact absurd h1 (by decide)
   have x4 : ¬ so = 28896 := by rintro rfl; exact absurd h1 (by decide)
   have y1 : ¬ sp = 28784 := by rintro rfl; exact absurd h4 (by decide)
   have y2 : ¬ sp = 28785 := by rintro rfl; exact absurd h4 (by decide)
   have y3 : ¬ sp = 28864 := by rintro rfl; exact absurd h4 (by decide)
   have y4 : ¬ sp = 28896 := by rintro rfl; exact absurd h4 (by decide)
   have z1 : ¬ sq = 28784 := by rintro rfl; exact absurd h7 (by decide)
   have z2 : ¬ sq = 28785 := by rintro rfl; exact absurd h7 (by decide)
   have z3 : ¬ sq = 28864 := by rintro rfl; exact absurd h7 (by decide)
   have z4 : ¬ sq = 28896 := by rintro rfl; exact absurd h7 (by decide)
   have u7 := hF6.up 28896
   simp (maxSteps := 10000000) (disch := first | assumption | omega) only [go_sem, ↓reduceIte, Nat.reduceEqDiff, reduceCtorEq, Nat.reduceAdd, Nat.reduceMul, Nat.reduceLeDiff, zc, Int.reduceToNat, s0, d1, d4, d5, d6, eq_false x1, eq_false x2, eq_false x3, eq_false x4, eq_false y1, eq_false y2, eq_false y3, eq_false y4, eq_false z1, eq_false z2, eq_false z3, eq_false z4]
   refine CLLD_inS [⟨some [12320], []⟩, ⟨some [28896], []⟩, e0, ⟨some [12320], []⟩, ⟨some [12320], []⟩, ⟨some [12320], []⟩, ⟨some [12320], []⟩, ⟨some [12320], []⟩, ⟨some [12320], []⟩, ⟨some [], WCh ++ LO⟩, ⟨some [28784, 28785, 28864, 12304, 12352, 127040], [32928, 32929, 32930]⟩, ⟨some (4096 :: LB), [4096]⟩, ⟨some [4112, 32928, 32929, 32930], [4112]⟩] (inX_frm (W := WCh ++ LO) (g := gb 8288 + 1) (a := a) (bs := bs) (R := []) (by decide) (fun ro1 gn1 k1 k2 => (sChar (gu := uo) (so := so) (n := k) hc (by rw [k1 8288 (.inr (by decide))]; simp only [↓za, ↓reduceIte, Nat.reduceEqDiff, zb, reduceCtorEq]; exact hS5) (by rw [k2 so hmO]; simp only [↓za, ↓reduceIte, Nat.reduceEqDiff, zb, reduceCtorEq, eq_false x1, eq_false x2, eq_false x3, eq_false x4]; exact Nat.le_trans (Nat.le_trans h2 (upg_ge _ _ _)) (hF5.up so)) (fun h => N1 h.1) (by rw [k1 so (.inr hmO)]; simp only [↓za, ↓reduceIte, Nat.reduceEqDiff, zb, reduceCtorEq, eq_false x1, eq_false x2, eq_false x3, eq_false x4]; exact d4) hG hne (by omega) hM).mono (fun r ro' gn' h => ⟨h.1.monoB (W' := WCh ++ LO) (by decide), h.2⟩)) RCh.loc (by kernel_rfl) (.inr (aftB_ok (by kernel_rfl)))) rfl ?_ rfl (by kernel_rfl) rfl
   rintro _ ro8 gn8 ⟨hF8, hS8, C, u1, u2, u3, rfl, a1, b1, a2, b2, a3, b3, rr1, rr2, rr3, hC⟩
   dsimp only at hF8 a1 a2 a3
   have j1 : uo ≤ gn5 so := Nat.le_trans (Nat.le_trans h2 (upg_ge _ _ _)) (hF5.up so)
   have j2 : up ≤ gn5 sp := Nat.le_trans (Nat.le_trans h5 (upg_ge _ _ _)) (hF5.up sp)
   have j3 : uq ≤ gn5 sq := Nat.le_trans (Nat.le_trans h8 (upg_ge _ _ _)) (hF5.up sq)
   have j4 : gb 4096 + 1 ≤ gn5 4096 := Nat.le_trans (Nat.le_trans w4096 (upg_ge _ _ _)) (hF5.up 4096)
   have e1 := off_at hF8 (s := 12320) (u := gn2 12320 + 1) (by decide) (Ue d1)
   have e2' := (hF8.kp 4096 (gb 4096 + 1) (Ue j4) (by rintro ⟨h, _⟩; omega)).trans (Ue d2)
   have e3' := off_at hF8 (s := 4112) (u := gb 4112 + 1) (by decide) (Ue d3)
   have e4 := (hF8.kp so uo (by simp only [↓za, ↓reduceIte, Nat.reduceEqDiff, zb, reduceCtorEq, eq_false x1, eq_false x2, eq_false x3, eq_false x4]; exact j1) (fun h => N1 h.1)).trans (by simp only [↓za, ↓reduceIte, Nat.reduceEqDiff, zb, reduceCtorEq, eq_false x1, eq_false x2, eq_false x3, eq_false x4]; exact d4)
   have e5 := (hF8.kp sp up (by simp only [↓za, ↓reduceIte, Nat.reduceEqDiff, zb, reduceCtorEq, eq_false y1, eq_false y2, eq_false y3, eq_false y4]; exact j2) (fun h => N2 h.1)).trans (by simp only [↓za, ↓reduceIte, Nat.reduceEqDiff, zb, reduceCtorEq, eq_false y1, eq_false y2, eq_false y3, eq_false y4]; exact d5)
   have e6 := (hF8.kp sq uq (by simp only [↓za, ↓reduceIte, Nat.reduceEqDiff, zb, reduceCtorEq, eq_false z1, eq_false z2, eq_false z3, eq_false z4]; exact j3) (fun h => N3 h.1)).trans (by simp only [↓za, ↓reduceIte, Nat.reduceEqDiff, zb, reduceCtorEq, eq_false z1, eq_false z2, eq_false z3, eq_false z4]; exact d6)
   have e7 := off_at hF8 (s := 28896) (u := gn5 28896 + 1) (by decide) Ur
   have e8 := off_at hF8 (s := 28784) (u := gn5 28784 + 1) (by decide) Ur
   have e9 := off_at hF8 (s := 28785) (u := gn5 28785 + 1) (by decide) Ur
   have e10 := off_at hF8 (s := 28864) (u := gn5 28864 + 1) (by decide) Ur
   have l1 : uo ≤ gn8 so := Nat.le_trans j1 (Nat.le_trans (by simp only [↓za, ↓reduceIte, Nat.reduceEqDiff, zb, reduceCtorEq, eq_false x1, eq_false x2, eq_false x3, eq_false x4]; exact Nat.le_refl _) (hF8.up so))
   have l2 : up ≤ gn8 sp := Nat.le_trans j2 (Nat.le_trans (by simp only [↓za, ↓reduceIte, Nat.reduceEqDiff, zb, reduceCtorEq, eq_false y1, eq_false y2, eq_false y3, eq_false y4]; exact Nat.le_refl _) (hF8.up sp))
   have l3 : uq ≤ gn8 sq := Nat.le_trans j3 (Nat.le_trans (by simp only [↓za, ↓reduceIte, Nat.reduceEqDiff, zb, reduceCtorEq, eq_false z1, eq_false z2, eq_false z3, eq_false z4]; exact Nat.le_refl _) (hF8.up sq))
   have hF9 : Frm WM (gb 8288 + 1) rb gb ro8 gn8 := Frm.trans KQt (hF8.monoB (W' := WM) (by decide))
   have vso0 : ¬ so = 32928 := by rintro rfl; exact absurd h1 (by decide)
   have vso1 : ¬ so = 32929 := by rintro rfl; exact absurd h1 (by decide)
   have vso2 : ¬ so = 32930 := by rintro rfl; exact absurd h1 (by decide)
   have vsp0 : ¬ sp = 32928 := by rintro rfl; exact absurd h4 (by decide)
   have vsp1 : ¬ sp = 32929 := by rintro rfl; exact absurd h4 (by decide)
   have vsp2 : ¬ sp = 32930 := by rintro rfl; exact absurd h4 (by decide)
   have vsq0 : ¬ sq = 32928 := by rintro rfl; exact absurd h7 (by decide)
   have vsq1 : ¬ sq = 32929 := by rintro rfl; exact absurd h7 (by decide)
   have vsq2 : ¬ sq = 32930 := by rintro rfl; exact absurd h7 (by decide)
   simp (maxSteps := 10000000) (disch := first | assumption | omega) only [go_sem, ↓reduceIte, Nat.reduceEqDiff, reduceCtorEq, Nat.reduceAdd, Nat.reduceMul, Nat.reduceLeDiff, zc, Int.reduceToNat, s0, e1, e7, e8, e9, e10]
   refine CLLG_q _ (cSum8 (O := O) (O' := O) (isL_imm _) (isL_imm _) (Nat.le_trans h10 (by decide)) (isLLL_immC (cobF O M (matL P k k)) _) (isLLL_immC (fun _ _ _ => 0) _) (isLL_imm (matL (tuF M (matL P k k)) k k)) (isLL_imm (matL C k k)) (by omega) (by omega) hM (cob_rng hM.1 _) (fun _ _ _ _ _ _ => by omega) (tu_rng hM.1 _) hC) (.cons (exq_agg (.cons (exq_refL e8 (by simp only [List.length_map]) (by decide)) (.cons (exq_sc _ _ _ (by decide)) (.cons (exq_cube e9 (by decide)) (.cons (exq_mat e10 (by decide)) .nil))))) (.cons (exq_agg (.cons (exq_refL rr1 rfl (by decide)) (.cons (exq_sc _ _ _ (by decide)) (.cons (exq_cube rr2 (by decide)) (.cons (exq_mat rr3 (by decide)) .nil))))) .nil)) rfl (noI_bb _ _ _ _ _) ?_
   have q1 := hF9.up 32928
   have q2 := hF9.up 32929
   have q3 := hF9.up 32930
   simp (maxSteps := 10000000) (disch := first | assumption | omega) only [go_sem, ↓reduceIte, Nat.reduceEqDiff, reduceCtorEq, Nat.reduceAdd, Nat.reduceMul, Nat.reduceLeDiff, zc, Int.reduceToNat, s0, rr1, rr2, rr3, e2', e3', e4, e5, e6, eq_false vso0, eq_false vso1, eq_false vso2, eq_false vsp0, eq_false vsp1, eq_false vsp2, eq_false vsq0, eq_false vsq1, eq_false vsq2]
   refine FING_le ⟨FP.le_refl _, FP.le_refl _, FP.le_refl _, FP.le_refl _, FP.le_refl _, FP.le_refl _, FP.le_refl _, FP.le_refl _, FP.le_refl _, FP.le_refl _, FP.le_refl _, le_of (inLB h1 h4 h7 _), FP.le_refl _, trivial⟩ ?_
   simp (maxSteps := 10000000) (disch := first | assumption | omega) only [go_sem, ↓reduceIte, Nat.reduceEqDiff, reduceCtorEq, Nat.reduceAdd, Nat.reduceMul, Nat.reduceLeDiff, zc, Int.reduceToNat, s0]
   refine RETS_DD (s := 4096) (g := gb 4096 + 1) (s2 := 4112) (g2 := gb 4112 + 1) Ur (by first | (simp only [↓za, ↓reduceIte, Nat.reduceEqDiff, zb, reduceCtorEq]; done) | (simp only [↓za, ↓reduceIte, Nat.reduceEqDiff, zb, reduceCtorEq]; exact rfl)) rfl Ur (by first | (simp only [↓za, ↓reduceIte, Nat.reduceEqDiff, zb, reduceCtorEq]; done) | (simp only [↓za, ↓reduceIte, Nat.reduceEqDiff, zb, reduceCtorEq]; exact rfl)) rfl ⟨KQt, _, _, rfl, ⟨O, M, F, n, so, uo, sp, up, sq, uq, off, k, l, G, rfl, by simp only [↓za, ↓reduceIte, Nat.reduceEqDiff, zb, reduceCtorEq, eq_false vso0, eq_false vso1, eq_false vso2, eq_false vsp0, eq_false vsp1, eq_false vsp2, eq_false vsq0, eq_false vsq1, eq_false vsq2]; exact l1, by simp only [↓za, ↓reduceIte, Nat.reduceEqDiff, zb, reduceCtorEq, eq_false vso0, eq_false vso1, eq_false vso2, eq_false vsp0, eq_false vsp1, eq_false vsp2, eq_false vsq0, eq_false vsq1, eq_false vsq2]; exact l2, by simp only [↓za, ↓reduceIte, Nat.reduceEqDiff, zb, reduceCtorEq, eq_false vso0, eq_false vso1, eq_false vso2, eq_false vsp0, eq_false vsp1, eq_false vsp2, eq_false vsq0, eq_false vsq1, eq_false vsq2]; exact l3, ?_, ?_, ?_, h10, h11, h12, h13, h14⟩, ⟨O, M, smF (cobF O M (matL P k k)) (fun _ _ _ => 0) M, k, 32928, gn8 32928 + 1, 32929, gn8 32929 + 1, 32930, gn8 32930 + 1, 0, k, k, sm2 (tuF M (matL P k k)) C M, rfl, by simp only [↓za, ↓reduceIte, Nat.reduceEqDiff, zb, reduceCtorEq]; exact Nat.le_refl _, by simp only [↓za, ↓reduceIte, Nat.reduceEqDiff, zb, reduceCtorEq]; exact Nat.le_refl _, by simp only [↓za, ↓reduceIte, Nat.reduceEqDiff, zb, reduceCtorEq]; exact Nat.le_refl _, ?_, ?_, ?_, h10, by omega, ⟨by omega, by omega⟩, h13, h13⟩⟩
   all_goals simp only [↓za, ↓reduceIte, Nat.reduceEqDiff, zb, reduceCtorEq, Nat.zero_add, eq_false n1, eq_false n2, eq_false n3, eq_false r1, eq_false r2, eq_false r3, eq_false vso0, eq_false vso1, eq_false vso2, eq_false vsp0, eq_false vsp1, eq_false vsp2, eq_false vsq0, eq_false vsq1, eq_false vsq2]
   all_goals assumption
end
end Go.Proofs.YthpmddoakefbmaaGreat
