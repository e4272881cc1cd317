/- Texts joined: QM. -/
import Derived.Test.YthpmddoakefbmaaGreatOf
set_option linter.all false
/- Draws of the law on braidings, III. -/
namespace Go.Proofs.YthpmddoakefbmaaGreat
open Go.RowKit
set_option maxRecDepth 1000000
def LvP (r : AV) (ro : Ro) (gn : Nat → Nat) : Prop := ∃ (O : List Int) (M : Int) (so uo sq uq k : Nat) (G : Nat → Nat → Int), r = .tup [.ref so uo [] 0 O.length, i64 M, .ref sq uq [] 0 k] ∧ uo ≤ gn so ∧ uq ≤ gn sq ∧ ro so uo = some (rowL O) ∧ ro sq uq = some (matA G k k) ∧ O.length ≤ 6 ∧ (0 ≤ M ∧ M ≤ 2000) ∧ k ≤ 8
theorem upg_self (gn : Nat → Nat) (s : Nat) : gn s + 1 ≤ upg gn s (gn s + 1) s := by rw [zda, if_pos rfl]; exact Nat.le_refl _
theorem RETS_3 {k1 k2 k3 : Nat} {Po : AV → Ro → (Nat → Nat) → Prop} {sl : Nat → AV} {ro : Ro} {gn : Nat → Nat} {x y z : AV} (h1 : sl k1 = x) (h2 : sl k2 = y) (h3 : sl k3 = z) (hp : Po (.tup [x, y, z]) ro gn) : RETS ti0 [.tmp k1, .tmp k2, .tmp k3] Po .ret ⟨sl, ro, gn⟩ := by
 subst h1 h2 h3
 exact ⟨.inr rfl, [sl k1, sl k2, sl k3], rfl, hp⟩
theorem RETS_2 {k1 k2 : Nat} {Po : AV → Ro → (Nat → Nat) → Prop} {sl : Nat → AV} {ro : Ro} {gn : Nat → Nat} {x y : AV} (h1 : sl k1 = x) (h2 : sl k2 = y) (hp : Po (.tup [x, y]) ro gn) : RETS ti0 [.tmp k1, .tmp k2] Po .ret ⟨sl, ro, gn⟩ := by
 subst h1 h2
 exact ⟨.inr rfl, [sl k1, sl k2], rfl, hp⟩
def WCo : List Nat := [8288, 8256, 24608, 8192, 24576, 45072, 49232, 53280, 16400, 36912, 45088, 53312]
section
variable {a : AV} {bs : List Int} {rb : Ro} {gb : Nat → Nat}
set_option maxHeartbeats 8000000 in
theorem sCobD (hc : Cod a bs) (hl : bs.length ≤ 4096) : InS Tryz.prog 19 [a] rb gb
  (fun r ro' gn' => Frm WCo (gb 8288 + 1) rb gb ro' gn' ∧ LvP r ro' gn') := by
 have hb := hc.b
 refine in_ofS (fn := Tryz.f19) (code := bodyOf Tryz.f19) Tryz.func19 rfl (by kernel_rfl) ?_
 intro sl hs
 have s0 : sl 0 = a := hs 0
 dsimp only [Tryz.f19, bodyOf, Option.getD]
 simp (maxSteps := 10000000) (disch := first | assumption | omega) only [go_sem, ↓reduceIte, Nat.reduceEqDiff, reduceCtorEq, Nat.reduceAdd, Nat.reduceMul, Nat.reduceLeDiff, zc, Int.reduceToNat, s0]
 refine CLL_in rfl _ _ _ (inFrom hb hl _ _) ?_
 simp (maxSteps := 10000000) (disch := first | assumption | omega) only [go_sem, ↓reduceIte, Nat.reduceEqDiff, reduceCtorEq, Nat.reduceAdd, Nat.reduceMul, Nat.reduceLeDiff, zc, Int.reduceToNat, s0]
 refine CLL_inS rfl (sOrders (g := gb 8288 + 1) hc (by simp only [↓za, ↓reduceIte, Nat.reduceEqDiff, zb, reduceCtorEq]; exact ⟨0, _, Nat.zero_le _, rfl⟩) (m := 8) (by omega)) ?_
 rintro _ ro2 gn2 ⟨hF2, hS2, O, u, rfl, hu1, hu2, hO, hP, hp8, hO4⟩
 dsimp only at hF2 hu1
 have hF3 : Frm WCo (gb 8288 + 1) rb gb ro2 gn2 := Frm.trans KQt (hF2.monoB (W' := WCo) (by decide))
 have pp := pfx_pos1 hP.2
 obtain ⟨N, hN⟩ := Int.eq_ofNat_of_zero_le (show 0 ≤ pfx O O.length by omega)
 have en : l6s O = N := by unfold l6s; rw [if_pos hp8]; exact hN
 have cs := cL7s (isL_imm O) (Nat.le_trans hO4 (by decide)) hP.2
 rw [en] at cs
 simp (maxSteps := 10000000) (disch := first | assumption | omega) only [go_sem, ↓reduceIte, Nat.reduceEqDiff, reduceCtorEq, Nat.reduceAdd, Nat.reduceMul, Nat.reduceLeDiff, zc, Int.reduceToNat, s0]
 refine CLL_inS rfl (sPick (g := gb 8288 + 1) hc (Ue hS2) (xs := [1, 2, 3, 4, 6, 8, 12]) Ur (by decide) (by decide) (by decide)) ?_
 intro r3 ro3 gn3 hN'
 obtain ⟨k, hk, rfl, hgE, k3, hS3, f3⟩ := hN'.out
 dsimp only at hgE k3 f3
 subst hgE
 have hM : ∀ k, k < 7 → 1 ≤ atI [1, 2, 3, 4, 6, 8, 12] k ∧ atI [1, 2, 3, 4, 6, 8, 12] k ≤ 1000 := by decide
 have hM := hM k hk
 generalize atI [1, 2, 3, 4, 6, 8, 12] k = M at hM
 have hF4 := f3 WCo rb gb (by decide) KQt
 have d1 := (k3 8256 u (by decide)).trans (Ue hO)
 simp (maxSteps := 10000000) (disch := first | assumption | omega) only [go_sem, ↓reduceIte, Nat.reduceEqDiff, reduceCtorEq, Nat.reduceAdd, Nat.reduceMul, Nat.reduceLeDiff, zc, Int.reduceToNat, s0]
 refine CLL_q _ cs (.cons (exq_refL d1 rfl (by decide)) .nil) rfl rfl rfl ?_
 simp (maxSteps := 10000000) (disch := first | assumption | omega) only [go_sem, ↓reduceIte, Nat.reduceEqDiff, reduceCtorEq, Nat.reduceAdd, Nat.reduceMul, Nat.reduceLeDiff, zc, Int.reduceToNat, s0]
 refine CLL_inS rfl (sPairing (g := gb 8288 + 1) hc (Ue hS3) (n := N) (by omega) hM) ?_
 rintro _ ro4 gn4 ⟨hF5, hS4, G, u4, rfl, hu3, hu4, hG4, hb4⟩
 dsimp only at hF5 hu3
 have e1 := off_at hF5 (s := 8256) (u := u) (by decide) d1
 have hF6 : Frm WCo (gb 8288 + 1) rb gb ro4 gn4 := Frm.trans hF4 (hF5.monoB (W' := WCo) (by decide))
 have g8256 : u ≤ gn4 8256 := by rw [(hF5.off 8256 (by decide)).2]; simpa only [↓za, ↓reduceIte, Nat.reduceEqDiff, zb, reduceCtorEq] using hu2
 have g8192 : gb 8192 < u4 := Nat.lt_of_le_of_lt (hF4.up 8192) hu3
 have q8256 : gb 8256 < u := by simpa only [↓za, ↓reduceIte, Nat.reduceEqDiff, zb, reduceCtorEq] using hu1
 simp (maxSteps := 10000000) (disch := first | assumption | omega) only [go_sem, ↓reduceIte, Nat.reduceEqDiff, reduceCtorEq, Nat.reduceAdd, Nat.reduceMul, Nat.reduceLeDiff, zc, Int.reduceToNat, s0]
 refine CLL_inS rfl (sNext (g := gb 8288 + 1) hc hS4 (n := 16) (by omega)) ?_
 intro r5 ro5 gn5 hN'
 obtain ⟨x, rfl, -, hx, hgE, k5, hS5, f5⟩ := hN'.out
 dsimp only at hgE k5 f5
 subst hgE
 have hF7 := f5 WCo rb gb (by decide) hF6
 have c1 := (k5 8256 u (by decide)).trans e1
 have c2 := (k5 8192 u4 (by decide)).trans hG4
 by_cases hx0 : x = 0
 ·simp (maxSteps := 10000000) (disch := first | assumption | omega) only [go_sem, ↓reduceIte, Nat.reduceEqDiff, reduceCtorEq, Nat.reduceAdd, Nat.reduceMul, Nat.reduceLeDiff, zc, Int.reduceToNat, s0, eq_true hx0, c2]
  refine CLL_inS rfl (sNext (g := gb 8288 + 1) hc hS5 (n := (N : Int)) (by omega)) ?_
  intro r6 ro6 gn6 hN'
  obtain ⟨i, rfl, -, hi, hgE, k6, hS6, f6⟩ := hN'.out
  dsimp only at hgE k6 f6
  subst hgE
  obtain ⟨i0, i1⟩ := hi (by omega)
  obtain ⟨i, rfl⟩ := Int.eq_ofNat_of_zero_le i0
  have hF8 := f6 WCo rb gb (by decide) hF7
  have d1 := (k6 8256 u (by decide)).trans c1
  have d2 := (k6 8192 u4 (by decide)).trans c2
  have hin : i < N := by omega
  have h0n : 0 < N := by omega
  simp (maxSteps := 10000000) (disch := first | assumption | omega) only [go_sem, ↓reduceIte, Nat.reduceEqDiff, reduceCtorEq, Nat.reduceAdd, Nat.reduceMul, Nat.reduceLeDiff, zc, Int.reduceToNat, s0, d2]
  refine CLL_inS rfl (sPick (g := gb 8288 + 1) (s2 := 36912) hc (Ue hS6) (xs := [0, 1, -1, M]) Ur (by decide) (by show 0 < 4; decide) (by show 4 < 4611686018427387904; decide)) ?_
  intro r7 ro7 gn7 hN'
  obtain ⟨z, hz, rfl, hgE, k7, hS7, f7⟩ := hN'.out
  dsimp only at hgE k7 f7
  subst hgE
  have hF9 := f7 WCo rb gb (by decide) KQt
  have p1 := (k7 8256 u (by decide)).trans (Ue d1)
  have p2 := (k7 8192 u4 (by decide)).trans (Ue d2)
  generalize atI [0, 1, -1, M] z = w'
  simp (maxSteps := 10000000) (disch := first | assumption | omega) only [go_sem, ↓reduceIte, Nat.reduceEqDiff, reduceCtorEq, Nat.reduceAdd, Nat.reduceMul, Nat.reduceLeDiff, zc, Int.reduceToNat, s0, p2, kIdx_ref0, mat_cells p2 hin, mat_bx p2 hin, mat_wr p2 hin h0n]
  refine RETS_3 (x := .ref 8256 u [] 0 O.length) (y := i64 M) (z := .ref 8192 u4 [] 0 N) Ur Ur Ur ⟨KQt, O, M, 8256, u, 8192, u4, N, upd2 G i 0 w', rfl, ?_, ?_, ?_, ?_, by omega, ⟨by omega, by omega⟩, by omega⟩
  all_goals first | assumption | (simp only [↓za, ↓reduceIte, Nat.reduceEqDiff, zb, reduceCtorEq]; done) | (simp only [↓za, ↓reduceIte, Nat.reduceEqDiff, zb, reduceCtorEq]; assumption)
 ·by_cases hx1 : x = 1
  ·subst hx1
   simp (maxSteps := 10000000) (disch := first | assumption | omega) only [go_sem, ↓reduceIte, Nat.reduceEqDiff, reduceCtorEq, Nat.reduceAdd, Nat.reduceMul, Nat.reduceLeDiff, zc, Int.reduceToNat, s0]
   refine CLL_inS rfl (sPick (g := gb 8288 + 1) (s2 := 45088) hc (Ue hS5) (xs := [0, 1001, M]) Ur (by decide) (by show 0 < 3; decide) (by show 3 < 4611686018427387904; decide)) ?_
   intro r7 ro7 gn7 hN'
   obtain ⟨z, hz, rfl, hgE, k7, hS7, f7⟩ := hN'.out
   dsimp only at hgE k7 f7
   subst hgE
   have hF9 := f7 WCo rb gb (by decide) KQt
   have p1 := (k7 8256 u (by decide)).trans (Ue c1)
   have p2 := (k7 8192 u4 (by decide)).trans (Ue c2)
   have hz3 : z = 0 ∨ z = 1 ∨ z = 2 := by have : z < 3 := hz; omega
   have hzM : 0 ≤ atI [0, 1001, M] z ∧ atI [0, 1001, M] z ≤ 2000 := by
    rcases hz3 with rfl | rfl | rfl
    ·exact ⟨by show (0 : Int) ≤ 0; omega, by show (0 : Int) ≤ 2000; omega⟩
    ·exact ⟨by show (0 : Int) ≤ 1001; omega, by show (1001 : Int) ≤ 2000; omega⟩
    ·exact ⟨by show 0 ≤ M; omega, by show M ≤ 2000; omega⟩
   generalize atI [0, 1001, M] z = M' at hzM
   simp (maxSteps := 10000000) (disch := first | assumption | omega) only [go_sem, ↓reduceIte, Nat.reduceEqDiff, reduceCtorEq, Nat.reduceAdd, Nat.reduceMul, Nat.reduceLeDiff, zc, Int.reduceToNat, s0]
   refine RETS_3 (x := .ref 8256 u [] 0 O.length) (y := i64 M') (z := .ref 8192 u4 [] 0 N) Ur Ur Ur ⟨KQt, O, M', 8256, u, 8192, u4, N, G, rfl, ?_, ?_, ?_, ?_, by omega, hzM, by omega⟩
   all_goals first | assumption | (simp only [↓za, ↓reduceIte, Nat.reduceEqDiff, zb, reduceCtorEq]; done) | (simp only [↓za, ↓reduceIte, Nat.reduceEqDiff, zb, reduceCtorEq]; assumption)
  ·by_cases hx2 : x = 2
   ·subst hx2
    simp (maxSteps := 10000000) (disch := first | assumption | omega) only [go_sem, ↓reduceIte, Nat.reduceEqDiff, reduceCtorEq, Nat.reduceAdd, Nat.reduceMul, Nat.reduceLeDiff, zc, Int.reduceToNat, s0]
    refine CLL_inS rfl (sPick (g := gb 8288 + 1) (s2 := 53280) hc (Ue hS5) (xs := [0, 1, 9]) Ur (by decide) (by decide) (by decide)) ?_
    intro r7 ro7 gn7 hN'
    obtain ⟨z, hz, rfl, hgE, k7, hS7, f7⟩ := hN'.out
    dsimp only at hgE k7 f7
    subst hgE
    have hF9 := f7 WCo rb gb (by decide) KQt
    have p1 := (k7 8256 u (by decide)).trans (Ue c1)
    have p2 := (k7 8192 u4 (by decide)).trans (Ue c2)
    generalize atI [0, 1, 9] z = o'
    have z1 : u ≠ gn4 8256 + 1 := by omega
    simp (maxSteps := 10000000) (disch := first | assumption | omega) only [go_sem, ↓reduceIte, Nat.reduceEqDiff, reduceCtorEq, Nat.reduceAdd, Nat.reduceMul, Nat.reduceLeDiff, zc, Int.reduceToNat, s0, p1, eq_false z1]
    refine RETS_3 (x := .ref 8256 (gn4 8256 + 1) [] 0 (O.length + 1)) (y := i64 M) (z := .ref 8192 u4 [] 0 N) Ur Ur Ur ⟨KQt, O ++ [o'], M, 8256, gn4 8256 + 1, 8192, u4, N, G, by rw [List.length_append]; exact rfl, ?_, ?_, ?_, ?_, by rw [List.length_append]; simp only [List.length_cons, List.length_nil]; omega, ⟨by omega, by omega⟩, by omega⟩
    ·exact upg_self _ _
    ·simp only [↓za, ↓reduceIte, Nat.reduceEqDiff, zb, reduceCtorEq]; exact Nat.le_trans (by assumption) (Nat.le_refl _)
    ·simp only [↓za, ↓reduceIte, Nat.reduceEqDiff, zb, reduceCtorEq]
     rw [show O.length = (O.map i64).length from (List.length_map _).symm, List.take_length, rowL, List.map_append]
     rfl
    ·simp only [↓za, ↓reduceIte, Nat.reduceEqDiff, zb, reduceCtorEq]; exact p2
   ·simp (maxSteps := 10000000) (disch := first | assumption | omega) only [go_sem, ↓reduceIte, Nat.reduceEqDiff, reduceCtorEq, Nat.reduceAdd, Nat.reduceMul, Nat.reduceLeDiff, zc, Int.reduceToNat, s0, eq_false hx0, eq_false hx1, eq_false hx2]
    refine RETS_3 (x := .ref 8256 u [] 0 O.length) (y := i64 M) (z := .ref 8192 u4 [] 0 N) Ur Ur Ur ⟨KQt, O, M, 8256, u, 8192, u4, N, G, rfl, ?_, ?_, ?_, ?_, by omega, ⟨by omega, by omega⟩, by omega⟩
    all_goals first | assumption | (simp only [↓za, ↓reduceIte, Nat.reduceEqDiff, zb, reduceCtorEq]; done) | (simp only [↓za, ↓reduceIte, Nat.reduceEqDiff, zb, reduceCtorEq]; assumption)
def WBi : List Nat := 20544 :: 41056 :: 49184 :: 57376 :: 57408 :: 8256 :: 24608 :: 16400 :: WCh
set_option maxHeartbeats 8000000 in
theorem sBicD (hc : Cod a bs) (hl : bs.length ≤ 4096) : InS Tryz.prog 22 [a] rb gb
  (fun r ro' gn' => Frm WBi (gb 8288 + 1) rb gb ro' gn' ∧ LvP r ro' gn') := by
 have hb := hc.b
 refine in_ofS (fn := Tryz.f22) (code := bodyOf Tryz.f22) Tryz.func22 rfl (by kernel_rfl) ?_
 intro sl hs
 have s0 : sl 0 = a := hs 0
 dsimp only [Tryz.f22, bodyOf, Option.getD]
 simp (maxSteps := 10000000) (disch := first | assumption | omega) only [go_sem, ↓reduceIte, Nat.reduceEqDiff, reduceCtorEq, Nat.reduceAdd, Nat.reduceMul, Nat.reduceLeDiff, zc, Int.reduceToNat, s0]
 refine CLL_in rfl _ _ _ (inFrom hb hl _ _) ?_
 simp (maxSteps := 10000000) (disch := first | assumption | omega) only [go_sem, ↓reduceIte, Nat.reduceEqDiff, reduceCtorEq, Nat.reduceAdd, Nat.reduceMul, Nat.reduceLeDiff, zc, Int.reduceToNat, s0]
 refine CLL_inS rfl (sOrders (g := gb 8288 + 1) hc (by simp only [↓za, ↓reduceIte, Nat.reduceEqDiff, zb, reduceCtorEq]; exact ⟨0, _, Nat.zero_le _, rfl⟩) (m := 8) (by omega)) ?_
 rintro _ ro2 gn2 ⟨hF2, hS2, O, u, rfl, hu1, hu2, hO, hP, hp8, hO4⟩
 dsimp only at hF2 hu1
 have hF3 : Frm WBi (gb 8288 + 1) rb gb ro2 gn2 := Frm.trans KQt (hF2.monoB (W' := WBi) (by decide))
 have pp := pfx_pos1 hP.2
 obtain ⟨N, hN⟩ := Int.eq_ofNat_of_zero_le (show 0 ≤ pfx O O.length by omega)
 have hG : GrpP O := hP.grp (by omega) (by omega)
 simp (maxSteps := 10000000) (disch := first | assumption | omega) only [go_sem, ↓reduceIte, Nat.reduceEqDiff, reduceCtorEq, Nat.reduceAdd, Nat.reduceMul, Nat.reduceLeDiff, zc, Int.reduceToNat, s0]
 refine CLL_inS rfl (sPick (g := gb 8288 + 1) hc (Ue hS2) (xs := [1, 2, 3, 4, 6, 8, 12]) Ur (by decide) (by decide) (by decide)) ?_
 intro r3 ro3 gn3 hN'
 obtain ⟨k, hk, rfl, hgE, k3, hS3, f3⟩ := hN'.out
 dsimp only at hgE k3 f3
 subst hgE
 have hM : ∀ k, k < 7 → 1 ≤ atI [1, 2, 3, 4, 6, 8, 12] k ∧ atI [1, 2, 3, 4, 6, 8, 12] k ≤ 1000 := by decide
 have hM := hM k hk
 generalize atI [1, 2, 3, 4, 6, 8, 12] k = M at hM
 have hF4 := f3 WBi rb gb (by decide) KQt
 have d1 := (k3 8256 u (by decide)).trans (Ue hO)
 simp (maxSteps := 10000000) (disch := first | assumption | omega) only [go_sem, ↓reduceIte, Nat.reduceEqDiff, reduceCtorEq, Nat.reduceAdd, Nat.reduceMul, Nat.reduceLeDiff, zc, Int.reduceToNat, s0]
 refine CLL_inS rfl (sChar (n := N) hc hS3 (Ue hu2) (by rintro ⟨h, -⟩; exact absurd h (by decide)) d1 hG hN.symm (by omega) hM) ?_
 rintro _ ro4 gn4 ⟨hF5, hS4, G, v1, v2, u4, rfl, a1, b1, a2, b2, hu3, hu4, r1, r2, hG4, hC⟩
 dsimp only at hF5 a1 a2 hu3
 have e1 := off_at hF5 (s := 8256) (u := u) (by decide) d1
 have hF6 : Frm WBi (gb 8288 + 1) rb gb ro4 gn4 := Frm.trans hF4 (hF5.monoB (W' := WBi) (by decide))
 have g8256 : u ≤ gn4 8256 := by rw [(hF5.off 8256 (by decide)).2]; simpa only [↓za, ↓reduceIte, Nat.reduceEqDiff, zb, reduceCtorEq] using hu2
 have g8192 : gb 127040 < u4 := Nat.lt_of_le_of_lt (hF4.up 127040) hu3
 have q8256 : gb 8256 < u := by simpa only [↓za, ↓reduceIte, Nat.reduceEqDiff, zb, reduceCtorEq] using hu1
 have w20544 := hF6.up 20544
 simp (maxSteps := 10000000) (disch := first | assumption | omega) only [go_sem, ↓reduceIte, Nat.reduceEqDiff, reduceCtorEq, Nat.reduceAdd, Nat.reduceMul, Nat.reduceLeDiff, zc, Int.reduceToNat, s0, r1, r2, hG4]
 refine CLL_inS rfl (sNext (g := gb 8288 + 1) hc (Ue hS4) (n := 16) (by omega)) ?_
 intro r5 ro5 gn5 hN'
 obtain ⟨x, rfl, -, hx, hgE, k5, hS5, f5⟩ := hN'.out
 dsimp only at hgE k5 f5
 subst hgE
 have hF7 := f5 WBi rb gb (by decide) KQt
 have c1 := (k5 8256 u (by decide)).trans (Ue e1)
 have c2 := (k5 127040 u4 (by decide)).trans (Ue hG4)
 have c3 := (k5 20544 (gn4 20544 + 1) (by decide)).trans Ur
 by_cases hx0 : x = 0
 ·simp (maxSteps := 10000000) (disch := first | assumption | omega) only [go_sem, ↓reduceIte, Nat.reduceEqDiff, reduceCtorEq, Nat.reduceAdd, Nat.reduceMul, Nat.reduceLeDiff, zc, Int.reduceToNat, s0, eq_true hx0, c2, c3]
  refine CLLD_inS [⟨some [20544], []⟩, ⟨some [20544], []⟩, e0, e0, ⟨some [], [8288]⟩, ⟨some [127040], []⟩, ⟨some [127040], []⟩, e0] (xNext hc (Ue hS5) (n := (N : Int)) (by omega) (by kernel_rfl)) rfl ?_ rfl (by kernel_rfl) rfl
  intro r6 ro6 gn6 hN'
  obtain ⟨i, rfl, -, hi, hgE, k6, hS6, f6⟩ := hN'.out
  dsimp only at hgE k6 f6
  subst hgE
  obtain ⟨i0, i1⟩ := hi (by omega)
  obtain ⟨i, rfl⟩ := Int.eq_ofNat_of_zero_le i0
  have hF8 := f6 WBi rb gb (by decide) hF7
  have d1 := (k6 8256 u (by decide)).trans c1
  have d2 := (k6 127040 u4 (by decide)).trans c2
  have d3 := (k6 20544 (gn4 20544 + 1) (by decide)).trans c3
  have hin : i < N := by omega
  simp (maxSteps := 10000000) (disch := first | assumption | omega) only [go_sem, ↓reduceIte, Nat.reduceEqDiff, reduceCtorEq, Nat.reduceAdd, Nat.reduceMul, Nat.reduceLeDiff, zc, Int.reduceToNat, s0, d2]
  refine FING_of rfl ?_
  simp (maxSteps := 10000000) (disch := first | assumption | omega) only [go_sem, ↓reduceIte, Nat.reduceEqDiff, reduceCtorEq, Nat.reduceAdd, Nat.reduceMul, Nat.reduceLeDiff, zc, Int.reduceToNat, s0]
  refine CLL_inS rfl (sNext (g := gb 8288 + 1) hc hS6 (n := (N : Int)) (by omega)) ?_
  intro r8 ro8 gn8 hN'
  obtain ⟨j, rfl, -, hj, hgE, k8, hS8, f8⟩ := hN'.out
  dsimp only at hgE k8 f8
  subst hgE
  obtain ⟨j0, j1⟩ := hj (by omega)
  obtain ⟨j, rfl⟩ := Int.eq_ofNat_of_zero_le j0
  have hF8' := f8 WBi rb gb (by decide) hF8
  have hjn : j < N := by omega
  have d1 := (k8 8256 u (by decide)).trans d1
  have d2 := (k8 127040 u4 (by decide)).trans d2
  have d3 := (k8 20544 (gn4 20544 + 1) (by decide)).trans d3
  simp (maxSteps := 10000000) (disch := first | assumption | omega) only [go_sem, ↓reduceIte, Nat.reduceEqDiff, reduceCtorEq, Nat.reduceAdd, Nat.reduceMul, Nat.reduceLeDiff, zc, Int.reduceToNat, s0, d2]
  refine CLL_inS rfl (sPick (g := gb 8288 + 1) (s2 := 41056) hc (Ue hS8) (xs := [0, 1, -1, M]) Ur (by decide) (by show 0 < 4; decide) (by show 4 < 4611686018427387904; decide)) ?_
  intro r7 ro7 gn7 hN'
  obtain ⟨z, hz, rfl, hgE, k7, hS7, f7⟩ := hN'.out
  dsimp only at hgE k7 f7
  subst hgE
  have hF9 := f7 WBi rb gb (by decide) KQt
  have p1 := (k7 8256 u (by decide)).trans (Ue d1)
  have p2 := (k7 127040 u4 (by decide)).trans (Ue d2)
  have p3 := (k7 20544 (gn4 20544 + 1) (by decide)).trans (Ue d3)
  generalize atI [0, 1, -1, M] z = w'
  simp (maxSteps := 10000000) (disch := first | assumption | omega) only [go_sem, ↓reduceIte, Nat.reduceEqDiff, reduceCtorEq, Nat.reduceAdd, Nat.reduceMul, Nat.reduceLeDiff, zc, Int.reduceToNat, s0, p2, p3, mat_cells p2 hin, mat_bx p2 hin, mat_wr p2 hin hjn]
  refine FIN_of (by kernel_rfl) ?_
  simp (maxSteps := 10000000) (disch := first | assumption | omega) only [go_sem, ↓reduceIte, Nat.reduceEqDiff, reduceCtorEq, Nat.reduceAdd, Nat.reduceMul, Nat.reduceLeDiff, zc, Int.reduceToNat, s0]
  refine RETS_3 (x := .ref 8256 u [] 0 O.length) (y := i64 M) (z := .ref 127040 u4 [] 0 N) Ur Ur Ur ⟨KQt, O, M, 8256, u, 127040, u4, N, upd2 G i j w', rfl, ?_, ?_, ?_, ?_, by omega, ⟨by omega, by omega⟩, by omega⟩
  all_goals first | assumption | (simp only [↓za, ↓reduceIte, Nat.reduceEqDiff, zb, reduceCtorEq]; done) | (simp only [↓za, ↓reduceIte, Nat.reduceEqDiff, zb, reduceCtorEq]; assumption)
 ·by_cases hx1 : x = 1
  ·subst hx1
   simp (maxSteps := 10000000) (disch := first | assumption | omega) only [go_sem, ↓reduceIte, Nat.reduceEqDiff, reduceCtorEq, Nat.reduceAdd, Nat.reduceMul, Nat.reduceLeDiff, zc, Int.reduceToNat, s0]
   refine CLL_inS rfl (sPick (g := gb 8288 + 1) (s2 := 49184) hc (Ue hS5) (xs := [0, 1001, M]) Ur (by decide) (by show 0 < 3; decide) (by show 3 < 4611686018427387904; decide)) ?_
   intro r7 ro7 gn7 hN'
   obtain ⟨z, hz, rfl, hgE, k7, hS7, f7⟩ := hN'.out
   dsimp only at hgE k7 f7
   subst hgE
   have hF9 := f7 WBi rb gb (by decide) KQt
   have p1 := (k7 8256 u (by decide)).trans (Ue c1)
   have p2 := (k7 127040 u4 (by decide)).trans (Ue c2)
   have p3 := (k7 20544 (gn4 20544 + 1) (by decide)).trans (Ue c3)
   have hz3 : z = 0 ∨ z = 1 ∨ z = 2 := by have : z < 3 := hz; omega
   have hzM : 0 ≤ atI [0, 1001, M] z ∧ atI [0, 1001, M] z ≤ 2000 := by
    rcases hz3 with rfl | rfl | rfl
    ·exact ⟨by show (0 : Int) ≤ 0; omega, by show (0 : Int) ≤ 2000; omega⟩
    ·exact ⟨by show (0 : Int) ≤ 1001; omega, by show (1001 : Int) ≤ 2000; omega⟩
    ·exact ⟨by show 0 ≤ M; omega, by show M ≤ 2000; omega⟩
   generalize atI [0, 1001, M] z = M' at hzM
   simp (maxSteps := 10000000) (disch := first | assumption | omega) only [go_sem, ↓reduceIte, Nat.reduceEqDiff, reduceCtorEq, Nat.reduceAdd, Nat.reduceMul, Nat.reduceLeDiff, zc, Int.reduceToNat, s0, p2, p3]
   refine FIN_of (by kernel_rfl) ?_
   simp (maxSteps := 10000000) (disch := first | assumption | omega) only [go_sem, ↓reduceIte, Nat.reduceEqDiff, reduceCtorEq, Nat.reduceAdd, Nat.reduceMul, Nat.reduceLeDiff, zc, Int.reduceToNat, s0]
   refine RETS_3 (x := .ref 8256 u [] 0 O.length) (y := i64 M') (z := .ref 127040 u4 [] 0 N) Ur Ur Ur ⟨KQt, O, M', 8256, u, 127040, u4, N, G, rfl, ?_, ?_, ?_, ?_, by omega, hzM, by omega⟩
   all_goals first | assumption | (simp only [↓za, ↓reduceIte, Nat.reduceEqDiff, zb, reduceCtorEq]; done) | (simp only [↓za, ↓reduceIte, Nat.reduceEqDiff, zb, reduceCtorEq]; assumption)
  ·by_cases hx2 : x = 2
   ·subst hx2
    simp (maxSteps := 10000000) (disch := first | assumption | omega) only [go_sem, ↓reduceIte, Nat.reduceEqDiff, reduceCtorEq, Nat.reduceAdd, Nat.reduceMul, Nat.reduceLeDiff, zc, Int.reduceToNat, s0]
    refine CLL_inS rfl (sPick (g := gb 8288 + 1) (s2 := 57376) hc (Ue hS5) (xs := [0, 1, 9]) Ur (by decide) (by decide) (by decide)) ?_
    intro r7 ro7 gn7 hN'
    obtain ⟨z, hz, rfl, hgE, k7, hS7, f7⟩ := hN'.out
    dsimp only at hgE k7 f7
    subst hgE
    have hF9 := f7 WBi rb gb (by decide) KQt
    have p1 := (k7 8256 u (by decide)).trans (Ue c1)
    have p2 := (k7 127040 u4 (by decide)).trans (Ue c2)
    have p3 := (k7 20544 (gn4 20544 + 1) (by decide)).trans (Ue c3)
    generalize atI [0, 1, 9] z = o'
    have z1 : u ≠ gn4 8256 + 1 := by omega
    simp (maxSteps := 10000000) (disch := first | assumption | omega) only [go_sem, ↓reduceIte, Nat.reduceEqDiff, reduceCtorEq, Nat.reduceAdd, Nat.reduceMul, Nat.reduceLeDiff, zc, Int.reduceToNat, s0, p1, p2, p3, eq_false z1]
    refine FIN_of (by kernel_rfl) ?_
    simp (maxSteps := 10000000) (disch := first | assumption | omega) only [go_sem, ↓reduceIte, Nat.reduceEqDiff, reduceCtorEq, Nat.reduceAdd, Nat.reduceMul, Nat.reduceLeDiff, zc, Int.reduceToNat, s0]
    refine RETS_3 (x := .ref 8256 (gn4 8256 + 1) [] 0 (O.length + 1)) (y := i64 M) (z := .ref 127040 u4 [] 0 N) Ur Ur Ur ⟨KQt, O ++ [o'], M, 8256, gn4 8256 + 1, 127040, u4, N, G, by rw [List.length_append]; exact rfl, ?_, ?_, ?_, ?_, by rw [List.length_append]; simp only [List.length_cons, List.length_nil]; omega, ⟨by omega, by omega⟩, by omega⟩
    ·simp only [↓za, ↓reduceIte, Nat.reduceEqDiff, zb, reduceCtorEq]; exact Nat.le_refl _
    ·simp only [↓za, ↓reduceIte, Nat.reduceEqDiff, zb, reduceCtorEq]; exact Nat.le_trans (by assumption) (Nat.le_refl _)
    ·simp only [↓za, ↓reduceIte, Nat.reduceEqDiff, zb, reduceCtorEq]
     rw [show O.length = (O.map i64).length from (List.length_map _).symm, List.take_length, rowL, List.map_append]
     rfl
    ·simp only [↓za, ↓reduceIte, Nat.reduceEqDiff, zb, reduceCtorEq]; exact p2
   ·simp (maxSteps := 10000000) (disch := first | assumption | omega) only [go_sem, ↓reduceIte, Nat.reduceEqDiff, reduceCtorEq, Nat.reduceAdd, Nat.reduceMul, Nat.reduceLeDiff, zc, Int.reduceToNat, s0, eq_false hx0, eq_false hx1, eq_false hx2, c1, c2, c3]
    refine FIN_of (by kernel_rfl) ?_
    simp (maxSteps := 10000000) (disch := first | assumption | omega) only [go_sem, ↓reduceIte, Nat.reduceEqDiff, reduceCtorEq, Nat.reduceAdd, Nat.reduceMul, Nat.reduceLeDiff, zc, Int.reduceToNat, s0]
    refine RETS_3 (x := .ref 8256 u [] 0 O.length) (y := i64 M) (z := .ref 127040 u4 [] 0 N) Ur Ur Ur ⟨KQt, O, M, 8256, u, 127040, u4, N, G, rfl, ?_, ?_, ?_, ?_, by omega, ⟨by omega, by omega⟩, by omega⟩
    all_goals first | assumption | (simp only [↓za, ↓reduceIte, Nat.reduceEqDiff, zb, reduceCtorEq]; done) | (simp only [↓za, ↓reduceIte, Nat.reduceEqDiff, zb, reduceCtorEq]; assumption)
theorem sCount {g : Nat} (hc : Cod a bs) (hs : Src a bs (rb 8288 g)) {m : Int} (hm : -1000 ≤ m ∧ m ≤ 1000) : InS Tryz.prog 76 [.ptr 8288 g [] 0, i64 m] rb gb
  (fun r ro' gn' => Frm [8288, 12336] g rb gb ro' gn' ∧ Src a bs (ro' 8288 g) ∧ ∃ v : Int, r = i64 v) := by
 have hS0 := hs
 refine in_ofS (fn := Tryz.f76) (code := bodyOf Tryz.f76) Tryz.func76 rfl (by kernel_rfl) ?_
 intro sl hs
 have s0 : sl 0 = .ptr 8288 g [] 0 := hs 0
 have s1 : sl 1 = i64 m := hs 1
 dsimp only [Tryz.f76, bodyOf, Option.getD]
 simp (maxSteps := 10000000) (disch := first | assumption | omega) only [go_sem, ↓reduceIte, Nat.reduceEqDiff, reduceCtorEq, Nat.reduceAdd, Nat.reduceMul, Nat.reduceLeDiff, zc, Int.reduceToNat, s0, s1]
 refine CLL_inS rfl (sNext hc hS0 (n := 14) (by omega)) ?_
 intro r2 ro2 gn2 hN
 obtain ⟨x, rfl, -, hx, hgE, k2, hS2, f2⟩ := hN.out
 dsimp only at hgE k2 f2
 subst hgE
 have hF2 := f2 [8288, 12336] rb gb (by decide) (Frm.refl _ _ _ _)
 by_cases hx0 : x = 0
 ·simp (maxSteps := 10000000) (disch := first | assumption | omega) only [go_sem, ↓reduceIte, Nat.reduceEqDiff, reduceCtorEq, Nat.reduceAdd, Nat.reduceMul, Nat.reduceLeDiff, zc, Int.reduceToNat, s0, s1, eq_true hx0]
  refine CLL_inS rfl (sPick (s2 := 12336) hc (Ue hS2) (xs := [-1, m + 1, 1099511627776, -4611686018427387904]) Ur (by decide) (by show 0 < 4; decide) (by show 4 < 4611686018427387904; decide)) ?_
  intro r3 ro3 gn3 hN
  obtain ⟨z, hz, rfl, hgE, k3, hS3, f3⟩ := hN.out
  dsimp only at hgE k3 f3
  subst hgE
  have hF3 := f3 [8288, 12336] rb gb (by decide) KQt
  simp (maxSteps := 10000000) (disch := first | assumption | omega) only [go_sem, ↓reduceIte, Nat.reduceEqDiff, reduceCtorEq, Nat.reduceAdd, Nat.reduceMul, Nat.reduceLeDiff, zc, Int.reduceToNat, s0, s1]
  exact RETS_1 (i64 (atI [-1, m + 1, 1099511627776, -4611686018427387904] z)) Ur ⟨hF3, hS3, _, rfl⟩
 ·simp (maxSteps := 10000000) (disch := first | assumption | omega) only [go_sem, ↓reduceIte, Nat.reduceEqDiff, reduceCtorEq, Nat.reduceAdd, Nat.reduceMul, Nat.reduceLeDiff, zc, Int.reduceToNat, s0, s1, eq_false hx0]
  refine CLL_inS rfl (sNext hc hS2 (n := m + 1) (by omega)) ?_
  intro r3 ro3 gn3 hN
  obtain ⟨z, rfl, -, hz, hgE, k3, hS3, f3⟩ := hN.out
  dsimp only at hgE k3 f3
  subst hgE
  have hF3 := f3 [8288, 12336] rb gb (by decide) hF2
  simp (maxSteps := 10000000) (disch := first | assumption | omega) only [go_sem, ↓reduceIte, Nat.reduceEqDiff, reduceCtorEq, Nat.reduceAdd, Nat.reduceMul, Nat.reduceLeDiff, zc, Int.reduceToNat, s0, s1]
  exact RETS_1 (i64 z) Ur ⟨hF3, hS3, _, rfl⟩
theorem sStdD (hc : Cod a bs) (hl : bs.length ≤ 4096) : InS Tryz.prog 25 [a] rb gb
  (fun r ro' gn' => Frm [8288, 12336, 12448] (gb 8288 + 1) rb gb ro' gn' ∧ ∃ (n a : Int), r = .tup [i64 n, i64 a] ∧ 0 ≤ n ∧ n ≤ 9) := by
 have hb := hc.b
 refine in_ofS (fn := Tryz.f25) (code := bodyOf Tryz.f25) Tryz.func25 rfl (by kernel_rfl) ?_
 intro sl hs
 have s0 : sl 0 = a := hs 0
 dsimp only [Tryz.f25, bodyOf, Option.getD]
 simp (maxSteps := 10000000) (disch := first | assumption | omega) only [go_sem, ↓reduceIte, Nat.reduceEqDiff, reduceCtorEq, Nat.reduceAdd, Nat.reduceMul, Nat.reduceLeDiff, zc, Int.reduceToNat, s0]
 refine CLL_in rfl _ _ _ (inFrom hb hl _ _) ?_
 simp (maxSteps := 10000000) (disch := first | assumption | omega) only [go_sem, ↓reduceIte, Nat.reduceEqDiff, reduceCtorEq, Nat.reduceAdd, Nat.reduceMul, Nat.reduceLeDiff, zc, Int.reduceToNat, s0]
 refine CLL_inS rfl (sNext (g := gb 8288 + 1) hc (by simp only [↓za, ↓reduceIte, Nat.reduceEqDiff, zb, reduceCtorEq]; exact ⟨0, _, Nat.zero_le _, rfl⟩) (n := 8) (by omega)) ?_
 intro r2 ro2 gn2 hN
 obtain ⟨x, rfl, -, hx, hgE, k2, hS2, f2⟩ := hN.out
 dsimp only at hgE k2 f2
 subst hgE
 have hF2 := f2 [8288, 12336, 12448] rb gb (by decide) KQt
 have hx' := hx (by omega)
 simp (maxSteps := 10000000) (disch := first | assumption | omega) only [go_sem, ↓reduceIte, Nat.reduceEqDiff, reduceCtorEq, Nat.reduceAdd, Nat.reduceMul, Nat.reduceLeDiff, zc, Int.reduceToNat, s0]
 refine CLL_inS rfl (sNext (g := gb 8288 + 1) hc hS2 (n := 8) (by omega)) ?_
 intro r3 ro3 gn3 hN
 obtain ⟨y, rfl, -, hy, hgE, k3, hS3, f3⟩ := hN.out
 dsimp only at hgE k3 f3
 subst hgE
 have hF3 := f3 [8288, 12336, 12448] rb gb (by decide) hF2
 have hy' := hy (by omega)
 simp (maxSteps := 10000000) (disch := first | assumption | omega) only [go_sem, ↓reduceIte, Nat.reduceEqDiff, reduceCtorEq, Nat.reduceAdd, Nat.reduceMul, Nat.reduceLeDiff, zc, Int.reduceToNat, s0]
 refine CLL_inS rfl (sNext (g := gb 8288 + 1) hc hS3 (n := 8) (by omega)) ?_
 intro r4 ro4 gn4 hN
 obtain ⟨z, rfl, -, hz, hgE, k4, hS4, f4⟩ := hN.out
 dsimp only at hgE k4 f4
 subst hgE
 have hF4 := f4 [8288, 12336, 12448] rb gb (by decide) hF3
 have hz' := hz (by omega)
 simp (maxSteps := 10000000) (disch := first | assumption | omega) only [go_sem, ↓reduceIte, Nat.reduceEqDiff, reduceCtorEq, Nat.reduceAdd, Nat.reduceMul, Nat.reduceLeDiff, zc, Int.reduceToNat, s0]
 refine CLL_inS rfl (sPick (g := gb 8288 + 1) (s2 := 12448) hc (Ue hS4) (xs := [1 + x, 1 + y, 1 + z, 0, 9]) Ur (by decide) (by show 0 < 5; decide) (by show 5 < 4611686018427387904; decide)) ?_
 intro r5 ro5 gn5 hN
 obtain ⟨k, hk, rfl, hgE, k5, hS5, f5⟩ := hN.out
 dsimp only at hgE k5 f5
 subst hgE
 have hF5 := f5 [8288, 12336, 12448] rb gb (by decide) KQt
 have hk5 : k = 0 ∨ k = 1 ∨ k = 2 ∨ k = 3 ∨ k = 4 := by have : k < 5 := hk; omega
 have hn : 0 ≤ atI [1 + x, 1 + y, 1 + z, 0, 9] k ∧ atI [1 + x, 1 + y, 1 + z, 0, 9] k ≤ 9 := by
  rcases hk5 with rfl | rfl | rfl | rfl | rfl
  ·exact ⟨by show 0 ≤ 1 + x; omega, by show 1 + x ≤ 9; omega⟩
  ·exact ⟨by show 0 ≤ 1 + y; omega, by show 1 + y ≤ 9; omega⟩
  ·exact ⟨by show 0 ≤ 1 + z; omega, by show 1 + z ≤ 9; omega⟩
  ·exact ⟨by show (0 : Int) ≤ 0; omega, by show (0 : Int) ≤ 9; omega⟩
  ·exact ⟨by show (0 : Int) ≤ 9; omega, by show (9 : Int) ≤ 9; omega⟩
 generalize atI [1 + x, 1 + y, 1 + z, 0, 9] k = n at hn
 simp (maxSteps := 10000000) (disch := first | assumption | omega) only [go_sem, ↓reduceIte, Nat.reduceEqDiff, reduceCtorEq, Nat.reduceAdd, Nat.reduceMul, Nat.reduceLeDiff, zc, Int.reduceToNat, s0]
 refine CLL_inS rfl (sCount (g := gb 8288 + 1) hc hS5 (m := 2 * n - 1) (by omega)) ?_
 rintro _ ro6 gn6 ⟨hF6, hS6, v, rfl⟩
 dsimp only at hF6
 have hF7 : Frm [8288, 12336, 12448] (gb 8288 + 1) rb gb ro6 gn6 := Frm.trans hF5 (hF6.monoB (W' := [8288, 12336, 12448]) (by decide))
 simp (maxSteps := 10000000) (disch := first | assumption | omega) only [go_sem, ↓reduceIte, Nat.reduceEqDiff, reduceCtorEq, Nat.reduceAdd, Nat.reduceMul, Nat.reduceLeDiff, zc, Int.reduceToNat, s0]
 exact RETS_2 (x := i64 n) (y := i64 v) Ur Ur ⟨hF7, n, v, rfl, hn.1, hn.2⟩
end
end Go.Proofs.YthpmddoakefbmaaGreat
