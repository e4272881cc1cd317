/- Texts joined: BiA BiB R0. -/
import Derived.ChangeOld
import Derived.Below
import Derived.Carry
import Derived.Deep.Slices
import Derived.ChangeSlices
import Derived.Lib.SmallJoins
import Derived.Test.YtmchdjiigfiabaaGreatOa
import Derived.Test.YtmchdjiigfiabaaGreatPc
import Derived.Test.YtmchdjiigfiabaaGreatPf
set_option linter.all false
/- The draws of the law on all braidings. -/
namespace Go.Proofs.YtmchdjiigfiabaaGreat
open Go.RowKit
set_option maxRecDepth 1000000
def RCx (gn : Nat → Nat) (r : AV) (ro' : Ro) (gn' : Nat → Nat) : Prop := ∃ (O : List Int) (M : Int) (F : Nat → Nat → Nat → Int) (n so uo sp up : Nat), r = .agg [.ref so uo [] 0 O.length, i64 M, .ref sp up [] 0 n] ∧ (gn so < uo ∧ uo ≤ gn' so) ∧ (gn sp < up ∧ up ≤ gn' sp) ∧ ro' so uo = some (rowL O) ∧ ro' sp up = some (cubeA F n) ∧ O.length ≤ 6 ∧ n ≤ 8 ∧ (0 ≤ M ∧ M ≤ 2000) ∧ ¬ so = 4096 ∧ ¬ sp = 4096
def WC0 : List Nat := [8288, 4096]
theorem Frm.kx {W : List Nat} {g : Nat} {ro ro' : Ro} {gn gn' : Nat → Nat} (h : Frm W g ro gn ro' gn') : Kx 8288 g ro gn ro' gn' := ⟨h.up, h.kp⟩
section
variable {a : AV} {bs : List Int} {g : Nat} {rb : Ro} {gb : Nat → Nat}
set_option maxHeartbeats 8000000 in
theorem sCocy18 (hc : Cod a bs) (hs : Src a bs (rb 8288 g)) : InS Tryz.prog 16 [.ptr 8288 g [] 0] rb gb
  (fun r ro' gn' => Kx 8288 g rb gb ro' gn' ∧ RCx gb r ro' gn') := by
 have hS0 := hs
 refine in_ofS (fn := Tryz.f16) (code := bodyOf Tryz.f16) Tryz.func16 rfl (by kernel_rfl) ?_
 intro sl hs
 have s0 : sl 0 = .ptr 8288 g [] 0 := hs 0
 dsimp only [Tryz.f16, bodyOf, Option.getD]
 refine Yaa ?_
 refine CLL_inS rfl (sNext (g := g) hc (Ue hS0) (n := 4) (by omega)) ?_
 intro r1 ro1 gn1 hN'
 obtain ⟨x, rfl, -, hx, hgE, k1, hS1, f1⟩ := hN'.out
 dsimp only at hgE k1 f1
 subst hgE
 have F1 := f1 WC0 rb gb (by decide) KPt
 have K1 := F1.kx
 have B1 := (k1 4096 (gb 4096 + 1) (by decide)).trans (show upr _ _ _ _ _ _ = some (.bx [nilA, i64 0, nilA]) by simp only [↓za, ↓reduceIte, Nat.reduceEqDiff, zb, reduceCtorEq])
 by_cases hx0 : x = 0
 ·refine Yao ?_
  refine CLL_inS rfl (sDrawAny17 (g := g) hc (Ue hS1)) ?_
  rintro _ ro2 gn2 ⟨hF2, -, o', c', O, M, F, n, rfl, ⟨so, uo, rfl, q1, q2, q3, q4⟩, ⟨sp, up, rfl, q5, q6, q7, q8⟩, q9, q10, q11⟩
  dsimp only at hF2 q2 q6
  have K2 := K1.trans hF2.kx (.inr ⟨rfl, rfl⟩)
  have d1 := (hF2.kp 4096 (gb 4096 + 1) Ur (by rintro ⟨h, _⟩; omega)).trans B1
  have n1 : ¬ so = 4096 := by rintro rfl; exact absurd q1 (by decide)
  have n2 : ¬ sp = 4096 := by rintro rfl; exact absurd q5 (by decide)
  have i1 : gb so < uo := Nat.lt_of_le_of_lt (K1.up so) q2
  have i2 : gb sp < up := Nat.lt_of_le_of_lt (K1.up sp) q6
  simp (maxSteps := 10000000) (disch := first | assumption | omega) only [go_sem, ↓reduceIte, Nat.reduceEqDiff, reduceCtorEq, Nat.reduceAdd, Nat.reduceMul, Nat.reduceLeDiff, zc, Int.reduceToNat, s0, d1, q4, q8, eq_false n1, eq_false n2]
  refine RETS_C Ur (upr_same _ _ _ _) rfl ⟨K2.wr _ _ _ (.inl (Nat.lt_succ_self _)), O, M, F, n, so, uo, sp, up, rfl, ⟨i1, q3⟩, ⟨i2, q7⟩, ?_, ?_, q9, q10, q11, n1, n2⟩
  all_goals simp only [↓za, ↓reduceIte, Nat.reduceEqDiff, zb, reduceCtorEq, eq_false n1, eq_false n2]
  all_goals assumption
 ·by_cases hx1 : x = 1
  ·subst hx1
   refine Yaa ?_
   refine CLL_inS rfl (sNext (g := g) hc (Ue hS1) (n := 4) (by omega)) ?_
   intro r2 ro2 gn2 hN2
   obtain ⟨y, rfl, -, hy, hgE, k2, hS2, f2⟩ := hN2.out
   dsimp only at hgE k2 f2
   subst hgE
   obtain ⟨y0, y1⟩ := hy (by omega)
   obtain ⟨y, rfl⟩ := Int.eq_ofNat_of_zero_le y0
   have eN : (2 : Int) + (y : Int) = ((2 + y : Nat) : Int) := by omega
   have hN : 2 ≤ 2 + y ∧ 2 + y ≤ 5 := by omega
   refine Yca ?_
   generalize 2 + y = N at hN
   refine CLL_inS rfl (sNext (g := g) hc (Ue hS2) (n := (N : Int)) (by omega)) ?_
   intro r3 ro3 gn3 hN3
   obtain ⟨k, rfl, -, hk, hgE, k3, hS3, f3⟩ := hN3.out
   dsimp only at hgE k3 f3
   subst hgE
   have hk := hk (by omega)
   have K3 := (f3 WC0 rb gb (by decide) (f2 WC0 rb gb (by decide) F1)).kx
   have B3 := ((k3 4096 (gb 4096 + 1) (by decide)).trans (k2 4096 (gb 4096 + 1) (by decide))).trans B1
   refine Yaa ?_
   refine CLL_pure _ (cCyc (n := N) (k := k) (by omega) (by omega) (by omega)) rfl rfl rfl ?_
   simp (maxSteps := 10000000) (disch := first | assumption | omega) only [go_sem, ↓reduceIte, Nat.reduceEqDiff, reduceCtorEq, Nat.reduceAdd, Nat.reduceMul, Nat.reduceLeDiff, zc, Int.reduceToNat, s0, B3]
   refine RETS_C Ur (upr_same _ _ _ _) rfl ⟨((K3.al 28736 _ (rowL [(N : Int)]) Ur).al 28737 _ (cubeA (cyF N k) N) Ur).wr _ _ _ (.inl (Nat.lt_succ_self _)), [(N : Int)], N, cyF N k, N, 28736, gb 28736 + 1, 28737, gb 28737 + 1, rfl, ⟨Nat.lt_succ_self _, ?_⟩, ⟨Nat.lt_succ_self _, ?_⟩, ?_, ?_, by simp, by omega, by omega, by decide, by decide⟩
   all_goals simp only [↓za, ↓reduceIte, Nat.reduceEqDiff, zb, reduceCtorEq]
   all_goals first | exact Nat.le_refl _ | exact rfl
  ·simp (maxSteps := 10000000) (disch := first | assumption | omega) only [go_sem, ↓reduceIte, Nat.reduceEqDiff, reduceCtorEq, Nat.reduceAdd, Nat.reduceMul, Nat.reduceLeDiff, zc, Int.reduceToNat, s0, eq_false hx0, eq_false hx1]
   refine CLL_inS rfl (sDraw18 (g := g) hc (Ue hS1)) ?_
   rintro _ ro2 gn2 ⟨hF2, -, O, M, F, G, n, so, sp, sq, uo, uv, uc, rfl, hso, h1, h2, h3, hO, hV, hC, BV⟩
   dsimp only at hF2 h1 h2 h3
   have K2 := K1.trans hF2.kx (.inr ⟨rfl, rfl⟩)
   have d1 := (hF2.kp 4096 (gb 4096 + 1) Ur (by rintro ⟨h, _⟩; omega)).trans B1
   have m : ¬ so = 32800 ∧ ¬ sp = 32800 ∧ ¬ sq = 32800 ∧ ¬ so = 4096 ∧ ¬ sp = 4096 := by
    simp only [L18, List.mem_cons, List.not_mem_nil, or_false, Prod.mk.injEq] at hso
    rcases hso with ⟨rfl, rfl, rfl⟩ | ⟨rfl, rfl, rfl⟩ | ⟨rfl, rfl, rfl⟩ | ⟨rfl, rfl, rfl⟩ <;> decide
   obtain ⟨m1, m2, m3, m4, m5⟩ := m
   have hM := BV.w.m
   have i1 : gb so < uo := Nat.lt_of_le_of_lt (K1.up so) h1.1
   have i2 : gb sp < uv := Nat.lt_of_le_of_lt (K1.up sp) h2.1
   simp (maxSteps := 10000000) (disch := first | assumption | omega) only [go_sem, ↓reduceIte, Nat.reduceEqDiff, reduceCtorEq, Nat.reduceAdd, Nat.reduceMul, Nat.reduceLeDiff, zc, Int.reduceToNat, s0, eq_false m1, eq_false m2, eq_false m3, eq_false m4, eq_false m5, d1, hO, hV, hC]
   refine RETS_C Ur (upr_same _ _ _ _) rfl ⟨((K2.al 32800 _ _ rfl).wr 32800 _ _ (.inl (Nat.lt_succ_of_le (K2.up 32800)))).wr _ _ _ (.inl (Nat.lt_succ_self _)), O, M, F, n, so, uo, sp, uv, rfl, ⟨i1, ?_⟩, ⟨i2, ?_⟩, ?_, ?_, Nat.le_trans BV.w.l (by decide), BV.w.n8, by omega, m4, m5⟩
   all_goals simp only [↓za, ↓reduceIte, Nat.reduceEqDiff, zb, reduceCtorEq, eq_false m1, eq_false m2, eq_false m4, eq_false m5]
   all_goals first | exact h1.2 | exact h2.2 | assumption
set_option maxHeartbeats 8000000 in
theorem sCntD (hc : Cod a bs) (hl : bs.length ≤ 4096) : InS Tryz.prog 5 [a] rb gb
  (fun r ro' gn' => RCx gb r ro' gn') := by
 have hb := hc.b
 refine in_ofS (fn := Tryz.f5) (code := bodyOf Tryz.f5) Tryz.func5 rfl (by kernel_rfl) ?_
 intro sl hs
 have s0 : sl 0 = a := hs 0
 dsimp only [Tryz.f5, bodyOf, Option.getD]
 refine Yaa ?_
 refine CLL_in rfl _ _ _ (inFrom hb hl _ _) ?_
 refine Yaa ?_
 refine CLL_inS rfl (sCocy18 (g := gb 8288 + 1) hc (by simp only [↓za, ↓reduceIte, Nat.reduceEqDiff, zb, reduceCtorEq]; exact ⟨0, _, Nat.zero_le _, rfl⟩)) ?_
 rintro _ ro2 gn2 ⟨K2, O, M, F, n, so, uo, sp, up, rfl, h1, h2, hO, hV, q1, q2, q3, n1, n2⟩
 dsimp only at K2 h1 h2
 have d1 := (K2.kp 4096 (gb 4096 + 1) Ur (by rintro ⟨h, _⟩; omega)).trans (show _ = some (.bx [nilA, i64 0, nilA]) by simp only [↓za, ↓reduceIte, Nat.reduceEqDiff, zb, reduceCtorEq])
 have i1 : gb so < uo := Nat.lt_of_le_of_lt (by simp only [zda]; repeat (split; (try subst_vars; try omega)); omega) h1.1
 have i2 : gb sp < up := Nat.lt_of_le_of_lt (by simp only [zda]; repeat (split; (try subst_vars; try omega)); omega) h2.1
 simp (maxSteps := 10000000) (disch := first | assumption | omega) only [go_sem, ↓reduceIte, Nat.reduceEqDiff, reduceCtorEq, Nat.reduceAdd, Nat.reduceMul, Nat.reduceLeDiff, zc, Int.reduceToNat, s0, d1, hO, hV, eq_false n1, eq_false n2]
 refine RETS_C Ur (upr_same _ _ _ _) rfl ⟨O, M, F, n, so, uo, sp, up, rfl, ⟨i1, h1.2⟩, ⟨i2, h2.2⟩, ?_, ?_, q1, q2, q3, n1, n2⟩
 all_goals simp only [↓za, ↓reduceIte, Nat.reduceEqDiff, zb, reduceCtorEq, eq_false n1, eq_false n2]
 all_goals assumption
def RBc (r : AV) (ro' : Ro) (gn' : Nat → Nat) : Prop := ∃ (O : List Int) (M : Int) (so uo : Nat), r = .tup [.ref so uo [] 0 O.length, i64 M] ∧ uo ≤ gn' so ∧ ro' so uo = some (rowL O) ∧ O.length ≤ 6 ∧ (0 ≤ M ∧ M ≤ 2000)
set_option maxHeartbeats 8000000 in
theorem sBicD (hc : Cod a bs) (hl : bs.length ≤ 4096) : InS Tryz.prog 14 [a] rb gb
  (fun r ro' gn' => RBc r ro' gn') := by
 have hb := hc.b
 refine in_ofS (fn := Tryz.f14) (code := bodyOf Tryz.f14) Tryz.func14 rfl (by kernel_rfl) ?_
 intro sl hs
 have s0 : sl 0 = a := hs 0
 dsimp only [Tryz.f14, bodyOf, Option.getD]
 refine Yaa ?_
 refine CLL_in rfl _ _ _ (inFrom hb hl _ _) ?_
 refine Yaa ?_
 refine CLL_inS rfl (sOrders (g := gb 8288 + 1) hc (by simp only [↓za, ↓reduceIte, Nat.reduceEqDiff, zb, reduceCtorEq]; exact ⟨0, _, Nat.zero_le _, rfl⟩) (m := 8) (by omega)) ?_
 rintro _ ro2 gn2 ⟨hF2, hS2, O, u, rfl, hu1, hu2, hO, hP, hp8, hO4⟩
 dsimp only at hF2 hu1
 have hM : ∀ k, k < 10 → 0 ≤ atI [1, 2, 3, 4, 6, 8, 12, 1000, 0, 1001] k ∧ atI [1, 2, 3, 4, 6, 8, 12, 1000, 0, 1001] k ≤ 2000 := by decide
 refine Yaa ?_
 refine CLL_inS rfl (sNext (g := gb 8288 + 1) hc hS2 (n := 12) (by omega)) ?_
 intro r3 ro3 gn3 hN3
 obtain ⟨x, rfl, -, hx, hgE, k3, hS3, f3⟩ := hN3.out
 dsimp only at hgE k3 f3
 subst hgE
 have c1 := (k3 8256 u (by decide)).trans hO
 by_cases hx0 : x = 0
 ·refine Yao ?_
  refine CLL_inS rfl (sPick (g := gb 8288 + 1) (s2 := 20512) hc (Ue hS3) (xs := [0, 1, 9]) Ur (by decide) (by decide) (by decide)) ?_
  intro r4 ro4 gn4 hN4
  obtain ⟨z, hz, rfl, hgE, k4, hS4, f4⟩ := hN4.out
  dsimp only at hgE k4 f4
  subst hgE
  have d1 := (k4 8256 u (by decide)).trans (Ue c1)
  generalize atI [0, 1, 9] z = o'
  simp (maxSteps := 10000000) (disch := first | assumption | omega) only [go_sem, ↓reduceIte, Nat.reduceEqDiff, reduceCtorEq, Nat.reduceAdd, Nat.reduceMul, Nat.reduceLeDiff, zc, Int.reduceToNat, s0, d1]
  refine CLL_inS rfl (sPick (g := gb 8288 + 1) (s2 := 24608) hc (Ue hS4) (xs := [1, 2, 3, 4, 6, 8, 12, 1000, 0, 1001]) Ur (by decide) (by decide) (by decide)) ?_
  intro r5 ro5 gn5 hN5
  obtain ⟨k, hk, rfl, hgE, k5, hS5, f5⟩ := hN5.out
  dsimp only at hgE k5 f5
  subst hgE
  refine Yaa ?_
  refine RETS_2 (x := .ref 8256 (gn2 8256 + 1) [] 0 (O.length + 1)) (y := i64 (atI [1, 2, 3, 4, 6, 8, 12, 1000, 0, 1001] k)) Ur Ur ⟨O ++ [o'], _, 8256, gn2 8256 + 1, by rw [List.length_append]; exact rfl, ?_, ?_, by rw [List.length_append]; simp only [List.length_cons, List.length_nil]; omega, hM k hk⟩
  ·simp only [↓za, ↓reduceIte, Nat.reduceEqDiff, zb, reduceCtorEq]; exact Nat.le_refl _
  ·refine (k5 8256 (gn2 8256 + 1) (by decide)).trans ?_
   refine Yax ?_
   rw [rowL_snoc]
 ·refine Yau ?_
  refine CLL_inS rfl (sPick (g := gb 8288 + 1) (s2 := 24608) hc (Ue hS3) (xs := [1, 2, 3, 4, 6, 8, 12, 1000, 0, 1001]) Ur (by decide) (by decide) (by decide)) ?_
  intro r5 ro5 gn5 hN5
  obtain ⟨k, hk, rfl, hgE, k5, hS5, f5⟩ := hN5.out
  dsimp only at hgE k5 f5
  subst hgE
  have e1 := (k5 8256 u (by decide)).trans (show _ = some (rowL O) by simp only [↓za, ↓reduceIte, Nat.reduceEqDiff, zb, reduceCtorEq]; exact c1)
  refine Yaa ?_
  refine RETS_2 (x := .ref 8256 u [] 0 O.length) (y := i64 (atI [1, 2, 3, 4, 6, 8, 12, 1000, 0, 1001] k)) Ur Ur ⟨O, _, 8256, u, rfl, ?_, ?_, by omega, hM k hk⟩
  ·simp only [↓za, ↓reduceIte, Nat.reduceEqDiff, zb, reduceCtorEq]; exact hu2
  ·exact e1
end
end Go.Proofs.YtmchdjiigfiabaaGreat
/- The law on all braidings. -/
namespace Go.Proofs.YtmchdjiigfiabaaGreat
open Go.RowKit
set_option maxRecDepth 1000000
theorem tl_ns : ∀ (m n : Nat) (c : Code), tlC m (tlC n c) = tlC (n + m) c := by
 intro m n
 induction n with
 | zero => intro c; rw [Nat.zero_add]; rfl
 | succ n ih =>
  intro c
  rw [Nat.add_right_comm]
  cases c with
  | seq a b => exact ih b
  | _ => cases m <;> rfl
theorem cut_tl {n m : Nat} {B : Code} {K : List Fr} {Q : Exit → St → Prop} {st : St} (h : WK XX (hdC n (tlC m B) (tlC (m + n) B)) K Q st) : WK XX (tlC m B) K Q st := by
 rw [← tl_ns n m B, hd_tl] at h
 exact h
theorem exq_cv {rb ro : Ro} {gb : Nat → Nat} (K : Kp rb gb ro) {so uo sp up n j : Nat} {O : List Int} {M : Int} {F : Nat → Nat → Nat → Int} (h1 : uo ≤ gb so) (h2 : up ≤ gb sp) (g1 : rb so uo = some (rowL O)) (g2 : rb sp up = some (cubeA F n)) (hj : 6 ≤ j) :
  exq j ro (.agg [.ref so uo [] 0 O.length, i64 M, .ref sp up [] 0 n]) (.agg [immL O, i64 M, immC F n]) := by
 obtain ⟨j, rfl⟩ : ∃ i, j = i + 1 := ⟨j - 1, by omega⟩
 exact exq_agg (.cons (exq_refL ((K _ _ h1).trans g1) rfl (by omega)) (.cons (exq_sc _ _ _ (by omega)) (.cons (exq_cube ((K _ _ h2).trans g2) (by omega)) .nil)))
abbrev okC3 (O : List Int) (M : Int) (F : Nat → Nat → Nat → Int) (n : Nat) : AV := .agg [immL O, i64 M, immC F n]
abbrev cCI (O : List Int) (M : Int) (F : Nat → Nat → Nat → Int) (n : Nat) (N e : Int) : Prop := CallOK Tryz.prog 6 [okC3 O M F n] (.tup [i64 N, i64 e])
abbrev cCS (O : List Int) (M : Int) (F : Nat → Nat → Nat → Int) (n : Nat) (N e : Int) : Prop := CallOK Tryz.prog 7 [okC3 O M F n] (.tup [i64 N, i64 e])
abbrev cFI (O : List Int) (M : Int) (F : Nat → Nat → Nat → Int) (n : Nat) (r : AV) : Prop := CallOK Tryz.prog 8 [okC3 O M F n] r
abbrev cFS (O : List Int) (M : Int) (F : Nat → Nat → Nat → Int) (n : Nat) (r : AV) : Prop := CallOK Tryz.prog 9 [okC3 O M F n] r
abbrev cBI (O : List Int) (M : Int) (N : Int) : Prop := CallOK Tryz.prog 11 [immL O, i64 M] (.tup [i64 N, i64 0])
theorem law18 {O : List Int} {M : Int} {F : Nat → Nat → Nat → Int} {n : Nat} (hO : O.length ≤ 6) (h8 : n ≤ 8) (hM : 0 ≤ M ∧ M ≤ 2000) :
  (∃ e : Int, ¬ e = 0 ∧ cCI O M F n 0 e ∧ cCS O M F n 0 e ∧ cFI O M F n (noB e) ∧ cFS O M F n (noB e)) ∨
  (cCI O M F n 0 0 ∧ cCS O M F n 0 0 ∧ cFI O M F n (noB 4) ∧ cFS O M F n (noB 4) ∧ ∃ N, cBI O M N) ∨
  (∃ (N : Nat) (G : Nat → Nat → Int), 0 < N ∧ cCI O M F n N 0 ∧ cCS O M F n N 0 ∧ cFI O M F n (okB O M F G n) ∧ cFS O M F n (okB O M F G n) ∧ cBI O M N ∧ BrP O M F n G n n) := by
 have iO := isL_imm O
 have iC := isLLL_immC F n
 by_cases hW : CoP O M F n
 ·obtain ⟨m, rfl⟩ := Int.eq_ofNat_of_zero_le hM.1
  have hm := hW.s.m
  have hmm : ∀ m' : Nat, (m : Int) = m' → m' = m := fun m' h => (Int.ofNat.inj h).symm
  by_cases hy : Mny O m
  ·refine .inl ⟨3, by decide, cCntI iO hO iC (by omega) (by omega) (fun h => absurd hW h) (fun _ _ _ _ => ⟨rfl, rfl⟩) (fun m' e _ h => absurd (hmm m' e ▸ hy) h), cCntS iO hO iC (by omega) (by omega) (fun h => absurd hW h) (fun _ _ _ _ => ⟨rfl, rfl⟩) (fun m' e _ h => absurd (hmm m' e ▸ hy) h), cFstI iO hO iC (by omega) (by omega) (fun h => absurd hW h) (fun _ _ _ _ => rfl) (fun m' e _ h => absurd (hmm m' e ▸ hy) h) (fun _ => rfl) (fun m' e _ h => absurd (hmm m' e ▸ hy) h), cFstS iO hO iC (by omega) (by omega) (fun h => absurd hW h) (fun _ _ _ _ => rfl) (fun m' e _ h => absurd (hmm m' e ▸ hy) h) (fun _ => rfl) (fun m' e _ h => absurd (hmm m' e ▸ hy) h)⟩
  ·have hn := hW.sz
   have hr : O.length ≤ 3 := by unfold Mny at hy; omega
   have sm := smO hW.s.o hr (by have := hW.s.e; omega)
   have hbc : cBI O m (bicN O m) := cBcI iO hO (fun h => absurd hW.s.o h) (fun _ h => by have := hW.s.e; omega) (fun _ _ h => absurd hm h) (fun m' e _ _ _ => by rw [hmm m' e]; exact ⟨rfl, rfl⟩)
   cases hf : flt O m F (O.length * O.length) [] with
   | nil =>
    refine .inr (.inl ⟨cCntI iO hO iC (by omega) (by omega) (fun h => absurd hW h) (fun m' e _ h => absurd (hmm m' e ▸ h) hy) (fun m' e _ _ => by rw [hmm m' e, hf]; exact ⟨rfl, rfl⟩), cCntS iO hO iC (by omega) (by omega) (fun h => absurd hW h) (fun m' e _ h => absurd (hmm m' e ▸ h) hy) (fun m' e _ _ => by rw [hmm m' e, hf]; exact ⟨rfl, rfl⟩), cFstI iO hO iC (by omega) (by omega) (fun h => absurd hW h) (fun m' e _ h => absurd (hmm m' e ▸ h) hy) (fun _ _ _ _ _ => rfl) (fun _ => rfl) (fun m' e _ _ l L h => by rw [hmm m' e, hf] at h; cases h), cFstS iO hO iC (by omega) (by omega) (fun h => absurd hW h) (fun m' e _ h => absurd (hmm m' e ▸ h) hy) (fun _ _ _ _ _ => rfl) (fun _ => rfl) (fun m' e _ _ l L h => by rw [hmm m' e, hf] at h; cases h), _, hbc⟩)
   | cons l L =>
    have hmem : l ∈ flt O m F (O.length * O.length) [] := by rw [hf]; exact List.mem_cons_self
    have hmem2 : l ∈ lsts m (O.length * O.length) ∧ tsP O m F l = true := by
     unfold flt at hmem
     obtain ⟨q1, q2⟩ := List.mem_filter.1 hmem
     obtain ⟨x, hx, rfl⟩ := List.mem_map.1 q1
     exact ⟨hx, q2⟩
    have hPL := tsP_iff.1 hmem2.2
    have hcnt := PL_count sm hmem2.1 hPL (tsP O m F) (fun _ _ => tsP_iff)
    have hlen : (flt O m F (O.length * O.length) []).length = bicN O m := by
     rw [← hcnt]
     unfold flt
     rw [show (lsts m (O.length * O.length)).map (([] : List Nat) ++ ·) = lsts m (O.length * O.length) from by simp]
    have hpos : 0 < bicN O m := by rw [← hlen, hf]; exact Nat.succ_pos _
    obtain ⟨G, hG⟩ := hPL
    have hll := (lsts_mem (m := m) (by omega) hmem2.1)
    have eI : matA (bdI O m F (LI O.length l) (plI O)) n n = matA G n n := mat_congr fun x z hx hz => hG.bI sm sm.pI (hn ▸ hx) (hn ▸ hz)
    have eS : matA (bdS O m F (LI O.length l) (plS O)) n n = matA G n n := mat_congr fun x z hx hz => hG.bS sm sm.pS (hn ▸ hx) (hn ▸ hz)
    refine .inr (.inr ⟨bicN O m, G, hpos, cCntI iO hO iC (by omega) (by omega) (fun h => absurd hW h) (fun m' e _ h => absurd (hmm m' e ▸ h) hy) (fun m' e _ _ => by rw [hmm m' e, hlen]; exact ⟨rfl, rfl⟩), cCntS iO hO iC (by omega) (by omega) (fun h => absurd hW h) (fun m' e _ h => absurd (hmm m' e ▸ h) hy) (fun m' e _ _ => by rw [hmm m' e, hlen]; exact ⟨rfl, rfl⟩), cFstI iO hO iC (by omega) (by omega) (fun h => absurd hW h) (fun m' e _ h => absurd (hmm m' e ▸ h) hy) (fun m' e _ _ h => by rw [hmm m' e, hf] at h; cases h) (fun h => absurd rfl h) (fun m' e _ _ l' L' h => by rw [hmm m' e, hf] at h; obtain ⟨rfl, rfl⟩ := List.cons.inj h; rw [hmm m' e, eI]; exact ⟨rfl, rfl⟩), cFstS iO hO iC (by omega) (by omega) (fun h => absurd hW h) (fun m' e _ h => absurd (hmm m' e ▸ h) hy) (fun m' e _ _ h => by rw [hmm m' e, hf] at h; cases h) (fun h => absurd rfl h) (fun m' e _ _ l' L' h => by rw [hmm m' e, hf] at h; obtain ⟨rfl, rfl⟩ := List.cons.inj h; rw [hmm m' e, eS]; exact ⟨rfl, rfl⟩), hbc, ?_⟩)
    have := hG.b
    rw [← hn] at this
    exact this
 ·exact .inl ⟨1, by decide, cCntI iO hO iC (by omega) (by omega) (fun _ => ⟨rfl, rfl⟩) (fun _ _ h => absurd h hW) (fun _ _ h => absurd h hW), cCntS iO hO iC (by omega) (by omega) (fun _ => ⟨rfl, rfl⟩) (fun _ _ h => absurd h hW) (fun _ _ h => absurd h hW), cFstI iO hO iC (by omega) (by omega) (fun _ => rfl) (fun _ _ h => absurd h hW) (fun _ _ h => absurd h hW) (fun _ => rfl) (fun _ _ h => absurd h hW), cFstS iO hO iC (by omega) (by omega) (fun _ => rfl) (fun _ _ h => absurd h hW) (fun _ _ h => absurd h hW) (fun _ => rfl) (fun _ _ h => absurd h hW)⟩
section
variable {a : AV} {bs : List Int} {T : Code}
set_option maxHeartbeats 8000000 in
theorem sg1 (hc : Cod a bs) (hl : bs.length ≤ 4096) (hT : ∀ sl ro gn, sl 0 = a → WK XX T [] QL ⟨sl, ro, gn⟩) (sl : Nat → AV) (rb : Ro) (gb : Nat → Nat) (s0 : sl 0 = a) : WK XX (hdC 7 (tlC 2 (bodyOf Tryz.f3)) T) [] QL ⟨sl, rb, gb⟩ := by
 dsimp only [Tryz.f3, bodyOf, Option.getD, tlC, hdC]
 refine Yaa ?_
 refine CLL_inS rfl (sCntD hc hl) ?_
 rintro _ ro gn ⟨O, M, F, n, so, uo, sp, up, rfl, ⟨-, h1⟩, ⟨-, h2⟩, g1, g2, hO, hn, hM, -, -⟩
 have n1 : ∀ s, ¬ (so = s ∧ uo = gn s + 1) := by rintro _ ⟨rfl, rfl⟩; omega
 have n2 : ∀ s, ¬ (sp = s ∧ up = gn s + 1) := by rintro _ ⟨rfl, rfl⟩; omega
 have lX : (cubeL F n).length = n := zfe _ _
 have h8 : n ≤ maxN := Nat.le_trans hn (by decide)
 have hcu : ∀ k, k < (cubeL F n).length → (mat (cubeL F n) k).length ≤ maxN ∧ ∀ j, j < (mat (cubeL F n) k).length → (row (mat (cubeL F n) k) j).length ≤ maxN := fun k hk => by
  rw [lX] at hk
  rw [cube_row F hk]
  exact ⟨h8, fun j hj => by rw [cube_rr F hk hj]; exact h8⟩
 rcases law18 (O := O) (M := M) (F := F) (n := n) hO hn hM with ⟨e, he, cI, cS, dI, dS⟩ | ⟨cI, cS, dI, dS, N, cB⟩ | ⟨N, G, hN, cI, cS, dI, dS, cB, hB⟩
 ·refine Yaf ?_
  refine CLL_q _ cI (.cons (exq_cv (by repeat (first | exact Kp.rf | refine Kp.wr ?_ (by omega))) h1 h2 g1 g2 (by decide)) .nil) rfl rfl rfl ?_
  refine Yaf ?_
  refine CLL_q _ cS (.cons (exq_cv (by repeat (first | exact Kp.rf | refine Kp.wr ?_ (by omega))) h1 h2 g1 g2 (by decide)) .nil) rfl rfl rfl ?_
  refine Yaf ?_
  refine CLL_q _ dI (.cons (exq_cv (by repeat (first | exact Kp.rf | refine Kp.wr ?_ (by omega))) h1 h2 g1 g2 (by decide)) .nil) rfl rfl rfl ?_
  refine Yaf ?_
  refine CLL_q _ dS (.cons (exq_cv (by repeat (first | exact Kp.rf | refine Kp.wr ?_ (by omega))) h1 h2 g1 g2 (by decide)) .nil) rfl rfl rfl ?_
  simp (maxSteps := 10000000) (disch := first | assumption | omega) only [go_sem, ↓reduceIte, Nat.reduceEqDiff, reduceCtorEq, Nat.reduceAdd, Nat.reduceMul, Nat.reduceLeDiff, zc, Int.reduceToNat, s0, n1, n2, g1, g2, tiC, tiD, eq_false he]
  refine CLL_pure _ cLikeN rfl rfl rfl ?_
  simp (maxSteps := 10000000) (disch := first | assumption | omega) only [go_sem, ↓reduceIte, Nat.reduceEqDiff, reduceCtorEq, Nat.reduceAdd, Nat.reduceMul, Nat.reduceLeDiff, zc, Int.reduceToNat, s0, n1, n2, g1, g2, tiC, tiD, eq_false he]
  exact hT _ _ _ (Ue s0)
 ·refine Yaf ?_
  refine CLL_q _ cI (.cons (exq_cv (by repeat (first | exact Kp.rf | refine Kp.wr ?_ (by omega))) h1 h2 g1 g2 (by decide)) .nil) rfl rfl rfl ?_
  refine Yaf ?_
  refine CLL_q _ cS (.cons (exq_cv (by repeat (first | exact Kp.rf | refine Kp.wr ?_ (by omega))) h1 h2 g1 g2 (by decide)) .nil) rfl rfl rfl ?_
  refine Yaf ?_
  refine CLL_q _ dI (.cons (exq_cv (by repeat (first | exact Kp.rf | refine Kp.wr ?_ (by omega))) h1 h2 g1 g2 (by decide)) .nil) rfl rfl rfl ?_
  refine Yaf ?_
  refine CLL_q _ dS (.cons (exq_cv (by repeat (first | exact Kp.rf | refine Kp.wr ?_ (by omega))) h1 h2 g1 g2 (by decide)) .nil) rfl rfl rfl ?_
  refine Yaf ?_
  refine CLL_pure _ cLikeN rfl rfl rfl ?_
  refine Yaf ?_
  refine CLL_q _ cB (.cons (exq_refL (((show Kp ro gn _ by repeat (first | exact Kp.rf | refine Kp.wr ?_ (by omega))) _ _ h1).trans g1) rfl (by decide)) (.cons (exq_sc _ _ _ (by decide)) .nil)) rfl rfl rfl ?_
  simp (maxSteps := 10000000) (disch := first | assumption | omega) only [go_sem, ↓reduceIte, Nat.reduceEqDiff, reduceCtorEq, Nat.reduceAdd, Nat.reduceMul, Nat.reduceLeDiff, zc, Int.reduceToNat, s0, n1, n2, g1, g2, tiC, tiD, undef]
  exact hT _ _ _ (Ue s0)
 ·refine Yaf ?_
  refine CLL_q _ cI (.cons (exq_cv (by repeat (first | exact Kp.rf | refine Kp.wr ?_ (by omega))) h1 h2 g1 g2 (by decide)) .nil) rfl rfl rfl ?_
  refine Yaf ?_
  refine CLL_q _ cS (.cons (exq_cv (by repeat (first | exact Kp.rf | refine Kp.wr ?_ (by omega))) h1 h2 g1 g2 (by decide)) .nil) rfl rfl rfl ?_
  refine Yaf ?_
  refine CLL_q _ dI (.cons (exq_cv (by repeat (first | exact Kp.rf | refine Kp.wr ?_ (by omega))) h1 h2 g1 g2 (by decide)) .nil) rfl rfl (noI_okB _ _ _ _ _) ?_
  refine Yaf ?_
  refine CLL_q _ dS (.cons (exq_cv (by repeat (first | exact Kp.rf | refine Kp.wr ?_ (by omega))) h1 h2 g1 g2 (by decide)) .nil) rfl rfl (noI_okB _ _ _ _ _) ?_
  refine Yaf ?_
  refine CLL_q _ (cLikeK (O := O) (M := M) (F := F) (G := G) hO hn) (.cons (exq_br0 Ur Ur Ur (by decide)) (.cons (exq_br0 Ur Ur Ur (by decide)) .nil)) rfl rfl rfl ?_
  refine Yaf ?_
  refine CLL_q _ cB (.cons (exq_refL (((show Kp ro gn _ by repeat (first | exact Kp.rf | refine Kp.wr ?_ (by omega))) _ _ h1).trans g1) rfl (by decide)) (.cons (exq_sc _ _ _ (by decide)) .nil)) rfl rfl rfl ?_
  have e1 : ¬ (N : Int) = 0 := by omega
  have e2 : (0 : Int) < (N : Int) := by omega
  simp (maxSteps := 10000000) (disch := first | assumption | omega) only [go_sem, ↓reduceIte, Nat.reduceEqDiff, reduceCtorEq, Nat.reduceAdd, Nat.reduceMul, Nat.reduceLeDiff, zc, Int.reduceToNat, s0, n1, n2, g1, g2, tiC, tiD, eq_false e1, e2]
  refine CLL_q _ (cIsBI (M := M) (t := true) (isL_imm O) hO (isLLL_immC F n) (isLL_imm (matL G n n)) (by omega) (by omega) (by simp [hB])) (.cons (exq_br0 Ur Ur Ur (by decide)) .nil) rfl rfl rfl ?_
  refine Yaf ?_
  refine CLL_q _ (cLikeC (isLLL_immC F n) (isLLL_immC F n) (by rw [lX]; exact h8) hcu) (.cons (exq_cube Ur (by decide)) (.cons (exq_cube (((show Kp ro gn _ by repeat (first | exact Kp.rf | refine Kp.wr ?_ (by omega))) _ _ h2).trans g2) (by decide)) .nil)) rfl rfl rfl ?_
  refine Yaf ?_
  exact hT _ _ _ (Ue s0)
set_option maxHeartbeats 8000000 in
theorem sg2 (hc : Cod a bs) (hl : bs.length ≤ 4096) (sl : Nat → AV) (rb : Ro) (gb : Nat → Nat) (s0 : sl 0 = a) : WK XX (tlC 9 (bodyOf Tryz.f3)) [] QL ⟨sl, rb, gb⟩ := by
 dsimp only [Tryz.f3, bodyOf, Option.getD, tlC, hdC]
 refine Yaa ?_
 refine CLL_inS rfl (sBicD hc hl) ?_
 rintro _ ro gn ⟨O, M, so, uo, rfl, h1, g1, hO, hM⟩
 have bic : ∃ N e : Int, CallOK Tryz.prog 11 [immL O, i64 M] (.tup [i64 N, i64 e]) ∧ CallOK Tryz.prog 15 [immL O, i64 M] (.tup [i64 N, i64 e]) := by
  have iO := isL_imm O
  by_cases q1 : OrdP O
  ·by_cases q2 : 8 < pfx O O.length
   ·exact ⟨0, 3, cBcI iO hO (fun h => absurd q1 h) (fun _ _ => ⟨rfl, rfl⟩) (fun _ h => absurd q2 h) (fun _ _ _ h => absurd q2 h), cBcS iO hO (fun h => absurd q1 h) (fun _ _ => ⟨rfl, rfl⟩) (fun _ h => absurd q2 h) (fun _ _ _ h => absurd q2 h)⟩
   ·by_cases q3 : 1 ≤ M ∧ M ≤ 1000
    ·obtain ⟨m, rfl⟩ := Int.eq_ofNat_of_zero_le hM.1
     have hmm : ∀ m' : Nat, (m : Int) = m' → m' = m := fun m' h => (Int.ofNat.inj h).symm
     exact ⟨bicN O m, 0, cBcI iO hO (fun h => absurd q1 h) (fun _ h => absurd h q2) (fun _ _ h => absurd q3 h) (fun m' e _ _ _ => by rw [hmm m' e]; exact ⟨rfl, rfl⟩), cBcS iO hO (fun h => absurd q1 h) (fun _ h => absurd h q2) (fun _ _ h => absurd q3 h) (fun m' e _ _ _ => by rw [hmm m' e]; exact ⟨rfl, rfl⟩)⟩
    ·exact ⟨0, 2, cBcI iO hO (fun h => absurd q1 h) (fun _ h => absurd h q2) (fun _ _ _ => ⟨rfl, rfl⟩) (fun _ _ _ _ h => absurd h q3), cBcS iO hO (fun h => absurd q1 h) (fun _ h => absurd h q2) (fun _ _ _ => ⟨rfl, rfl⟩) (fun _ _ _ _ h => absurd h q3)⟩
  ·exact ⟨0, 1, cBcI iO hO (fun _ => ⟨rfl, rfl⟩) (fun h => absurd h q1) (fun h => absurd h q1) (fun _ _ h => absurd h q1), cBcS iO hO (fun _ => ⟨rfl, rfl⟩) (fun h => absurd h q1) (fun h => absurd h q1) (fun _ _ h => absurd h q1)⟩
 obtain ⟨N, e, cI, cS⟩ := bic
 refine Ycs ?_
 refine CLL_q _ cI (.cons (exq_refL g1 rfl (by decide)) (.cons (exq_sc _ _ _ (by decide)) .nil)) rfl rfl rfl ?_
 refine Ycs ?_
 refine CLL_q _ cS (.cons (exq_refL g1 rfl (by decide)) (.cons (exq_sc _ _ _ (by decide)) .nil)) rfl rfl rfl ?_
 refine Ycs ?_
 exact Yad
set_option maxHeartbeats 8000000 in
theorem cAllB {a : AV} {bs : List Int} (hb : isB a bs) (hr : ∀ k, 0 ≤ atI bs k ∧ atI bs k < 256) : CallOK Tryz.prog 3 [a] (bo true) := by
 have c1 := cBig hb
 have hT : bs.length ≤ 4096 → ∀ sl ro gn, sl 0 = a → WK XX (tlC 2 (bodyOf Tryz.f3)) [] QL ⟨sl, ro, gn⟩ := fun hl sl ro gn s0 =>
  have hc : Cod a bs := ⟨hb, fun k _ => hr k, by omega⟩
  cut_tl (n := 7) (sg1 hc hl (fun sl ro gn s0 => sg2 hc hl sl ro gn s0) sl ro gn s0)
 have hh := hd_tl 2 (bodyOf Tryz.f3)
 generalize tlC 2 (bodyOf Tryz.f3) = T at hT hh
 refine call_of (fn := Tryz.f3) (code := bodyOf Tryz.f3) Tryz.func3 rfl (by kernel_rfl) (rfl) ?_
 intro sl hs
 have s0 : sl 0 = a := hs 0
 rw [← hh]
 dsimp only [Tryz.f3, bodyOf, Option.getD, tlC, hdC]
 by_cases h : 4096 < (bs.length : Int)
 ·rw [decide_eq_true h] at c1
  refine Ycc ?_
  refine CLL_pure _ c1 (by simp only [pureL, isB_pure hb, Bool.and_self]) rfl rfl ?_
  refine Ycc ?_
  exact Yad
 ·rw [decide_eq_false h] at c1
  refine Ycc ?_
  refine CLL_pure _ c1 (by simp only [pureL, isB_pure hb, Bool.and_self]) rfl rfl ?_
  refine Ycc ?_
  exact hT (by omega) _ _ _ (Ue s0)
end
end Go.Proofs.YtmchdjiigfiabaaGreat
/- What the law hands in, read by the machine: bytes. -/
namespace Go.Proofs.YtmchdjiigfiabaaGreat
open Go.RowKit Go.ChangeShapes Go.WideShapes Go.Deep Go.Joins
theorem walk_below {P : Program} {f : Nat} {args : List AV} {b : Bool} (h : CallOK P f args (bo b)) {w : World} {vs : List Value} (hv : RelL (cx0 w (fun _ => False)) args vs []) (hg : Gd w) :
  Calls P f vs.toArray w fun e w' => e = .returned (.bool b) ∧ Below w.heap.size w w' := by
 refine (h.2.2 w (fun _ => False) vs hv (fun _ h => h.elim) hg).mono ?_
 rintro e w' ⟨v, A', F', rfl, h1, _, _, h4⟩
 obtain ⟨h2, _⟩ := Rel.sc_inv h1
 exact ⟨by rw [h2], ⟨h4.os, h4.tape, h4.output, h4.size, fun k hk => h4.block k hk (by simp)⟩⟩
theorem cell_spot {w : World} {a : Addr} {v : Value} (h : w.cell? a = some v) : a.spot = none ∧ a.block < w.heap.size := by
 unfold World.cell? at h
 split at h
 ·rename_i c E fr hb
  split at h
  ·cases h
  ·rename_i hs
   refine ⟨by cases hsp : a.spot <;> simp_all, ?_⟩
   exact (Array.getElem?_eq_some_iff.1 hb).1
 ·cases h
theorem add_plain {a : Addr} (h : a.spot = none) (i : Nat) : a.add i = ⟨a.block, a.off + i, none⟩ := by
 unfold Addr.add
 split
 ·rename_i hi; subst hi; cases a; simp_all
 ·rfl
theorem wf8 {n : Int} (h : (Lit.int .u8 n).wf = true) : 0 ≤ n ∧ n < 256 := by
 have e : IntKind.bits .u8 = 8 := rfl
 have s : IntKind.signed .u8 = false := rfl
 simp only [Lit.wf, IntKind.min, IntKind.max, s, e] at h
 simp at h
 omega
section
variable {H : Type} {enc : TypeId × Value → H} {P : Program} {w : World} {held : Bool}
theorem open_b1 {t e : TypeId} {fuel : Nat} {v : Value} {x : DataW H × List MemPlace} (ht : P.underlying t = some (.slice e)) (he : P.underlying e = some (.int .u8)) (hc : P.cellsOf e = 1) (h : DataW.trod enc P w 0 (fun _ => true) held fuel t [v] = some x) :
  ∃ a xs, Rel (cx0 w (fun _ => False)) a v [] ∧ isB a xs ∧ xs.length < 2^63 ∧ ∀ j, 0 ≤ atI xs j ∧ atI xs j < 256 := by
 rcases open_ints ht he hc h with ⟨hcs, _⟩ | ⟨ad, len, cap, zs, hcs, _, hl, hm, hz, _, hcell, hwf⟩
 ·simp only [List.cons.injEq, and_true] at hcs
  subst hcs
  exact ⟨.sc (.slice none 0 0), [], .sc _ .nil, .inr ⟨rfl, _, _, rfl⟩, by simp, fun j => by simp [atI]⟩
 ·simp only [List.cons.injEq, and_true] at hcs
  subst hcs
  simp only [if_true] at hz
  have hmx : cap < 2^63 := Nat.lt_of_le_of_lt hm (by decide)
  rcases Nat.eq_zero_or_pos len with h0 | hpos
  ·subst h0
   exact ⟨.sc (.slice (some ad) 0 cap), [], .sc _ .nil, .inr ⟨rfl, _, _, rfl⟩, by simp, fun j => by simp [atI]⟩
  ·have hc0 := hcell 0 (by omega)
   obtain ⟨hs, hb⟩ := cell_spot hc0
   have hs' : ad.spot = none := by simpa [Addr.add] using hs
   have hb' : ad.block < w.heap.size := by simpa [Addr.add] using hb
   have hlen : (zs.take len).length = len := by rw [List.length_take]; omega
   have hlen2 : ((zs.take len).map (Value.int .u8)).length = len := by rw [List.length_map, hlen]
   refine ⟨.imm ((zs.take len).map u8), zs.take len, ?_, .inl rfl, by omega, fun j => ?_⟩
   ·have hr : RelL (cx0 w (fun _ => False)) ((zs.take len).map u8) ((zs.take len).map (Value.int .u8)) [] := by
     have := relL_sc (cx0 w (fun _ => False)) ((zs.take len).map (Value.int .u8))
     rwa [List.map_map] at this
    have := RelL.imm (c := cx0 w (fun _ => False)) ad.block ad.off cap hr ⟨fun h => h, hb', fun i u hu => ?_⟩ (by rw [hlen2]; exact hl) RelL.nil
    ·rw [hlen2] at this
     have e : (⟨ad.block, ad.off, none⟩ : Addr) = ad := by cases ad; simp_all
     rwa [e] at this
    ·show w.cell? ⟨ad.block, ad.off + i, none⟩ = some u
     rw [← add_plain hs' i]
     have hi : i < len := by
      have := (List.getElem?_eq_some_iff.1 hu).1
      rwa [hlen2] at this
     rw [hcell i (by omega)]
     rw [List.getElem?_map, List.getElem?_take, if_pos hi] at hu
     cases hzi : zs[i]? with
     | none => rw [hzi] at hu; cases hu
     | some z =>
      rw [hzi] at hu
      simp only [Option.map_some, Option.some.injEq] at hu
      rw [← hu]
      simp [List.getD_eq_getElem?_getD, hzi]
   ·rcases Nat.lt_or_ge j (zs.take len).length with hj | hj
    ·have hmem : atI (zs.take len) j ∈ zs := by
      have : atI (zs.take len) j = (zs.take len)[j] := by simp only [atI, List.getD_eq_getElem?_getD, List.getElem?_eq_getElem hj, Option.getD_some]
      rw [this]
      exact List.mem_of_mem_take (List.getElem_mem hj)
     exact wf8 (hwf _ hmem)
    ·rw [atI_out hj]; exact ⟨by decide, by decide⟩
end
end Go.Proofs.YtmchdjiigfiabaaGreat
