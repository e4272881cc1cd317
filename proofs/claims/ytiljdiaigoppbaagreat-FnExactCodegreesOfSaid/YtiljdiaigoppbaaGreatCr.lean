/- Texts joined: Cl3. -/
import Derived.Test.YtiljdiaigoppbaaGreatCq
set_option linter.all false
/- The law of CodegreesOf. -/
namespace Go.Proofs.YtiljdiaigoppbaaGreat
open Go.RowKit
set_option maxRecDepth 1000000
theorem imp_tl {b : Nat} {gn : Nat → Nat} {X : List Int} {v : Value} : impE b gn (.tup [rowL X, .sc v]) = ⟨.tup [.ref b (gn b + 1) [] 0 X.length, .sc v], none, [], [(b, rowL X)]⟩ := by
 show (⟨.tup [.ref b (gn b + 1) [] 0 (X.map i64).length, .sc v], none, [], [(b, .row (X.map i64))]⟩ : Eff) = _
 rw [List.length_map]
theorem noI_tL (X : List Int) (v : Value) : noI (.tup [rowL X, .sc v]) = true := by
 have h := noI_rowL X
 show (noI (rowL X) && (noI (.sc v) && true)) = true
 rw [h]; rfl
theorem in32C {s g : Nat} {xs : List Int} {ro : Ro} {gn : Nat → Nat} (hro : ro s g = some (rowL xs)) (hn : xs.length ≤ maxN) (hk2 : (1 : Int) + xs.length ≤ 2^62) :
  InOK Tryz.prog 20 [.ref s g [] 0 xs.length, i64 1] ro gn (i64 (1 + xs.length)) (upr ro s g (rowL (iota 1 xs.length))) gn := by
 have := in32 (plc_nil s g) (cs := xs.map i64) (ro := ro) (gn := gn) (k := 1) hro (by rw [List.length_map]; exact hn) (by decide) (by rw [List.length_map]; exact hk2)
 rw [List.length_map] at this
 exact this
theorem e31N : CallOK Tryz.prog 19 [nilA, nilA] (bo true) := by
 have := c31 (a := nilA) (b := nilA) (xs := []) (ys := []) (.inr ⟨rfl, rfl⟩) (.inr ⟨rfl, rfl⟩) (by decide)
 rwa [decide_eq_true rfl] at this
theorem e33N : CallOK Tryz.prog 21 [nilA, i64 1] (i64 1) :=
 c33 (a := nilA) (n := 0) (k := 1) (.inr ⟨rfl, rfl⟩) (by decide) (by decide) (by decide)
theorem cd_both {T : List (List (List Int))} (hz : SzP T) : (∃ L : List Int, L.length ≤ 16 ∧ CallOK Tryz.prog 17 [.agg [immLLL T]] (.tup [rowL L, i64 0]) ∧ CallOK Tryz.prog 18 [.agg [immLLL T]] (.tup [rowL L, i64 0])) ∨
  ∃ z : Int, CallOK Tryz.prog 17 [.agg [immLLL T]] (.tup [nilA, i64 z]) ∧ CallOK Tryz.prog 18 [.agg [immLLL T]] (.tup [nilA, i64 z]) := by
 have hc := isLLL_imm T
 rcases cod_ex T with ⟨h1, h2⟩ | ⟨z, h1, h2⟩
 ·obtain ⟨x1, x2⟩ := chX h1.1
  exact .inl ⟨(chsI T).map (cdg T), by rw [List.length_map]; exact x1, cCdS0 hc h1 h2, cCdI0 hc h1 h2⟩
 ·exact .inr ⟨z, cCdS1 hc h1 h2, cCdI1 hc hz h1 h2⟩
theorem cLaw16 {a : AV} {T : List (List (List Int))} (ha : isLLLw a T) (hx : T.length < 2^63) (hr : ∀ i, (mat T i).length < 2^63) (hr2 : ∀ i j, (row (mat T i) j).length < 2^63) : CallOK Tryz.prog 5 [.agg [a]] (bo true) := by
 have cZ := cSzRC (left := 1048576) ha hx hr hr2 (by decide) (by decide)
 have hpa : pureA a = true := isLLLw_pure ha
 refine call_of (fn := Tryz.f5) (code := bodyOf Tryz.f5) Tryz.func5 rfl (by kernel_rfl) (rfl) ?_
 intro sl hs
 have s0 : sl 0 = .agg [a] := hs 0
 by_cases hz : szT T ((1048576 : Int) - T.length) T.length < 0
 ·have e : szV (szT T ((1048576 : Int) - T.length) T.length) = -1 := if_pos hz
  rw [e] at cZ
  dsimp only [Tryz.f5, bodyOf, Option.getD]
  simp (maxSteps := 10000000) (disch := first | assumption | omega) only [go_sem, ↓reduceIte, Nat.reduceEqDiff, reduceCtorEq, Nat.reduceAdd, Nat.reduceMul, Nat.reduceLeDiff, zc, Int.reduceToNat, s0, tiRg, ti31]
  refine CLL_pure _ cZ (by simp only [pureL, pureA, hpa, Bool.and_self, Bool.and_true]) rfl rfl ?_
  simp (maxSteps := 10000000) (disch := first | assumption | omega) only [go_sem, ↓reduceIte, Nat.reduceEqDiff, reduceCtorEq, Nat.reduceAdd, Nat.reduceMul, Nat.reduceLeDiff, zc, Int.reduceToNat, s0]
  simp only [zr, zb, retR, resL, outT, outL, zes, zez, oneV, zcp, zed, zfi, Ro.dl, St.ev, zhk, ↓za, ↓reduceIte, Nat.reduceEqDiff, Nat.reduceAdd, Nat.reduceLeDiff]
 ·have e : szV (szT T ((1048576 : Int) - T.length) T.length) = szT T ((1048576 : Int) - T.length) T.length := if_neg hz
  rw [e] at cZ
  obtain ⟨hS, htot⟩ := szP_of hz
  have cT := cToRC ha hS
  have cE := cEqRC hS
  have hpos : ¬ ((1 : Int) + (tot T T.length : Nat) < 0) := by omega
  have hn3 := nrL3 T
  rcases cd_both hS with ⟨L, m1, hL, hI⟩ | ⟨z, hL, hI⟩
  ·have hX : L.length ≤ maxN := Nat.le_trans m1 (by decide)
   have cD := c31 (isL_imm L) (isL_imm L) hX
   rw [decide_eq_true rfl] at cD
   have cH := c33 (isL_imm (iota 1 L.length)) (k := 1) (n := L.length) hX (by decide) (by omega)
   have hge : ¬ ((1 : Int) + L.length < 0) := by omega
   dsimp only [Tryz.f5, bodyOf, Option.getD]
   simp (maxSteps := 10000000) (disch := first | assumption | omega) only [go_sem, ↓reduceIte, Nat.reduceEqDiff, reduceCtorEq, Nat.reduceAdd, Nat.reduceMul, Nat.reduceLeDiff, zc, Int.reduceToNat, s0, tiRg, ti31, ti33]
   refine CLL_pure _ cZ (by simp only [pureL, pureA, hpa, Bool.and_self, Bool.and_true]) rfl rfl ?_
   simp (maxSteps := 10000000) (disch := first | assumption | omega) only [go_sem, ↓reduceIte, Nat.reduceEqDiff, reduceCtorEq, Nat.reduceAdd, Nat.reduceMul, Nat.reduceLeDiff, zc, Int.reduceToNat, s0, eq_false hz]
   refine CLL_pure _ cT (by simp only [pureL, pureA, hpa, Bool.and_self, Bool.and_true]) rfl rfl ?_
   simp (maxSteps := 10000000) (disch := first | assumption | omega) only [go_sem, ↓reduceIte, Nat.reduceEqDiff, reduceCtorEq, Nat.reduceAdd, Nat.reduceMul, Nat.reduceLeDiff, zc, Int.reduceToNat, s0, impE_agg1, List.length_map]
   refine CLL_q _ hL (.cons (exq_agg (.cons (exq_refLLL Ur rfl (by decide)) .nil)) .nil) rfl rfl (noI_tL _ _) ?_
   simp (maxSteps := 10000000) (disch := first | assumption | omega) only [go_sem, ↓reduceIte, Nat.reduceEqDiff, reduceCtorEq, Nat.reduceAdd, Nat.reduceMul, Nat.reduceLeDiff, zc, Int.reduceToNat, s0, imp_tl]
   refine CLL_pure _ cT (by simp only [pureL, pureA, hpa, Bool.and_self, Bool.and_true]) rfl rfl ?_
   simp (maxSteps := 10000000) (disch := first | assumption | omega) only [go_sem, ↓reduceIte, Nat.reduceEqDiff, reduceCtorEq, Nat.reduceAdd, Nat.reduceMul, Nat.reduceLeDiff, zc, Int.reduceToNat, s0, impE_agg1, List.length_map]
   refine CLL_q _ hI (.cons (exq_agg (.cons (exq_refLLL Ur rfl (by decide)) .nil)) .nil) rfl rfl (noI_tL _ _) ?_
   simp (maxSteps := 10000000) (disch := first | assumption | omega) only [go_sem, ↓reduceIte, Nat.reduceEqDiff, reduceCtorEq, Nat.reduceAdd, Nat.reduceMul, Nat.reduceLeDiff, zc, Int.reduceToNat, s0, imp_tl]
   refine CLL_q _ cD (by repeat' first | exact exqL.nil | refine exqL.cons ?_ ?_ | exact exq_sc _ _ _ (by decide) | exact exq_L (by first | assumption | exact isL_imm _) (by decide) | exact exq_LL (by assumption) (by decide) | exact exq_LLL (by assumption) (by decide) | exact exq_refL (by first | assumption | (simp only [↓za, ↓reduceIte, Nat.reduceEqDiff, zb, reduceCtorEq]; done) | (simp only [↓za, ↓reduceIte, Nat.reduceEqDiff, zb, reduceCtorEq]; first | rfl | assumption)) (by first | rfl | (simp only [zfe, List.length_map, tms_len]; done)) (by decide) | exact exq_refLL (by first | assumption | (simp only [↓za, ↓reduceIte, Nat.reduceEqDiff, zb, reduceCtorEq]; done) | (simp only [↓za, ↓reduceIte, Nat.reduceEqDiff, zb, reduceCtorEq]; first | rfl | assumption)) (by first | rfl | (simp only [zfe, List.length_map, tms_len]; done)) (by decide) | exact exq_cube (by first | assumption | (simp only [↓za, ↓reduceIte, Nat.reduceEqDiff, zb, reduceCtorEq]; done) | (simp only [↓za, ↓reduceIte, Nat.reduceEqDiff, zb, reduceCtorEq]; first | rfl | assumption)) (by decide) | exact exq_mat (by first | assumption | (simp only [↓za, ↓reduceIte, Nat.reduceEqDiff, zb, reduceCtorEq]; done) | (simp only [↓za, ↓reduceIte, Nat.reduceEqDiff, zb, reduceCtorEq]; first | rfl | assumption)) (by decide) | refine exq_agg ?_) rfl rfl rfl ?_
   simp (maxSteps := 10000000) (disch := first | assumption | omega) only [go_sem, ↓reduceIte, Nat.reduceEqDiff, reduceCtorEq, Nat.reduceAdd, Nat.reduceMul, Nat.reduceLeDiff, zc, Int.reduceToNat, s0]
   refine CLLD_pure _ cT (by simp only [pureL, pureA, hpa, Bool.and_self, Bool.and_true]) rfl ?_
   simp (maxSteps := 10000000) (disch := first | assumption | omega) only [go_sem, ↓reduceIte, Nat.reduceEqDiff, reduceCtorEq, Nat.reduceAdd, Nat.reduceMul, Nat.reduceLeDiff, zc, Int.reduceToNat, s0, impE_agg1, List.length_map]
   refine CLLD_q _ cE (.cons (exq_agg (.cons (exq_refLLL Ur rfl (by decide)) .nil)) (.cons (exq_agg (.cons (exq_refLLL Ur rfl (by decide)) .nil)) .nil)) rfl rfl ?_
   simp (maxSteps := 10000000) (disch := first | assumption | omega) only [go_sem, ↓reduceIte, Nat.reduceEqDiff, reduceCtorEq, Nat.reduceAdd, Nat.reduceMul, Nat.reduceLeDiff, zc, Int.reduceToNat, s0, hn3]
   refine FIN_of (by kernel_rfl) ?_
   simp (maxSteps := 10000000) (disch := first | assumption | omega) only [go_sem, ↓reduceIte, Nat.reduceEqDiff, reduceCtorEq, Nat.reduceAdd, Nat.reduceMul, Nat.reduceLeDiff, zc, Int.reduceToNat, s0]
   refine CLL_inS rfl (in18q (T := T) (k := 1) Ur (by decide) hS (by decide) htot) ?_
   rintro r ro' gn' ⟨rfl, ⟨b, rfl⟩, rfl⟩
   simp (maxSteps := 10000000) (disch := first | assumption | omega) only [go_sem, ↓reduceIte, Nat.reduceEqDiff, reduceCtorEq, Nat.reduceAdd, Nat.reduceMul, Nat.reduceLeDiff, zc, Int.reduceToNat, s0, hpos]
   refine CLL_q _ cD (by repeat' first | exact exqL.nil | refine exqL.cons ?_ ?_ | exact exq_sc _ _ _ (by decide) | exact exq_L (by first | assumption | exact isL_imm _) (by decide) | exact exq_LL (by assumption) (by decide) | exact exq_LLL (by assumption) (by decide) | exact exq_refL (by first | assumption | (simp only [↓za, ↓reduceIte, Nat.reduceEqDiff, zb, reduceCtorEq]; done) | (simp only [↓za, ↓reduceIte, Nat.reduceEqDiff, zb, reduceCtorEq]; first | rfl | assumption)) (by first | rfl | (simp only [zfe, List.length_map, tms_len]; done)) (by decide) | exact exq_refLL (by first | assumption | (simp only [↓za, ↓reduceIte, Nat.reduceEqDiff, zb, reduceCtorEq]; done) | (simp only [↓za, ↓reduceIte, Nat.reduceEqDiff, zb, reduceCtorEq]; first | rfl | assumption)) (by first | rfl | (simp only [zfe, List.length_map, tms_len]; done)) (by decide) | exact exq_cube (by first | assumption | (simp only [↓za, ↓reduceIte, Nat.reduceEqDiff, zb, reduceCtorEq]; done) | (simp only [↓za, ↓reduceIte, Nat.reduceEqDiff, zb, reduceCtorEq]; first | rfl | assumption)) (by decide) | exact exq_mat (by first | assumption | (simp only [↓za, ↓reduceIte, Nat.reduceEqDiff, zb, reduceCtorEq]; done) | (simp only [↓za, ↓reduceIte, Nat.reduceEqDiff, zb, reduceCtorEq]; first | rfl | assumption)) (by decide) | refine exq_agg ?_) rfl rfl rfl ?_
   simp (maxSteps := 10000000) (disch := first | assumption | omega) only [go_sem, ↓reduceIte, Nat.reduceEqDiff, reduceCtorEq, Nat.reduceAdd, Nat.reduceMul, Nat.reduceLeDiff, zc, Int.reduceToNat, s0]
   refine CLL_in rfl _ _ _ (in32C (xs := L) Ur hX (by omega)) ?_
   simp (maxSteps := 10000000) (disch := first | assumption | omega) only [go_sem, ↓reduceIte, Nat.reduceEqDiff, reduceCtorEq, Nat.reduceAdd, Nat.reduceMul, Nat.reduceLeDiff, zc, Int.reduceToNat, s0]
   refine CLL_q _ cH (.cons (exq_refL Ur (iota_len _ _).symm (by decide)) (.cons (exq_sc _ _ _ (by decide)) .nil)) rfl rfl rfl ?_
   simp (maxSteps := 10000000) (disch := first | assumption | omega) only [go_sem, ↓reduceIte, Nat.reduceEqDiff, reduceCtorEq, Nat.reduceAdd, Nat.reduceMul, Nat.reduceLeDiff, zc, Int.reduceToNat, s0, hge]
   refine CLL_pure _ cT (by simp only [pureL, pureA, hpa, Bool.and_self, Bool.and_true]) rfl rfl ?_
   simp (maxSteps := 10000000) (disch := first | assumption | omega) only [go_sem, ↓reduceIte, Nat.reduceEqDiff, reduceCtorEq, Nat.reduceAdd, Nat.reduceMul, Nat.reduceLeDiff, zc, Int.reduceToNat, s0, impE_agg1, List.length_map]
   refine CLL_q _ hI (.cons (exq_agg (.cons (exq_refLLL Ur rfl (by decide)) .nil)) .nil) rfl rfl (noI_tL _ _) ?_
   simp (maxSteps := 10000000) (disch := first | assumption | omega) only [go_sem, ↓reduceIte, Nat.reduceEqDiff, reduceCtorEq, Nat.reduceAdd, Nat.reduceMul, Nat.reduceLeDiff, zc, Int.reduceToNat, s0, imp_tl]
   refine CLL_q _ cD (by repeat' first | exact exqL.nil | refine exqL.cons ?_ ?_ | exact exq_sc _ _ _ (by decide) | exact exq_L (by first | assumption | exact isL_imm _) (by decide) | exact exq_LL (by assumption) (by decide) | exact exq_LLL (by assumption) (by decide) | exact exq_refL (by first | assumption | (simp only [↓za, ↓reduceIte, Nat.reduceEqDiff, zb, reduceCtorEq]; done) | (simp only [↓za, ↓reduceIte, Nat.reduceEqDiff, zb, reduceCtorEq]; first | rfl | assumption)) (by first | rfl | (simp only [zfe, List.length_map, tms_len]; done)) (by decide) | exact exq_refLL (by first | assumption | (simp only [↓za, ↓reduceIte, Nat.reduceEqDiff, zb, reduceCtorEq]; done) | (simp only [↓za, ↓reduceIte, Nat.reduceEqDiff, zb, reduceCtorEq]; first | rfl | assumption)) (by first | rfl | (simp only [zfe, List.length_map, tms_len]; done)) (by decide) | exact exq_cube (by first | assumption | (simp only [↓za, ↓reduceIte, Nat.reduceEqDiff, zb, reduceCtorEq]; done) | (simp only [↓za, ↓reduceIte, Nat.reduceEqDiff, zb, reduceCtorEq]; first | rfl | assumption)) (by decide) | exact exq_mat (by first | assumption | (simp only [↓za, ↓reduceIte, Nat.reduceEqDiff, zb, reduceCtorEq]; done) | (simp only [↓za, ↓reduceIte, Nat.reduceEqDiff, zb, reduceCtorEq]; first | rfl | assumption)) (by decide) | refine exq_agg ?_) rfl rfl rfl ?_
   simp (maxSteps := 10000000) (disch := first | assumption | omega) only [go_sem, ↓reduceIte, Nat.reduceEqDiff, reduceCtorEq, Nat.reduceAdd, Nat.reduceMul, Nat.reduceLeDiff, zc, Int.reduceToNat, s0]
   refine CLL_q _ cH (.cons (exq_refL Ur (iota_len _ _).symm (by decide)) (.cons (exq_sc _ _ _ (by decide)) .nil)) rfl rfl rfl ?_
   simp (maxSteps := 10000000) (disch := first | assumption | omega) only [go_sem, ↓reduceIte, Nat.reduceEqDiff, reduceCtorEq, Nat.reduceAdd, Nat.reduceMul, Nat.reduceLeDiff, zc, Int.reduceToNat, s0, hge]
   simp only [zr, zb, retR, resL, outT, outL, zes, zez, oneV, zcp, zed, zfi, Ro.dl, St.ev, zhk, ↓za, ↓reduceIte, Nat.reduceEqDiff, Nat.reduceAdd, Nat.reduceLeDiff]
  ·have e42 := e31N
   have e44 := e33N
   have h11 : ¬ ((1 : Int) < 0) := by decide
   dsimp only [Tryz.f5, bodyOf, Option.getD]
   simp (maxSteps := 10000000) (disch := first | assumption | omega) only [go_sem, ↓reduceIte, Nat.reduceEqDiff, reduceCtorEq, Nat.reduceAdd, Nat.reduceMul, Nat.reduceLeDiff, zc, Int.reduceToNat, s0, tiRg, ti31, ti33]
   refine CLL_pure _ cZ (by simp only [pureL, pureA, hpa, Bool.and_self, Bool.and_true]) rfl rfl ?_
   simp (maxSteps := 10000000) (disch := first | assumption | omega) only [go_sem, ↓reduceIte, Nat.reduceEqDiff, reduceCtorEq, Nat.reduceAdd, Nat.reduceMul, Nat.reduceLeDiff, zc, Int.reduceToNat, s0, eq_false hz]
   refine CLL_pure _ cT (by simp only [pureL, pureA, hpa, Bool.and_self, Bool.and_true]) rfl rfl ?_
   simp (maxSteps := 10000000) (disch := first | assumption | omega) only [go_sem, ↓reduceIte, Nat.reduceEqDiff, reduceCtorEq, Nat.reduceAdd, Nat.reduceMul, Nat.reduceLeDiff, zc, Int.reduceToNat, s0, impE_agg1, List.length_map]
   refine CLL_q _ hL (.cons (exq_agg (.cons (exq_refLLL Ur rfl (by decide)) .nil)) .nil) rfl rfl rfl ?_
   simp (maxSteps := 10000000) (disch := first | assumption | omega) only [go_sem, ↓reduceIte, Nat.reduceEqDiff, reduceCtorEq, Nat.reduceAdd, Nat.reduceMul, Nat.reduceLeDiff, zc, Int.reduceToNat, s0, imp_tN]
   refine CLL_pure _ cT (by simp only [pureL, pureA, hpa, Bool.and_self, Bool.and_true]) rfl rfl ?_
   simp (maxSteps := 10000000) (disch := first | assumption | omega) only [go_sem, ↓reduceIte, Nat.reduceEqDiff, reduceCtorEq, Nat.reduceAdd, Nat.reduceMul, Nat.reduceLeDiff, zc, Int.reduceToNat, s0, impE_agg1, List.length_map]
   refine CLL_q _ hI (.cons (exq_agg (.cons (exq_refLLL Ur rfl (by decide)) .nil)) .nil) rfl rfl rfl ?_
   simp (maxSteps := 10000000) (disch := first | assumption | omega) only [go_sem, ↓reduceIte, Nat.reduceEqDiff, reduceCtorEq, Nat.reduceAdd, Nat.reduceMul, Nat.reduceLeDiff, zc, Int.reduceToNat, s0, imp_tN]
   refine CLL_pure _ e42 rfl rfl rfl ?_
   simp (maxSteps := 10000000) (disch := first | assumption | omega) only [go_sem, ↓reduceIte, Nat.reduceEqDiff, reduceCtorEq, Nat.reduceAdd, Nat.reduceMul, Nat.reduceLeDiff, zc, Int.reduceToNat, s0]
   refine CLLD_pure _ cT (by simp only [pureL, pureA, hpa, Bool.and_self, Bool.and_true]) rfl ?_
   simp (maxSteps := 10000000) (disch := first | assumption | omega) only [go_sem, ↓reduceIte, Nat.reduceEqDiff, reduceCtorEq, Nat.reduceAdd, Nat.reduceMul, Nat.reduceLeDiff, zc, Int.reduceToNat, s0, impE_agg1, List.length_map]
   refine CLLD_q _ cE (.cons (exq_agg (.cons (exq_refLLL Ur rfl (by decide)) .nil)) (.cons (exq_agg (.cons (exq_refLLL Ur rfl (by decide)) .nil)) .nil)) rfl rfl ?_
   simp (maxSteps := 10000000) (disch := first | assumption | omega) only [go_sem, ↓reduceIte, Nat.reduceEqDiff, reduceCtorEq, Nat.reduceAdd, Nat.reduceMul, Nat.reduceLeDiff, zc, Int.reduceToNat, s0, hn3]
   refine FIN_of (by kernel_rfl) ?_
   simp (maxSteps := 10000000) (disch := first | assumption | omega) only [go_sem, ↓reduceIte, Nat.reduceEqDiff, reduceCtorEq, Nat.reduceAdd, Nat.reduceMul, Nat.reduceLeDiff, zc, Int.reduceToNat, s0]
   refine CLL_inS rfl (in18q (T := T) (k := 1) Ur (by decide) hS (by decide) htot) ?_
   rintro r ro' gn' ⟨rfl, ⟨b, rfl⟩, rfl⟩
   simp (maxSteps := 10000000) (disch := first | assumption | omega) only [go_sem, ↓reduceIte, Nat.reduceEqDiff, reduceCtorEq, Nat.reduceAdd, Nat.reduceMul, Nat.reduceLeDiff, zc, Int.reduceToNat, s0, hpos]
   refine CLL_pure _ e42 rfl rfl rfl ?_
   simp (maxSteps := 10000000) (disch := first | assumption | omega) only [go_sem, ↓reduceIte, Nat.reduceEqDiff, reduceCtorEq, Nat.reduceAdd, Nat.reduceMul, Nat.reduceLeDiff, zc, Int.reduceToNat, s0]
   refine CLL_in rfl _ _ _ in32n ?_
   simp (maxSteps := 10000000) (disch := first | assumption | omega) only [go_sem, ↓reduceIte, Nat.reduceEqDiff, reduceCtorEq, Nat.reduceAdd, Nat.reduceMul, Nat.reduceLeDiff, zc, Int.reduceToNat, s0]
   refine CLL_pure _ e44 rfl rfl rfl ?_
   simp (maxSteps := 10000000) (disch := first | assumption | omega) only [go_sem, ↓reduceIte, Nat.reduceEqDiff, reduceCtorEq, Nat.reduceAdd, Nat.reduceMul, Nat.reduceLeDiff, zc, Int.reduceToNat, s0, h11]
   refine CLL_pure _ cT (by simp only [pureL, pureA, hpa, Bool.and_self, Bool.and_true]) rfl rfl ?_
   simp (maxSteps := 10000000) (disch := first | assumption | omega) only [go_sem, ↓reduceIte, Nat.reduceEqDiff, reduceCtorEq, Nat.reduceAdd, Nat.reduceMul, Nat.reduceLeDiff, zc, Int.reduceToNat, s0, impE_agg1, List.length_map]
   refine CLL_q _ hI (.cons (exq_agg (.cons (exq_refLLL Ur rfl (by decide)) .nil)) .nil) rfl rfl rfl ?_
   simp (maxSteps := 10000000) (disch := first | assumption | omega) only [go_sem, ↓reduceIte, Nat.reduceEqDiff, reduceCtorEq, Nat.reduceAdd, Nat.reduceMul, Nat.reduceLeDiff, zc, Int.reduceToNat, s0, imp_tN]
   refine CLL_pure _ e42 rfl rfl rfl ?_
   simp (maxSteps := 10000000) (disch := first | assumption | omega) only [go_sem, ↓reduceIte, Nat.reduceEqDiff, reduceCtorEq, Nat.reduceAdd, Nat.reduceMul, Nat.reduceLeDiff, zc, Int.reduceToNat, s0]
   refine CLL_pure _ e44 rfl rfl rfl ?_
   simp (maxSteps := 10000000) (disch := first | assumption | omega) only [go_sem, ↓reduceIte, Nat.reduceEqDiff, reduceCtorEq, Nat.reduceAdd, Nat.reduceMul, Nat.reduceLeDiff, zc, Int.reduceToNat, s0, h11]
   simp only [zr, zb, retR, resL, outT, outL, zes, zez, oneV, zcp, zed, zfi, Ro.dl, St.ev, zhk, ↓za, ↓reduceIte, Nat.reduceEqDiff, Nat.reduceAdd, Nat.reduceLeDiff]
end Go.Proofs.YtiljdiaigoppbaaGreat
