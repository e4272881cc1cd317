/- Texts joined: QS QT. -/
import Derived.Test.YthpmddoakefbmaaGreatOe
set_option linter.all false
/- Braidings that the reference makes. -/
namespace Go.Proofs.YthpmddoakefbmaaGreat
open Go.RowKit
set_option maxRecDepth 1000000
theorem impE_tupC (b : Nat) (gn : Nat → Nat) (xs ys : List AV) (m v : Value) : impE b gn (.tup [.agg [.row xs, .sc m, .row ys], .sc v]) = ⟨.tup [.agg [.ref b (gn b + 1) [] 0 xs.length, .sc m, .ref (b + 1) (gn (b + 1) + 1) [] 0 ys.length], .sc v], none, [], [(b, .row xs), (b + 1, .row ys)]⟩ := nr _
theorem impE_tupNC (b : Nat) (gn : Nat → Nat) (x y z v : Value) : impE b gn (.tup [.agg [.sc x, .sc y, .sc z], .sc v]) = ⟨.tup [.agg [.sc x, .sc y, .sc z], .sc v], none, [], []⟩ := nr _
theorem impE_tupBr (b : Nat) (gn : Nat → Nat) (xs ys zs : List AV) (m v : Value) : impE b gn (.tup [.agg [.row xs, .sc m, .row ys, .row zs], .sc v]) = ⟨.tup [.agg [.ref b (gn b + 1) [] 0 xs.length, .sc m, .ref (b + 1) (gn (b + 1) + 1) [] 0 ys.length, .ref (b + 2) (gn (b + 2) + 1) [] 0 zs.length], .sc v], none, [], [(b, .row xs), (b + 1, .row ys), (b + 2, .row zs)]⟩ := nr _
theorem impE_tupNB (b : Nat) (gn : Nat → Nat) (x y z w v : Value) : impE b gn (.tup [.agg [.sc x, .sc y, .sc z, .sc w], .sc v]) = ⟨.tup [.agg [.sc x, .sc y, .sc z, .sc w], .sc v], none, [], []⟩ := nr _
attribute [go_sem] impE_tupC impE_tupNC impE_tupBr impE_tupNB
abbrev okB (O : List Int) (M : Int) (F : Nat → Nat → Nat → Int) (G : Nat → Nat → Int) (n : Nat) : AV := .tup [.agg [rowL O, i64 M, cubeA F n, matA G n n], i64 0]
abbrev noB (e : Int) : AV := .tup [.agg [nilA, i64 0, nilA, nilA], i64 e]
theorem noRef_okB (O : List Int) (M : Int) (F : Nat → Nat → Nat → Int) (G : Nat → Nat → Int) (n : Nat) : noRef (okB O M F G n) = true := by
 show (noRef (.agg [rowL O, i64 M, cubeA F n, matA G n n]) && (true && true)) = true
 rw [noRef_bb]; rfl
theorem noI_okB (O : List Int) (M : Int) (F : Nat → Nat → Nat → Int) (G : Nat → Nat → Int) (n : Nat) : noI (okB O M F G n) = true := by
 show (noI (.agg [rowL O, i64 M, cubeA F n, matA G n n]) && (true && true)) = true
 rw [noI_bb]; rfl
theorem noRef_okC (O : List Int) (M : Int) (F : Nat → Nat → Nat → Int) (n : Nat) : noRef (.tup [.agg [rowL O, i64 M, cubeA F n], i64 0]) = true := by
 show (noRef (.agg [rowL O, i64 M, cubeA F n]) && (true && true)) = true
 rw [noRef_cc]; rfl
noncomputable def pcode (O : List Int) (M : Int) (G : Nat → Nat → Int) (k l : Nat) : Int :=
 open Classical in if ¬ OrdP O then 1 else if 8 < pfx O O.length then 3 else if (1 ≤ M ∧ M ≤ 1000) ∧ PrP (pfx O O.length).toNat M G k l then 0 else 2
section
variable {o c v o' c' v' : AV} {O O' : List Int} {M M' : Int} {F F' : Nat → Nat → Nat → Int} {n n' : Nat} {G G' : Nat → Nat → Int} {k l k' l' : Nat}
theorem pcode1 (h : ¬ OrdP O) : pcode O M G k l = 1 := by unfold pcode; rw [if_pos h]
theorem pcode3 (h : OrdP O) (h2 : 8 < pfx O O.length) : pcode O M G k l = 3 := by unfold pcode; rw [if_neg (fun e => e h), if_pos h2]
theorem pcode0 (h : OrdP O) (h2 : ¬ 8 < pfx O O.length) (h3 : (1 ≤ M ∧ M ≤ 1000) ∧ PrP (pfx O O.length).toNat M G k l) : pcode O M G k l = 0 := by unfold pcode; rw [if_neg (fun e => e h), if_neg h2, if_pos h3]
theorem pcode2 (h : OrdP O) (h2 : ¬ 8 < pfx O O.length) (h3 : ¬ ((1 ≤ M ∧ M ≤ 1000) ∧ PrP (pfx O O.length).toNat M G k l)) : pcode O M G k l = 2 := by unfold pcode; rw [if_neg (fun e => e h), if_neg h2, if_neg h3]
theorem pcode_0 (h : pcode O M G k l = 0) : OrdP O ∧ ¬ 8 < pfx O O.length ∧ (1 ≤ M ∧ M ≤ 1000) ∧ PrP (pfx O O.length).toNat M G k l := by
 by_cases h1 : OrdP O
 ·by_cases h2 : 8 < pfx O O.length
  ·rw [pcode3 h1 h2] at h; omega
  ·by_cases h3 : (1 ≤ M ∧ M ≤ 1000) ∧ PrP (pfx O O.length).toNat M G k l
   ·exact ⟨h1, h2, h3⟩
   ·rw [pcode2 h1 h2 h3] at h; omega
 ·rw [pcode1 h1] at h; omega
def stdR (n a : Int) : AV := if ¬ (1 ≤ n ∧ n ≤ 8) ∨ ¬ (0 ≤ a ∧ a ≤ 2 * n - 1) then noB 2 else if (a * n).tmod 2 = 1 then noB 5 else okB [n] (2 * n) (stW n.toNat a) (stC n.toNat a) n.toNat
set_option maxHeartbeats 4000000 in
theorem cStdS {n a : Int} (hn : 0 ≤ n ∧ n ≤ 9) : CallOK Tryz.prog 27 [i64 n, i64 a] (stdR n a) := by
 have c1 : CallOK Tryz.prog _ [i64 n, i64 1, i64 8] (bo (decide (1 ≤ n ∧ n ≤ 8))) := c38
 have c2 : CallOK Tryz.prog _ [i64 a, i64 0, i64 (2 * n - 1)] (bo (decide (0 ≤ a ∧ a ≤ 2 * n - 1))) := c38
 by_cases h1 : 1 ≤ n ∧ n ≤ 8
 ·rw [decide_eq_true h1] at c1
  by_cases h2 : 0 ≤ a ∧ a ≤ 2 * n - 1
  ·rw [decide_eq_true h2] at c2
   have p0 : 0 ≤ a * n := Int.mul_nonneg h2.1 hn.1
   have p1 : a * n ≤ 17 * 9 := Int.mul_le_mul (by omega) hn.2 hn.1 (by omega)
   by_cases h3 : (a * n).tmod 2 = 1
   ·have e : stdR n a = noB 5 := by unfold stdR; rw [if_neg (by intro h; rcases h with h | h <;> exact h (by assumption)), if_pos h3]
    rw [e]
    refine call_of (fn := Tryz.f27) (code := bodyOf Tryz.f27) Tryz.func27 rfl (by kernel_rfl) (rfl) ?_
    intro sl hs
    have s0 : sl 0 = i64 n := hs 0
    have s1 : sl 1 = i64 a := hs 1
    dsimp only [Tryz.f27, bodyOf, Option.getD]
    simp (maxSteps := 10000000) (disch := first | assumption | omega) only [go_sem, ↓reduceIte, Nat.reduceEqDiff, reduceCtorEq, Nat.reduceAdd, Nat.reduceMul, Nat.reduceLeDiff, zc, Int.reduceToNat, s0, s1]
    refine CLL_pure _ c1 rfl rfl rfl ?_
    simp (maxSteps := 10000000) (disch := first | assumption | omega) only [go_sem, ↓reduceIte, Nat.reduceEqDiff, reduceCtorEq, Nat.reduceAdd, Nat.reduceMul, Nat.reduceLeDiff, zc, Int.reduceToNat, s0, s1]
    refine CLL_pure _ c2 rfl rfl rfl ?_
    simp (maxSteps := 10000000) (disch := first | assumption | omega) only [go_sem, ↓reduceIte, Nat.reduceEqDiff, reduceCtorEq, Nat.reduceAdd, Nat.reduceMul, Nat.reduceLeDiff, zc, Int.reduceToNat, s0, s1, eq_true h3]
    simp only [zr, zb, retR, resL, outT, outL, zes, zez, oneV, zcp, zed, zfi, Ro.dl, St.ev, zhk, ↓za, ↓reduceIte, Nat.reduceEqDiff, Nat.reduceAdd, Nat.reduceLeDiff, tiD]
   ·obtain ⟨m, rfl⟩ := Int.eq_ofNat_of_zero_le hn.1
    have e : stdR (m : Int) a = okB [(m : Int)] (2 * m) (stW m a) (stC m a) m := by unfold stdR; rw [if_neg (by intro h; rcases h with h | h <;> exact h (by assumption)), if_neg h3, Int.toNat_natCast]
    rw [e]
    refine call_of (fn := Tryz.f27) (code := bodyOf Tryz.f27) Tryz.func27 rfl (by kernel_rfl) (noRef_okB _ _ _ _ _) ?_
    intro sl hs
    have s0 : sl 0 = i64 (m : Int) := hs 0
    have s1 : sl 1 = i64 a := hs 1
    dsimp only [Tryz.f27, bodyOf, Option.getD]
    simp (maxSteps := 10000000) (disch := first | assumption | omega) only [go_sem, ↓reduceIte, Nat.reduceEqDiff, reduceCtorEq, Nat.reduceAdd, Nat.reduceMul, Nat.reduceLeDiff, zc, Int.reduceToNat, s0, s1]
    refine CLL_pure _ c1 rfl rfl rfl ?_
    simp (maxSteps := 10000000) (disch := first | assumption | omega) only [go_sem, ↓reduceIte, Nat.reduceEqDiff, reduceCtorEq, Nat.reduceAdd, Nat.reduceMul, Nat.reduceLeDiff, zc, Int.reduceToNat, s0, s1]
    refine CLL_pure _ c2 rfl rfl rfl ?_
    simp (maxSteps := 10000000) (disch := first | assumption | omega) only [go_sem, ↓reduceIte, Nat.reduceEqDiff, reduceCtorEq, Nat.reduceAdd, Nat.reduceMul, Nat.reduceLeDiff, zc, Int.reduceToNat, s0, s1, eq_false h3]
    refine CLL_pure _ (cStd (n := m) (by omega) (by omega) (by omega)) rfl rfl rfl ?_
    simp (maxSteps := 10000000) (disch := first | assumption | omega) only [go_sem, ↓reduceIte, Nat.reduceEqDiff, reduceCtorEq, Nat.reduceAdd, Nat.reduceMul, Nat.reduceLeDiff, zc, Int.reduceToNat, s0, s1]
    simp only [zr, zb, retR, resL, outT, outL, zes, zez, oneV, zcp, zed, zfi, Ro.dl, St.ev, zhk, ↓za, ↓reduceIte, Nat.reduceEqDiff, Nat.reduceAdd, Nat.reduceLeDiff, tiD]
    rfl
  ·rw [decide_eq_false h2] at c2
   have e : stdR n a = noB 2 := by unfold stdR; rw [if_pos (.inr h2)]
   rw [e]
   refine call_of (fn := Tryz.f27) (code := bodyOf Tryz.f27) Tryz.func27 rfl (by kernel_rfl) (rfl) ?_
   intro sl hs
   have s0 : sl 0 = i64 n := hs 0
   have s1 : sl 1 = i64 a := hs 1
   dsimp only [Tryz.f27, bodyOf, Option.getD]
   simp (maxSteps := 10000000) (disch := first | assumption | omega) only [go_sem, ↓reduceIte, Nat.reduceEqDiff, reduceCtorEq, Nat.reduceAdd, Nat.reduceMul, Nat.reduceLeDiff, zc, Int.reduceToNat, s0, s1]
   refine CLL_pure _ c1 rfl rfl rfl ?_
   simp (maxSteps := 10000000) (disch := first | assumption | omega) only [go_sem, ↓reduceIte, Nat.reduceEqDiff, reduceCtorEq, Nat.reduceAdd, Nat.reduceMul, Nat.reduceLeDiff, zc, Int.reduceToNat, s0, s1]
   refine CLL_pure _ c2 rfl rfl rfl ?_
   simp (maxSteps := 10000000) (disch := first | assumption | omega) only [go_sem, ↓reduceIte, Nat.reduceEqDiff, reduceCtorEq, Nat.reduceAdd, Nat.reduceMul, Nat.reduceLeDiff, zc, Int.reduceToNat, s0, s1]
   simp only [zr, zb, retR, resL, outT, outL, zes, zez, oneV, zcp, zed, zfi, Ro.dl, St.ev, zhk, ↓za, ↓reduceIte, Nat.reduceEqDiff, Nat.reduceAdd, Nat.reduceLeDiff, tiD]
 ·rw [decide_eq_false h1] at c1
  have e : stdR n a = noB 2 := by unfold stdR; rw [if_pos (.inl h1)]
  rw [e]
  refine call_of (fn := Tryz.f27) (code := bodyOf Tryz.f27) Tryz.func27 rfl (by kernel_rfl) (rfl) ?_
  intro sl hs
  have s0 : sl 0 = i64 n := hs 0
  have s1 : sl 1 = i64 a := hs 1
  dsimp only [Tryz.f27, bodyOf, Option.getD]
  simp (maxSteps := 10000000) (disch := first | assumption | omega) only [go_sem, ↓reduceIte, Nat.reduceEqDiff, reduceCtorEq, Nat.reduceAdd, Nat.reduceMul, Nat.reduceLeDiff, zc, Int.reduceToNat, s0, s1]
  refine CLL_pure _ c1 rfl rfl rfl ?_
  simp (maxSteps := 10000000) (disch := first | assumption | omega) only [go_sem, ↓reduceIte, Nat.reduceEqDiff, reduceCtorEq, Nat.reduceAdd, Nat.reduceMul, Nat.reduceLeDiff, zc, Int.reduceToNat, s0, s1, undef]
  simp only [zr, zb, retR, resL, outT, outL, zes, zez, oneV, zcp, zed, zfi, Ro.dl, St.ev, zhk, ↓za, ↓reduceIte, Nat.reduceEqDiff, Nat.reduceAdd, Nat.reduceLeDiff, tiD]
noncomputable def cobR (O : List Int) (M : Int) (G : Nat → Nat → Int) (k l : Nat) : AV := open Classical in if pcode O M G k l = 0 then okB O M (cobF O M (matL G k k)) (tuF M (matL G k k)) k else noB (pcode O M G k l)
noncomputable def cobC (O : List Int) (M : Int) (G : Nat → Nat → Int) (k l : Nat) : AV := open Classical in if pcode O M G k l = 0 then .tup [.agg [rowL O, i64 M, cubeA (cobF O M (matL G k k)) k], i64 0] else .tup [.agg [nilA, i64 0, nilA], i64 (pcode O M G k l)]
theorem sq_of {N : Nat} (h : PrP N M G k l) (h0 : 0 < N) : k = N ∧ l = N := ⟨h.1, (h.2 0 h0).1⟩
theorem Sq_of {N : Nat} (h : PrP N M G k l) (h0 : 0 < N) : Sq k M (matL G k k) := by
 obtain ⟨rfl, rfl⟩ := sq_of h h0
 exact Sq.mat fun x hx y hy => by have := ((h.2 x hx).2 y hy).1; omega
set_option maxHeartbeats 4000000 in
theorem cCobO (ho : isL o O) (hO : O.length ≤ 6) (hv : isLL v (matL G k l)) (h16 : k ≤ 16 ∧ l ≤ 16) (hM : -1048576 ≤ M ∧ M ≤ 1048576) : CallOK Tryz.prog 67 [o, i64 M, v] (cobC O M G k l) := by
 have hxO : O.length ≤ maxN := Nat.le_trans hO (by decide)
 by_cases h1 : OrdP O
 ·have c1 := cL6o (t := true) ho hxO (by simp [h1])
  have c2 := cL7s ho hxO h1.2
  have hp := pfx_pos1 h1.2
  by_cases h2 : 8 < pfx O O.length
  ·have e : cobC O M G k l = .tup [.agg [nilA, i64 0, nilA], i64 3] := by unfold cobC; rw [pcode3 h1 h2, if_neg (by omega)]
   have e2 : l6s O = 9 := by unfold l6s; rw [if_neg (by omega)]
   rw [e2] at c2
   rw [e]
   refine call_of (fn := Tryz.f67) (code := bodyOf Tryz.f67) Tryz.func67 rfl (by kernel_rfl) (rfl) ?_
   intro sl hs
   have s0 : sl 0 = o := hs 0
   have s1 : sl 1 = i64 M := hs 1
   have s2 : sl 2 = v := hs 2
   dsimp only [Tryz.f67, bodyOf, Option.getD]
   simp (maxSteps := 10000000) (disch := first | assumption | omega) only [go_sem, ↓reduceIte, Nat.reduceEqDiff, reduceCtorEq, Nat.reduceAdd, Nat.reduceMul, Nat.reduceLeDiff, zc, Int.reduceToNat, s0, s1, s2]
   refine CLL_pure _ c1 PUt rfl rfl ?_
   simp (maxSteps := 10000000) (disch := first | assumption | omega) only [go_sem, ↓reduceIte, Nat.reduceEqDiff, reduceCtorEq, Nat.reduceAdd, Nat.reduceMul, Nat.reduceLeDiff, zc, Int.reduceToNat, s0, s1, s2]
   refine CLL_pure _ c2 PUt rfl rfl ?_
   simp (maxSteps := 10000000) (disch := first | assumption | omega) only [go_sem, ↓reduceIte, Nat.reduceEqDiff, reduceCtorEq, Nat.reduceAdd, Nat.reduceMul, Nat.reduceLeDiff, zc, Int.reduceToNat, s0, s1, s2]
   simp only [zr, zb, retR, resL, outT, outL, zes, zez, oneV, zcp, zed, zfi, Ro.dl, St.ev, zhk, ↓za, ↓reduceIte, Nat.reduceEqDiff, Nat.reduceAdd, Nat.reduceLeDiff, tiC]
  ·obtain ⟨N, hN⟩ := Int.eq_ofNat_of_zero_le (show 0 ≤ pfx O O.length by omega)
   have e2 : l6s O = N := by unfold l6s; rw [if_pos (by omega)]; exact hN
   have hN8 : ¬ (8 : Int) < (N : Int) := by omega
   rw [e2] at c2
   have c3 : CallOK Tryz.prog _ [i64 M, i64 1, i64 1000] (bo (decide (1 ≤ M ∧ M ≤ 1000))) := c38
   have eN : (pfx O O.length).toNat = N := by rw [hN]; exact Int.toNat_natCast N
   by_cases h3 : 1 ≤ M ∧ M ≤ 1000
   ·rw [decide_eq_true h3] at c3
    by_cases h4 : PrP N M G k l
    ·have c4 := cPair17 (n := N) (t := true) hv (by omega) hM (by simp [h4])
     have e : cobC O M G k l = .tup [.agg [rowL O, i64 M, cubeA (cobF O M (matL G k k)) k], i64 0] := by unfold cobC; rw [if_pos (pcode0 h1 h2 ⟨h3, by rw [eN]; exact h4⟩)]
     rw [e]
     obtain ⟨rfl, rfl⟩ := sq_of h4 (by omega)
     have c5 := cCobL (h1.grp hO (by omega)) hN.symm hv (Sq_of h4 (by omega)) h3
     obtain rfl := isL_ne ho h1.1
     refine call_of (fn := Tryz.f67) (code := bodyOf Tryz.f67) Tryz.func67 rfl (by kernel_rfl) (noRef_okC _ _ _ _) ?_
     intro sl hs
     have s0 : sl 0 = immL O := hs 0
     have s1 : sl 1 = i64 M := hs 1
     have s2 : sl 2 = v := hs 2
     dsimp only [Tryz.f67, bodyOf, Option.getD]
     simp (maxSteps := 10000000) (disch := first | assumption | omega) only [go_sem, ↓reduceIte, Nat.reduceEqDiff, reduceCtorEq, Nat.reduceAdd, Nat.reduceMul, Nat.reduceLeDiff, zc, Int.reduceToNat, s0, s1, s2]
     refine CLL_pure _ c1 PUt rfl rfl ?_
     simp (maxSteps := 10000000) (disch := first | assumption | omega) only [go_sem, ↓reduceIte, Nat.reduceEqDiff, reduceCtorEq, Nat.reduceAdd, Nat.reduceMul, Nat.reduceLeDiff, zc, Int.reduceToNat, s0, s1, s2]
     refine CLL_pure _ c2 PUt rfl rfl ?_
     simp (maxSteps := 10000000) (disch := first | assumption | omega) only [go_sem, ↓reduceIte, Nat.reduceEqDiff, reduceCtorEq, Nat.reduceAdd, Nat.reduceMul, Nat.reduceLeDiff, zc, Int.reduceToNat, s0, s1, s2, eq_false hN8]
     refine CLL_pure _ c3 rfl rfl rfl ?_
     simp (maxSteps := 10000000) (disch := first | assumption | omega) only [go_sem, ↓reduceIte, Nat.reduceEqDiff, reduceCtorEq, Nat.reduceAdd, Nat.reduceMul, Nat.reduceLeDiff, zc, Int.reduceToNat, s0, s1, s2]
     refine CLL_pure _ c2 PUt rfl rfl ?_
     simp (maxSteps := 10000000) (disch := first | assumption | omega) only [go_sem, ↓reduceIte, Nat.reduceEqDiff, reduceCtorEq, Nat.reduceAdd, Nat.reduceMul, Nat.reduceLeDiff, zc, Int.reduceToNat, s0, s1, s2]
     refine CLL_pure _ c4 PUt rfl rfl ?_
     simp (maxSteps := 10000000) (disch := first | assumption | omega) only [go_sem, ↓reduceIte, Nat.reduceEqDiff, reduceCtorEq, Nat.reduceAdd, Nat.reduceMul, Nat.reduceLeDiff, zc, Int.reduceToNat, s0, s1, s2]
     refine CLL_pure _ c5 PUt rfl rfl ?_
     simp (maxSteps := 10000000) (disch := first | assumption | omega) only [go_sem, ↓reduceIte, Nat.reduceEqDiff, reduceCtorEq, Nat.reduceAdd, Nat.reduceMul, Nat.reduceLeDiff, zc, Int.reduceToNat, s0, s1, s2]
     simp only [zr, zb, retR, resL, outT, outL, zes, zez, oneV, zcp, zed, zfi, Ro.dl, St.ev, zhk, ↓za, ↓reduceIte, Nat.reduceEqDiff, Nat.reduceAdd, Nat.reduceLeDiff, tiC]
    ·have c4 := cPair17 (n := N) (t := false) hv (by omega) hM (by simp [h4])
     have e : cobC O M G k l = .tup [.agg [nilA, i64 0, nilA], i64 2] := by unfold cobC; rw [pcode2 h1 h2 (by rw [eN]; exact fun h => h4 h.2), if_neg (by omega)]
     rw [e]
     refine call_of (fn := Tryz.f67) (code := bodyOf Tryz.f67) Tryz.func67 rfl (by kernel_rfl) (rfl) ?_
     intro sl hs
     have s0 : sl 0 = o := hs 0
     have s1 : sl 1 = i64 M := hs 1
     have s2 : sl 2 = v := hs 2
     dsimp only [Tryz.f67, bodyOf, Option.getD]
     simp (maxSteps := 10000000) (disch := first | assumption | omega) only [go_sem, ↓reduceIte, Nat.reduceEqDiff, reduceCtorEq, Nat.reduceAdd, Nat.reduceMul, Nat.reduceLeDiff, zc, Int.reduceToNat, s0, s1, s2]
     refine CLL_pure _ c1 PUt rfl rfl ?_
     simp (maxSteps := 10000000) (disch := first | assumption | omega) only [go_sem, ↓reduceIte, Nat.reduceEqDiff, reduceCtorEq, Nat.reduceAdd, Nat.reduceMul, Nat.reduceLeDiff, zc, Int.reduceToNat, s0, s1, s2]
     refine CLL_pure _ c2 PUt rfl rfl ?_
     simp (maxSteps := 10000000) (disch := first | assumption | omega) only [go_sem, ↓reduceIte, Nat.reduceEqDiff, reduceCtorEq, Nat.reduceAdd, Nat.reduceMul, Nat.reduceLeDiff, zc, Int.reduceToNat, s0, s1, s2, eq_false hN8]
     refine CLL_pure _ c3 rfl rfl rfl ?_
     simp (maxSteps := 10000000) (disch := first | assumption | omega) only [go_sem, ↓reduceIte, Nat.reduceEqDiff, reduceCtorEq, Nat.reduceAdd, Nat.reduceMul, Nat.reduceLeDiff, zc, Int.reduceToNat, s0, s1, s2]
     refine CLL_pure _ c2 PUt rfl rfl ?_
     simp (maxSteps := 10000000) (disch := first | assumption | omega) only [go_sem, ↓reduceIte, Nat.reduceEqDiff, reduceCtorEq, Nat.reduceAdd, Nat.reduceMul, Nat.reduceLeDiff, zc, Int.reduceToNat, s0, s1, s2]
     refine CLL_pure _ c4 PUt rfl rfl ?_
     simp (maxSteps := 10000000) (disch := first | assumption | omega) only [go_sem, ↓reduceIte, Nat.reduceEqDiff, reduceCtorEq, Nat.reduceAdd, Nat.reduceMul, Nat.reduceLeDiff, zc, Int.reduceToNat, s0, s1, s2]
     simp only [zr, zb, retR, resL, outT, outL, zes, zez, oneV, zcp, zed, zfi, Ro.dl, St.ev, zhk, ↓za, ↓reduceIte, Nat.reduceEqDiff, Nat.reduceAdd, Nat.reduceLeDiff, tiC]
   ·rw [decide_eq_false h3] at c3
    have e : cobC O M G k l = .tup [.agg [nilA, i64 0, nilA], i64 2] := by unfold cobC; rw [pcode2 h1 h2 (fun h => h3 h.1), if_neg (by omega)]
    rw [e]
    refine call_of (fn := Tryz.f67) (code := bodyOf Tryz.f67) Tryz.func67 rfl (by kernel_rfl) (rfl) ?_
    intro sl hs
    have s0 : sl 0 = o := hs 0
    have s1 : sl 1 = i64 M := hs 1
    have s2 : sl 2 = v := hs 2
    dsimp only [Tryz.f67, bodyOf, Option.getD]
    simp (maxSteps := 10000000) (disch := first | assumption | omega) only [go_sem, ↓reduceIte, Nat.reduceEqDiff, reduceCtorEq, Nat.reduceAdd, Nat.reduceMul, Nat.reduceLeDiff, zc, Int.reduceToNat, s0, s1, s2]
    refine CLL_pure _ c1 PUt rfl rfl ?_
    simp (maxSteps := 10000000) (disch := first | assumption | omega) only [go_sem, ↓reduceIte, Nat.reduceEqDiff, reduceCtorEq, Nat.reduceAdd, Nat.reduceMul, Nat.reduceLeDiff, zc, Int.reduceToNat, s0, s1, s2]
    refine CLL_pure _ c2 PUt rfl rfl ?_
    simp (maxSteps := 10000000) (disch := first | assumption | omega) only [go_sem, ↓reduceIte, Nat.reduceEqDiff, reduceCtorEq, Nat.reduceAdd, Nat.reduceMul, Nat.reduceLeDiff, zc, Int.reduceToNat, s0, s1, s2, eq_false hN8]
    refine CLL_pure _ c3 rfl rfl rfl ?_
    simp (maxSteps := 10000000) (disch := first | assumption | omega) only [go_sem, ↓reduceIte, Nat.reduceEqDiff, reduceCtorEq, Nat.reduceAdd, Nat.reduceMul, Nat.reduceLeDiff, zc, Int.reduceToNat, s0, s1, s2, undef]
    simp only [zr, zb, retR, resL, outT, outL, zes, zez, oneV, zcp, zed, zfi, Ro.dl, St.ev, zhk, ↓za, ↓reduceIte, Nat.reduceEqDiff, Nat.reduceAdd, Nat.reduceLeDiff, tiC]
 ·have c1 := cL6o (t := false) ho hxO (by simp [h1])
  have e : cobC O M G k l = .tup [.agg [nilA, i64 0, nilA], i64 1] := by unfold cobC; rw [pcode1 h1, if_neg (by omega)]
  rw [e]
  refine call_of (fn := Tryz.f67) (code := bodyOf Tryz.f67) Tryz.func67 rfl (by kernel_rfl) (rfl) ?_
  intro sl hs
  have s0 : sl 0 = o := hs 0
  have s1 : sl 1 = i64 M := hs 1
  have s2 : sl 2 = v := hs 2
  dsimp only [Tryz.f67, bodyOf, Option.getD]
  simp (maxSteps := 10000000) (disch := first | assumption | omega) only [go_sem, ↓reduceIte, Nat.reduceEqDiff, reduceCtorEq, Nat.reduceAdd, Nat.reduceMul, Nat.reduceLeDiff, zc, Int.reduceToNat, s0, s1, s2]
  refine CLL_pure _ c1 PUt rfl rfl ?_
  simp (maxSteps := 10000000) (disch := first | assumption | omega) only [go_sem, ↓reduceIte, Nat.reduceEqDiff, reduceCtorEq, Nat.reduceAdd, Nat.reduceMul, Nat.reduceLeDiff, zc, Int.reduceToNat, s0, s1, s2]
  simp only [zr, zb, retR, resL, outT, outL, zes, zez, oneV, zcp, zed, zfi, Ro.dl, St.ev, zhk, ↓za, ↓reduceIte, Nat.reduceEqDiff, Nat.reduceAdd, Nat.reduceLeDiff, tiC]
set_option maxHeartbeats 4000000 in
theorem cCobS (ho : isL o O) (hO : O.length ≤ 6) (hv : isLL v (matL G k l)) (h16 : k ≤ 16 ∧ l ≤ 16) (hM : -1048576 ≤ M ∧ M ≤ 1048576) : CallOK Tryz.prog 21 [o, i64 M, v] (cobR O M G k l) := by
 have c1 := cCobO ho hO hv h16 hM
 by_cases h1 : pcode O M G k l = 0
 ·have e1 : cobC O M G k l = .tup [.agg [rowL O, i64 M, cubeA (cobF O M (matL G k k)) k], i64 0] := by unfold cobC; rw [if_pos h1]
  have e2 : cobR O M G k l = okB O M (cobF O M (matL G k k)) (tuF M (matL G k k)) k := by unfold cobR; rw [if_pos h1]
  rw [e1] at c1
  rw [e2]
  obtain ⟨hP, h8, hm, hp⟩ := pcode_0 h1
  have hpp := pfx_pos1 hP.2
  obtain ⟨hk, hl⟩ := sq_of hp (by omega)
  have hkl : l = k := by omega
  subst hkl
  have c2 := cTurn hv (Sq_of hp (by omega)) (by omega) hm
  refine call_of (fn := Tryz.f21) (code := bodyOf Tryz.f21) Tryz.func21 rfl (by kernel_rfl) (noRef_okB _ _ _ _ _) ?_
  intro sl hs
  have s0 : sl 0 = o := hs 0
  have s1 : sl 1 = i64 M := hs 1
  have s2 : sl 2 = v := hs 2
  dsimp only [Tryz.f21, bodyOf, Option.getD]
  simp (maxSteps := 10000000) (disch := first | assumption | omega) only [go_sem, ↓reduceIte, Nat.reduceEqDiff, reduceCtorEq, Nat.reduceAdd, Nat.reduceMul, Nat.reduceLeDiff, zc, Int.reduceToNat, s0, s1, s2]
  refine CLL_pure _ c1 PUt rfl rfl ?_
  simp (maxSteps := 10000000) (disch := first | assumption | omega) only [go_sem, ↓reduceIte, Nat.reduceEqDiff, reduceCtorEq, Nat.reduceAdd, Nat.reduceMul, Nat.reduceLeDiff, zc, Int.reduceToNat, s0, s1, s2]
  refine CLLD_pure _ c2 PUt rfl ?_
  simp (maxSteps := 10000000) (disch := first | assumption | omega) only [go_sem, ↓reduceIte, Nat.reduceEqDiff, reduceCtorEq, Nat.reduceAdd, Nat.reduceMul, Nat.reduceLeDiff, zc, Int.reduceToNat, s0, s1, s2]
  refine FIN_of (by kernel_rfl) ?_
  simp (maxSteps := 10000000) (disch := first | assumption | omega) only [go_sem, ↓reduceIte, Nat.reduceEqDiff, reduceCtorEq, Nat.reduceAdd, Nat.reduceMul, Nat.reduceLeDiff, zc, Int.reduceToNat, s0, s1, s2]
  simp only [zr, zb, retR, resL, outT, outL, zes, zez, oneV, zcp, zed, zfi, Ro.dl, St.ev, zhk, ↓za, ↓reduceIte, Nat.reduceEqDiff, Nat.reduceAdd, Nat.reduceLeDiff, tiD]
 ·have e1 : cobC O M G k l = .tup [.agg [nilA, i64 0, nilA], i64 (pcode O M G k l)] := by unfold cobC; rw [if_neg h1]
  have e2 : cobR O M G k l = noB (pcode O M G k l) := by unfold cobR; rw [if_neg h1]
  rw [e1] at c1
  rw [e2]
  generalize pcode O M G k l = e at h1 c1
  refine call_of (fn := Tryz.f21) (code := bodyOf Tryz.f21) Tryz.func21 rfl (by kernel_rfl) (rfl) ?_
  intro sl hs
  have s0 : sl 0 = o := hs 0
  have s1 : sl 1 = i64 M := hs 1
  have s2 : sl 2 = v := hs 2
  dsimp only [Tryz.f21, bodyOf, Option.getD]
  simp (maxSteps := 10000000) (disch := first | assumption | omega) only [go_sem, ↓reduceIte, Nat.reduceEqDiff, reduceCtorEq, Nat.reduceAdd, Nat.reduceMul, Nat.reduceLeDiff, zc, Int.reduceToNat, s0, s1, s2]
  refine CLL_pure _ c1 PUt rfl rfl ?_
  simp (maxSteps := 10000000) (disch := first | assumption | omega) only [go_sem, ↓reduceIte, Nat.reduceEqDiff, reduceCtorEq, Nat.reduceAdd, Nat.reduceMul, Nat.reduceLeDiff, zc, Int.reduceToNat, s0, s1, s2, eq_false h1]
  simp only [zr, zb, retR, resL, outT, outL, zes, zez, oneV, zcp, zed, zfi, Ro.dl, St.ev, zhk, ↓za, ↓reduceIte, Nat.reduceEqDiff, Nat.reduceAdd, Nat.reduceLeDiff, tiD]
noncomputable def bicR (O : List Int) (M : Int) (G : Nat → Nat → Int) (k l : Nat) : AV := open Classical in if pcode O M G k l = 0 then (if ft18 O M (fun _ _ _ => 0) G k = none then okB O M (fun _ _ _ => 0) G k else noB 5) else noB (pcode O M G k l)
theorem zero_sh (hO : OrdP O) (h8 : ¬ 8 < pfx O O.length) (hm : 1 ≤ M ∧ M ≤ 1000) {N : Nat} (hN : pfx O O.length = N) : ShC O M (fun _ _ _ => 0) N := ⟨hO, hm, hN.symm, by omega, fun _ _ _ _ _ _ => by omega⟩
theorem zero_co (hO : OrdP O) (h8 : ¬ 8 < pfx O O.length) (hm : 1 ≤ M ∧ M ≤ 1000) {N : Nat} (hN : pfx O O.length = N) : CoP O M (fun _ _ _ => 0) N := by
 refine ⟨zero_sh hO h8 hm hN, fun _ _ _ _ => ⟨rfl, rfl, rfl⟩, ?_⟩
 refine fnd_none.2 fun x _ => fnd_none.2 fun y _ => fnd_none.2 fun z _ => fnd_none.2 fun t _ => ?_
 rw [if_pos]
 show (0 - 0 + 0 - 0 + 0 : Int) % M = 0
 simp
theorem rowLL_matL : AV.row (rws (fun x => rowL (row (matL G k k) x)) (matL G k k).length) = matA G k k := by
 rw [matL_len2]
 refine congrArg AV.row (rws_congr fun x hx => ?_)
 rw [matL_row hx]
 simp only [rowL, rws_map]
set_option maxHeartbeats 4000000 in
theorem cGroup (ho : isL o O) (hO : O.length ≤ 6) {e : Int} (he1 : ¬ OrdP O → e = 1) (he3 : OrdP O → 8 < pfx O O.length → e = 3) (he2 : OrdP O → ¬ 8 < pfx O O.length → ¬ (1 ≤ M ∧ M ≤ 1000) → e = 2) (he0 : OrdP O → ¬ 8 < pfx O O.length → (1 ≤ M ∧ M ≤ 1000) → e = 0) : CallOK Tryz.prog 71 [o, i64 M] (i64 e) := by
 have hxO : O.length ≤ maxN := Nat.le_trans hO (by decide)
 by_cases h1 : OrdP O
 ·have c1 := cL6o (t := true) ho hxO (by simp [h1])
  have c2 := cL7s ho hxO h1.2
  have hp := pfx_pos1 h1.2
  by_cases h2 : 8 < pfx O O.length
  ·have e2 : l6s O = 9 := by unfold l6s; rw [if_neg (by omega)]
   rw [e2] at c2
   have := he3 h1 h2
   subst this
   refine call_of (fn := Tryz.f71) (code := bodyOf Tryz.f71) Tryz.func71 rfl (by kernel_rfl) (rfl) ?_
   intro sl hs
   have s0 : sl 0 = o := hs 0
   have s1 : sl 1 = i64 M := hs 1
   dsimp only [Tryz.f71, bodyOf, Option.getD]
   simp (maxSteps := 10000000) (disch := first | assumption | omega) only [go_sem, ↓reduceIte, Nat.reduceEqDiff, reduceCtorEq, Nat.reduceAdd, Nat.reduceMul, Nat.reduceLeDiff, zc, Int.reduceToNat, s0, s1]
   refine CLL_pure _ c1 PUt rfl rfl ?_
   simp (maxSteps := 10000000) (disch := first | assumption | omega) only [go_sem, ↓reduceIte, Nat.reduceEqDiff, reduceCtorEq, Nat.reduceAdd, Nat.reduceMul, Nat.reduceLeDiff, zc, Int.reduceToNat, s0, s1]
   refine CLL_pure _ c2 PUt rfl rfl ?_
   simp (maxSteps := 10000000) (disch := first | assumption | omega) only [go_sem, ↓reduceIte, Nat.reduceEqDiff, reduceCtorEq, Nat.reduceAdd, Nat.reduceMul, Nat.reduceLeDiff, zc, Int.reduceToNat, s0, s1]
   simp only [zr, zb, retR, resL, outT, outL, zes, zez, oneV, zcp, zed, zfi, Ro.dl, St.ev, zhk, ↓za, ↓reduceIte, Nat.reduceEqDiff, Nat.reduceAdd, Nat.reduceLeDiff]
  ·obtain ⟨N, hN⟩ := Int.eq_ofNat_of_zero_le (show 0 ≤ pfx O O.length by omega)
   have e2 : l6s O = N := by unfold l6s; rw [if_pos (by omega)]; exact hN
   have hN8 : ¬ (8 : Int) < (N : Int) := by omega
   rw [e2] at c2
   have c3 : CallOK Tryz.prog _ [i64 M, i64 1, i64 1000] (bo (decide (1 ≤ M ∧ M ≤ 1000))) := c38
   by_cases h3 : 1 ≤ M ∧ M ≤ 1000
   ·rw [decide_eq_true h3] at c3
    have := he0 h1 h2 h3
    subst this
    refine call_of (fn := Tryz.f71) (code := bodyOf Tryz.f71) Tryz.func71 rfl (by kernel_rfl) (rfl) ?_
    intro sl hs
    have s0 : sl 0 = o := hs 0
    have s1 : sl 1 = i64 M := hs 1
    dsimp only [Tryz.f71, bodyOf, Option.getD]
    simp (maxSteps := 10000000) (disch := first | assumption | omega) only [go_sem, ↓reduceIte, Nat.reduceEqDiff, reduceCtorEq, Nat.reduceAdd, Nat.reduceMul, Nat.reduceLeDiff, zc, Int.reduceToNat, s0, s1]
    refine CLL_pure _ c1 PUt rfl rfl ?_
    simp (maxSteps := 10000000) (disch := first | assumption | omega) only [go_sem, ↓reduceIte, Nat.reduceEqDiff, reduceCtorEq, Nat.reduceAdd, Nat.reduceMul, Nat.reduceLeDiff, zc, Int.reduceToNat, s0, s1]
    refine CLL_pure _ c2 PUt rfl rfl ?_
    simp (maxSteps := 10000000) (disch := first | assumption | omega) only [go_sem, ↓reduceIte, Nat.reduceEqDiff, reduceCtorEq, Nat.reduceAdd, Nat.reduceMul, Nat.reduceLeDiff, zc, Int.reduceToNat, s0, s1, eq_false hN8]
    refine CLL_pure _ c3 rfl rfl rfl ?_
    simp (maxSteps := 10000000) (disch := first | assumption | omega) only [go_sem, ↓reduceIte, Nat.reduceEqDiff, reduceCtorEq, Nat.reduceAdd, Nat.reduceMul, Nat.reduceLeDiff, zc, Int.reduceToNat, s0, s1]
    simp only [zr, zb, retR, resL, outT, outL, zes, zez, oneV, zcp, zed, zfi, Ro.dl, St.ev, zhk, ↓za, ↓reduceIte, Nat.reduceEqDiff, Nat.reduceAdd, Nat.reduceLeDiff]
   ·rw [decide_eq_false h3] at c3
    have := he2 h1 h2 h3
    subst this
    refine call_of (fn := Tryz.f71) (code := bodyOf Tryz.f71) Tryz.func71 rfl (by kernel_rfl) (rfl) ?_
    intro sl hs
    have s0 : sl 0 = o := hs 0
    have s1 : sl 1 = i64 M := hs 1
    dsimp only [Tryz.f71, bodyOf, Option.getD]
    simp (maxSteps := 10000000) (disch := first | assumption | omega) only [go_sem, ↓reduceIte, Nat.reduceEqDiff, reduceCtorEq, Nat.reduceAdd, Nat.reduceMul, Nat.reduceLeDiff, zc, Int.reduceToNat, s0, s1]
    refine CLL_pure _ c1 PUt rfl rfl ?_
    simp (maxSteps := 10000000) (disch := first | assumption | omega) only [go_sem, ↓reduceIte, Nat.reduceEqDiff, reduceCtorEq, Nat.reduceAdd, Nat.reduceMul, Nat.reduceLeDiff, zc, Int.reduceToNat, s0, s1]
    refine CLL_pure _ c2 PUt rfl rfl ?_
    simp (maxSteps := 10000000) (disch := first | assumption | omega) only [go_sem, ↓reduceIte, Nat.reduceEqDiff, reduceCtorEq, Nat.reduceAdd, Nat.reduceMul, Nat.reduceLeDiff, zc, Int.reduceToNat, s0, s1, eq_false hN8]
    refine CLL_pure _ c3 rfl rfl rfl ?_
    simp (maxSteps := 10000000) (disch := first | assumption | omega) only [go_sem, ↓reduceIte, Nat.reduceEqDiff, reduceCtorEq, Nat.reduceAdd, Nat.reduceMul, Nat.reduceLeDiff, zc, Int.reduceToNat, s0, s1]
    simp only [zr, zb, retR, resL, outT, outL, zes, zez, oneV, zcp, zed, zfi, Ro.dl, St.ev, zhk, ↓za, ↓reduceIte, Nat.reduceEqDiff, Nat.reduceAdd, Nat.reduceLeDiff]
 ·have c1 := cL6o (t := false) ho hxO (by simp [h1])
  have := he1 h1
  subst this
  refine call_of (fn := Tryz.f71) (code := bodyOf Tryz.f71) Tryz.func71 rfl (by kernel_rfl) (rfl) ?_
  intro sl hs
  have s0 : sl 0 = o := hs 0
  have s1 : sl 1 = i64 M := hs 1
  dsimp only [Tryz.f71, bodyOf, Option.getD]
  simp (maxSteps := 10000000) (disch := first | assumption | omega) only [go_sem, ↓reduceIte, Nat.reduceEqDiff, reduceCtorEq, Nat.reduceAdd, Nat.reduceMul, Nat.reduceLeDiff, zc, Int.reduceToNat, s0, s1]
  refine CLL_pure _ c1 PUt rfl rfl ?_
  simp (maxSteps := 10000000) (disch := first | assumption | omega) only [go_sem, ↓reduceIte, Nat.reduceEqDiff, reduceCtorEq, Nat.reduceAdd, Nat.reduceMul, Nat.reduceLeDiff, zc, Int.reduceToNat, s0, s1]
  simp only [zr, zb, retR, resL, outT, outL, zes, zez, oneV, zcp, zed, zfi, Ro.dl, St.ev, zhk, ↓za, ↓reduceIte, Nat.reduceEqDiff, Nat.reduceAdd, Nat.reduceLeDiff]
set_option maxHeartbeats 8000000 in
theorem cBicS (ho : isL o O) (hO : O.length ≤ 6) (hv : isLL v (matL G k l)) (h16 : k ≤ 16 ∧ l ≤ 16) (hM : -1048576 ≤ M ∧ M ≤ 1048576) : CallOK Tryz.prog 24 [o, i64 M, v] (bicR O M G k l) := by
 have hxO : O.length ≤ maxN := Nat.le_trans hO (by decide)
 by_cases h1 : OrdP O
 ·by_cases h2 : 8 < pfx O O.length
  ·have c1 := cGroup (M := M) (e := 3) ho hO (fun h => absurd h1 h) (fun _ _ => rfl) (fun _ h => absurd h2 h) (fun _ h => absurd h2 h)
   have e : bicR O M G k l = noB 3 := by unfold bicR; rw [pcode3 h1 h2, if_neg (by omega)]
   rw [e]
   refine call_of (fn := Tryz.f24) (code := bodyOf Tryz.f24) Tryz.func24 rfl (by kernel_rfl) (rfl) ?_
   intro sl hs
   have s0 : sl 0 = o := hs 0
   have s1 : sl 1 = i64 M := hs 1
   have s2 : sl 2 = v := hs 2
   dsimp only [Tryz.f24, bodyOf, Option.getD]
   simp (maxSteps := 10000000) (disch := first | assumption | omega) only [go_sem, ↓reduceIte, Nat.reduceEqDiff, reduceCtorEq, Nat.reduceAdd, Nat.reduceMul, Nat.reduceLeDiff, zc, Int.reduceToNat, s0, s1, s2]
   refine CLL_pure _ c1 PUt rfl rfl ?_
   simp (maxSteps := 10000000) (disch := first | assumption | omega) only [go_sem, ↓reduceIte, Nat.reduceEqDiff, reduceCtorEq, Nat.reduceAdd, Nat.reduceMul, Nat.reduceLeDiff, zc, Int.reduceToNat, s0, s1, s2, undef]
   simp only [zr, zb, retR, resL, outT, outL, zes, zez, oneV, zcp, zed, zfi, Ro.dl, St.ev, zhk, ↓za, ↓reduceIte, Nat.reduceEqDiff, Nat.reduceAdd, Nat.reduceLeDiff, tiD]
  ·by_cases h3 : 1 ≤ M ∧ M ≤ 1000
   ·have c1 := cGroup (M := M) (e := 0) ho hO (fun h => absurd h1 h) (fun _ h => absurd h h2) (fun _ _ h => absurd h3 h) (fun _ _ _ => rfl)
    have c2 := cL7s ho hxO h1.2
    have hp := pfx_pos1 h1.2
    obtain ⟨N, hN⟩ := Int.eq_ofNat_of_zero_le (show 0 ≤ pfx O O.length by omega)
    have e2 : l6s O = N := by unfold l6s; rw [if_pos (by omega)]; exact hN
    rw [e2] at c2
    have eN : (pfx O O.length).toNat = N := by rw [hN]; exact Int.toNat_natCast N
    by_cases h4 : PrP N M G k l
    ·have c3 := cNum18 (n := N) (t := true) hv (by omega) hM (by simp [h4])
     have hpc : pcode O M G k l = 0 := pcode0 h1 h2 ⟨h3, by rw [eN]; exact h4⟩
     obtain ⟨rfl, rfl⟩ := sq_of h4 (by omega)
     have hco := zero_co h1 h2 h3 hN
     have c4 := cOwn ho hxO
     have c5 := c101 (n := l) (Nat.le_trans (by omega : l ≤ 16) (by decide))
     have c6 := cOwn2 hv (by rw [matL_len2]; exact Nat.le_trans (by omega : _ ≤ 16) (by decide)) (fun i hi => by rw [matL_len2] at hi; rw [matL_row2 hi]; exact Nat.le_trans (by omega : _ ≤ 16) (by decide))
     rw [rowLL_matL] at c6
     have hiff : BrP O M (fun _ _ _ => 0) l G l l ↔ ft18 O M (fun _ _ _ => 0) G l = none := ⟨fun h => h.f, fun h => ⟨⟨hco, h4⟩, h⟩⟩
     by_cases h5 : ft18 O M (fun _ _ _ => 0) G l = none
     ·have c7 := cIs18 (O := O) (M := M) (F := fun _ _ _ => 0) (n := l) (G := G) (k := l) (l := l) (t := true) (isL_imm O) hO (isLLL_immC (fun _ _ _ => 0) l) (isLL_imm (matL G l l)) (by omega) hM (by simp [hiff, h5])
      have e : bicR O M G l l = okB O M (fun _ _ _ => 0) G l := by unfold bicR; rw [if_pos hpc, if_pos h5]
      rw [e]
      refine call_of (fn := Tryz.f24) (code := bodyOf Tryz.f24) Tryz.func24 rfl (by kernel_rfl) (noRef_okB _ _ _ _ _) ?_
      intro sl hs
      have s0 : sl 0 = o := hs 0
      have s1 : sl 1 = i64 M := hs 1
      have s2 : sl 2 = v := hs 2
      dsimp only [Tryz.f24, bodyOf, Option.getD]
      simp (maxSteps := 10000000) (disch := first | assumption | omega) only [go_sem, ↓reduceIte, Nat.reduceEqDiff, reduceCtorEq, Nat.reduceAdd, Nat.reduceMul, Nat.reduceLeDiff, zc, Int.reduceToNat, s0, s1, s2]
      refine CLL_pure _ c1 PUt rfl rfl ?_
      simp (maxSteps := 10000000) (disch := first | assumption | omega) only [go_sem, ↓reduceIte, Nat.reduceEqDiff, reduceCtorEq, Nat.reduceAdd, Nat.reduceMul, Nat.reduceLeDiff, zc, Int.reduceToNat, s0, s1, s2]
      refine CLL_pure _ c2 PUt rfl rfl ?_
      simp (maxSteps := 10000000) (disch := first | assumption | omega) only [go_sem, ↓reduceIte, Nat.reduceEqDiff, reduceCtorEq, Nat.reduceAdd, Nat.reduceMul, Nat.reduceLeDiff, zc, Int.reduceToNat, s0, s1, s2]
      refine CLL_pure _ c3 PUt rfl rfl ?_
      simp (maxSteps := 10000000) (disch := first | assumption | omega) only [go_sem, ↓reduceIte, Nat.reduceEqDiff, reduceCtorEq, Nat.reduceAdd, Nat.reduceMul, Nat.reduceLeDiff, zc, Int.reduceToNat, s0, s1, s2]
      refine CLL_pure _ c4 PUt rfl rfl ?_
      simp (maxSteps := 10000000) (disch := first | assumption | omega) only [go_sem, ↓reduceIte, Nat.reduceEqDiff, reduceCtorEq, Nat.reduceAdd, Nat.reduceMul, Nat.reduceLeDiff, zc, Int.reduceToNat, s0, s1, s2]
      refine CLL_pure _ c2 PUt rfl rfl ?_
      simp (maxSteps := 10000000) (disch := first | assumption | omega) only [go_sem, ↓reduceIte, Nat.reduceEqDiff, reduceCtorEq, Nat.reduceAdd, Nat.reduceMul, Nat.reduceLeDiff, zc, Int.reduceToNat, s0, s1, s2]
      refine CLL_pure _ c5 rfl rfl rfl ?_
      simp (maxSteps := 10000000) (disch := first | assumption | omega) only [go_sem, ↓reduceIte, Nat.reduceEqDiff, reduceCtorEq, Nat.reduceAdd, Nat.reduceMul, Nat.reduceLeDiff, zc, Int.reduceToNat, s0, s1, s2]
      refine CLL_pure _ c6 PUt rfl rfl ?_
      simp (maxSteps := 10000000) (disch := first | assumption | omega) only [go_sem, ↓reduceIte, Nat.reduceEqDiff, reduceCtorEq, Nat.reduceAdd, Nat.reduceMul, Nat.reduceLeDiff, zc, Int.reduceToNat, s0, s1, s2]
      refine CLL_q _ c7 (.cons (exq_agg (.cons (exq_refL (xs := O) Ur rfl (by decide)) (.cons (exq_sc _ _ _ (by decide)) (.cons (exq_cube (F := fun _ _ _ => 0) Ur (by decide)) (.cons (exq_mat (f := G) Ur (by decide)) .nil))))) .nil) rfl rfl rfl ?_
      simp (maxSteps := 10000000) (disch := first | assumption | omega) only [go_sem, ↓reduceIte, Nat.reduceEqDiff, reduceCtorEq, Nat.reduceAdd, Nat.reduceMul, Nat.reduceLeDiff, zc, Int.reduceToNat, s0, s1, s2]
      simp only [zr, zb, retR, resL, outT, outL, zes, zez, oneV, zcp, zed, zfi, Ro.dl, St.ev, zhk, ↓za, ↓reduceIte, Nat.reduceEqDiff, Nat.reduceAdd, Nat.reduceLeDiff, tiD]
     ·have c7 := cIs18 (O := O) (M := M) (F := fun _ _ _ => 0) (n := l) (G := G) (k := l) (l := l) (t := false) (isL_imm O) hO (isLLL_immC (fun _ _ _ => 0) l) (isLL_imm (matL G l l)) (by omega) hM (by simp [hiff, h5])
      have e : bicR O M G l l = noB 5 := by unfold bicR; rw [if_pos hpc, if_neg h5]
      rw [e]
      refine call_of (fn := Tryz.f24) (code := bodyOf Tryz.f24) Tryz.func24 rfl (by kernel_rfl) (rfl) ?_
      intro sl hs
      have s0 : sl 0 = o := hs 0
      have s1 : sl 1 = i64 M := hs 1
      have s2 : sl 2 = v := hs 2
      dsimp only [Tryz.f24, bodyOf, Option.getD]
      simp (maxSteps := 10000000) (disch := first | assumption | omega) only [go_sem, ↓reduceIte, Nat.reduceEqDiff, reduceCtorEq, Nat.reduceAdd, Nat.reduceMul, Nat.reduceLeDiff, zc, Int.reduceToNat, s0, s1, s2]
      refine CLL_pure _ c1 PUt rfl rfl ?_
      simp (maxSteps := 10000000) (disch := first | assumption | omega) only [go_sem, ↓reduceIte, Nat.reduceEqDiff, reduceCtorEq, Nat.reduceAdd, Nat.reduceMul, Nat.reduceLeDiff, zc, Int.reduceToNat, s0, s1, s2]
      refine CLL_pure _ c2 PUt rfl rfl ?_
      simp (maxSteps := 10000000) (disch := first | assumption | omega) only [go_sem, ↓reduceIte, Nat.reduceEqDiff, reduceCtorEq, Nat.reduceAdd, Nat.reduceMul, Nat.reduceLeDiff, zc, Int.reduceToNat, s0, s1, s2]
      refine CLL_pure _ c3 PUt rfl rfl ?_
      simp (maxSteps := 10000000) (disch := first | assumption | omega) only [go_sem, ↓reduceIte, Nat.reduceEqDiff, reduceCtorEq, Nat.reduceAdd, Nat.reduceMul, Nat.reduceLeDiff, zc, Int.reduceToNat, s0, s1, s2]
      refine CLL_pure _ c4 PUt rfl rfl ?_
      simp (maxSteps := 10000000) (disch := first | assumption | omega) only [go_sem, ↓reduceIte, Nat.reduceEqDiff, reduceCtorEq, Nat.reduceAdd, Nat.reduceMul, Nat.reduceLeDiff, zc, Int.reduceToNat, s0, s1, s2]
      refine CLL_pure _ c2 PUt rfl rfl ?_
      simp (maxSteps := 10000000) (disch := first | assumption | omega) only [go_sem, ↓reduceIte, Nat.reduceEqDiff, reduceCtorEq, Nat.reduceAdd, Nat.reduceMul, Nat.reduceLeDiff, zc, Int.reduceToNat, s0, s1, s2]
      refine CLL_pure _ c5 rfl rfl rfl ?_
      simp (maxSteps := 10000000) (disch := first | assumption | omega) only [go_sem, ↓reduceIte, Nat.reduceEqDiff, reduceCtorEq, Nat.reduceAdd, Nat.reduceMul, Nat.reduceLeDiff, zc, Int.reduceToNat, s0, s1, s2]
      refine CLL_pure _ c6 PUt rfl rfl ?_
      simp (maxSteps := 10000000) (disch := first | assumption | omega) only [go_sem, ↓reduceIte, Nat.reduceEqDiff, reduceCtorEq, Nat.reduceAdd, Nat.reduceMul, Nat.reduceLeDiff, zc, Int.reduceToNat, s0, s1, s2]
      refine CLL_q _ c7 (.cons (exq_agg (.cons (exq_refL (xs := O) Ur rfl (by decide)) (.cons (exq_sc _ _ _ (by decide)) (.cons (exq_cube (F := fun _ _ _ => 0) Ur (by decide)) (.cons (exq_mat (f := G) Ur (by decide)) .nil))))) .nil) rfl rfl rfl ?_
      simp (maxSteps := 10000000) (disch := first | assumption | omega) only [go_sem, ↓reduceIte, Nat.reduceEqDiff, reduceCtorEq, Nat.reduceAdd, Nat.reduceMul, Nat.reduceLeDiff, zc, Int.reduceToNat, s0, s1, s2]
      simp only [zr, zb, retR, resL, outT, outL, zes, zez, oneV, zcp, zed, zfi, Ro.dl, St.ev, zhk, ↓za, ↓reduceIte, Nat.reduceEqDiff, Nat.reduceAdd, Nat.reduceLeDiff, tiD]
    ·have c3 := cNum18 (n := N) (t := false) hv (by omega) hM (by simp [h4])
     have e : bicR O M G k l = noB 2 := by unfold bicR; rw [pcode2 h1 h2 (by rw [eN]; exact fun h => h4 h.2), if_neg (by omega)]
     rw [e]
     refine call_of (fn := Tryz.f24) (code := bodyOf Tryz.f24) Tryz.func24 rfl (by kernel_rfl) (rfl) ?_
     intro sl hs
     have s0 : sl 0 = o := hs 0
     have s1 : sl 1 = i64 M := hs 1
     have s2 : sl 2 = v := hs 2
     dsimp only [Tryz.f24, bodyOf, Option.getD]
     simp (maxSteps := 10000000) (disch := first | assumption | omega) only [go_sem, ↓reduceIte, Nat.reduceEqDiff, reduceCtorEq, Nat.reduceAdd, Nat.reduceMul, Nat.reduceLeDiff, zc, Int.reduceToNat, s0, s1, s2]
     refine CLL_pure _ c1 PUt rfl rfl ?_
     simp (maxSteps := 10000000) (disch := first | assumption | omega) only [go_sem, ↓reduceIte, Nat.reduceEqDiff, reduceCtorEq, Nat.reduceAdd, Nat.reduceMul, Nat.reduceLeDiff, zc, Int.reduceToNat, s0, s1, s2]
     refine CLL_pure _ c2 PUt rfl rfl ?_
     simp (maxSteps := 10000000) (disch := first | assumption | omega) only [go_sem, ↓reduceIte, Nat.reduceEqDiff, reduceCtorEq, Nat.reduceAdd, Nat.reduceMul, Nat.reduceLeDiff, zc, Int.reduceToNat, s0, s1, s2]
     refine CLL_pure _ c3 PUt rfl rfl ?_
     simp (maxSteps := 10000000) (disch := first | assumption | omega) only [go_sem, ↓reduceIte, Nat.reduceEqDiff, reduceCtorEq, Nat.reduceAdd, Nat.reduceMul, Nat.reduceLeDiff, zc, Int.reduceToNat, s0, s1, s2]
     simp only [zr, zb, retR, resL, outT, outL, zes, zez, oneV, zcp, zed, zfi, Ro.dl, St.ev, zhk, ↓za, ↓reduceIte, Nat.reduceEqDiff, Nat.reduceAdd, Nat.reduceLeDiff, tiD]
   ·have c1 := cGroup (M := M) (e := 2) ho hO (fun h => absurd h1 h) (fun _ h => absurd h h2) (fun _ _ _ => rfl) (fun _ _ h => absurd h h3)
    have e : bicR O M G k l = noB 2 := by unfold bicR; rw [pcode2 h1 h2 (fun h => h3 h.1), if_neg (by omega)]
    rw [e]
    refine call_of (fn := Tryz.f24) (code := bodyOf Tryz.f24) Tryz.func24 rfl (by kernel_rfl) (rfl) ?_
    intro sl hs
    have s0 : sl 0 = o := hs 0
    have s1 : sl 1 = i64 M := hs 1
    have s2 : sl 2 = v := hs 2
    dsimp only [Tryz.f24, bodyOf, Option.getD]
    simp (maxSteps := 10000000) (disch := first | assumption | omega) only [go_sem, ↓reduceIte, Nat.reduceEqDiff, reduceCtorEq, Nat.reduceAdd, Nat.reduceMul, Nat.reduceLeDiff, zc, Int.reduceToNat, s0, s1, s2]
    refine CLL_pure _ c1 PUt rfl rfl ?_
    simp (maxSteps := 10000000) (disch := first | assumption | omega) only [go_sem, ↓reduceIte, Nat.reduceEqDiff, reduceCtorEq, Nat.reduceAdd, Nat.reduceMul, Nat.reduceLeDiff, zc, Int.reduceToNat, s0, s1, s2, undef]
    simp only [zr, zb, retR, resL, outT, outL, zes, zez, oneV, zcp, zed, zfi, Ro.dl, St.ev, zhk, ↓za, ↓reduceIte, Nat.reduceEqDiff, Nat.reduceAdd, Nat.reduceLeDiff, tiD]
 ·have c1 := cGroup (M := M) (e := 1) ho hO (fun _ => rfl) (fun h => absurd h h1) (fun h => absurd h h1) (fun h => absurd h h1)
  have e : bicR O M G k l = noB 1 := by unfold bicR; rw [pcode1 h1, if_neg (by omega)]
  rw [e]
  refine call_of (fn := Tryz.f24) (code := bodyOf Tryz.f24) Tryz.func24 rfl (by kernel_rfl) (rfl) ?_
  intro sl hs
  have s0 : sl 0 = o := hs 0
  have s1 : sl 1 = i64 M := hs 1
  have s2 : sl 2 = v := hs 2
  dsimp only [Tryz.f24, bodyOf, Option.getD]
  simp (maxSteps := 10000000) (disch := first | assumption | omega) only [go_sem, ↓reduceIte, Nat.reduceEqDiff, reduceCtorEq, Nat.reduceAdd, Nat.reduceMul, Nat.reduceLeDiff, zc, Int.reduceToNat, s0, s1, s2]
  refine CLL_pure _ c1 PUt rfl rfl ?_
  simp (maxSteps := 10000000) (disch := first | assumption | omega) only [go_sem, ↓reduceIte, Nat.reduceEqDiff, reduceCtorEq, Nat.reduceAdd, Nat.reduceMul, Nat.reduceLeDiff, zc, Int.reduceToNat, s0, s1, s2, undef]
  simp only [zr, zb, retR, resL, outT, outL, zes, zez, oneV, zcp, zed, zfi, Ro.dl, St.ev, zhk, ↓za, ↓reduceIte, Nat.reduceEqDiff, Nat.reduceAdd, Nat.reduceLeDiff, tiD]
end
end Go.Proofs.YthpmddoakefbmaaGreat
/- Sums and reverses of braidings (reference). -/
namespace Go.Proofs.YthpmddoakefbmaaGreat
open Go.RowKit
set_option maxRecDepth 1000000
theorem list_ext {xs ys : List Int} (h : xs.length = ys.length) (h2 : ∀ k, k < xs.length → atI xs k = atI ys k) : xs = ys := by
 apply List.ext_getElem?
 intro k
 by_cases hk : k < xs.length
 ·have := h2 k hk
  unfold atI at this
  have hk' : k < ys.length := by omega
  simpa [hk, hk'] using this
 ·have hk' : ¬ k < ys.length := by omega
  simp [List.getElem?_eq_none (Nat.le_of_not_lt hk), List.getElem?_eq_none (Nat.le_of_not_lt hk')]
section
variable {o c v o' c' v' : AV} {O O' : List Int} {M M' : Int} {F F' : Nat → Nat → Nat → Int} {n n' : Nat} {G G' : Nat → Nat → Int} {k l k' l' : Nat}
theorem cSame (ho : isL o O) (ho' : isL o' O') (hO : O.length ≤ maxN) (hO' : O'.length ≤ maxN) {t : Bool} (ht : t = true ↔ O = O') : CallOK Tryz.prog 55 [o, o'] (bo t) := by
 have hx2 : O.length ≤ 4294967296 := hO
 by_cases h1 : O.length = O'.length
 ·have h1' : (O.length : Int) = O'.length := by omega
  refine call_of (fn := Tryz.f55) (code := bodyOf Tryz.f55) Tryz.func55 rfl (by kernel_rfl) (rfl) ?_
  intro sl hs
  have s0 : sl 0 = o := hs 0
  have s1 : sl 1 = o' := hs 1
  dsimp only [Tryz.f55, bodyOf, Option.getD]
  simp (maxSteps := 10000000) (disch := first | assumption | omega) only [go_sem, ↓reduceIte, Nat.reduceEqDiff, reduceCtorEq, Nat.reduceAdd, Nat.reduceMul, Nat.reduceLeDiff, zc, Int.reduceToNat, s0, s1, eq_true h1']
  refine WK_for (fun x st => st.sl 0 = o ∧ st.sl 1 = o' ∧ st.sl 5 = i64 (x : Int) ∧ (∀ j, j < x → atI O j = atI O' j)) O.length ?_ ?_ ?_
  ·simp only [↓za, ↓reduceIte, Nat.reduceEqDiff, zb, reduceCtorEq, rws_zero, s0, s1]
   exact ⟨rfl, fun x' h => absurd h (Nat.not_lt_zero _)⟩
  ·rintro x sl ro gn hx ⟨s0, s1, s5, q⟩
   dsimp only at s0 s1 s5
   have hx' : (x : Int) < (O.length : Nat) := by omega
   have hx2 : x < O'.length := by omega
   by_cases h2 : atI O x = atI O' x
   ·simp (maxSteps := 10000000) (disch := first | assumption | omega) only [go_sem, ↓reduceIte, Nat.reduceEqDiff, reduceCtorEq, Nat.reduceAdd, Nat.reduceMul, Nat.reduceLeDiff, zc, Int.reduceToNat, s0, s1, s5, hx', hx]
    refine FIN_of (by kernel_rfl) ?_
    simp (maxSteps := 10000000) (disch := first | assumption | omega) only [go_sem, ↓reduceIte, Nat.reduceEqDiff, reduceCtorEq, Nat.reduceAdd, Nat.reduceMul, Nat.reduceLeDiff, zc, Int.reduceToNat, s0, s1, s5, hx', hx, eq_true h2]
    refine ⟨i64c (by omega), fun y' h => ?_⟩
    rcases Nat.lt_or_ge y' x with h' | h'
    ·exact q y' h'
    ·rw [show y' = x by omega]; exact h2
   ·simp (maxSteps := 10000000) (disch := first | assumption | omega) only [go_sem, ↓reduceIte, Nat.reduceEqDiff, reduceCtorEq, Nat.reduceAdd, Nat.reduceMul, Nat.reduceLeDiff, zc, Int.reduceToNat, s0, s1, s5, hx', hx]
    refine FIN_of (by kernel_rfl) ?_
    simp (maxSteps := 10000000) (disch := first | assumption | omega) only [go_sem, ↓reduceIte, Nat.reduceEqDiff, reduceCtorEq, Nat.reduceAdd, Nat.reduceMul, Nat.reduceLeDiff, zc, Int.reduceToNat, s0, s1, s5, hx', hx, eq_false h2]
    simp only [zr, zb, retR, resL, outT, outL, zes, zez, oneV, zcp, zed, zfi, Ro.dl, St.ev, zhk, ↓za, ↓reduceIte, Nat.reduceEqDiff, Nat.reduceAdd, Nat.reduceLeDiff]
    exact bool_false ht fun h => h2 (by rw [h])
  ·rintro sl ro gn ⟨s0, s1, s5, q⟩
   dsimp only at s0 s1 s5
   have hx' : ¬ ((O.length : Nat) : Int) < (O.length : Nat) := by omega
   simp (maxSteps := 10000000) (disch := first | assumption | omega) only [go_sem, ↓reduceIte, Nat.reduceEqDiff, reduceCtorEq, Nat.reduceAdd, Nat.reduceMul, Nat.reduceLeDiff, zc, Int.reduceToNat, s0, s1, s5, hx']
   simp only [zr, zb, retR, resL, outT, outL, zes, zez, oneV, zcp, zed, zfi, Ro.dl, St.ev, zhk, ↓za, ↓reduceIte, Nat.reduceEqDiff, Nat.reduceAdd, Nat.reduceLeDiff]
   exact (ht.2 (list_ext h1 q)).symm
 ·have h1' : ¬ (O.length : Int) = O'.length := by omega
  refine call_of (fn := Tryz.f55) (code := bodyOf Tryz.f55) Tryz.func55 rfl (by kernel_rfl) (rfl) ?_
  intro sl hs
  have s0 : sl 0 = o := hs 0
  have s1 : sl 1 = o' := hs 1
  dsimp only [Tryz.f55, bodyOf, Option.getD]
  simp (maxSteps := 10000000) (disch := first | assumption | omega) only [go_sem, ↓reduceIte, Nat.reduceEqDiff, reduceCtorEq, Nat.reduceAdd, Nat.reduceMul, Nat.reduceLeDiff, zc, Int.reduceToNat, s0, s1, eq_false h1']
  simp only [zr, zb, retR, resL, outT, outL, zes, zez, oneV, zcp, zed, zfi, Ro.dl, St.ev, zhk, ↓za, ↓reduceIte, Nat.reduceEqDiff, Nat.reduceAdd, Nat.reduceLeDiff]
  exact bool_false ht fun h => h1 (by rw [h])
noncomputable def addR (O : List Int) (M : Int) (F : Nat → Nat → Nat → Int) (n : Nat) (G : Nat → Nat → Int) (k l : Nat) (O' : List Int) (M' : Int) (F' : Nat → Nat → Nat → Int) (n' : Nat) (G' : Nat → Nat → Int) (k' l' : Nat) : AV :=
 open Classical in if ¬ (BrP O M F n G k l ∧ BrP O' M' F' n' G' k' l') then noB 1 else if ¬ (O = O' ∧ M = M') then noB 2 else okB O M (smF F F' M) (sm2 G G' M) n
theorem addR1 (h : ¬ (BrP O M F n G k l ∧ BrP O' M' F' n' G' k' l')) : addR O M F n G k l O' M' F' n' G' k' l' = noB 1 := by unfold addR; rw [if_pos h]
theorem addR2 (h : BrP O M F n G k l ∧ BrP O' M' F' n' G' k' l') (h2 : ¬ (O = O' ∧ M = M')) : addR O M F n G k l O' M' F' n' G' k' l' = noB 2 := by unfold addR; rw [if_neg (fun e => e h), if_pos h2]
theorem addR0 (h : BrP O M F n G k l ∧ BrP O' M' F' n' G' k' l') (h2 : O = O' ∧ M = M') : addR O M F n G k l O' M' F' n' G' k' l' = okB O M (smF F F' M) (sm2 G G' M) n := by unfold addR; rw [if_neg (fun e => e h), if_neg (fun e => e h2)]
set_option maxHeartbeats 8000000 in
theorem cAddS (ho : isL o O) (hO : O.length ≤ 6) (hc : isLLL c (cubeL F n)) (hv : isLL v (matL G k l)) (h16 : n ≤ 16 ∧ k ≤ 16 ∧ l ≤ 16) (hM : -1048576 ≤ M ∧ M ≤ 1048576)
  (ho' : isL o' O') (hO' : O'.length ≤ 6) (hc' : isLLL c' (cubeL F' n')) (hv' : isLL v' (matL G' k' l')) (h16' : n' ≤ 16 ∧ k' ≤ 16 ∧ l' ≤ 16) (hM' : -1048576 ≤ M' ∧ M' ≤ 1048576) :
  CallOK Tryz.prog 14 [.agg [o, i64 M, c, v], .agg [o', i64 M', c', v']] (addR O M F n G k l O' M' F' n' G' k' l') := by
 have hxO : O.length ≤ maxN := Nat.le_trans hO (by decide)
 have hxO' : O'.length ≤ maxN := Nat.le_trans hO' (by decide)
 by_cases h1 : BrP O M F n G k l
 ·have c1 := cIs18 (t := true) ho hO hc hv h16 hM (by simp [h1])
  by_cases h2 : BrP O' M' F' n' G' k' l'
  ·have c2 := cIs18 (t := true) ho' hO' hc' hv' h16' hM' (by simp [h2])
   by_cases h3 : O = O'
   ·have c3 := cSame (t := true) ho ho' hxO hxO' (by simp [h3])
    by_cases h4 : M = M'
    ·subst h3
     subst h4
     rw [addR0 ⟨h1, h2⟩ ⟨rfl, rfl⟩]
     obtain ⟨e1, e2⟩ := h1.s.sq
     obtain ⟨e3, e4⟩ := h2.s.sq
     have e5 : n' = n := by have := h1.s.w.s.e; have := h2.s.w.s.e; omega
     subst e1 e2 e5
     subst e3 e4
     have hm := h1.s.w.s.m
     have c4 := cSum8 (m' := M) ho ho' hxO hc hc' hv hv' h1.s.w.s.pos (by omega) (by omega) (fun x hx y hy z hz => by have := h1.s.w.s.b x hx y hy z hz; omega) (fun x hx y hy z hz => by have := h2.s.w.s.b x hx y hy z hz; omega) (fun x hx y hy => by have := h1.s.p.rg hx hy; omega) (fun x hx y hy => by have := h2.s.p.rg hx hy; omega)
     refine call_of (fn := Tryz.f14) (code := bodyOf Tryz.f14) Tryz.func14 rfl (by kernel_rfl) (noRef_okB _ _ _ _ _) ?_
     intro sl hs
     have s0 : sl 0 = .agg [o, i64 M, c, v] := hs 0
     have s1 : sl 1 = .agg [o', i64 M, c', v'] := hs 1
     dsimp only [Tryz.f14, bodyOf, Option.getD]
     simp (maxSteps := 10000000) (disch := first | assumption | omega) only [go_sem, ↓reduceIte, Nat.reduceEqDiff, reduceCtorEq, Nat.reduceAdd, Nat.reduceMul, Nat.reduceLeDiff, zc, Int.reduceToNat, s0, s1]
     refine CLL_pure _ c1 PUt rfl rfl ?_
     simp (maxSteps := 10000000) (disch := first | assumption | omega) only [go_sem, ↓reduceIte, Nat.reduceEqDiff, reduceCtorEq, Nat.reduceAdd, Nat.reduceMul, Nat.reduceLeDiff, zc, Int.reduceToNat, s0, s1]
     refine CLL_pure _ c2 PUt rfl rfl ?_
     simp (maxSteps := 10000000) (disch := first | assumption | omega) only [go_sem, ↓reduceIte, Nat.reduceEqDiff, reduceCtorEq, Nat.reduceAdd, Nat.reduceMul, Nat.reduceLeDiff, zc, Int.reduceToNat, s0, s1]
     refine CLL_pure _ c3 PUt rfl rfl ?_
     simp (maxSteps := 10000000) (disch := first | assumption | omega) only [go_sem, ↓reduceIte, Nat.reduceEqDiff, reduceCtorEq, Nat.reduceAdd, Nat.reduceMul, Nat.reduceLeDiff, zc, Int.reduceToNat, s0, s1]
     refine CLL_pure _ c4 PUt rfl rfl ?_
     simp (maxSteps := 10000000) (disch := first | assumption | omega) only [go_sem, ↓reduceIte, Nat.reduceEqDiff, reduceCtorEq, Nat.reduceAdd, Nat.reduceMul, Nat.reduceLeDiff, zc, Int.reduceToNat, s0, s1]
     simp only [zr, zb, retR, resL, outT, outL, zes, zez, oneV, zcp, zed, zfi, Ro.dl, St.ev, zhk, ↓za, ↓reduceIte, Nat.reduceEqDiff, Nat.reduceAdd, Nat.reduceLeDiff, tiD]
    ·rw [addR2 ⟨h1, h2⟩ (fun h => h4 h.2)]
     refine call_of (fn := Tryz.f14) (code := bodyOf Tryz.f14) Tryz.func14 rfl (by kernel_rfl) (rfl) ?_
     intro sl hs
     have s0 : sl 0 = .agg [o, i64 M, c, v] := hs 0
     have s1 : sl 1 = .agg [o', i64 M', c', v'] := hs 1
     dsimp only [Tryz.f14, bodyOf, Option.getD]
     simp (maxSteps := 10000000) (disch := first | assumption | omega) only [go_sem, ↓reduceIte, Nat.reduceEqDiff, reduceCtorEq, Nat.reduceAdd, Nat.reduceMul, Nat.reduceLeDiff, zc, Int.reduceToNat, s0, s1]
     refine CLL_pure _ c1 PUt rfl rfl ?_
     simp (maxSteps := 10000000) (disch := first | assumption | omega) only [go_sem, ↓reduceIte, Nat.reduceEqDiff, reduceCtorEq, Nat.reduceAdd, Nat.reduceMul, Nat.reduceLeDiff, zc, Int.reduceToNat, s0, s1]
     refine CLL_pure _ c2 PUt rfl rfl ?_
     simp (maxSteps := 10000000) (disch := first | assumption | omega) only [go_sem, ↓reduceIte, Nat.reduceEqDiff, reduceCtorEq, Nat.reduceAdd, Nat.reduceMul, Nat.reduceLeDiff, zc, Int.reduceToNat, s0, s1]
     refine CLL_pure _ c3 PUt rfl rfl ?_
     simp (maxSteps := 10000000) (disch := first | assumption | omega) only [go_sem, ↓reduceIte, Nat.reduceEqDiff, reduceCtorEq, Nat.reduceAdd, Nat.reduceMul, Nat.reduceLeDiff, zc, Int.reduceToNat, s0, s1, eq_false h4]
     simp only [zr, zb, retR, resL, outT, outL, zes, zez, oneV, zcp, zed, zfi, Ro.dl, St.ev, zhk, ↓za, ↓reduceIte, Nat.reduceEqDiff, Nat.reduceAdd, Nat.reduceLeDiff, tiD]
   ·have c3 := cSame (t := false) ho ho' hxO hxO' (by simp [h3])
    rw [addR2 ⟨h1, h2⟩ (fun h => h3 h.1)]
    refine call_of (fn := Tryz.f14) (code := bodyOf Tryz.f14) Tryz.func14 rfl (by kernel_rfl) (rfl) ?_
    intro sl hs
    have s0 : sl 0 = .agg [o, i64 M, c, v] := hs 0
    have s1 : sl 1 = .agg [o', i64 M', c', v'] := hs 1
    dsimp only [Tryz.f14, bodyOf, Option.getD]
    simp (maxSteps := 10000000) (disch := first | assumption | omega) only [go_sem, ↓reduceIte, Nat.reduceEqDiff, reduceCtorEq, Nat.reduceAdd, Nat.reduceMul, Nat.reduceLeDiff, zc, Int.reduceToNat, s0, s1]
    refine CLL_pure _ c1 PUt rfl rfl ?_
    simp (maxSteps := 10000000) (disch := first | assumption | omega) only [go_sem, ↓reduceIte, Nat.reduceEqDiff, reduceCtorEq, Nat.reduceAdd, Nat.reduceMul, Nat.reduceLeDiff, zc, Int.reduceToNat, s0, s1]
    refine CLL_pure _ c2 PUt rfl rfl ?_
    simp (maxSteps := 10000000) (disch := first | assumption | omega) only [go_sem, ↓reduceIte, Nat.reduceEqDiff, reduceCtorEq, Nat.reduceAdd, Nat.reduceMul, Nat.reduceLeDiff, zc, Int.reduceToNat, s0, s1]
    refine CLL_pure _ c3 PUt rfl rfl ?_
    simp (maxSteps := 10000000) (disch := first | assumption | omega) only [go_sem, ↓reduceIte, Nat.reduceEqDiff, reduceCtorEq, Nat.reduceAdd, Nat.reduceMul, Nat.reduceLeDiff, zc, Int.reduceToNat, s0, s1, undef]
    simp only [zr, zb, retR, resL, outT, outL, zes, zez, oneV, zcp, zed, zfi, Ro.dl, St.ev, zhk, ↓za, ↓reduceIte, Nat.reduceEqDiff, Nat.reduceAdd, Nat.reduceLeDiff, tiD]
  ·have c2 := cIs18 (t := false) ho' hO' hc' hv' h16' hM' (by simp [h2])
   rw [addR1 (fun h => h2 h.2)]
   refine call_of (fn := Tryz.f14) (code := bodyOf Tryz.f14) Tryz.func14 rfl (by kernel_rfl) (rfl) ?_
   intro sl hs
   have s0 : sl 0 = .agg [o, i64 M, c, v] := hs 0
   have s1 : sl 1 = .agg [o', i64 M', c', v'] := hs 1
   dsimp only [Tryz.f14, bodyOf, Option.getD]
   simp (maxSteps := 10000000) (disch := first | assumption | omega) only [go_sem, ↓reduceIte, Nat.reduceEqDiff, reduceCtorEq, Nat.reduceAdd, Nat.reduceMul, Nat.reduceLeDiff, zc, Int.reduceToNat, s0, s1]
   refine CLL_pure _ c1 PUt rfl rfl ?_
   simp (maxSteps := 10000000) (disch := first | assumption | omega) only [go_sem, ↓reduceIte, Nat.reduceEqDiff, reduceCtorEq, Nat.reduceAdd, Nat.reduceMul, Nat.reduceLeDiff, zc, Int.reduceToNat, s0, s1]
   refine CLL_pure _ c2 PUt rfl rfl ?_
   simp (maxSteps := 10000000) (disch := first | assumption | omega) only [go_sem, ↓reduceIte, Nat.reduceEqDiff, reduceCtorEq, Nat.reduceAdd, Nat.reduceMul, Nat.reduceLeDiff, zc, Int.reduceToNat, s0, s1]
   simp only [zr, zb, retR, resL, outT, outL, zes, zez, oneV, zcp, zed, zfi, Ro.dl, St.ev, zhk, ↓za, ↓reduceIte, Nat.reduceEqDiff, Nat.reduceAdd, Nat.reduceLeDiff, tiD]
 ·have c1 := cIs18 (t := false) ho hO hc hv h16 hM (by simp [h1])
  rw [addR1 (fun h => h1 h.1)]
  refine call_of (fn := Tryz.f14) (code := bodyOf Tryz.f14) Tryz.func14 rfl (by kernel_rfl) (rfl) ?_
  intro sl hs
  have s0 : sl 0 = .agg [o, i64 M, c, v] := hs 0
  have s1 : sl 1 = .agg [o', i64 M', c', v'] := hs 1
  dsimp only [Tryz.f14, bodyOf, Option.getD]
  simp (maxSteps := 10000000) (disch := first | assumption | omega) only [go_sem, ↓reduceIte, Nat.reduceEqDiff, reduceCtorEq, Nat.reduceAdd, Nat.reduceMul, Nat.reduceLeDiff, zc, Int.reduceToNat, s0, s1]
  refine CLL_pure _ c1 PUt rfl rfl ?_
  simp (maxSteps := 10000000) (disch := first | assumption | omega) only [go_sem, ↓reduceIte, Nat.reduceEqDiff, reduceCtorEq, Nat.reduceAdd, Nat.reduceMul, Nat.reduceLeDiff, zc, Int.reduceToNat, s0, s1, undef]
  simp only [zr, zb, retR, resL, outT, outL, zes, zez, oneV, zcp, zed, zfi, Ro.dl, St.ev, zhk, ↓za, ↓reduceIte, Nat.reduceEqDiff, Nat.reduceAdd, Nat.reduceLeDiff, tiD]
theorem rowLL_plane {x : Nat} (hx : x < n) : AV.row (rws (fun y => rowL (row (mat (cubeL F n) x) y)) (mat (cubeL F n) x).length) = .row (rws (fun j => .row (rws (fun z => i64 (F x j z)) n)) n) := by
 rw [cube_row F hx]
 refine congrArg AV.row (rws_congr fun y hy => ?_)
 rw [mat_cube hx, row_rws _ hy]
 simp only [rowL, rws_map]
set_option maxHeartbeats 4000000 in
theorem cOwn18 (ho : isL o O) (hO : O.length ≤ maxN) (hc : isLLL c (cubeL F n)) (h0 : 0 < n) (h16 : n ≤ 16) : CallOK Tryz.prog 59 [.agg [o, i64 M, c]] (.agg [rowL O, i64 M, cubeA F n]) := by
 have lX : (cubeL F n).length = n := zfe _ _
 have h16m : (16 : Nat) ≤ maxN := by decide
 refine call_of (fn := Tryz.f59) (code := bodyOf Tryz.f59) Tryz.func59 rfl (by kernel_rfl) (noRef_cc _ _ _ _) ?_
 intro sl hs
 have s0 : sl 0 = .agg [o, i64 M, c] := hs 0
 dsimp only [Tryz.f59, bodyOf, Option.getD]
 simp (maxSteps := 10000000) (disch := first | assumption | omega) only [go_sem, ↓reduceIte, Nat.reduceEqDiff, reduceCtorEq, Nat.reduceAdd, Nat.reduceMul, Nat.reduceLeDiff, zc, Int.reduceToNat, s0]
 refine CLLD_pure _ (cOwn ho hO) PUt rfl ?_
 simp (maxSteps := 10000000) (disch := first | assumption | omega) only [go_sem, ↓reduceIte, Nat.reduceEqDiff, reduceCtorEq, Nat.reduceAdd, Nat.reduceMul, Nat.reduceLeDiff, zc, Int.reduceToNat, s0]
 refine FIN_of (by kernel_rfl) ?_
 simp (maxSteps := 10000000) (disch := first | assumption | omega) only [go_sem, ↓reduceIte, Nat.reduceEqDiff, reduceCtorEq, Nat.reduceAdd, Nat.reduceMul, Nat.reduceLeDiff, zc, Int.reduceToNat, s0]
 refine WK_for (fun x st => st.sl 1 = .ptr 4096 1 [] 0 ∧ st.ro 4096 1 = some (.bx [o, i64 M, c]) ∧ st.sl 2 = .ptr 4112 1 [] 0 ∧ st.ro 4112 1 = some (.bx [nilA, i64 0, nilA]) ∧ st.sl 3 = .ptr 8288 1 [] 0 ∧ st.ro 8224 1 = some (rowL O) ∧ st.sl 4 = i64 (x : Int) ∧ ((x = 0 ∧ st.ro 8288 1 = some (.bx [.ref 8224 1 [] 0 O.length, i64 M, nilA])) ∨ (0 < x ∧ st.ro 8288 1 = some (.bx [.ref 8224 1 [] 0 O.length, i64 M, .ref 24720 (st.gn 24720) [] 0 x]) ∧ st.ro 24720 (st.gn 24720) = some (.row (rws (fun i => .row (rws (fun j => .row (rws (fun z => i64 (F i j z)) n)) n)) x))))) n ?_ ?_ ?_
 ·simp only [↓za, ↓reduceIte, Nat.reduceEqDiff, zb, reduceCtorEq, rws_zero, s0]
  exact ⟨rfl, .inl trivial⟩
 ·rintro x sl ro gn hx ⟨s1, r4096, s2, r4112, s3, r8224, s4, q⟩
  dsimp only at s1 r4096 s2 r4112 s3 r8224 s4
  have hx' : (x : Int) < (n : Nat) := by omega
  dsimp only at q
  have hm := isLLL_mat hc (k := x) (by omega)
  have lm := cube_row F hx
  have co := cOwn2 hm (by omega) (fun i hi => by rw [lm] at hi; rw [cube_rr F hx hi]; omega)
  rw [rowLL_plane hx] at co
  have hx2 : x + 1 ≤ 4294967296 := by omega
  rcases q with ⟨hx0, q2⟩ | ⟨hx0, q2, q3⟩
  ·subst hx0
   simp (maxSteps := 10000000) (disch := first | assumption | omega) only [go_sem, ↓reduceIte, Nat.reduceEqDiff, reduceCtorEq, Nat.reduceAdd, Nat.reduceMul, Nat.reduceLeDiff, zc, Int.reduceToNat, s1, r4096, s2, r4112, s3, r8224, s4, hx', hx, q2, lX]
   refine CLLD_pure _ co PUt rfl ?_
   simp (maxSteps := 10000000) (disch := first | assumption | omega) only [go_sem, ↓reduceIte, Nat.reduceEqDiff, reduceCtorEq, Nat.reduceAdd, Nat.reduceMul, Nat.reduceLeDiff, zc, Int.reduceToNat, s1, r4096, s2, r4112, s3, r8224, s4, hx', hx, q2, lX, hx2]
   refine FIN_of (by kernel_rfl) ?_
   simp (maxSteps := 10000000) (disch := first | assumption | omega) only [go_sem, ↓reduceIte, Nat.reduceEqDiff, reduceCtorEq, Nat.reduceAdd, Nat.reduceMul, Nat.reduceLeDiff, zc, Int.reduceToNat, s1, r4096, s2, r4112, s3, r8224, s4, hx', hx]
   exact ⟨i64c (by omega), .inr rfl⟩
  ·simp (maxSteps := 10000000) (disch := first | assumption | omega) only [go_sem, ↓reduceIte, Nat.reduceEqDiff, reduceCtorEq, Nat.reduceAdd, Nat.reduceMul, Nat.reduceLeDiff, zc, Int.reduceToNat, s1, r4096, s2, r4112, s3, r8224, s4, hx', hx, q2, q3, lX]
   refine CLLD_pure _ co PUt rfl ?_
   simp (maxSteps := 10000000) (disch := first | assumption | omega) only [go_sem, ↓reduceIte, Nat.reduceEqDiff, reduceCtorEq, Nat.reduceAdd, Nat.reduceMul, Nat.reduceLeDiff, zc, Int.reduceToNat, s1, r4096, s2, r4112, s3, r8224, s4, hx', hx, q2, q3, lX, hx2]
   refine FIN_of (by kernel_rfl) ?_
   simp (maxSteps := 10000000) (disch := first | assumption | omega) only [go_sem, ↓reduceIte, Nat.reduceEqDiff, reduceCtorEq, Nat.reduceAdd, Nat.reduceMul, Nat.reduceLeDiff, zc, Int.reduceToNat, s1, r4096, s2, r4112, s3, r8224, s4, hx', hx]
   exact ⟨i64c (by omega), .inr trivial⟩
 ·rintro sl ro gn ⟨s1, r4096, s2, r4112, s3, r8224, s4, q⟩
  dsimp only at s1 r4096 s2 r4112 s3 r8224 s4
  have hx' : ¬ ((n : Nat) : Int) < (n : Nat) := by omega
  dsimp only at q
  rcases q with ⟨hx0, q2⟩ | ⟨hx0, q2, q3⟩
  ·omega
  ·simp (maxSteps := 10000000) (disch := first | assumption | omega) only [go_sem, ↓reduceIte, Nat.reduceEqDiff, reduceCtorEq, Nat.reduceAdd, Nat.reduceMul, Nat.reduceLeDiff, zc, Int.reduceToNat, s1, r4096, s2, r4112, s3, r8224, s4, hx', q2, q3, lX]
   simp only [zr, zb, retR, resL, outT, outL, zes, zez, oneV, zcp, zed, zfi, Ro.dl, St.ev, zhk, ↓za, ↓reduceIte, Nat.reduceEqDiff, Nat.reduceAdd, Nat.reduceLeDiff, tiC, s2, q2, q3, r8224]
def rvG (M : Int) (G : Nat → Nat → Int) (x y : Nat) : Int := -G y x % M
noncomputable def revR (O : List Int) (M : Int) (F : Nat → Nat → Nat → Int) (n : Nat) (G : Nat → Nat → Int) (k l : Nat) : AV := open Classical in if BrP O M F n G k l then okB O M F (rvG M G) n else noB 1
set_option maxHeartbeats 8000000 in
theorem cRevS (ho : isL o O) (hO : O.length ≤ 6) (hc : isLLL c (cubeL F n)) (hv : isLL v (matL G k l)) (h16 : n ≤ 16 ∧ k ≤ 16 ∧ l ≤ 16) (hM : -1048576 ≤ M ∧ M ≤ 1048576) : CallOK Tryz.prog 18 [.agg [o, i64 M, c, v]] (revR O M F n G k l) := by
 have hxO : O.length ≤ maxN := Nat.le_trans hO (by decide)
 by_cases h1 : BrP O M F n G k l
 ·have c1 := cIs18 (t := true) ho hO hc hv h16 hM (by simp [h1])
  have e : revR O M F n G k l = okB O M F (rvG M G) n := by unfold revR; rw [if_pos h1]
  rw [e]
  obtain ⟨e1, e2⟩ := h1.s.sq
  subst e1
  subst e2
  have hm := h1.s.w.s.m
  have hm0 : ¬ M = 0 := by omega
  have hp := h1.s.w.s.pos
  have n8 := h1.s.w.s.n8
  have lV := matL_len2 G l l
  have c2 := cOwn18 (M := M) ho hxO hc hp (by omega)
  refine call_of (fn := Tryz.f18) (code := bodyOf Tryz.f18) Tryz.func18 rfl (by kernel_rfl) (noRef_okB _ _ _ _ _) ?_
  intro sl hs
  have s0 : sl 0 = .agg [o, i64 M, c, v] := hs 0
  dsimp only [Tryz.f18, bodyOf, Option.getD]
  simp (maxSteps := 10000000) (disch := first | assumption | omega) only [go_sem, ↓reduceIte, Nat.reduceEqDiff, reduceCtorEq, Nat.reduceAdd, Nat.reduceMul, Nat.reduceLeDiff, zc, Int.reduceToNat, s0]
  refine CLL_pure _ c1 PUt rfl rfl ?_
  simp (maxSteps := 10000000) (disch := first | assumption | omega) only [go_sem, ↓reduceIte, Nat.reduceEqDiff, reduceCtorEq, Nat.reduceAdd, Nat.reduceMul, Nat.reduceLeDiff, zc, Int.reduceToNat, s0]
  refine CLL_pure _ c2 PUt rfl rfl ?_
  simp (maxSteps := 10000000) (disch := first | assumption | omega) only [go_sem, ↓reduceIte, Nat.reduceEqDiff, reduceCtorEq, Nat.reduceAdd, Nat.reduceMul, Nat.reduceLeDiff, zc, Int.reduceToNat, s0]
  refine WK_for (fun x st => st.sl 1 = .ptr 4096 1 [] 0 ∧ st.ro 4096 1 = some (.bx [o, i64 M, c, v]) ∧ st.sl 2 = .ptr 4112 1 [] 0 ∧ st.ro 4112 1 = some (.bx [nilA, i64 0, nilA, nilA]) ∧ st.sl 4 = .ptr 16448 1 [] 0 ∧ st.ro 16416 1 = some (rowL O) ∧ st.ro 16417 1 = some (cubeA F l) ∧ st.sl 5 = i64 (x : Int) ∧ ((x = 0 ∧ st.ro 16448 1 = some (.bx [.ref 16416 1 [] 0 O.length, i64 M, .ref 16417 1 [] 0 l, nilA])) ∨ (0 < x ∧ st.ro 16448 1 = some (.bx [.ref 16416 1 [] 0 O.length, i64 M, .ref 16417 1 [] 0 l, .ref 53312 (st.gn 53312) [] 0 x]) ∧ st.ro 53312 (st.gn 53312) = some (.row (rws (fun x => .row (rws (fun y => i64 (rvG M G x y)) l)) x))))) l ?_ ?_ ?_
  ·simp only [↓za, ↓reduceIte, Nat.reduceEqDiff, zb, reduceCtorEq, rws_zero, s0]
   exact ⟨rfl, .inl trivial⟩
  ·rintro x sl ro gn hx ⟨s1, r4096, s2, r4112, s4, r16416, r16417, s5, q⟩
   dsimp only at s1 r4096 s2 r4112 s4 r16416 r16417 s5
   have hx' : (x : Int) < (l : Nat) := by omega
   dsimp only at q
   simp (maxSteps := 10000000) (disch := first | assumption | omega) only [go_sem, ↓reduceIte, Nat.reduceEqDiff, reduceCtorEq, Nat.reduceAdd, Nat.reduceMul, Nat.reduceLeDiff, zc, Int.reduceToNat, s1, r4096, s2, r4112, s4, r16416, r16417, s5, hx', hx, lV]
   refine WK_for (fun y st => st.sl 1 = .ptr 4096 1 [] 0 ∧ st.ro 4096 1 = some (.bx [o, i64 M, c, v]) ∧ st.sl 2 = .ptr 4112 1 [] 0 ∧ st.ro 4112 1 = some (.bx [nilA, i64 0, nilA, nilA]) ∧ st.sl 4 = .ptr 16448 1 [] 0 ∧ st.ro 16416 1 = some (rowL O) ∧ st.ro 16417 1 = some (cubeA F l) ∧ st.sl 5 = i64 (x : Int) ∧ st.sl 6 = .ref 32768 (st.gn 32768) [] 0 y ∧ st.ro 32768 (st.gn 32768) = some (.row (rws (fun y => i64 (rvG M G x y)) y)) ∧ st.sl 7 = i64 (y : Int) ∧ ((x = 0 ∧ st.ro 16448 1 = some (.bx [.ref 16416 1 [] 0 O.length, i64 M, .ref 16417 1 [] 0 l, nilA])) ∨ (0 < x ∧ st.ro 16448 1 = some (.bx [.ref 16416 1 [] 0 O.length, i64 M, .ref 16417 1 [] 0 l, .ref 53312 (st.gn 53312) [] 0 x]) ∧ st.ro 53312 (st.gn 53312) = some (.row (rws (fun x => .row (rws (fun y => i64 (rvG M G x y)) l)) x))))) l ?_ ?_ ?_
   ·simp only [↓za, ↓reduceIte, Nat.reduceEqDiff, zb, reduceCtorEq, rws_zero, s1, r4096, s2, r4112, s4, r16416, r16417, s5, hx', hx]
    exact ⟨rfl, q⟩
   ·rintro y sl ro gn hy ⟨s1, r4096, s2, r4112, s4, r16416, r16417, s5, s6, r32768, s7, q⟩
    dsimp only at s1 r4096 s2 r4112 s4 r16416 r16417 s5 s6 r32768 s7
    have hy' : (y : Int) < (l : Nat) := by omega
    dsimp only at q
    have hj := isLL_row hv (k := y) (by omega)
    have lr := matL_row2 (G := G) (l := l) hy
    have v1 : atI (row (matL G l l) y) x = G y x := matL_at hy hx
    have b1 := h1.s.p.rg hy hx
    have hy2 : y + 1 ≤ 4294967296 := by omega
    have cm := cL18m (n := -G y x) (m := M) (by omega) (by omega)
    rw [show (-G y x : Int) = 0 - G y x by omega] at cm
    have ev : (0 - G y x) % M = rvG M G x y := by unfold rvG; rw [show (0 - G y x : Int) = -G y x by omega]
    rw [ev] at cm
    simp (maxSteps := 10000000) (disch := first | assumption | omega) only [go_sem, ↓reduceIte, Nat.reduceEqDiff, reduceCtorEq, Nat.reduceAdd, Nat.reduceMul, Nat.reduceLeDiff, zc, Int.reduceToNat, s1, r4096, s2, r4112, s4, r16416, r16417, s5, s6, r32768, s7, hy', hy, lV, lr, v1]
    refine CLLD_pure _ cm rfl rfl ?_
    simp (maxSteps := 10000000) (disch := first | assumption | omega) only [go_sem, ↓reduceIte, Nat.reduceEqDiff, reduceCtorEq, Nat.reduceAdd, Nat.reduceMul, Nat.reduceLeDiff, zc, Int.reduceToNat, s1, r4096, s2, r4112, s4, r16416, r16417, s5, s6, r32768, s7, hy', hy, lV, lr, v1, hy2]
    refine FIN_of (by kernel_rfl) ?_
    simp (maxSteps := 10000000) (disch := first | assumption | omega) only [go_sem, ↓reduceIte, Nat.reduceEqDiff, reduceCtorEq, Nat.reduceAdd, Nat.reduceMul, Nat.reduceLeDiff, zc, Int.reduceToNat, s1, r4096, s2, r4112, s4, r16416, r16417, s5, s6, r32768, s7, hy', hy]
    exact ⟨i64c (by omega), q⟩
   ·rintro sl ro gn ⟨s1, r4096, s2, r4112, s4, r16416, r16417, s5, s6, r32768, s7, q⟩
    dsimp only at s1 r4096 s2 r4112 s4 r16416 r16417 s5 s6 r32768 s7
    have hy' : ¬ ((l : Nat) : Int) < (l : Nat) := by omega
    dsimp only at q
    have hx2 : x + 1 ≤ 4294967296 := by omega
    rcases q with ⟨hx0, q2⟩ | ⟨hx0, q2, q3⟩
    ·subst hx0
     simp (maxSteps := 10000000) (disch := first | assumption | omega) only [go_sem, ↓reduceIte, Nat.reduceEqDiff, reduceCtorEq, Nat.reduceAdd, Nat.reduceMul, Nat.reduceLeDiff, zc, Int.reduceToNat, s1, r4096, s2, r4112, s4, r16416, r16417, s5, s6, r32768, s7, hy', q2, hx2, lV]
     exact ⟨i64c (by omega), .inr rfl⟩
    ·simp (maxSteps := 10000000) (disch := first | assumption | omega) only [go_sem, ↓reduceIte, Nat.reduceEqDiff, reduceCtorEq, Nat.reduceAdd, Nat.reduceMul, Nat.reduceLeDiff, zc, Int.reduceToNat, s1, r4096, s2, r4112, s4, r16416, r16417, s5, s6, r32768, s7, hy', q2, q3, hx2, lV]
     exact ⟨i64c (by omega), .inr trivial⟩
  ·rintro sl ro gn ⟨s1, r4096, s2, r4112, s4, r16416, r16417, s5, q⟩
   dsimp only at s1 r4096 s2 r4112 s4 r16416 r16417 s5
   have hx' : ¬ ((l : Nat) : Int) < (l : Nat) := by omega
   dsimp only at q
   rcases q with ⟨hx0, q2⟩ | ⟨hx0, q2, q3⟩
   ·omega
   ·simp (maxSteps := 10000000) (disch := first | assumption | omega) only [go_sem, ↓reduceIte, Nat.reduceEqDiff, reduceCtorEq, Nat.reduceAdd, Nat.reduceMul, Nat.reduceLeDiff, zc, Int.reduceToNat, s1, r4096, s2, r4112, s4, r16416, r16417, s5, hx', q2, q3, lV]
    simp only [zr, zb, retR, resL, outT, outL, zes, zez, oneV, zcp, zed, zfi, Ro.dl, St.ev, zhk, ↓za, ↓reduceIte, Nat.reduceEqDiff, Nat.reduceAdd, Nat.reduceLeDiff, tiD, s2, q2, q3, r16416, r16417]
 ·have c1 := cIs18 (t := false) ho hO hc hv h16 hM (by simp [h1])
  have e : revR O M F n G k l = noB 1 := by unfold revR; rw [if_neg h1]
  rw [e]
  refine call_of (fn := Tryz.f18) (code := bodyOf Tryz.f18) Tryz.func18 rfl (by kernel_rfl) (rfl) ?_
  intro sl hs
  have s0 : sl 0 = .agg [o, i64 M, c, v] := hs 0
  dsimp only [Tryz.f18, bodyOf, Option.getD]
  simp (maxSteps := 10000000) (disch := first | assumption | omega) only [go_sem, ↓reduceIte, Nat.reduceEqDiff, reduceCtorEq, Nat.reduceAdd, Nat.reduceMul, Nat.reduceLeDiff, zc, Int.reduceToNat, s0]
  refine CLL_pure _ c1 PUt rfl rfl ?_
  simp (maxSteps := 10000000) (disch := first | assumption | omega) only [go_sem, ↓reduceIte, Nat.reduceEqDiff, reduceCtorEq, Nat.reduceAdd, Nat.reduceMul, Nat.reduceLeDiff, zc, Int.reduceToNat, s0]
  simp only [zr, zb, retR, resL, outT, outL, zes, zez, oneV, zcp, zed, zfi, Ro.dl, St.ev, zhk, ↓za, ↓reduceIte, Nat.reduceEqDiff, Nat.reduceAdd, Nat.reduceLeDiff, tiD]
end
end Go.Proofs.YthpmddoakefbmaaGreat
