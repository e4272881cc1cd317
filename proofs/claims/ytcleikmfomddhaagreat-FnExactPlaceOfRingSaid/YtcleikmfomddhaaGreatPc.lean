/- Texts joined: Ee4 Ee5. -/
import Derived.Test.YtcleikmfomddhaaGreatPb
set_option linter.all false
/- Places of rings, the program. -/
namespace Go.Proofs.YtcleikmfomddhaaGreat
open Go.RowKit
set_option maxRecDepth 1000000
section
variable {n : Nat} {F B : C3} {x c : AV}
theorem cPl1 (ha : isLLL x (cubeL F n)) (hb : isLLL c (cubeL B n)) (hn : n ≤ maxN) : CallOK Tryz.prog 21 [.agg [x], .iptr [c]] (bo (decide (cmp3 (cubeL F n) (cubeL B n) = 0))) := by
 have hpa : pureA x = true := isLLL_pure ha
 have hpb : pureA c = true := isLLL_pure hb
 refine call_of (fn := Tryz.f21) (code := bodyOf Tryz.f21) Tryz.func21 rfl (by kernel_rfl) (rfl) ?_
 intro sl hs
 have s0 : sl 0 = .agg [x] := hs 0
 have s1 : sl 1 = .iptr [c] := hs 1
 dsimp only [Tryz.f21, bodyOf, Option.getD]
 refine Yaj ?_
 refine CLL_pure _ (cCmpC ha hb hn) PUt rfl rfl ?_
 simp (maxSteps := 10000000) (disch := first | assumption | omega) only [go_sem, ↓reduceIte, Nat.reduceEqDiff, reduceCtorEq, Nat.reduceAdd, Nat.reduceMul, Nat.reduceLeDiff, zc, Int.reduceToNat, s0, s1, ti3, ti4]
 exact Yac
theorem cIdxR {Ls : List C3} {w : Int} (hb : isLLL c (cubeL B n)) (hn : n ≤ maxN) (hN : Ls.length ≤ 1000000) (hw : PxP (Ls.map fun F => cubeL F n) (cubeL B n) w) : CallOK Tryz.prog 19 [immR n Ls, .fn 21 [.iptr [c]]] (i64 w) := by
 have lS : (Ls.map fun F => immC F n).length = Ls.length := List.length_map _
 have lC : (Ls.map fun F => cubeL F n).length = Ls.length := List.length_map _
 have hpb : pureA c = true := isLLL_pure hb
 have hN' : Ls.length ≤ 4294967296 := by omega
 refine call_of (fn := Tryz.f19) (code := bodyOf Tryz.f19) Tryz.func19 rfl (by kernel_rfl) (rfl) ?_
 intro sl hs
 have s0 : sl 0 = immR n Ls := hs 0
 have s1 : sl 1 = .fn 21 [.iptr [c]] := hs 1
 dsimp only [Tryz.f19, bodyOf, Option.getD]
 simp (maxSteps := 10000000) (disch := first | assumption | omega) only [go_sem, ↓reduceIte, Nat.reduceEqDiff, reduceCtorEq, Nat.reduceAdd, Nat.reduceMul, Nat.reduceLeDiff, zc, Int.reduceToNat, s0, s1, ti3, lS, kLen_imm]
 refine WK_for (fun i st => st.sl 0 = immR n Ls ∧ st.sl 1 = .fn 21 [.iptr [c]] ∧ st.sl 7 = i64 (Ls.length : Int) ∧ st.sl 8 = i64 (i : Int) ∧ (∀ j, j < i → (Ls.map fun F => cubeL F n).getD j [] ≠ cubeL B n)) Ls.length ?_ ?_ ?_
 ·refine Yao ?_
  exact ⟨rfl, lt0⟩
 ·rintro i sl ro gn hi ⟨s0, s1, s7, s8, q⟩
  dsimp only at s0 s1 s7 s8
  have hi' : (i : Int) < (Ls.length : Nat) := by omega
  obtain ⟨G, hG⟩ : ∃ G, G = Ls.getD i c0 := ⟨_, rfl⟩
  have hgC := getD_cubes Ls n hi
  rw [← hG] at hgC
  have hgG : (Ls.map fun F => immC F n)[i]? = some (immC G n) := by rw [List.getElem?_map, List.getElem?_eq_getElem hi, hG, List.getD_eq_getElem?_getD, List.getElem?_eq_getElem hi]; rfl
  have hpG : pureA (immC G n) = true := isLLL_pure (isLLL_immC G n)
  simp (maxSteps := 10000000) (disch := first | assumption | omega) only [go_sem, ↓reduceIte, Nat.reduceEqDiff, reduceCtorEq, Nat.reduceAdd, Nat.reduceMul, Nat.reduceLeDiff, zc, Int.reduceToNat, s0, s1, s7, s8, hi', hi, ti3, ti33, lS, hgG, kIdx_imm, hi]
  refine CLL_pure _ (cPl1 (isLLL_immC G n) hb hn) (by show ((pureA (immC G n) && true) && ((pureA c && true) && true)) = true; rw [hpG, hpb]; rfl) rfl rfl ?_
  have e0 := cmp3_O.eq0 (cubeL G n) (cubeL B n)
  by_cases hc : cmp3 (cubeL G n) (cubeL B n) = 0
  ·have he : (Ls.map fun F => cubeL F n).getD i [] = cubeL B n := by rw [hgC]; exact e0.1 hc
   have hwi := hw.at (by omega) q he
   rw [hwi]
   simp (maxSteps := 10000000) (disch := first | assumption | omega) only [go_sem, ↓reduceIte, Nat.reduceEqDiff, reduceCtorEq, Nat.reduceAdd, Nat.reduceMul, Nat.reduceLeDiff, zc, Int.reduceToNat, s0, s1, s7, s8, hi', hi, ti3, ti4, eq_true hc]
   exact Yac
  ·have hne : (Ls.map fun F => cubeL F n).getD i [] ≠ cubeL B n := fun e => by rw [hgC] at e; exact hc (e0.2 e)
   simp (maxSteps := 10000000) (disch := first | assumption | omega) only [go_sem, ↓reduceIte, Nat.reduceEqDiff, reduceCtorEq, Nat.reduceAdd, Nat.reduceMul, Nat.reduceLeDiff, zc, Int.reduceToNat, s0, s1, s7, s8, hi', hi, ti3, ti4, eq_false hc]
   exact ⟨i64c (by omega), ltS q hne⟩
 ·rintro sl ro gn ⟨s0, s1, s7, s8, q⟩
  dsimp only at s0 s1 s7 s8
  have hi' : ¬ ((Ls.length : Nat) : Int) < (Ls.length : Nat) := by omega
  have hwi := hw.no (fun j hj => q j (by omega))
  rw [hwi]
  simp (maxSteps := 10000000) (disch := first | assumption | omega) only [go_sem, ↓reduceIte, Nat.reduceEqDiff, reduceCtorEq, Nat.reduceAdd, Nat.reduceMul, Nat.reduceLeDiff, zc, Int.reduceToNat, s0, s1, s7, s8, hi', ti3]
  exact Yac
end
section
variable {c : AV} {T : List (List (List Int))} {m : Int}
theorem cPlI1 (ha : isLLL c T) (hz : SzP T) (h : ¬ RingP T) : CallOK Tryz.prog 7 [.agg [c], i64 m] (.tup [i64 0, i64 1]) := by
 refine call_of (fn := Tryz.f7) (code := bodyOf Tryz.f7) Tryz.func7 rfl (by kernel_rfl) (rfl) ?_
 intro sl hs
 have s0 : sl 0 = .agg [c] := hs 0
 have s1 : sl 1 = i64 m := hs 1
 dsimp only [Tryz.f7, bodyOf, Option.getD]
 refine Yaj ?_
 refine CLL_pure _ (c118 (t := false) ha hz.1 hz.2 ⟨fun e => (nomatch e), fun e => absurd e h⟩) PUt rfl rfl ?_
 refine Yak ?_
 exact Yac
theorem cPlI2 (ha : isLLL c T) (h : RingP T) (h2 : ¬ ((1 ≤ (T.length : Int) ∧ (T.length : Int) ≤ 3) ∧ 0 ≤ m ∧ m ≤ 4)) : CallOK Tryz.prog 7 [.agg [c], i64 m] (.tup [i64 0, i64 2]) := by
 have hz := h.1.sz
 refine call_of (fn := Tryz.f7) (code := bodyOf Tryz.f7) Tryz.func7 rfl (by kernel_rfl) (rfl) ?_
 intro sl hs
 have s0 : sl 0 = .agg [c] := hs 0
 have s1 : sl 1 = i64 m := hs 1
 dsimp only [Tryz.f7, bodyOf, Option.getD]
 refine Yaj ?_
 refine CLL_pure _ (c118 (t := true) ha hz.1 hz.2 ⟨fun _ => h, fun _ => rfl⟩) PUt rfl rfl ?_
 simp (maxSteps := 10000000) (disch := first | assumption | omega) only [go_sem, ↓reduceIte, Nat.reduceEqDiff, reduceCtorEq, Nat.reduceAdd, Nat.reduceMul, Nat.reduceLeDiff, zc, Int.reduceToNat, s0, s1, ti2, ti4, ti3, ti31, isLLL_len ha]
 refine CLL_pure _ (cIsList (n := (T.length : Int)) (m := m)) rfl rfl rfl ?_
 rw [decide_eq_false h2]
 refine Yak ?_
 exact Yac
end
section
variable {c : AV} {T : List (List (List Int))} {m : Nat}
set_option maxHeartbeats 8000000 in
theorem cPlI3 (ha : isLLL c T) (h : RingP T) (h3 : T.length ≤ 3) (hm : m ≤ 4) {w : Int} (hw : PxP ((srtL T.length (tabs T.length m)).map fun F => cubeL F T.length) (cubeL (leastF (at3 T) T.length) T.length) w) : CallOK Tryz.prog 7 [.agg [c], i64 (m : Int)] (resP w) := by
 have hz := h.1.sz
 have h1 : 1 ≤ T.length := h.1.1
 have d1 : (1 ≤ (T.length : Int) ∧ (T.length : Int) ≤ 3) ∧ 0 ≤ (m : Int) ∧ (m : Int) ≤ 4 := by omega
 have hn' : T.length ≤ maxN := hz.1
 have hpc : pureA c = true := isLLL_pure ha
 have ha' : isLLL c (cubeL (at3 T) T.length) := by rw [← cube_self h.1]; exact ha
 have hci : ∃ cs, c = .imm cs := by
  rcases ha with ⟨cs, e, -⟩ | ⟨e, -⟩
  ·exact ⟨cs, e⟩
  ·rw [e] at h1; exact absurd h1 (by decide)
 have cA := cAllR (n := T.length) (m := m) h1 h3 hm
 have hN : (srtL T.length (tabs T.length m)).length ≤ 1000000 := by rw [srt_len]; exact tabs_len h1 h3 hm
 have hv := vis_ok T.length h1 h3
 generalize srtL T.length (tabs T.length m) = P at cA hw hN
 have lP : (P.map fun F => cubeA F T.length).length = P.length := List.length_map _
 refine call_of (fn := Tryz.f7) (code := bodyOf Tryz.f7) Tryz.func7 rfl (by kernel_rfl) (rfl) ?_
 intro sl hs
 have s0 : sl 0 = .agg [c] := hs 0
 have s1 : sl 1 = i64 (m : Int) := hs 1
 dsimp only [Tryz.f7, bodyOf, Option.getD]
 refine Yaj ?_
 refine CLL_pure _ (c118 (t := true) ha hz.1 hz.2 ⟨fun _ => h, fun _ => rfl⟩) PUt rfl rfl ?_
 simp (maxSteps := 10000000) (disch := first | assumption | omega) only [go_sem, ↓reduceIte, Nat.reduceEqDiff, reduceCtorEq, Nat.reduceAdd, Nat.reduceMul, Nat.reduceLeDiff, zc, Int.reduceToNat, s0, s1, ti2, ti4, ti3, ti31, isLLL_len ha]
 refine CLL_pure _ (cIsList (n := (T.length : Int)) (m := (m : Int))) rfl rfl rfl ?_
 rw [decide_eq_true d1]
 simp (maxSteps := 10000000) (disch := first | assumption | omega) only [go_sem, ↓reduceIte, Nat.reduceEqDiff, reduceCtorEq, Nat.reduceAdd, Nat.reduceMul, Nat.reduceLeDiff, zc, Int.reduceToNat, s0, s1, ti2, ti4, ti33]
 refine CLL_inS rfl (sLeast (F := at3 T) h1 hn' hv (rv := c) (.imm _ hci ha')) ?_
 rintro _ ro1 gn1 ⟨fr1, bv, rfl, hb⟩
 generalize leastF (at3 T) T.length = B at hb hw
 have hl3 := hb.l
 have hob : ∀ (ro' : Ro), (∀ x y, y ≤ gn1 x → x ≠ 8192 → x ≠ 8208 → ro' x y = ro1 x y) → cellOkB ro' bv = true := by
  intro ro' hk
  cases hb with
  | imm _ h2 h3 => obtain ⟨cs, rfl⟩ := h2; rfl
  | ref s g h2 h3 h4 => have := (hk s g h3 h2.1 h2.2).trans h4; show (ro'.cells s g []).isSome = true; simp [Ro.cells, this, blk]
 simp (maxSteps := 10000000) (disch := first | assumption | omega) only [go_sem, ↓reduceIte, Nat.reduceEqDiff, reduceCtorEq, Nat.reduceAdd, Nat.reduceMul, Nat.reduceLeDiff, zc, Int.reduceToNat, s0, s1, ti33, ti2, hl3]
 rw [if_pos (hob _ ?_)]
 rotate_left
 ·(intro x y hy h1 h2; simp only [zdb]; repeat' (first | rfl | rw [if_neg (by rintro ⟨rfl, rfl⟩; omega)]))
 simp (maxSteps := 10000000) (disch := first | assumption | omega) only [go_sem, ↓reduceIte, Nat.reduceEqDiff, reduceCtorEq, Nat.reduceAdd, Nat.reduceMul, Nat.reduceLeDiff, zc, Int.reduceToNat, s0, s1, ti33, ti2, hl3]
 refine CLL_pure _ cA rfl rfl (by rfl) ?_
 simp (maxSteps := 10000000) (disch := first | assumption | omega) only [go_sem, ↓reduceIte, Nat.reduceEqDiff, reduceCtorEq, Nat.reduceAdd, Nat.reduceMul, Nat.reduceLeDiff, zc, Int.reduceToNat, s0, s1, impE_row, listA, lP, ti33]
 refine CLL_q _ (cIdxR (n := T.length) (B := B) hb.v hn' hN hw) (.cons (exq_listA (n := T.length) (Ls := P) (by simp only [↓za, ↓reduceIte, Nat.reduceEqDiff, zb, reduceCtorEq]; rfl) rfl) (.cons (exq_mono (exq_fn (.cons (exq_ptrc Ur (.cons (hb.xk (by intro x y hy h1 h2; simp only [zdb]; repeat' (first | rfl | rw [if_neg (by rintro ⟨rfl, rfl⟩; omega)]))) .nil)) .nil)) (by decide)) .nil)) rfl rfl rfl ?_
 by_cases hw0 : w < 0
 ·have e : resP w = .tup [i64 0, i64 4] := by unfold resP; rw [if_pos hw0, if_pos hw0]
  rw [e]
  simp (maxSteps := 10000000) (disch := first | assumption | omega) only [go_sem, ↓reduceIte, Nat.reduceEqDiff, reduceCtorEq, Nat.reduceAdd, Nat.reduceMul, Nat.reduceLeDiff, zc, Int.reduceToNat, s0, s1, ti2, ti3, ti4, eq_true hw0]
  exact Yac
 ·have e : resP w = .tup [i64 w, i64 0] := by unfold resP; rw [if_neg hw0, if_neg hw0]
  rw [e]
  simp (maxSteps := 10000000) (disch := first | assumption | omega) only [go_sem, ↓reduceIte, Nat.reduceEqDiff, reduceCtorEq, Nat.reduceAdd, Nat.reduceMul, Nat.reduceLeDiff, zc, Int.reduceToNat, s0, s1, ti2, ti3, ti4, eq_false hw0]
  exact Yac
end
end Go.Proofs.YtcleikmfomddhaaGreat
/- Places of rings: the law. -/
namespace Go.Proofs.YtcleikmfomddhaaGreat
open Go.RowKit
set_option maxRecDepth 1000000
theorem pl_both {T : List (List (List Int))} (hz : SzP T) (m : Int) : ∃ u v : Int, CallOK Tryz.prog 5 [.agg [immLLL T], i64 m] (.tup [i64 u, i64 v]) ∧ CallOK Tryz.prog 7 [.agg [immLLL T], i64 m] (.tup [i64 u, i64 v]) := by
 have ha := isLLL_imm T
 by_cases h : RingP T
 ·by_cases h2 : (1 ≤ (T.length : Int) ∧ (T.length : Int) ≤ 3) ∧ 0 ≤ m ∧ m ≤ 4
  ·obtain ⟨b, rfl⟩ : ∃ b : Nat, m = b := ⟨m.toNat, by omega⟩
   have h1 : 1 ≤ T.length := by omega
   have h3 : T.length ≤ 3 := by omega
   have h4 : b ≤ 4 := by omega
   obtain ⟨w, hw⟩ := PxP_ex ((tabsS T.length b).map fun F => cubeL F T.length) (cubeL (leastF (at3 T) T.length) T.length)
   have hw2 := hw
   rw [plainLaw h1 h3] at hw2
   exact ⟨_, _, cPlS3 ha h h3 h4 hw, cPlI3 ha h h3 h4 hw2⟩
  ·exact ⟨0, 2, cPlS2 ha h h2, cPlI2 ha h h2⟩
 ·exact ⟨0, 1, cPlS1 ha h, cPlI1 ha hz h⟩
theorem cLaw21 {a : AV} {T : List (List (List Int))} {m : Int} (ha : isLLLw a T) (hx : T.length < 2^63) (hr : ∀ i, (mat T i).length < 2^63) (hr2 : ∀ i j, (row (mat T i) j).length < 2^63) : CallOK Tryz.prog 3 [.agg [a], i64 m] (bo true) := by
 have cZ := cSzRC (left := 1048576) ha hx hr hr2 (by decide) (by decide)
 have hpa : pureA a = true := isLLLw_pure ha
 refine call_of (fn := Tryz.f3) (code := bodyOf Tryz.f3) Tryz.func3 rfl (by kernel_rfl) (rfl) ?_
 intro sl hs
 have s0 : sl 0 = .agg [a] := hs 0
 have s1 : sl 1 = i64 m := hs 1
 by_cases hz : szT T ((1048576 : Int) - T.length) T.length < 0
 ·have e : szV (szT T ((1048576 : Int) - T.length) T.length) = -1 := if_pos hz
  rw [e] at cZ
  dsimp only [Tryz.f3, bodyOf, Option.getD]
  simp (maxSteps := 10000000) (disch := first | assumption | omega) only [go_sem, ↓reduceIte, Nat.reduceEqDiff, reduceCtorEq, Nat.reduceAdd, Nat.reduceMul, Nat.reduceLeDiff, zc, Int.reduceToNat, s0, s1, tiRg, ti31]
  refine CLL_pure _ cZ (by simp only [pureL, pureA, hpa, Bool.and_self, Bool.and_true]) rfl rfl ?_
  refine Yab ?_
  exact Yac
 ·have e : szV (szT T ((1048576 : Int) - T.length) T.length) = szT T ((1048576 : Int) - T.length) T.length := if_neg hz
  rw [e] at cZ
  have hS := szP_of hz
  have cT := cToRC ha hS
  have cE := cEqRC hS
  have hn3 := nrL3 T
  obtain ⟨u, v, hL, hI⟩ := pl_both hS m
  dsimp only [Tryz.f3, bodyOf, Option.getD]
  simp (maxSteps := 10000000) (disch := first | assumption | omega) only [go_sem, ↓reduceIte, Nat.reduceEqDiff, reduceCtorEq, Nat.reduceAdd, Nat.reduceMul, Nat.reduceLeDiff, zc, Int.reduceToNat, s0, s1, tiRg, ti31, ti33]
  refine CLL_pure _ cZ (by simp only [pureL, pureA, hpa, Bool.and_self, Bool.and_true]) rfl rfl ?_
  simp (maxSteps := 10000000) (disch := first | assumption | omega) only [go_sem, ↓reduceIte, Nat.reduceEqDiff, reduceCtorEq, Nat.reduceAdd, Nat.reduceMul, Nat.reduceLeDiff, zc, Int.reduceToNat, s0, s1, eq_false hz]
  refine CLL_pure _ cT (by simp only [pureL, pureA, hpa, Bool.and_self, Bool.and_true]) rfl rfl ?_
  refine Ybp ?_
  refine CLL_q _ hL (.cons (exq_agg (.cons (exq_refLLL Ur rfl (by decide)) .nil)) (.cons (exq_sc _ _ _ (by decide)) .nil)) rfl rfl rfl ?_
  simp (maxSteps := 10000000) (disch := first | assumption | omega) only [go_sem, ↓reduceIte, Nat.reduceEqDiff, reduceCtorEq, Nat.reduceAdd, Nat.reduceMul, Nat.reduceLeDiff, zc, Int.reduceToNat, s0, s1, impE_tS, ti2]
  refine CLL_pure _ cT (by simp only [pureL, pureA, hpa, Bool.and_self, Bool.and_true]) rfl rfl ?_
  refine Ybp ?_
  refine CLL_q _ hI (.cons (exq_agg (.cons (exq_refLLL Ur rfl (by decide)) .nil)) (.cons (exq_sc _ _ _ (by decide)) .nil)) rfl rfl rfl ?_
  simp (maxSteps := 10000000) (disch := first | assumption | omega) only [go_sem, ↓reduceIte, Nat.reduceEqDiff, reduceCtorEq, Nat.reduceAdd, Nat.reduceMul, Nat.reduceLeDiff, zc, Int.reduceToNat, s0, s1, impE_tS, ti2]
  refine CLLD_pure _ cT (by simp only [pureL, pureA, hpa, Bool.and_self, Bool.and_true]) rfl ?_
  refine Ybp ?_
  refine CLLD_q _ cE (.cons (exq_agg (.cons (exq_refLLL Ur rfl (by decide)) .nil)) (.cons (exq_agg (.cons (exq_refLLL Ur rfl (by decide)) .nil)) .nil)) rfl rfl ?_
  simp (maxSteps := 10000000) (disch := first | assumption | omega) only [go_sem, ↓reduceIte, Nat.reduceEqDiff, reduceCtorEq, Nat.reduceAdd, Nat.reduceMul, Nat.reduceLeDiff, zc, Int.reduceToNat, s0, s1, hn3]
  refine FIN_of (by kernel_rfl) ?_
  refine Yab ?_
  exact Yac
end Go.Proofs.YtcleikmfomddhaaGreat
