/- Texts joined: Bs3 Bs4 Bs5. -/
import Derived.Test.YtmchdjiigfiabaaGreatPb
set_option linter.all false
/- All braid numbers of a cocycle (reference), by recursion in the caller's memory. -/
namespace Go.Proofs.YtmchdjiigfiabaaGreat
open Go.RowKit
set_option maxRecDepth 1000000
section
variable {O : List Int} {m : Nat} {F : Nat → Nat → Nat → Int} {c : AV}
def W23 : List Nat := [4096, 45088, 45120, 24608, 16416, 20544]
def outA (O : List Int) (m : Nat) (F : Nat → Nat → Nat → Int) (Ls : List (List Nat)) : AV := .row (Ls.map fun l => matA (bdS O m F (LI O.length l) (plS O)) (szO O) (szO O))
def ResA (O : List Int) (m : Nat) (F : Nat → Nat → Nat → Int) (gL : Nat) (L : List (List Nat)) (gn : Nat → Nat) (r : AV) (ro' : Ro) (gn' : Nat → Nat) : Prop := ∃ g, r = .ref 24608 g [] 0 L.length ∧ ro' 24608 g = some (outA O m F L) ∧ (g = gL ∨ gn 24608 < g) ∧ g ≤ gn' 24608
def AllS (O : List Int) (m : Nat) (F : Nat → Nat → Nat → Int) (c : AV) (d : Nat) : Prop := ∀ (ro : Ro) (gn : Nat → Nat) (x : List Nat) (Ls : List (List Nat)) (b : Bool) (sx gx gL : Nat), x.length + d = O.length * O.length → (∀ y, y ∈ x → y < m) → (b = true → Ls = []) → Ls.length + m ^ d ≤ 65536 →
  ro sx gx = some (rowL (zl x)) → ro 24608 gL = some (outA O m F Ls) → (sx = 24592 ∨ sx = 45088) → gx ≤ gn sx → gL ≤ gn 24608 →
  InS Tryz.prog 23 [.agg [immL O, i64 (m : Int), c], .ref sx gx [] 0 x.length, bo b, .ref 24608 gL [] 0 Ls.length] ro gn (fun r ro' gn' => Fru W23 24608 gL ro gn ro' gn' ∧ ResA O m F gL (rsF b Ls (flt O m F d x)) gn r ro' gn')
theorem nrf (xs : List Int) : noRefL (xs.map i64) = true := by
 induction xs with
 | nil => rfl
 | cons x xs ih => exact ih
set_option maxHeartbeats 4000000 in
theorem allBase (hW : CoP O m F (szO O)) (sm : SmO O) (hr : O.length ≤ 3) (hc : isLLL c (cubeL F (szO O))) : AllS O m F c 0 := by
 intro ro gn x Ls b sx gx gL hxl hxm hbL hB rx rL hsx gx1 gL1
 have hO := hW.s.g sm.l6
 have ho := isL_imm O
 have hxl' : x.length = O.length * O.length := by omega
 have hll : ((O.length : Nat) : Int) * O.length = ((O.length * O.length : Nat) : Int) := (Int.natCast_mul _ _).symm
 have hxe : ((x.length : Nat) : Int) = ((O.length * O.length : Nat) : Int) := by omega
 have hrr : O.length * O.length ≤ 9 := Nat.mul_le_mul hr hr
 have hPL := PL_S (m := m) (F := F) sm hxl'
 have hzl : (zl x).length = x.length := List.length_map _
 have qx : ∀ S, S ≠ 24592 → S ≠ 45088 → (sx = S) = False := fun S h1 h2 => eq_false fun e => by omega
 have qx' : ∀ S, S ≠ 24592 → S ≠ 45088 → (S = sx) = False := fun S h1 h2 => eq_false fun e => by omega
 obtain ⟨tB, htB⟩ : ∃ t : Bool, t = true ↔ BrP O m F (szO O) (bdS O m F (LI O.length x) (plS O)) (szO O) (szO O) := ⟨@decide _ (Classical.propDecidable _), @decide_eq_true_iff _ (Classical.propDecidable _)⟩
 have cb := cBldS (a := immL (zl x)) hW sm hr hc (isL_imm _) hxl' hxm htB
 refine in_ofS (fn := Tryz.f23) (code := bodyOf Tryz.f23) Tryz.func23 rfl (by kernel_rfl) ?_
 intro sl hs
 have s0 : sl 0 = .agg [immL O, i64 (m : Int), c] := hs 0
 have s1 : sl 1 = .ref sx gx [] 0 x.length := hs 1
 have s2 : sl 2 = bo b := hs 2
 have s3 : sl 3 = .ref 24608 gL [] 0 Ls.length := hs 3
 dsimp only [Tryz.f23, bodyOf, Option.getD]
 simp (maxSteps := 10000000) (disch := first | assumption | omega) only [go_sem, ↓reduceIte, Nat.reduceEqDiff, reduceCtorEq, Nat.reduceAdd, Nat.reduceMul, Nat.reduceLeDiff, zc, Int.reduceToNat, s0, s1, s2, s3, tiC, rx, rL, hll, eq_true hxe, qx]
 refine CLL_q _ cb (.cons (exq_agg (.cons (exq_L (isL_imm O) (by decide)) (.cons (exq_sc _ _ _ (by decide)) (.cons (exq_LLL hc (by decide)) .nil)))) (.cons (exq_refL (xs := zl x) (by simp (disch := omega) only [↓za, ↓reduceIte, Nat.reduceEqDiff, zb, reduceCtorEq, qx]; exact rx) hzl.symm (by decide)) .nil)) rfl rfl (noI_tmat _ _ _) ?_
 simp (maxSteps := 10000000) (disch := first | assumption | omega) only [go_sem, ↓reduceIte, Nat.reduceEqDiff, reduceCtorEq, Nat.reduceAdd, Nat.reduceMul, Nat.reduceLeDiff, zc, Int.reduceToNat, s0, s1, s2, s3, zfe]
 have eR : rsF b Ls [] = Ls := by
  unfold rsF
  cases b with
  | true => rw [hbL rfl]; rfl
  | false => simp
 have eA : tsP O m F x = true → rsF b Ls [x] = Ls ++ [x] := fun _ => by
  unfold rsF
  cases b with
  | true => rw [hbL rfl]; rfl
  | false => rfl
 rw [flt_zero]
 cases tB with
 | false =>
  have hn : ¬ tsP O m F x = true := fun h => by have := htB.2 (hPL.1 (tsP_iff.1 h)).1; cases this
  rw [if_neg hn, eR]
  simp (maxSteps := 10000000) (disch := first | assumption | omega) only [go_sem, ↓reduceIte, Nat.reduceEqDiff, reduceCtorEq, Nat.reduceAdd, Nat.reduceMul, Nat.reduceLeDiff, zc, Int.reduceToNat, s0, s1, s2, s3]
  refine RETS_1 (.ref 24608 gL [] 0 Ls.length) Ur ⟨?_, gL, rfl, ?_, .inl rfl, ?_⟩
  ·exact (by (repeat' first | assumption | exact Fru.refl _ _ _ _ _ | refine Fru.al ?_ _ _ _ (by decide) rfl | refine Fru.wr ?_ _ _ _ (by decide) (by omega)))
  ·refine Yax ?_
   exact rL
  ·refine Yax ?_
   exact gL1
 | true =>
  have cl := cLead (c := c) (M := m) (v := immLL (matL (bdS O m F (LI O.length x) (plS O)) (szO O) (szO O))) hc hO sm (isLL_imm _)
  obtain ⟨tS, htS⟩ : ∃ t : Bool, t = true ↔ rws (ldF O (bdS O m F (LI O.length x) (plS O))) (O.length * O.length) = zl x := ⟨@decide _ (Classical.propDecidable _), @decide_eq_true_iff _ (Classical.propDecidable _)⟩
  have cs := cSame (o := immL (rws (ldF O (bdS O m F (LI O.length x) (plS O))) (O.length * O.length))) (o' := immL (zl x)) (isL_imm _) (isL_imm _) (by rw [zfe]; unfold maxN; omega) (by rw [hzl]; unfold maxN; omega) htS
  simp (maxSteps := 10000000) (disch := first | assumption | omega) only [go_sem, ↓reduceIte, Nat.reduceEqDiff, reduceCtorEq, Nat.reduceAdd, Nat.reduceMul, Nat.reduceLeDiff, zc, Int.reduceToNat, s0, s1, s2, s3, tiC]
  refine CLL_q _ cl (.cons (exq_agg (.cons (exq_L (isL_imm O) (by decide)) (.cons (exq_sc _ _ _ (by decide)) (.cons (exq_LLL hc (by decide)) .nil)))) (.cons (exq_mat (f := bdS O m F (LI O.length x) (plS O)) (m := szO O) Ur (by decide)) .nil)) rfl rfl (noI_rowL _) ?_
  simp (maxSteps := 10000000) (disch := first | assumption | omega) only [go_sem, ↓reduceIte, Nat.reduceEqDiff, reduceCtorEq, Nat.reduceAdd, Nat.reduceMul, Nat.reduceLeDiff, zc, Int.reduceToNat, s0, s1, s2, s3, impE_row, List.length_map, zfe, s1]
  refine CLL_q _ cs (.cons (exq_refL (xs := rws (ldF O (bdS O m F (LI O.length x) (plS O))) (O.length * O.length)) Ur (zfe _ _).symm (by decide)) (.cons (exq_refL (xs := zl x) (by simp (disch := omega) only [↓za, ↓reduceIte, Nat.reduceEqDiff, zb, reduceCtorEq, qx]; exact rx) hzl.symm (by decide)) .nil)) rfl rfl rfl ?_
  cases tS with
  | false =>
   have hn : ¬ tsP O m F x = true := fun h => by have := htS.2 (hPL.1 (tsP_iff.1 h)).2; cases this
   rw [if_neg hn, eR]
   simp (maxSteps := 10000000) (disch := first | assumption | omega) only [go_sem, ↓reduceIte, Nat.reduceEqDiff, reduceCtorEq, Nat.reduceAdd, Nat.reduceMul, Nat.reduceLeDiff, zc, Int.reduceToNat, s0, s1, s2, s3]
   refine RETS_1 (.ref 24608 gL [] 0 Ls.length) Ur ⟨?_, gL, rfl, ?_, .inl rfl, ?_⟩
   ·exact (by (repeat' first | assumption | exact Fru.refl _ _ _ _ _ | refine Fru.al ?_ _ _ _ (by decide) rfl | refine Fru.wr ?_ _ _ _ (by decide) (by omega)))
   ·refine Yax ?_
    exact rL
   ·refine Yax ?_
    exact gL1
  | true =>
   have hp : tsP O m F x = true := tsP_iff.2 (hPL.2 ⟨htB.1 rfl, htS.1 rfl⟩)
   rw [if_pos hp, eA hp]
   have hL1 : Ls.length + 1 ≤ 4294967296 := by omega
   have hLt : (Ls.map fun l => matA (bdS O m F (LI O.length l) (plS O)) (szO O) (szO O)).take Ls.length = Ls.map fun l => matA (bdS O m F (LI O.length l) (plS O)) (szO O) (szO O) := List.take_of_length_le (by rw [List.length_map]; exact Nat.le_refl _)
   unfold outA at rL
   have hgl : ¬ gL = gn 24608 + 1 := by omega
   simp (maxSteps := 10000000) (disch := first | assumption | omega) only [go_sem, ↓reduceIte, Nat.reduceEqDiff, reduceCtorEq, Nat.reduceAdd, Nat.reduceMul, Nat.reduceLeDiff, zc, Int.reduceToNat, s0, s1, s2, s3, hgl, rL, List.length_map, hL1, hLt, zfe]
   refine RETS_1 (.ref 24608 (gn 24608 + 1 + 1) [] 0 (Ls.length + 1)) Ur ⟨?_, gn 24608 + 1 + 1, by rw [List.length_append]; rfl, ?_, .inr (by omega), ?_⟩
   ·exact (by (repeat' first | assumption | exact Fru.refl _ _ _ _ _ | refine Fru.al ?_ _ _ _ (by decide) rfl | refine Fru.wr ?_ _ _ _ (by decide) (by omega)))
   ·refine Yax ?_
    unfold outA
    rw [List.map_append]
    rfl
   ·refine Yax ?_
    exact Nat.le_refl _
set_option maxHeartbeats 8000000 in
theorem allStep (hW : CoP O m F (szO O)) (sm : SmO O) (hr : O.length ≤ 3) (hc : isLLL c (cubeL F (szO O))) {d : Nat} (ih : AllS O m F c d) : AllS O m F c (d + 1) := by
 intro ro0 gn0 x Ls b sx gx gL hxl hxm hbL hB rx rL hsx gx1 gL1
 have hO := hW.s.g sm.l6
 have ho := isL_imm O
 have hm := hW.s.m
 have hll : ((O.length : Nat) : Int) * O.length = ((O.length * O.length : Nat) : Int) := (Int.natCast_mul _ _).symm
 have hxe : ¬ ((x.length : Nat) : Int) = ((O.length * O.length : Nat) : Int) := by omega
 have hrr : O.length * O.length ≤ 9 := Nat.mul_le_mul hr hr
 have hzl : (zl x).length = x.length := List.length_map _
 have qx : ∀ S, S ≠ 24592 → S ≠ 45088 → (sx = S) = False := fun S h1 h2 => eq_false fun e => by omega
 have qx' : ∀ S, S ≠ 24592 → S ≠ 45088 → (S = sx) = False := fun S h1 h2 => eq_false fun e => by omega
 rw [flt_succ (by omega)]
 have hpm : 0 < m ^ d := Nat.pow_pos (by omega)
 rw [Nat.pow_succ] at hB
 refine in_ofS (fn := Tryz.f23) (code := bodyOf Tryz.f23) Tryz.func23 rfl (by kernel_rfl) ?_
 intro sl hs
 have s0 : sl 0 = .agg [immL O, i64 (m : Int), c] := hs 0
 have s1 : sl 1 = .ref sx gx [] 0 x.length := hs 1
 have s2 : sl 2 = bo b := hs 2
 have s3 : sl 3 = .ref 24608 gL [] 0 Ls.length := hs 3
 dsimp only [Tryz.f23, bodyOf, Option.getD]
 simp (maxSteps := 10000000) (disch := first | assumption | omega) only [go_sem, ↓reduceIte, Nat.reduceEqDiff, reduceCtorEq, Nat.reduceAdd, Nat.reduceMul, Nat.reduceLeDiff, zc, Int.reduceToNat, s0, s1, s2, s3, tiC, rx, rL, hll, eq_false hxe, qx]
 have eR : rsF b Ls [] = Ls := by
  unfold rsF
  cases b with
  | true => rw [hbL rfl]; rfl
  | false => simp
 obtain ⟨g4, hg4⟩ : ∃ g, g = gn0 4096 + 1 := ⟨_, rfl⟩
 rw [← hg4]
 refine WK_for (fun i st => st.sl 1 = .ref sx gx [] 0 x.length ∧ st.sl 2 = bo b ∧ st.sl 4 = .ptr 4096 g4 [] 0 ∧ st.ro 4096 g4 = some (.bx [immL O, i64 (m : Int), c]) ∧ st.sl 12 = i64 (i : Int) ∧ (g4 ≤ st.gn 4096) ∧ (Fru W23 24608 gL ro0 gn0 st.ro st.gn) ∧ (ResA O m F gL (rsF b Ls (fpr O m F d x i)) gn0 (st.sl 3) st.ro st.gn)) m ?_ ?_ ?_
 ·simp only [↓za, ↓reduceIte, Nat.reduceEqDiff, zb, reduceCtorEq, rws_zero, s0, s1, s2, s3]
  refine ⟨rfl, by first | exact Nat.le_refl _ | (rw [hg4]; exact Nat.le_refl _), by rw [hg4]; exact (by (repeat' first | assumption | exact Fru.refl _ _ _ _ _ | refine Fru.al ?_ _ _ _ (by decide) rfl | refine Fru.wr ?_ _ _ _ (by decide) (by omega))), gL, ?_, ?_, .inl rfl, ?_⟩
  ·have e : fpr O m F d x 0 = [] := rfl
   rw [e, eR]
  ·have e : fpr O m F d x 0 = [] := rfl
   rw [e, eR]
   refine Yax ?_
   exact rL
  ·refine Yax ?_
   exact gL1
 ·rintro i sl ro gn hi ⟨s1, s2, s4, r4096, s12, g4l, fr, rs⟩
  dsimp only at s1 s2 s4 r4096 s12
  have hi' : (i : Int) < (m : Nat) := by omega
  dsimp only at g4l fr rs
  obtain ⟨g3, h3, hL3, hg3, hg3'⟩ := rs
  have hst := rsF_step (O := O) (F := F) (m := m) (b := b) (d := d) (x := x) (Ls := Ls) (i := i)
  have hsp := rsF_stop (O := O) (F := F) (m := m) (d := d) (x := x) (Ls := Ls) (i := i) (by omega)
  have hLi : (rsF b Ls (fpr O m F d x i)).length ≤ Ls.length + i * m ^ d := by
   have := fpr_le (O := O) (F := F) (m := m) d x i
   unfold rsF
   split
   ·rw [List.length_take]; omega
   ·rw [List.length_append]; omega
  have him : i * m ^ d + m ^ d ≤ m ^ d * m := by
   have := Nat.mul_le_mul_left (m ^ d) (show i + 1 ≤ m from hi)
   rw [Nat.mul_succ, Nat.mul_comm (m ^ d) i] at this
   exact this
  have rx' : ro sx gx = some (rowL (zl x)) := (fr.kp sx gx gx1 (by omega)).trans rx
  unfold outA at hL3
  have hmx : (zl x).length ≤ maxN := by rw [hzl]; unfold maxN; omega
  have hx1 : x.length + 1 ≤ 4294967296 := by omega
  have hzt : (((zl x).map i64).take x.length) = (zl x).map i64 := List.take_of_length_le (by rw [List.length_map, hzl]; exact Nat.le_refl _)
  have hsh : shO (blkO (ro sx gx)) = true := by
   rw [rx']
   exact nrf (zl x)
  obtain ⟨LL, hLL⟩ : ∃ LL, LL = rsF b Ls (fpr O m F d x i) := ⟨_, rfl⟩
  rw [← hLL] at h3 hL3 hst hLi
  have hxm' : ∀ y, y ∈ x ++ [i] → y < m := fun y hy => by
   rcases List.mem_append.1 hy with h | h
   ·exact hxm y h
   ·rw [List.mem_singleton.1 h]; exact hi
  have hzs : (zl x).map i64 ++ [i64 (i : Int)] = (zl (x ++ [i])).map i64 := by
   unfold zl
   rw [List.map_append, List.map_append]
   rfl
  have u1 := fr.up 45088
  have u2 := fr.up 24608
  have u3 := fr.up 4096
  cases b with
  | true =>
   by_cases h0 : LL = []
   ·have hgo : true = true → LL = [] := fun _ => h0
    have hst := hst hgo
    have hlen : ((LL.length : Nat) : Int) = 0 := by rw [h0]; rfl
    simp (maxSteps := 10000000) (disch := first | assumption | omega) only [go_sem, ↓reduceIte, Nat.reduceEqDiff, reduceCtorEq, Nat.reduceAdd, Nat.reduceMul, Nat.reduceLeDiff, zc, Int.reduceToNat, s1, s2, s4, r4096, s12, hi', hi, h3, hL3, List.length_map, hlen]
    refine CLLD_q _ (cOwn (isL_imm (zl x)) hmx) (.cons (exq_refL (xs := zl x) rx' hzl.symm (by decide)) .nil) rfl (noI_rowL _) ?_
    simp (maxSteps := 10000000) (disch := first | assumption | omega) only [go_sem, ↓reduceIte, Nat.reduceEqDiff, reduceCtorEq, Nat.reduceAdd, Nat.reduceMul, Nat.reduceLeDiff, zc, Int.reduceToNat, s1, s2, s4, r4096, s12, hi', hi, List.length_map, hx1, hzt, hsh, h3]
    refine CLLD_inS [⟨some [4096], []⟩, e0, ⟨some [sx], [45088]⟩, e0, ⟨some [], [45120]⟩, ⟨some [45088, 45120], [45088, 45088]⟩, e0, e0, ⟨some [], W23⟩, e0] (inX_fru (W := W23) (t := 24608) (u := g3) (R := []) (Res := fun gn r ro' gn' => ResA O m F g3 (rsF true LL (flt O m F d (x ++ [i]))) gn r ro' gn') (fun ro1 gn1 q1 q2 => ?_) (fun gn r ro' gn' ro2 gn1 gn2 hh hr => ?_) (by kernel_rfl) (aftB_ok (by kernel_rfl))) rfl ?_ rfl (by rcases hsx with e | e <;> rw [e] <;> kernel_rfl) rfl
    ·have I := ih ro1 gn1 (x ++ [i]) LL true 45088 (gn 45088 + 1 + 1) g3 (by rw [List.length_append, List.length_singleton]; omega) hxm' hgo (by omega) (by rw [q1 45088 (.inr (by decide))]; simp only [↓za, ↓reduceIte, Nat.reduceEqDiff, zb, reduceCtorEq]; exact congrArg (fun z => some (AV.row z)) hzs) (by rw [q1 24608 (.inr (by decide))]; simp only [↓za, ↓reduceIte, Nat.reduceEqDiff, zb, reduceCtorEq]; exact hL3) (.inr rfl) (by rw [q2 45088 (by decide)]; simp only [↓za, ↓reduceIte, Nat.reduceEqDiff, zb, reduceCtorEq]; exact Nat.le_refl _) (by rw [q2 24608 (by decide)]; simp only [↓za, ↓reduceIte, Nat.reduceEqDiff, zb, reduceCtorEq]; exact hg3')
     rw [List.length_append, List.length_singleton] at I
     exact I
    ·obtain ⟨g, k1, k2, k3, k4⟩ := hr
     obtain ⟨l1, l2, l3⟩ := hh 24608 (by decide)
     exact ⟨g, k1, by rw [l1]; exact k2, by rw [l2]; exact k3, by rw [l3]; exact k4⟩
    ·rintro r ro' gn' ⟨fr', g', rfl, hL', hg', hg2⟩
     simp only [↓za, ↓reduceIte, Nat.reduceEqDiff, zb, reduceCtorEq] at hg'
     have k4 := (fr'.kp 4096 g4 (Ue g4l) (by omega)).trans (Ue r4096)
     have frM := Fru.trans (t := 24608) (u := gL) (ro := ro0) (gn := gn0) (by (repeat' first | assumption | exact Fru.refl _ _ _ _ _ | refine Fru.al ?_ _ _ _ (by decide) rfl | refine Fru.wr ?_ _ _ _ (by decide) (by omega))) fr' (by omega)
     simp (maxSteps := 10000000) (disch := first | assumption | omega) only [go_sem, ↓reduceIte, Nat.reduceEqDiff, reduceCtorEq, Nat.reduceAdd, Nat.reduceMul, Nat.reduceLeDiff, zc, Int.reduceToNat, s1, s2, s4, r4096, s12, hi', hi]
     refine FING_of rfl ?_
     simp (maxSteps := 10000000) (disch := first | assumption | omega) only [go_sem, ↓reduceIte, Nat.reduceEqDiff, reduceCtorEq, Nat.reduceAdd, Nat.reduceMul, Nat.reduceLeDiff, zc, Int.reduceToNat, s1, s2, s4, r4096, s12, hi', hi, k4]
     rw [hst] at hL' ⊢
     exact ⟨i64c (by omega), Nat.le_trans g4l (by have := fr'.up 4096; simp only [↓za, ↓reduceIte, Nat.reduceEqDiff, zb, reduceCtorEq] at this; exact this), frM, g', rfl, hL', by omega, hg2⟩
   ·have hlen : ¬ ((LL.length : Nat) : Int) = 0 := by
     have := List.length_pos_iff.2 h0
     omega
    rw [hsp (by rw [← hLL]; exact h0), ← hLL]
    simp (maxSteps := 10000000) (disch := first | assumption | omega) only [go_sem, ↓reduceIte, Nat.reduceEqDiff, reduceCtorEq, Nat.reduceAdd, Nat.reduceMul, Nat.reduceLeDiff, zc, Int.reduceToNat, s1, s2, s4, r4096, s12, hi', hi, h3, hL3, List.length_map, hlen]
    exact RETS_1 (.ref 24608 g3 [] 0 LL.length) Ur ⟨fr, g3, rfl, hL3, hg3, hg3'⟩
  | false =>
   have hgo : false = true → LL = [] := fun h => by cases h
   have hst := hst hgo
   simp (maxSteps := 10000000) (disch := first | assumption | omega) only [go_sem, ↓reduceIte, Nat.reduceEqDiff, reduceCtorEq, Nat.reduceAdd, Nat.reduceMul, Nat.reduceLeDiff, zc, Int.reduceToNat, s1, s2, s4, r4096, s12, hi', hi, h3, hL3, List.length_map]
   refine CLLD_q _ (cOwn (isL_imm (zl x)) hmx) (.cons (exq_refL (xs := zl x) rx' hzl.symm (by decide)) .nil) rfl (noI_rowL _) ?_
   simp (maxSteps := 10000000) (disch := first | assumption | omega) only [go_sem, ↓reduceIte, Nat.reduceEqDiff, reduceCtorEq, Nat.reduceAdd, Nat.reduceMul, Nat.reduceLeDiff, zc, Int.reduceToNat, s1, s2, s4, r4096, s12, hi', hi, List.length_map, hx1, hzt, hsh, h3]
   refine CLLD_inS [⟨some [4096], []⟩, e0, ⟨some [sx], [45088]⟩, e0, ⟨some [], [45120]⟩, ⟨some [45088, 45120], [45088, 45088]⟩, e0, e0, ⟨some [], W23⟩, e0] (inX_fru (W := W23) (t := 24608) (u := g3) (R := []) (Res := fun gn r ro' gn' => ResA O m F g3 (rsF false LL (flt O m F d (x ++ [i]))) gn r ro' gn') (fun ro1 gn1 q1 q2 => ?_) (fun gn r ro' gn' ro2 gn1 gn2 hh hr => ?_) (by kernel_rfl) (aftB_ok (by kernel_rfl))) rfl ?_ rfl (by rcases hsx with e | e <;> rw [e] <;> kernel_rfl) rfl
   ·have I := ih ro1 gn1 (x ++ [i]) LL false 45088 (gn 45088 + 1 + 1) g3 (by rw [List.length_append, List.length_singleton]; omega) hxm' hgo (by omega) (by rw [q1 45088 (.inr (by decide))]; simp only [↓za, ↓reduceIte, Nat.reduceEqDiff, zb, reduceCtorEq]; exact congrArg (fun z => some (AV.row z)) hzs) (by rw [q1 24608 (.inr (by decide))]; simp only [↓za, ↓reduceIte, Nat.reduceEqDiff, zb, reduceCtorEq]; exact hL3) (.inr rfl) (by rw [q2 45088 (by decide)]; simp only [↓za, ↓reduceIte, Nat.reduceEqDiff, zb, reduceCtorEq]; exact Nat.le_refl _) (by rw [q2 24608 (by decide)]; simp only [↓za, ↓reduceIte, Nat.reduceEqDiff, zb, reduceCtorEq]; exact hg3')
    rw [List.length_append, List.length_singleton] at I
    exact I
   ·obtain ⟨g, k1, k2, k3, k4⟩ := hr
    obtain ⟨l1, l2, l3⟩ := hh 24608 (by decide)
    exact ⟨g, k1, by rw [l1]; exact k2, by rw [l2]; exact k3, by rw [l3]; exact k4⟩
   ·rintro r ro' gn' ⟨fr', g', rfl, hL', hg', hg2⟩
    simp only [↓za, ↓reduceIte, Nat.reduceEqDiff, zb, reduceCtorEq] at hg'
    have k4 := (fr'.kp 4096 g4 (Ue g4l) (by omega)).trans (Ue r4096)
    have frM := Fru.trans (t := 24608) (u := gL) (ro := ro0) (gn := gn0) (by (repeat' first | assumption | exact Fru.refl _ _ _ _ _ | refine Fru.al ?_ _ _ _ (by decide) rfl | refine Fru.wr ?_ _ _ _ (by decide) (by omega))) fr' (by omega)
    simp (maxSteps := 10000000) (disch := first | assumption | omega) only [go_sem, ↓reduceIte, Nat.reduceEqDiff, reduceCtorEq, Nat.reduceAdd, Nat.reduceMul, Nat.reduceLeDiff, zc, Int.reduceToNat, s1, s2, s4, r4096, s12, hi', hi]
    refine FING_of rfl ?_
    simp (maxSteps := 10000000) (disch := first | assumption | omega) only [go_sem, ↓reduceIte, Nat.reduceEqDiff, reduceCtorEq, Nat.reduceAdd, Nat.reduceMul, Nat.reduceLeDiff, zc, Int.reduceToNat, s1, s2, s4, r4096, s12, hi', hi, k4]
    rw [hst] at hL' ⊢
    exact ⟨i64c (by omega), Nat.le_trans g4l (by have := fr'.up 4096; simp only [↓za, ↓reduceIte, Nat.reduceEqDiff, zb, reduceCtorEq] at this; exact this), frM, g', rfl, hL', by omega, hg2⟩
 ·rintro sl ro gn ⟨s1, s2, s4, r4096, s12, g4l, fr, rs⟩
  dsimp only at s1 s2 s4 r4096 s12
  have hi' : ¬ ((m : Nat) : Int) < (m : Nat) := by omega
  dsimp only at g4l fr rs
  obtain ⟨g3, h3, hL3, hg3, hg3'⟩ := rs
  simp (maxSteps := 10000000) (disch := first | assumption | omega) only [go_sem, ↓reduceIte, Nat.reduceEqDiff, reduceCtorEq, Nat.reduceAdd, Nat.reduceMul, Nat.reduceLeDiff, zc, Int.reduceToNat, s1, s2, s4, r4096, s12, hi', undef, h3]
  exact RETS_1 (.ref 24608 g3 [] 0 (rsF b Ls (fpr O m F d x m)).length) (by first | (simp only [↓za, ↓reduceIte, Nat.reduceEqDiff, zb, reduceCtorEq]; done) | (simp only [↓za, ↓reduceIte, Nat.reduceEqDiff, zb, reduceCtorEq]; exact h3)) ⟨fr, g3, rfl, hL3, hg3, hg3'⟩
theorem allA (hW : CoP O m F (szO O)) (sm : SmO O) (hr : O.length ≤ 3) (hc : isLLL c (cubeL F (szO O))) : ∀ d, AllS O m F c d
 | 0 => allBase hW sm hr hc
 | d + 1 => allStep hW sm hr hc (allA hW sm hr hc d)
end
end Go.Proofs.YtmchdjiigfiabaaGreat
/- Counting braidings, the first one (reference). -/
namespace Go.Proofs.YtmchdjiigfiabaaGreat
open Go.RowKit
set_option maxRecDepth 1000000
section
variable {O : List Int} {m n : Nat} {F : Nat → Nat → Nat → Int} {o c : AV}
theorem CoP.sz {M : Int} (h : CoP O M F n) : n = szO O := by
 have := h.s.e
 unfold szO
 omega
def Mny (O : List Int) (m : Nat) : Prop := 3 < O.length ∨ 20000 < m ^ (O.length * O.length)
instance (O : List Int) (m : Nat) : Decidable (Mny O m) := by unfold Mny; exact inferInstance
set_option maxHeartbeats 4000000 in
theorem cCntS {M : Int} (ho : isL o O) (hO : O.length ≤ 6) (hc : isLLL c (cubeL F n)) (h16 : n ≤ 16) (hM : -1048576 ≤ M ∧ M ≤ 1048576) {N e : Int} (h1 : ¬ CoP O M F n → N = 0 ∧ e = 1) (h3 : ∀ m : Nat, M = m → CoP O M F n → Mny O m → N = 0 ∧ e = 3)
  (h0 : ∀ m : Nat, M = m → CoP O M F n → ¬ Mny O m → N = (flt O m F (O.length * O.length) []).length ∧ e = 0) : CallOK Tryz.prog 7 [.agg [o, i64 M, c]] (.tup [i64 N, i64 e]) := by
 by_cases hW : CoP O M F n
 ·have c1 := cIs17 (t := true) ho hO hc h16 hM (by simp [hW])
  obtain ⟨m, rfl⟩ := Int.eq_ofNat_of_zero_le (show 0 ≤ M by have := hW.s.m; omega)
  have hm := hW.s.m
  obtain rfl := isL_ne ho hW.s.o.1
  have hn := hW.sz
  by_cases hy : Mny O m
  ·have c2 := cMany (t := true) ho hc hO (m := m) (by omega) (by simp only [true_iff]; exact hy)
   obtain ⟨rfl, rfl⟩ := h3 m rfl hW hy
   refine call_of (fn := Tryz.f7) (code := bodyOf Tryz.f7) Tryz.func7 rfl (by kernel_rfl) (rfl) ?_
   intro sl hs
   have s0 : sl 0 = .agg [immL O, i64 (m : Int), c] := hs 0
   dsimp only [Tryz.f7, bodyOf, Option.getD]
   refine Yai ?_
   refine CLL_pure _ c1 PUt rfl rfl ?_
   refine Yai ?_
   refine CLL_pure _ c2 PUt rfl rfl ?_
   refine Yaa ?_
   exact Yad
  ·have c2 := cMany (t := false) ho hc hO (m := m) (by omega) (by simp only [Bool.false_eq_true, false_iff]; exact hy)
   obtain ⟨rfl, rfl⟩ := h0 m rfl hW hy
   subst hn
   have hr : O.length ≤ 3 := by unfold Mny at hy; omega
   have hp : m ^ (O.length * O.length) ≤ 20000 := by unfold Mny at hy; omega
   have h8 := hW.s.n8
   have sm := smO hW.s.o hr (by have := hW.s.e; omega)
   have A := allA hW sm hr hc (O.length * O.length)
   have hfl := flt_le (O := O) (F := F) (m := m) (O.length * O.length) []
   refine call_of (fn := Tryz.f7) (code := bodyOf Tryz.f7) Tryz.func7 rfl (by kernel_rfl) (rfl) ?_
   intro sl hs
   have s0 : sl 0 = .agg [immL O, i64 (m : Int), c] := hs 0
   dsimp only [Tryz.f7, bodyOf, Option.getD]
   refine Yai ?_
   refine CLL_pure _ c1 PUt rfl rfl ?_
   refine Yai ?_
   refine CLL_pure _ c2 PUt rfl rfl ?_
   refine Yai ?_
   refine CLL_inS rfl (A _ _ [] [] false 24592 1 1 (by simp) (fun y h => by cases h) (fun _ => rfl) (by simp; omega) (by simp only [↓za, ↓reduceIte, Nat.reduceEqDiff, zb, reduceCtorEq]; rfl) (by simp only [↓za, ↓reduceIte, Nat.reduceEqDiff, zb, reduceCtorEq]; rfl) (.inl rfl) Ur Ur) ?_
   rintro r ro' gn' ⟨fr, g, rfl, hL, hg, hg'⟩
   unfold outA at hL
   have e0 : rsF false [] (flt O m F (O.length * O.length) []) = flt O m F (O.length * O.length) [] := rfl
   rw [e0] at hL ⊢
   simp (maxSteps := 10000000) (disch := first | assumption | omega) only [go_sem, ↓reduceIte, Nat.reduceEqDiff, reduceCtorEq, Nat.reduceAdd, Nat.reduceMul, Nat.reduceLeDiff, zc, Int.reduceToNat, s0, hL]
   exact Yad
 ·have c1 := cIs17 (t := false) ho hO hc h16 hM (by simp [hW])
  obtain ⟨rfl, rfl⟩ := h1 hW
  refine call_of (fn := Tryz.f7) (code := bodyOf Tryz.f7) Tryz.func7 rfl (by kernel_rfl) (rfl) ?_
  intro sl hs
  have s0 : sl 0 = .agg [o, i64 M, c] := hs 0
  dsimp only [Tryz.f7, bodyOf, Option.getD]
  refine Yai ?_
  refine CLL_pure _ c1 PUt rfl rfl ?_
  refine Yaa ?_
  exact Yad
def RFs (O : List Int) (m n : Nat) (F : Nat → Nat → Nat → Int) (B : Nat → Nat → Int) (e : Int) (gb : Nat → Nat) (r : AV) (ro' : Ro) (gn' : Nat → Nat) : Prop :=
 (e ≠ 0 ∧ r = .tup [.agg [nilA, i64 0, nilA, nilA], i64 e]) ∨ (e = 0 ∧ ∃ uo up uq rest, r = .tup [.agg [.ref 36880 uo [] 0 O.length, i64 (m : Int), .ref 36881 up [] 0 n, .ref 24608 uq [0] 0 n], i64 0] ∧ (gb 36880 < uo ∧ uo ≤ gn' 36880) ∧ (gb 36881 < up ∧ up ≤ gn' 36881) ∧ (gb 24608 < uq ∧ uq ≤ gn' 24608) ∧ ro' 36880 uo = some (rowL O) ∧ ro' 36881 up = some (cubeA F n) ∧ ro' 24608 uq = some (.row (matA B n n :: rest)))
def W9 : List Nat := [4112, 24592, 36880, 36881, 4096, 45088, 45120, 24608, 16416, 20544]
end
end Go.Proofs.YtmchdjiigfiabaaGreat
/- The first braiding (reference), handed back whole. -/
namespace Go.Proofs.YtmchdjiigfiabaaGreat
open Go.RowKit
set_option maxRecDepth 1000000
section
variable {O : List Int} {m n : Nat} {F : Nat → Nat → Nat → Int} {o c : AV}
theorem cells_0 {ro : Ro} {s g : Nat} {cs rest : List AV} (h : ro s g = some (.row (.row cs :: rest))) : ro.cells s g [0] = some cs := by
 simp [Ro.cells, Ro.at, h, ath]
set_option maxHeartbeats 8000000 in
theorem cFstS {M : Int} (ho : isL o O) (hO : O.length ≤ 6) (hc : isLLL c (cubeL F n)) (h16 : n ≤ 16) (hM : -1048576 ≤ M ∧ M ≤ 1048576) {e : Int} {R : AV} (h1 : ¬ CoP O M F n → e = 1) (h3 : ∀ m : Nat, M = m → CoP O M F n → Mny O m → e = 3)
  (h0 : ∀ m : Nat, M = m → CoP O M F n → ¬ Mny O m → flt O m F (O.length * O.length) [] = [] → e = 4) (hR : e ≠ 0 → R = .agg [nilA, i64 0, nilA, nilA]) (h5 : ∀ m : Nat, M = m → CoP O M F n → ¬ Mny O m → ∀ l L, flt O m F (O.length * O.length) [] = l :: L → e = 0 ∧ R = .agg [rowL O, i64 (m : Int), cubeA F n, matA (bdS O m F (LI O.length l) (plS O)) n n]) :
  CallOK Tryz.prog 9 [.agg [o, i64 M, c]] (.tup [R, i64 e]) := by
 by_cases hW : CoP O M F n
 ·have c1 := cIs17 (t := true) ho hO hc h16 hM (by simp [hW])
  obtain ⟨m, rfl⟩ := Int.eq_ofNat_of_zero_le (show 0 ≤ M by have := hW.s.m; omega)
  have hm := hW.s.m
  obtain rfl := isL_ne ho hW.s.o.1
  have hn := hW.sz
  by_cases hy : Mny O m
  ·have c2 := cMany (t := true) ho hc hO (m := m) (by omega) (by simp only [true_iff]; exact hy)
   obtain rfl := h3 m rfl hW hy
   obtain rfl := hR (by decide)
   refine call_of (fn := Tryz.f9) (code := bodyOf Tryz.f9) Tryz.func9 rfl (by kernel_rfl) (rfl) ?_
   intro sl hs
   have s0 : sl 0 = .agg [immL O, i64 (m : Int), c] := hs 0
   dsimp only [Tryz.f9, bodyOf, Option.getD]
   refine Yah ?_
   refine CLL_pure _ c1 PUt rfl rfl ?_
   refine Yah ?_
   refine CLL_pure _ c2 PUt rfl rfl ?_
   refine Yah ?_
   exact Ybk
  ·have c2 := cMany (t := false) ho hc hO (m := m) (by omega) (by simp only [Bool.false_eq_true, false_iff]; exact hy)
   have k0 := h0 m rfl hW hy
   have k5 := h5 m rfl hW hy
   clear h0 h5 h1 h3
   subst hn
   have hr : O.length ≤ 3 := by unfold Mny at hy; omega
   have hp : m ^ (O.length * O.length) ≤ 20000 := by unfold Mny at hy; omega
   have h8 := hW.s.n8
   have sm := smO hW.s.o hr (by have := hW.s.e; omega)
   have A := allA hW sm hr hc (O.length * O.length)
   have hfl := flt_le (O := O) (F := F) (m := m) (O.length * O.length) []
   have co := cOwn18 (M := m) ho (by unfold maxN; omega) hc hW.s.pos h16
   have hnr : noRef (.tup [R, i64 e]) = true := by
    cases hf : flt O m F (O.length * O.length) [] with
    | nil => obtain rfl := hR (by rw [k0 hf]; decide); rfl
    | cons l L => obtain ⟨rfl, rfl⟩ := k5 l L hf; exact noRef_okB _ _ _ _ _
   refine call_of (fn := Tryz.f9) (code := bodyOf Tryz.f9) Tryz.func9 rfl (by kernel_rfl) (hnr) ?_
   intro sl hs
   have s0 : sl 0 = .agg [immL O, i64 (m : Int), c] := hs 0
   dsimp only [Tryz.f9, bodyOf, Option.getD]
   refine Yah ?_
   refine CLL_pure _ c1 PUt rfl rfl ?_
   refine Yah ?_
   refine CLL_pure _ c2 PUt rfl rfl ?_
   refine Yah ?_
   refine CLL_inS rfl (A _ _ [] [] true 24592 1 1 (by simp) (fun y h => by cases h) (fun _ => rfl) (by simp; omega) (by simp only [↓za, ↓reduceIte, Nat.reduceEqDiff, zb, reduceCtorEq]; rfl) (by simp only [↓za, ↓reduceIte, Nat.reduceEqDiff, zb, reduceCtorEq]; rfl) (.inl rfl) Ur Ur) ?_
   rintro r ro' gn' ⟨fr, g, rfl, hL, hg, hg'⟩
   have f12 := (fr.kp 4112 1 Ur (by omega)).trans (by simp only [↓za, ↓reduceIte, Nat.reduceEqDiff, zb, reduceCtorEq]; rfl)
   have f96 := (fr.kp 4096 1 Ur (by omega)).trans (by simp only [↓za, ↓reduceIte, Nat.reduceEqDiff, zb, reduceCtorEq]; rfl)
   unfold outA at hL
   have e0 : rsF true [] (flt O m F (O.length * O.length) []) = (flt O m F (O.length * O.length) []).take 1 := rfl
   rw [e0] at hL ⊢
   cases hf : flt O m F (O.length * O.length) [] with
   | nil =>
    obtain rfl := k0 hf
    obtain rfl := hR (by decide)
    rw [hf] at hL
    simp (maxSteps := 10000000) (disch := first | assumption | omega) only [go_sem, ↓reduceIte, Nat.reduceEqDiff, reduceCtorEq, Nat.reduceAdd, Nat.reduceMul, Nat.reduceLeDiff, zc, Int.reduceToNat, s0, tiD, f12, hL, List.length_nil, List.take_nil, List.map_nil]
    exact Ybk
   | cons l L =>
    obtain ⟨rfl, rfl⟩ := k5 l L hf
    rw [hf] at hL
    have hL' : ro' 24608 g = some (.row [matA (bdS O m F (LI O.length l) (plS O)) (szO O) (szO O)]) := hL
    have hcl := cells_0 (cs := rws (fun i => .row (rws (fun j => i64 (bdS O m F (LI O.length l) (plS O) i j)) (szO O))) (szO O)) hL'
    simp (maxSteps := 10000000) (disch := first | assumption | omega) only [go_sem, ↓reduceIte, Nat.reduceEqDiff, reduceCtorEq, Nat.reduceAdd, Nat.reduceMul, Nat.reduceLeDiff, zc, Int.reduceToNat, s0, tiC, f96, f12, hL]
    refine CLLD_pure _ co PUt rfl ?_
    simp (maxSteps := 10000000) (disch := first | assumption | omega) only [go_sem, ↓reduceIte, Nat.reduceEqDiff, reduceCtorEq, Nat.reduceAdd, Nat.reduceMul, Nat.reduceLeDiff, zc, Int.reduceToNat, s0, tiC, tiD, f96, f12, hL, zfe, List.length_map, kIdx_ref0]
    refine FIN_of (by kernel_rfl) ?_
    simp (maxSteps := 10000000) (disch := first | assumption | omega) only [go_sem, ↓reduceIte, Nat.reduceEqDiff, reduceCtorEq, Nat.reduceAdd, Nat.reduceMul, Nat.reduceLeDiff, zc, Int.reduceToNat, s0, tiC, tiD, f96, f12, hL, zfe, List.length_map, kIdx_ref0]
    simp only [zr, zb, retR, resL, outT, outL, zes, zez, oneV, zcp, zed, zfi, Ro.dl, St.ev, zhk, ↓za, ↓reduceIte, Nat.reduceEqDiff, Nat.reduceAdd, Nat.reduceLeDiff, tiD, hL', matA, zfe, Ro.cells, Ro.at, ath, blk, List.getElem?_cons_zero]
 ·have c1 := cIs17 (t := false) ho hO hc h16 hM (by simp [hW])
  obtain rfl := h1 hW
  obtain rfl := hR (by decide)
  refine call_of (fn := Tryz.f9) (code := bodyOf Tryz.f9) Tryz.func9 rfl (by kernel_rfl) (rfl) ?_
  intro sl hs
  have s0 : sl 0 = .agg [o, i64 M, c] := hs 0
  dsimp only [Tryz.f9, bodyOf, Option.getD]
  refine Yah ?_
  refine CLL_pure _ c1 PUt rfl rfl ?_
  refine Yah ?_
  exact Ybk
end
end Go.Proofs.YtmchdjiigfiabaaGreat
