/- Texts joined: R2 R3 R4 R5 R6 R0. -/
import Derived.ChangeOld
import Derived.Below
import Derived.Carry
import Derived.Deep.Slices
import Derived.ChangeSlices
import Derived.Lib.SmallJoins
import Derived.Test.YthpmddoakefbmaaGreatOa
import Derived.Test.YthpmddoakefbmaaGreatOl
set_option linter.all false
/- The law on braidings: sums. -/
namespace Go.Proofs.YthpmddoakefbmaaGreat
open Go.RowKit
set_option maxRecDepth 1000000
theorem addR_or (O : List Int) (M : Int) (F : Nat → Nat → Nat → Int) (n : Nat) (G : Nat → Nat → Int) (k l : Nat) (O' : List Int) (M' : Int) (F' : Nat → Nat → Nat → Int) (n' : Nat) (G' : Nat → Nat → Int) (k' l' : Nat) :
  (∃ e : Int, ¬ e = 0 ∧ addR O M F n G k l O' M' F' n' G' k' l' = noB e) ∨ (n ≤ 8 ∧ O.length ≤ O.length ∧ BrP O M (smF F F' M) n (sm2 G G' M) n n ∧ addR O M F n G k l O' M' F' n' G' k' l' = okB O M (smF F F' M) (sm2 G G' M) n) := by
 by_cases h : BrP O M F n G k l ∧ BrP O' M' F' n' G' k' l'
 ·by_cases h2 : O = O' ∧ M = M'
  ·right
   obtain ⟨h1, h3⟩ := h
   obtain ⟨rfl, rfl⟩ := h2
   obtain ⟨e1, e2⟩ := h1.s.sq
   obtain ⟨e3, e4⟩ := h3.s.sq
   have e5 : n' = n := by have := h1.s.w.s.e; have := h3.s.w.s.e; omega
   subst e5 e1 e2
   subst e3 e4
   exact ⟨h1.s.w.s.n8, Nat.le_refl _, br_add h1 h3, addR0 ⟨h1, h3⟩ ⟨rfl, rfl⟩⟩
  ·exact .inl ⟨2, by decide, addR2 h h2⟩
 ·exact .inl ⟨1, by decide, addR1 h⟩
section
variable {a : AV} {bs : List Int} {T : Code}
set_option maxHeartbeats 8000000 in
theorem seg2 (hc : Cod a bs) (hl : bs.length ≤ 4096) (hT : ∀ sl ro gn, sl 0 = a → WK XX T [] QL ⟨sl, ro, gn⟩) (sl : Nat → AV) (rb : Ro) (gb : Nat → Nat) (s0 : sl 0 = a) : WK XX (hdC 4 (tlC 7 (bodyOf Tryz.f3)) T) [] QL ⟨sl, rb, gb⟩ := by
 dsimp only [Tryz.f3, bodyOf, Option.getD, tlC, hdC]
 simp (maxSteps := 10000000) (disch := first | assumption | omega) only [go_sem, ↓reduceIte, Nat.reduceEqDiff, reduceCtorEq, Nat.reduceAdd, Nat.reduceMul, Nat.reduceLeDiff, zc, Int.reduceToNat, s0]
 refine CLL_inS rfl (sAdd hc hl) ?_
 rintro _ ro gn ⟨-, _, _, rfl, ⟨O, M, F, n, so, uo, sp, up, sq, uq, off, k, l, G, rfl, h1, h2, h3, g1, g2, g3, hO, hn, hM, hk, hl2⟩, ⟨O', M', F', n', so', uo', sp', up', sq', uq', off', k', l', G', rfl, h1', h2', h3', g1', g2', g3', hO', hn', hM', hk', hl2'⟩⟩
 have n1 : ∀ s, ¬ (so = s ∧ uo = gn s + 1) := by rintro _ ⟨rfl, rfl⟩; omega
 have n2 : ∀ s, ¬ (sp = s ∧ up = gn s + 1) := by rintro _ ⟨rfl, rfl⟩; omega
 have n3 : ∀ s, ¬ (sq = s ∧ uq = gn s + 1) := by rintro _ ⟨rfl, rfl⟩; omega
 have n1' : ∀ s, ¬ (so' = s ∧ uo' = gn s + 1) := by rintro _ ⟨rfl, rfl⟩; omega
 have n2' : ∀ s, ¬ (sp' = s ∧ up' = gn s + 1) := by rintro _ ⟨rfl, rfl⟩; omega
 have n3' : ∀ s, ¬ (sq' = s ∧ uq' = gn s + 1) := by rintro _ ⟨rfl, rfl⟩; omega
 have cI := cAddI2 (M := M) (M' := M') (isL_imm O) hO (isLLL_immC F n) (isLL_imm (matL (shG G off) k l)) (by omega) (by omega) (isL_imm O') hO' (isLLL_immC F' n') (isLL_imm (matL (shG G' off') k' l')) (by omega) (by omega)
 have cS := cAddS (M := M) (M' := M') (isL_imm O) hO (isLLL_immC F n) (isLL_imm (matL (shG G off) k l)) (by omega) (by omega) (isL_imm O') hO' (isLLL_immC F' n') (isLL_imm (matL (shG G' off') k' l')) (by omega) (by omega)
 rcases addR_or O M F n (shG G off) k l O' M' F' n' (shG G' off') k' l' with ⟨e, he, hr⟩ | ⟨hn2, -, hB, hr⟩
 ·rw [hr] at cI cS
  simp (maxSteps := 10000000) (disch := first | assumption | omega) only [go_sem, ↓reduceIte, Nat.reduceEqDiff, reduceCtorEq, Nat.reduceAdd, Nat.reduceMul, Nat.reduceLeDiff, zc, Int.reduceToNat, s0, n1, n2, n3, g1, g2, g3, n1', n2', n3', g1', g2', g3']
  refine CLL_q _ cI (.cons (exq_lv (by repeat (first | exact Kp.rf | refine Kp.wr ?_ (by omega))) h1 h2 h3 g1 g2 g3 (by decide)) (.cons (exq_lv (by repeat (first | exact Kp.rf | refine Kp.wr ?_ (by omega))) h1' h2' h3' g1' g2' g3' (by decide)) .nil)) rfl rfl rfl ?_
  simp (maxSteps := 10000000) (disch := first | assumption | omega) only [go_sem, ↓reduceIte, Nat.reduceEqDiff, reduceCtorEq, Nat.reduceAdd, Nat.reduceMul, Nat.reduceLeDiff, zc, Int.reduceToNat, s0, n1, n2, n3, g1, g2, g3, n1', n2', n3', g1', g2', g3']
  refine CLL_q _ cS (.cons (exq_lv (by repeat (first | exact Kp.rf | refine Kp.wr ?_ (by omega))) h1 h2 h3 g1 g2 g3 (by decide)) (.cons (exq_lv (by repeat (first | exact Kp.rf | refine Kp.wr ?_ (by omega))) h1' h2' h3' g1' g2' g3' (by decide)) .nil)) rfl rfl rfl ?_
  simp (maxSteps := 10000000) (disch := first | assumption | omega) only [go_sem, ↓reduceIte, Nat.reduceEqDiff, reduceCtorEq, Nat.reduceAdd, Nat.reduceMul, Nat.reduceLeDiff, zc, Int.reduceToNat, s0, n1, n2, n3, g1, g2, g3, n1', n2', n3', g1', g2', g3', eq_false he]
  refine CLL_pure _ cLikeN rfl rfl rfl ?_
  simp (maxSteps := 10000000) (disch := first | assumption | omega) only [go_sem, ↓reduceIte, Nat.reduceEqDiff, reduceCtorEq, Nat.reduceAdd, Nat.reduceMul, Nat.reduceLeDiff, zc, Int.reduceToNat, s0, n1, n2, n3, g1, g2, g3, n1', n2', n3', g1', g2', g3', eq_false he]
  exact hT _ _ _ (Ue s0)
 ·rw [hr] at cI cS
  have dI := cIsBI (M := M) (t := true) (isL_imm O) hO (isLLL_immC (smF F F' M) n) (isLL_imm (matL (sm2 (shG G off) (shG G' off') M) n n)) (by omega) (by omega) (by simp [hB])
  simp (maxSteps := 10000000) (disch := first | assumption | omega) only [go_sem, ↓reduceIte, Nat.reduceEqDiff, reduceCtorEq, Nat.reduceAdd, Nat.reduceMul, Nat.reduceLeDiff, zc, Int.reduceToNat, s0, n1, n2, n3, g1, g2, g3, n1', n2', n3', g1', g2', g3']
  refine CLL_q _ cI (.cons (exq_lv (by repeat (first | exact Kp.rf | refine Kp.wr ?_ (by omega))) h1 h2 h3 g1 g2 g3 (by decide)) (.cons (exq_lv (by repeat (first | exact Kp.rf | refine Kp.wr ?_ (by omega))) h1' h2' h3' g1' g2' g3' (by decide)) .nil)) rfl rfl (noI_okB _ _ _ _ _) ?_
  simp (maxSteps := 10000000) (disch := first | assumption | omega) only [go_sem, ↓reduceIte, Nat.reduceEqDiff, reduceCtorEq, Nat.reduceAdd, Nat.reduceMul, Nat.reduceLeDiff, zc, Int.reduceToNat, s0, n1, n2, n3, g1, g2, g3, n1', n2', n3', g1', g2', g3']
  refine CLL_q _ cS (.cons (exq_lv (by repeat (first | exact Kp.rf | refine Kp.wr ?_ (by omega))) h1 h2 h3 g1 g2 g3 (by decide)) (.cons (exq_lv (by repeat (first | exact Kp.rf | refine Kp.wr ?_ (by omega))) h1' h2' h3' g1' g2' g3' (by decide)) .nil)) rfl rfl (noI_okB _ _ _ _ _) ?_
  simp (maxSteps := 10000000) (disch := first | assumption | omega) only [go_sem, ↓reduceIte, Nat.reduceEqDiff, reduceCtorEq, Nat.reduceAdd, Nat.reduceMul, Nat.reduceLeDiff, zc, Int.reduceToNat, s0, n1, n2, n3, g1, g2, g3, n1', n2', n3', g1', g2', g3']
  refine CLL_q _ (cLikeK hO hn2) (.cons (exq_br0 Ur Ur Ur (by decide)) (.cons (exq_br0 Ur Ur Ur (by decide)) .nil)) rfl rfl rfl ?_
  simp (maxSteps := 10000000) (disch := first | assumption | omega) only [go_sem, ↓reduceIte, Nat.reduceEqDiff, reduceCtorEq, Nat.reduceAdd, Nat.reduceMul, Nat.reduceLeDiff, zc, Int.reduceToNat, s0, n1, n2, n3, g1, g2, g3, n1', n2', n3', g1', g2', g3']
  refine CLL_q _ dI (.cons (exq_br0 Ur Ur Ur (by decide)) .nil) rfl rfl rfl ?_
  simp (maxSteps := 10000000) (disch := first | assumption | omega) only [go_sem, ↓reduceIte, Nat.reduceEqDiff, reduceCtorEq, Nat.reduceAdd, Nat.reduceMul, Nat.reduceLeDiff, zc, Int.reduceToNat, s0, n1, n2, n3, g1, g2, g3, n1', n2', n3', g1', g2', g3']
  exact hT _ _ _ (Ue s0)
end
end Go.Proofs.YthpmddoakefbmaaGreat
/- The law on braidings: reverses. -/
namespace Go.Proofs.YthpmddoakefbmaaGreat
open Go.RowKit
set_option maxRecDepth 1000000
section
variable {a : AV} {bs : List Int} {T : Code}
set_option maxHeartbeats 8000000 in
theorem seg3 (hc : Cod a bs) (hl : bs.length ≤ 4096) (hT : ∀ sl ro gn, sl 0 = a → WK XX T [] QL ⟨sl, ro, gn⟩) (sl : Nat → AV) (rb : Ro) (gb : Nat → Nat) (s0 : sl 0 = a) : WK XX (hdC 5 (tlC 11 (bodyOf Tryz.f3)) T) [] QL ⟨sl, rb, gb⟩ := by
 dsimp only [Tryz.f3, bodyOf, Option.getD, tlC, hdC]
 simp (maxSteps := 10000000) (disch := first | assumption | omega) only [go_sem, ↓reduceIte, Nat.reduceEqDiff, reduceCtorEq, Nat.reduceAdd, Nat.reduceMul, Nat.reduceLeDiff, zc, Int.reduceToNat, s0]
 refine CLL_inS rfl (sRev hc hl) ?_
 rintro _ ro gn ⟨-, O, M, F, n, so, uo, sp, up, sq, uq, off, k, l, G, rfl, h1, h2, h3, g1, g2, g3, hO, hn, hM, hk, hl2⟩
 have n1 : ∀ s, ¬ (so = s ∧ uo = gn s + 1) := by rintro _ ⟨rfl, rfl⟩; omega
 have n2 : ∀ s, ¬ (sp = s ∧ up = gn s + 1) := by rintro _ ⟨rfl, rfl⟩; omega
 have n3 : ∀ s, ¬ (sq = s ∧ uq = gn s + 1) := by rintro _ ⟨rfl, rfl⟩; omega
 have cI := cRevI (M := M) (isL_imm O) hO (isLLL_immC F n) (isLL_imm (matL (shG G off) k l)) (by omega) (by omega)
 have cS := cRevS (M := M) (isL_imm O) hO (isLLL_immC F n) (isLL_imm (matL (shG G off) k l)) (by omega) (by omega)
 by_cases hB : BrP O M F n (shG G off) k l
 ·have e : revR O M F n (shG G off) k l = okB O M F (rvG M (shG G off)) n := by unfold revR; rw [if_pos hB]
  rw [e] at cI cS
  obtain ⟨e1, e2⟩ := hB.s.sq
  subst e1
  subst e2
  have hB2 := br_rev hB
  have dI := cIsBI (M := M) (t := true) (isL_imm O) hO (isLLL_immC F l) (isLL_imm (matL (rvG M (shG G off)) l l)) (by omega) (by omega) (by simp [hB2])
  have cJ := cRevI (M := M) (isL_imm O) hO (isLLL_immC F l) (isLL_imm (matL (rvG M (shG G off)) l l)) (by omega) (by omega)
  have e3 : revR O M F l (rvG M (shG G off)) l l = okB O M F (shG G off) l := by
   unfold revR
   rw [if_pos hB2]
   unfold okB
   rw [mat_congr (f := rvG M (rvG M (shG G off))) (g := shG G off) fun x y hx hy => rv_rv hB hx hy]
  rw [e3] at cJ
  simp (maxSteps := 10000000) (disch := first | assumption | omega) only [go_sem, ↓reduceIte, Nat.reduceEqDiff, reduceCtorEq, Nat.reduceAdd, Nat.reduceMul, Nat.reduceLeDiff, zc, Int.reduceToNat, s0, n1, n2, n3, g1, g2, g3]
  refine CLL_q _ cI (.cons (exq_lv (by repeat (first | exact Kp.rf | refine Kp.wr ?_ (by omega))) h1 h2 h3 g1 g2 g3 (by decide)) .nil) rfl rfl (noI_okB _ _ _ _ _) ?_
  simp (maxSteps := 10000000) (disch := first | assumption | omega) only [go_sem, ↓reduceIte, Nat.reduceEqDiff, reduceCtorEq, Nat.reduceAdd, Nat.reduceMul, Nat.reduceLeDiff, zc, Int.reduceToNat, s0, n1, n2, n3, g1, g2, g3]
  refine CLL_q _ cS (.cons (exq_lv (by repeat (first | exact Kp.rf | refine Kp.wr ?_ (by omega))) h1 h2 h3 g1 g2 g3 (by decide)) .nil) rfl rfl (noI_okB _ _ _ _ _) ?_
  simp (maxSteps := 10000000) (disch := first | assumption | omega) only [go_sem, ↓reduceIte, Nat.reduceEqDiff, reduceCtorEq, Nat.reduceAdd, Nat.reduceMul, Nat.reduceLeDiff, zc, Int.reduceToNat, s0, n1, n2, n3, g1, g2, g3]
  refine CLL_q _ (cLikeK hO hn) (.cons (exq_br0 Ur Ur Ur (by decide)) (.cons (exq_br0 Ur Ur Ur (by decide)) .nil)) rfl rfl rfl ?_
  simp (maxSteps := 10000000) (disch := first | assumption | omega) only [go_sem, ↓reduceIte, Nat.reduceEqDiff, reduceCtorEq, Nat.reduceAdd, Nat.reduceMul, Nat.reduceLeDiff, zc, Int.reduceToNat, s0, n1, n2, n3, g1, g2, g3]
  refine CLL_q _ cJ (.cons (exq_br0 Ur Ur Ur (by decide)) .nil) rfl rfl (noI_okB _ _ _ _ _) ?_
  simp (maxSteps := 10000000) (disch := first | assumption | omega) only [go_sem, ↓reduceIte, Nat.reduceEqDiff, reduceCtorEq, Nat.reduceAdd, Nat.reduceMul, Nat.reduceLeDiff, zc, Int.reduceToNat, s0, n1, n2, n3, g1, g2, g3]
  refine CLL_q _ (cLikeK hO hn) (.cons (exq_br0 Ur Ur Ur (by decide)) (.cons (exq_lv (by repeat (first | exact Kp.rf | refine Kp.wr ?_ (by omega))) h1 h2 h3 g1 g2 g3 (by decide)) .nil)) rfl rfl rfl ?_
  simp (maxSteps := 10000000) (disch := first | assumption | omega) only [go_sem, ↓reduceIte, Nat.reduceEqDiff, reduceCtorEq, Nat.reduceAdd, Nat.reduceMul, Nat.reduceLeDiff, zc, Int.reduceToNat, s0, n1, n2, n3, g1, g2, g3]
  refine CLL_q _ dI (.cons (exq_br0 Ur Ur Ur (by decide)) .nil) rfl rfl rfl ?_
  simp (maxSteps := 10000000) (disch := first | assumption | omega) only [go_sem, ↓reduceIte, Nat.reduceEqDiff, reduceCtorEq, Nat.reduceAdd, Nat.reduceMul, Nat.reduceLeDiff, zc, Int.reduceToNat, s0, n1, n2, n3, g1, g2, g3]
  exact hT _ _ _ (Ue s0)
 ·have e : revR O M F n (shG G off) k l = noB 1 := by unfold revR; rw [if_neg hB]
  rw [e] at cI cS
  simp (maxSteps := 10000000) (disch := first | assumption | omega) only [go_sem, ↓reduceIte, Nat.reduceEqDiff, reduceCtorEq, Nat.reduceAdd, Nat.reduceMul, Nat.reduceLeDiff, zc, Int.reduceToNat, s0, n1, n2, n3, g1, g2, g3]
  refine CLL_q _ cI (.cons (exq_lv (by repeat (first | exact Kp.rf | refine Kp.wr ?_ (by omega))) h1 h2 h3 g1 g2 g3 (by decide)) .nil) rfl rfl rfl ?_
  simp (maxSteps := 10000000) (disch := first | assumption | omega) only [go_sem, ↓reduceIte, Nat.reduceEqDiff, reduceCtorEq, Nat.reduceAdd, Nat.reduceMul, Nat.reduceLeDiff, zc, Int.reduceToNat, s0, n1, n2, n3, g1, g2, g3]
  refine CLL_q _ cS (.cons (exq_lv (by repeat (first | exact Kp.rf | refine Kp.wr ?_ (by omega))) h1 h2 h3 g1 g2 g3 (by decide)) .nil) rfl rfl rfl ?_
  simp (maxSteps := 10000000) (disch := first | assumption | omega) only [go_sem, ↓reduceIte, Nat.reduceEqDiff, reduceCtorEq, Nat.reduceAdd, Nat.reduceMul, Nat.reduceLeDiff, zc, Int.reduceToNat, s0, n1, n2, n3, g1, g2, g3]
  refine CLL_pure _ cLikeN rfl rfl rfl ?_
  simp (maxSteps := 10000000) (disch := first | assumption | omega) only [go_sem, ↓reduceIte, Nat.reduceEqDiff, reduceCtorEq, Nat.reduceAdd, Nat.reduceMul, Nat.reduceLeDiff, zc, Int.reduceToNat, s0, n1, n2, n3, g1, g2, g3]
  exact hT _ _ _ (Ue s0)
end
end Go.Proofs.YthpmddoakefbmaaGreat
/- The law on braidings: coboundaries. -/
namespace Go.Proofs.YthpmddoakefbmaaGreat
open Go.RowKit
set_option maxRecDepth 1000000
section
variable {a : AV} {bs : List Int} {T : Code}
set_option maxHeartbeats 8000000 in
theorem seg4 (hc : Cod a bs) (hl : bs.length ≤ 4096) (hT : ∀ sl ro gn, sl 0 = a → WK XX T [] QL ⟨sl, ro, gn⟩) (sl : Nat → AV) (rb : Ro) (gb : Nat → Nat) (s0 : sl 0 = a) : WK XX (hdC 5 (tlC 16 (bodyOf Tryz.f3)) T) [] QL ⟨sl, rb, gb⟩ := by
 dsimp only [Tryz.f3, bodyOf, Option.getD, tlC, hdC]
 simp (maxSteps := 10000000) (disch := first | assumption | omega) only [go_sem, ↓reduceIte, Nat.reduceEqDiff, reduceCtorEq, Nat.reduceAdd, Nat.reduceMul, Nat.reduceLeDiff, zc, Int.reduceToNat, s0]
 refine CLL_inS rfl (sCobD hc hl) ?_
 rintro _ ro1 gn1 ⟨-, O, M, so, uo, sq, uq, k, G, rfl, h1, h3, g1, g3, hO, hM, hk⟩
 have cI := cCobB (M := M) (isL_imm O) hO (isLL_imm (matL G k k)) (by omega) (by omega)
 have cS := cCobS (M := M) (isL_imm O) hO (isLL_imm (matL G k k)) (by omega) (by omega)
 by_cases hB : pcode O M G k k = 0
 ·have e : cobR O M G k k = okB O M (cobF O M (matL G k k)) (tuF M (matL G k k)) k := by unfold cobR; rw [if_pos hB]
  rw [e] at cI cS
  have hB2 := br_cob hO hB
  have dI := cIsBI (M := M) (t := true) (isL_imm O) hO (isLLL_immC (cobF O M (matL G k k)) k) (isLL_imm (matL (tuF M (matL G k k)) k k)) (by omega) (by omega) (by simp [hB2])
  have hd : ∀ z, tuF M (matL G k k) z z = 0 := fun z => tuF_dg
  simp (maxSteps := 10000000) (disch := first | assumption | omega) only [go_sem, ↓reduceIte, Nat.reduceEqDiff, reduceCtorEq, Nat.reduceAdd, Nat.reduceMul, Nat.reduceLeDiff, zc, Int.reduceToNat, s0, g1, g3]
  refine CLL_q _ cI (.cons (exq_refL (((show Kp ro1 gn1 _ by repeat (first | exact Kp.rf | refine Kp.wr ?_ (by omega))) _ _ h1).trans g1) rfl (by decide)) (.cons (exq_sc _ _ _ (by decide)) (.cons (exq_mat (((show Kp ro1 gn1 _ by repeat (first | exact Kp.rf | refine Kp.wr ?_ (by omega))) _ _ h3).trans g3) (by decide)) .nil))) rfl rfl (noI_okB _ _ _ _ _) ?_
  simp (maxSteps := 10000000) (disch := first | assumption | omega) only [go_sem, ↓reduceIte, Nat.reduceEqDiff, reduceCtorEq, Nat.reduceAdd, Nat.reduceMul, Nat.reduceLeDiff, zc, Int.reduceToNat, s0, g1, g3]
  refine CLL_q _ cS (.cons (exq_refL (((show Kp ro1 gn1 _ by repeat (first | exact Kp.rf | refine Kp.wr ?_ (by omega))) _ _ h1).trans g1) rfl (by decide)) (.cons (exq_sc _ _ _ (by decide)) (.cons (exq_mat (((show Kp ro1 gn1 _ by repeat (first | exact Kp.rf | refine Kp.wr ?_ (by omega))) _ _ h3).trans g3) (by decide)) .nil))) rfl rfl (noI_okB _ _ _ _ _) ?_
  simp (maxSteps := 10000000) (disch := first | assumption | omega) only [go_sem, ↓reduceIte, Nat.reduceEqDiff, reduceCtorEq, Nat.reduceAdd, Nat.reduceMul, Nat.reduceLeDiff, zc, Int.reduceToNat, s0, g1, g3]
  refine CLL_q _ (cLikeK hO hk) (.cons (exq_br0 Ur Ur Ur (by decide)) (.cons (exq_br0 Ur Ur Ur (by decide)) .nil)) rfl rfl rfl ?_
  simp (maxSteps := 10000000) (disch := first | assumption | omega) only [go_sem, ↓reduceIte, Nat.reduceEqDiff, reduceCtorEq, Nat.reduceAdd, Nat.reduceMul, Nat.reduceLeDiff, zc, Int.reduceToNat, s0, g1, g3]
  refine CLL_q _ dI (.cons (exq_br0 Ur Ur Ur (by decide)) .nil) rfl rfl rfl ?_
  simp (maxSteps := 10000000) (disch := first | assumption | omega) only [go_sem, ↓reduceIte, Nat.reduceEqDiff, reduceCtorEq, Nat.reduceAdd, Nat.reduceMul, Nat.reduceLeDiff, zc, Int.reduceToNat, s0, g1, g3]
  refine WK_for (fun z st => st.sl 0 = a ∧ st.sl 25 = .ptr 102512 (gn1 102512 + 1) [] 0 ∧ st.sl 29 = i64 (z : Int) ∧ (st.ro 102512 (gn1 102512 + 1) = some (.bx [.ref 102448 (gn1 102448 + 1) [] 0 O.length, i64 M, .ref 102449 (gn1 102449 + 1) [] 0 k, .ref 102450 (gn1 102450 + 1) [] 0 k])) ∧ (st.ro 102450 (gn1 102450 + 1) = some (matA (tuF M (matL G k k)) k k))) k ?_ ?_ ?_
  ·simp only [↓za, ↓reduceIte, Nat.reduceEqDiff, zb, reduceCtorEq, rws_zero]
   exact ⟨s0, rfl⟩
  ·rintro z sl ro gn hz ⟨s0, s25, s29, fa, fm⟩
   dsimp only at s0 s25 s29
   have hz' : (z : Int) < (k : Nat) := by omega
   dsimp only at fa fm
   simp (maxSteps := 10000000) (disch := first | assumption | omega) only [go_sem, ↓reduceIte, Nat.reduceEqDiff, reduceCtorEq, Nat.reduceAdd, Nat.reduceMul, Nat.reduceLeDiff, zc, Int.reduceToNat, s0, s25, s29, hz', hz, fa, fm]
   exact ⟨fun _ => i64c (by omega), fun h => absurd (hd z) h⟩
  ·rintro sl ro gn ⟨s0, s25, s29, fa, fm⟩
   dsimp only at s0 s25 s29
   have hz' : ¬ ((k : Nat) : Int) < (k : Nat) := by omega
   dsimp only at fa fm
   simp (maxSteps := 10000000) (disch := first | assumption | omega) only [go_sem, ↓reduceIte, Nat.reduceEqDiff, reduceCtorEq, Nat.reduceAdd, Nat.reduceMul, Nat.reduceLeDiff, zc, Int.reduceToNat, s0, s25, s29, hz', fa, fm]
   exact hT _ _ _ (Ue s0)
 ·have e : cobR O M G k k = noB (pcode O M G k k) := by unfold cobR; rw [if_neg hB]
  rw [e] at cI cS
  generalize pcode O M G k k = c at hB cI cS
  simp (maxSteps := 10000000) (disch := first | assumption | omega) only [go_sem, ↓reduceIte, Nat.reduceEqDiff, reduceCtorEq, Nat.reduceAdd, Nat.reduceMul, Nat.reduceLeDiff, zc, Int.reduceToNat, s0, g1, g3]
  refine CLL_q _ cI (.cons (exq_refL (((show Kp ro1 gn1 _ by repeat (first | exact Kp.rf | refine Kp.wr ?_ (by omega))) _ _ h1).trans g1) rfl (by decide)) (.cons (exq_sc _ _ _ (by decide)) (.cons (exq_mat (((show Kp ro1 gn1 _ by repeat (first | exact Kp.rf | refine Kp.wr ?_ (by omega))) _ _ h3).trans g3) (by decide)) .nil))) rfl rfl rfl ?_
  simp (maxSteps := 10000000) (disch := first | assumption | omega) only [go_sem, ↓reduceIte, Nat.reduceEqDiff, reduceCtorEq, Nat.reduceAdd, Nat.reduceMul, Nat.reduceLeDiff, zc, Int.reduceToNat, s0, g1, g3]
  refine CLL_q _ cS (.cons (exq_refL (((show Kp ro1 gn1 _ by repeat (first | exact Kp.rf | refine Kp.wr ?_ (by omega))) _ _ h1).trans g1) rfl (by decide)) (.cons (exq_sc _ _ _ (by decide)) (.cons (exq_mat (((show Kp ro1 gn1 _ by repeat (first | exact Kp.rf | refine Kp.wr ?_ (by omega))) _ _ h3).trans g3) (by decide)) .nil))) rfl rfl rfl ?_
  simp (maxSteps := 10000000) (disch := first | assumption | omega) only [go_sem, ↓reduceIte, Nat.reduceEqDiff, reduceCtorEq, Nat.reduceAdd, Nat.reduceMul, Nat.reduceLeDiff, zc, Int.reduceToNat, s0, g1, g3]
  refine CLL_pure _ cLikeN rfl rfl rfl ?_
  simp (maxSteps := 10000000) (disch := first | assumption | omega) only [go_sem, ↓reduceIte, Nat.reduceEqDiff, reduceCtorEq, Nat.reduceAdd, Nat.reduceMul, Nat.reduceLeDiff, zc, Int.reduceToNat, s0, g1, g3, eq_false hB]
  exact hT _ _ _ (Ue s0)
end
end Go.Proofs.YthpmddoakefbmaaGreat
/- The law on braidings: bicharacters and standard braidings. -/
namespace Go.Proofs.YthpmddoakefbmaaGreat
open Go.RowKit
set_option maxRecDepth 1000000
theorem bicR_or (O : List Int) (M : Int) (G : Nat → Nat → Int) (k : Nat) : (∃ e : Int, ¬ e = 0 ∧ bicR O M G k k = noB e) ∨ (BrP O M (fun _ _ _ => 0) k G k k ∧ bicR O M G k k = okB O M (fun _ _ _ => 0) G k) := by
 by_cases h : pcode O M G k k = 0
 ·by_cases h2 : ft18 O M (fun _ _ _ => 0) G k = none
  ·exact .inr ⟨br_bic h h2, by unfold bicR; rw [if_pos h, if_pos h2]⟩
  ·exact .inl ⟨5, by decide, by unfold bicR; rw [if_pos h, if_neg h2]⟩
 ·exact .inl ⟨_, h, by unfold bicR; rw [if_neg h]⟩
theorem stdR_or {n a : Int} (hn : 0 ≤ n ∧ n ≤ 9) : (∃ e : Int, ¬ e = 0 ∧ stdR n a = noB e) ∨ (∃ m : Nat, m ≤ 8 ∧ BrP [(m : Int)] (2 * m) (stW m a) m (stC m a) m m ∧ stdR n a = okB [(m : Int)] (2 * m) (stW m a) (stC m a) m) := by
 by_cases h1 : 1 ≤ n ∧ n ≤ 8
 ·by_cases h2 : 0 ≤ a ∧ a ≤ 2 * n - 1
  ·by_cases h3 : (a * n).tmod 2 = 1
   ·exact .inl ⟨5, by decide, by unfold stdR; rw [if_neg (by intro h; rcases h with h | h <;> exact h (by assumption)), if_pos h3]⟩
   ·obtain ⟨m, rfl⟩ := Int.eq_ofNat_of_zero_le hn.1
    refine .inr ⟨m, by omega, br_std (by omega) (by omega) ?_, by unfold stdR; rw [if_neg (by intro h; rcases h with h | h <;> exact h (by assumption)), if_neg h3, Int.toNat_natCast]⟩
    have p0 : 0 ≤ a * (m : Int) := Int.mul_nonneg h2.1 hn.1
    have e1 := Int.tmod_eq_emod_of_nonneg (b := 2) p0
    rw [e1] at h3
    exact ⟨a * m / 2, by omega⟩
  ·exact .inl ⟨2, by decide, by unfold stdR; rw [if_pos (.inr h2)]⟩
 ·exact .inl ⟨2, by decide, by unfold stdR; rw [if_pos (.inl h1)]⟩
section
variable {a : AV} {bs : List Int} {T : Code}
set_option maxHeartbeats 8000000 in
theorem seg5 (hc : Cod a bs) (hl : bs.length ≤ 4096) (sl : Nat → AV) (rb : Ro) (gb : Nat → Nat) (s0 : sl 0 = a) : WK XX (tlC 21 (bodyOf Tryz.f3)) [] QL ⟨sl, rb, gb⟩ := by
 dsimp only [Tryz.f3, bodyOf, Option.getD, tlC, hdC]
 simp (maxSteps := 10000000) (disch := first | assumption | omega) only [go_sem, ↓reduceIte, Nat.reduceEqDiff, reduceCtorEq, Nat.reduceAdd, Nat.reduceMul, Nat.reduceLeDiff, zc, Int.reduceToNat, s0]
 refine CLL_inS rfl (sBicD hc hl) ?_
 rintro _ ro1 gn1 ⟨-, O, M, so, uo, sq, uq, k, G, rfl, h1, h3, g1, g3, hO, hM, hk⟩
 have cI := cBicI (M := M) (isL_imm O) hO (isLL_imm (matL G k k)) (by omega) (by omega)
 have cS := cBicS (M := M) (isL_imm O) hO (isLL_imm (matL G k k)) (by omega) (by omega)
 rcases bicR_or O M G k with ⟨e, he, hr⟩ | ⟨hB, hr⟩
 ·rw [hr] at cI cS
  simp (maxSteps := 10000000) (disch := first | assumption | omega) only [go_sem, ↓reduceIte, Nat.reduceEqDiff, reduceCtorEq, Nat.reduceAdd, Nat.reduceMul, Nat.reduceLeDiff, zc, Int.reduceToNat, s0, g1, g3]
  refine CLL_q _ cI (.cons (exq_refL (((show Kp ro1 gn1 _ by repeat (first | exact Kp.rf | refine Kp.wr ?_ (by omega))) _ _ h1).trans g1) rfl (by decide)) (.cons (exq_sc _ _ _ (by decide)) (.cons (exq_mat (((show Kp ro1 gn1 _ by repeat (first | exact Kp.rf | refine Kp.wr ?_ (by omega))) _ _ h3).trans g3) (by decide)) .nil))) rfl rfl rfl ?_
  simp (maxSteps := 10000000) (disch := first | assumption | omega) only [go_sem, ↓reduceIte, Nat.reduceEqDiff, reduceCtorEq, Nat.reduceAdd, Nat.reduceMul, Nat.reduceLeDiff, zc, Int.reduceToNat, s0, g1, g3]
  refine CLL_q _ cS (.cons (exq_refL (((show Kp ro1 gn1 _ by repeat (first | exact Kp.rf | refine Kp.wr ?_ (by omega))) _ _ h1).trans g1) rfl (by decide)) (.cons (exq_sc _ _ _ (by decide)) (.cons (exq_mat (((show Kp ro1 gn1 _ by repeat (first | exact Kp.rf | refine Kp.wr ?_ (by omega))) _ _ h3).trans g3) (by decide)) .nil))) rfl rfl rfl ?_
  simp (maxSteps := 10000000) (disch := first | assumption | omega) only [go_sem, ↓reduceIte, Nat.reduceEqDiff, reduceCtorEq, Nat.reduceAdd, Nat.reduceMul, Nat.reduceLeDiff, zc, Int.reduceToNat, s0, g1, g3]
  refine CLL_inS rfl (sStdD hc hl) ?_
  rintro _ ro2 gn2 ⟨hF, sn, sa, rfl, hn⟩
  have hK := hF.kpt
  dsimp only at hK
  have f1 := (hK.kp 155760 (gn1 155760 + 1) Ur).trans Ur
  have f2 := (hK.kp 159856 (gn1 159856 + 1) Ur).trans Ur
  have dI2 := cStdI (a := sa) hn
  have dS2 := cStdS (a := sa) hn
  rcases stdR_or (a := sa) hn with ⟨e2, he2, hr2⟩ | ⟨m, hm8, hB2, hr2⟩
  ·rw [hr2] at dI2 dS2
   simp (maxSteps := 10000000) (disch := first | assumption | omega) only [go_sem, ↓reduceIte, Nat.reduceEqDiff, reduceCtorEq, Nat.reduceAdd, Nat.reduceMul, Nat.reduceLeDiff, zc, Int.reduceToNat, s0, g1, g3, f1, f2]
   refine CLL_pure _ dI2 rfl rfl rfl ?_
   simp (maxSteps := 10000000) (disch := first | assumption | omega) only [go_sem, ↓reduceIte, Nat.reduceEqDiff, reduceCtorEq, Nat.reduceAdd, Nat.reduceMul, Nat.reduceLeDiff, zc, Int.reduceToNat, s0, g1, g3, f1, f2]
   refine CLL_pure _ dS2 rfl rfl rfl ?_
   simp (maxSteps := 10000000) (disch := first | assumption | omega) only [go_sem, ↓reduceIte, Nat.reduceEqDiff, reduceCtorEq, Nat.reduceAdd, Nat.reduceMul, Nat.reduceLeDiff, zc, Int.reduceToNat, s0, g1, g3, f1, f2, eq_false he, eq_false he2]
   refine CLL_pure _ cLikeN rfl rfl rfl ?_
   simp (maxSteps := 10000000) (disch := first | assumption | omega) only [go_sem, ↓reduceIte, Nat.reduceEqDiff, reduceCtorEq, Nat.reduceAdd, Nat.reduceMul, Nat.reduceLeDiff, zc, Int.reduceToNat, s0, f1, f2, eq_false he, eq_false he2]
   refine CLL_pure _ cLikeN rfl rfl rfl ?_
   simp (maxSteps := 10000000) (disch := first | assumption | omega) only [go_sem, ↓reduceIte, Nat.reduceEqDiff, reduceCtorEq, Nat.reduceAdd, Nat.reduceMul, Nat.reduceLeDiff, zc, Int.reduceToNat, s0, f1, f2, eq_false he, eq_false he2]
   simp only [zr, zb, retR, resL, outT, outL, zes, zez, oneV, zcp, zed, zfi, Ro.dl, St.ev, zhk, ↓za, ↓reduceIte, Nat.reduceEqDiff, Nat.reduceAdd, Nat.reduceLeDiff]
  ·rw [hr2] at dI2 dS2
   have dI3 := cIsBI (M := 2 * (m : Int)) (t := true) (isL_imm [(m : Int)]) (by show 1 ≤ 6; decide) (isLLL_immC (stW m sa) m) (isLL_imm (matL (stC m sa) m m)) (by omega) (by omega) (by simp [hB2])
   simp (maxSteps := 10000000) (disch := first | assumption | omega) only [go_sem, ↓reduceIte, Nat.reduceEqDiff, reduceCtorEq, Nat.reduceAdd, Nat.reduceMul, Nat.reduceLeDiff, zc, Int.reduceToNat, s0, g1, g3, f1, f2]
   refine CLL_pure _ dI2 rfl rfl rfl ?_
   simp (maxSteps := 10000000) (disch := first | assumption | omega) only [go_sem, ↓reduceIte, Nat.reduceEqDiff, reduceCtorEq, Nat.reduceAdd, Nat.reduceMul, Nat.reduceLeDiff, zc, Int.reduceToNat, s0, g1, g3, f1, f2]
   refine CLL_pure _ dS2 rfl rfl rfl ?_
   simp (maxSteps := 10000000) (disch := first | assumption | omega) only [go_sem, ↓reduceIte, Nat.reduceEqDiff, reduceCtorEq, Nat.reduceAdd, Nat.reduceMul, Nat.reduceLeDiff, zc, Int.reduceToNat, s0, g1, g3, f1, f2, eq_false he]
   refine CLL_pure _ cLikeN rfl rfl rfl ?_
   simp (maxSteps := 10000000) (disch := first | assumption | omega) only [go_sem, ↓reduceIte, Nat.reduceEqDiff, reduceCtorEq, Nat.reduceAdd, Nat.reduceMul, Nat.reduceLeDiff, zc, Int.reduceToNat, s0, f1, f2, eq_false he]
   refine CLL_q _ (cLikeK (O := [(m : Int)]) (M := 2 * (m : Int)) (F := stW m sa) (G := stC m sa) (by show 1 ≤ 6; decide) hm8) (.cons (exq_br0 (O := [(m : Int)]) Ur Ur Ur (by decide)) (.cons (exq_br0 (O := [(m : Int)]) Ur Ur Ur (by decide)) .nil)) rfl rfl rfl ?_
   simp (maxSteps := 10000000) (disch := first | assumption | omega) only [go_sem, ↓reduceIte, Nat.reduceEqDiff, reduceCtorEq, Nat.reduceAdd, Nat.reduceMul, Nat.reduceLeDiff, zc, Int.reduceToNat, s0, f1, f2, eq_false he]
   refine CLL_q _ dI3 (.cons (exq_br0 (O := [(m : Int)]) Ur Ur Ur (by decide)) .nil) rfl rfl rfl ?_
   simp (maxSteps := 10000000) (disch := first | assumption | omega) only [go_sem, ↓reduceIte, Nat.reduceEqDiff, reduceCtorEq, Nat.reduceAdd, Nat.reduceMul, Nat.reduceLeDiff, zc, Int.reduceToNat, s0, f1, f2, eq_false he]
   simp only [zr, zb, retR, resL, outT, outL, zes, zez, oneV, zcp, zed, zfi, Ro.dl, St.ev, zhk, ↓za, ↓reduceIte, Nat.reduceEqDiff, Nat.reduceAdd, Nat.reduceLeDiff]
 ·rw [hr] at cI cS
  have dI := cIsBI (M := M) (t := true) (isL_imm O) hO (isLLL_immC (fun _ _ _ => (0 : Int)) k) (isLL_imm (matL G k k)) (by omega) (by omega) (by simp [hB])
  simp (maxSteps := 10000000) (disch := first | assumption | omega) only [go_sem, ↓reduceIte, Nat.reduceEqDiff, reduceCtorEq, Nat.reduceAdd, Nat.reduceMul, Nat.reduceLeDiff, zc, Int.reduceToNat, s0, g1, g3]
  refine CLL_q _ cI (.cons (exq_refL (((show Kp ro1 gn1 _ by repeat (first | exact Kp.rf | refine Kp.wr ?_ (by omega))) _ _ h1).trans g1) rfl (by decide)) (.cons (exq_sc _ _ _ (by decide)) (.cons (exq_mat (((show Kp ro1 gn1 _ by repeat (first | exact Kp.rf | refine Kp.wr ?_ (by omega))) _ _ h3).trans g3) (by decide)) .nil))) rfl rfl (noI_okB _ _ _ _ _) ?_
  simp (maxSteps := 10000000) (disch := first | assumption | omega) only [go_sem, ↓reduceIte, Nat.reduceEqDiff, reduceCtorEq, Nat.reduceAdd, Nat.reduceMul, Nat.reduceLeDiff, zc, Int.reduceToNat, s0, g1, g3]
  refine CLL_q _ cS (.cons (exq_refL (((show Kp ro1 gn1 _ by repeat (first | exact Kp.rf | refine Kp.wr ?_ (by omega))) _ _ h1).trans g1) rfl (by decide)) (.cons (exq_sc _ _ _ (by decide)) (.cons (exq_mat (((show Kp ro1 gn1 _ by repeat (first | exact Kp.rf | refine Kp.wr ?_ (by omega))) _ _ h3).trans g3) (by decide)) .nil))) rfl rfl (noI_okB _ _ _ _ _) ?_
  simp (maxSteps := 10000000) (disch := first | assumption | omega) only [go_sem, ↓reduceIte, Nat.reduceEqDiff, reduceCtorEq, Nat.reduceAdd, Nat.reduceMul, Nat.reduceLeDiff, zc, Int.reduceToNat, s0, g1, g3]
  refine CLL_inS rfl (sStdD hc hl) ?_
  rintro _ ro2 gn2 ⟨hF, sn, sa, rfl, hn⟩
  have hK := hF.kpt
  dsimp only at hK
  have f1 := (hK.kp 155760 (gn1 155760 + 1) Ur).trans Ur
  have f2 := (hK.kp 159856 (gn1 159856 + 1) Ur).trans Ur
  have f3 := (hK.kp 155696 (gn1 155696 + 1) Ur).trans Ur
  have f4 := (hK.kp 155697 (gn1 155697 + 1) Ur).trans Ur
  have f5 := (hK.kp 155698 (gn1 155698 + 1) Ur).trans Ur
  have f6 := (hK.kp 159792 (gn1 159792 + 1) Ur).trans Ur
  have f7 := (hK.kp 159793 (gn1 159793 + 1) Ur).trans Ur
  have f8 := (hK.kp 159794 (gn1 159794 + 1) Ur).trans Ur
  have dI2 := cStdI (a := sa) hn
  have dS2 := cStdS (a := sa) hn
  rcases stdR_or (a := sa) hn with ⟨e2, he2, hr2⟩ | ⟨m, hm8, hB2, hr2⟩
  ·rw [hr2] at dI2 dS2
   simp (maxSteps := 10000000) (disch := first | assumption | omega) only [go_sem, ↓reduceIte, Nat.reduceEqDiff, reduceCtorEq, Nat.reduceAdd, Nat.reduceMul, Nat.reduceLeDiff, zc, Int.reduceToNat, s0, g1, g3, f1, f2, f3, f4, f5, f6, f7, f8]
   refine CLL_pure _ dI2 rfl rfl rfl ?_
   simp (maxSteps := 10000000) (disch := first | assumption | omega) only [go_sem, ↓reduceIte, Nat.reduceEqDiff, reduceCtorEq, Nat.reduceAdd, Nat.reduceMul, Nat.reduceLeDiff, zc, Int.reduceToNat, s0, g1, g3, f1, f2, f3, f4, f5, f6, f7, f8]
   refine CLL_pure _ dS2 rfl rfl rfl ?_
   simp (maxSteps := 10000000) (disch := first | assumption | omega) only [go_sem, ↓reduceIte, Nat.reduceEqDiff, reduceCtorEq, Nat.reduceAdd, Nat.reduceMul, Nat.reduceLeDiff, zc, Int.reduceToNat, s0, g1, g3, f1, f2, f3, f4, f5, f6, f7, f8, eq_false he2]
   refine CLL_q _ (cLikeK hO hk) (.cons (exq_br0 (Ue f3) (Ue f4) (Ue f5) (by decide)) (.cons (exq_br0 (Ue f6) (Ue f7) (Ue f8) (by decide)) .nil)) rfl rfl rfl ?_
   simp (maxSteps := 10000000) (disch := first | assumption | omega) only [go_sem, ↓reduceIte, Nat.reduceEqDiff, reduceCtorEq, Nat.reduceAdd, Nat.reduceMul, Nat.reduceLeDiff, zc, Int.reduceToNat, s0, f1, f2, f3, f4, f5, f6, f7, f8, eq_false he2]
   refine CLL_q _ dI (.cons (exq_br0 (Ue f3) (Ue f4) (Ue f5) (by decide)) .nil) rfl rfl rfl ?_
   simp (maxSteps := 10000000) (disch := first | assumption | omega) only [go_sem, ↓reduceIte, Nat.reduceEqDiff, reduceCtorEq, Nat.reduceAdd, Nat.reduceMul, Nat.reduceLeDiff, zc, Int.reduceToNat, s0, f1, f2, f3, f4, f5, f6, f7, f8, eq_false he2]
   refine CLL_pure _ cLikeN rfl rfl rfl ?_
   simp (maxSteps := 10000000) (disch := first | assumption | omega) only [go_sem, ↓reduceIte, Nat.reduceEqDiff, reduceCtorEq, Nat.reduceAdd, Nat.reduceMul, Nat.reduceLeDiff, zc, Int.reduceToNat, s0, f1, f2, f3, f4, f5, f6, f7, f8, eq_false he2]
   simp only [zr, zb, retR, resL, outT, outL, zes, zez, oneV, zcp, zed, zfi, Ro.dl, St.ev, zhk, ↓za, ↓reduceIte, Nat.reduceEqDiff, Nat.reduceAdd, Nat.reduceLeDiff]
  ·rw [hr2] at dI2 dS2
   have dI3 := cIsBI (M := 2 * (m : Int)) (t := true) (isL_imm [(m : Int)]) (by show 1 ≤ 6; decide) (isLLL_immC (stW m sa) m) (isLL_imm (matL (stC m sa) m m)) (by omega) (by omega) (by simp [hB2])
   simp (maxSteps := 10000000) (disch := first | assumption | omega) only [go_sem, ↓reduceIte, Nat.reduceEqDiff, reduceCtorEq, Nat.reduceAdd, Nat.reduceMul, Nat.reduceLeDiff, zc, Int.reduceToNat, s0, g1, g3, f1, f2, f3, f4, f5, f6, f7, f8]
   refine CLL_pure _ dI2 rfl rfl rfl ?_
   simp (maxSteps := 10000000) (disch := first | assumption | omega) only [go_sem, ↓reduceIte, Nat.reduceEqDiff, reduceCtorEq, Nat.reduceAdd, Nat.reduceMul, Nat.reduceLeDiff, zc, Int.reduceToNat, s0, g1, g3, f1, f2, f3, f4, f5, f6, f7, f8]
   refine CLL_pure _ dS2 rfl rfl rfl ?_
   simp (maxSteps := 10000000) (disch := first | assumption | omega) only [go_sem, ↓reduceIte, Nat.reduceEqDiff, reduceCtorEq, Nat.reduceAdd, Nat.reduceMul, Nat.reduceLeDiff, zc, Int.reduceToNat, s0, g1, g3, f1, f2, f3, f4, f5, f6, f7, f8]
   refine CLL_q _ (cLikeK hO hk) (.cons (exq_br0 (Ue f3) (Ue f4) (Ue f5) (by decide)) (.cons (exq_br0 (Ue f6) (Ue f7) (Ue f8) (by decide)) .nil)) rfl rfl rfl ?_
   simp (maxSteps := 10000000) (disch := first | assumption | omega) only [go_sem, ↓reduceIte, Nat.reduceEqDiff, reduceCtorEq, Nat.reduceAdd, Nat.reduceMul, Nat.reduceLeDiff, zc, Int.reduceToNat, s0, f1, f2, f3, f4, f5, f6, f7, f8]
   refine CLL_q _ dI (.cons (exq_br0 (Ue f3) (Ue f4) (Ue f5) (by decide)) .nil) rfl rfl rfl ?_
   simp (maxSteps := 10000000) (disch := first | assumption | omega) only [go_sem, ↓reduceIte, Nat.reduceEqDiff, reduceCtorEq, Nat.reduceAdd, Nat.reduceMul, Nat.reduceLeDiff, zc, Int.reduceToNat, s0, f1, f2, f3, f4, f5, f6, f7, f8]
   refine CLL_q _ (cLikeK (O := [(m : Int)]) (M := 2 * (m : Int)) (F := stW m sa) (G := stC m sa) (by show 1 ≤ 6; decide) hm8) (.cons (exq_br0 (O := [(m : Int)]) Ur Ur Ur (by decide)) (.cons (exq_br0 (O := [(m : Int)]) Ur Ur Ur (by decide)) .nil)) rfl rfl rfl ?_
   simp (maxSteps := 10000000) (disch := first | assumption | omega) only [go_sem, ↓reduceIte, Nat.reduceEqDiff, reduceCtorEq, Nat.reduceAdd, Nat.reduceMul, Nat.reduceLeDiff, zc, Int.reduceToNat, s0, f1, f2, f3, f4, f5, f6, f7, f8]
   refine CLL_q _ dI3 (.cons (exq_br0 (O := [(m : Int)]) Ur Ur Ur (by decide)) .nil) rfl rfl rfl ?_
   simp (maxSteps := 10000000) (disch := first | assumption | omega) only [go_sem, ↓reduceIte, Nat.reduceEqDiff, reduceCtorEq, Nat.reduceAdd, Nat.reduceMul, Nat.reduceLeDiff, zc, Int.reduceToNat, s0, f1, f2, f3, f4, f5, f6, f7, f8]
   simp only [zr, zb, retR, resL, outT, outL, zes, zez, oneV, zcp, zed, zfi, Ro.dl, St.ev, zhk, ↓za, ↓reduceIte, Nat.reduceEqDiff, Nat.reduceAdd, Nat.reduceLeDiff]
end
end Go.Proofs.YthpmddoakefbmaaGreat
/- The law on braidings answers true. -/
namespace Go.Proofs.YthpmddoakefbmaaGreat
open Go.RowKit
set_option maxRecDepth 1000000
theorem tl_ns : ∀ (m n : Nat) (c : Code), tlC m (tlC n c) = tlC (n + m) c := by
 intro m n
 induction n with
 | zero => intro c; rw [Nat.zero_add]; rfl
 | succ n ih =>
  intro c
  rw [Nat.add_right_comm]
  cases c with
  | seq a b => exact ih b
  | _ => cases m <;> rfl
theorem cut_tl {n m : Nat} {B : Code} {K : List Fr} {Q : Exit → St → Prop} {st : St} (h : WK XX (hdC n (tlC m B) (tlC (m + n) B)) K Q st) : WK XX (tlC m B) K Q st := by
 rw [← tl_ns n m B, hd_tl] at h
 exact h
set_option maxHeartbeats 8000000 in
theorem cBraid {a : AV} {bs : List Int} (hb : isB a bs) (hr : ∀ k, 0 ≤ atI bs k ∧ atI bs k < 256) : CallOK Tryz.prog 3 [a] (bo true) := by
 have c1 := cBig hb
 have hT : bs.length ≤ 4096 → ∀ sl ro gn, sl 0 = a → WK XX (tlC 2 (bodyOf Tryz.f3)) [] QL ⟨sl, ro, gn⟩ := fun hl sl ro gn s0 =>
  have hc : Cod a bs := ⟨hb, fun k _ => hr k, by omega⟩
  cut_tl (n := 5) (seg1 hc hl (fun sl ro gn s0 => cut_tl (n := 4) (seg2 hc hl (fun sl ro gn s0 => cut_tl (n := 5) (seg3 hc hl (fun sl ro gn s0 => cut_tl (n := 5) (seg4 hc hl (fun sl ro gn s0 => seg5 hc hl sl ro gn s0) sl ro gn s0)) sl ro gn s0)) sl ro gn s0)) sl ro gn s0)
 have hh := hd_tl 2 (bodyOf Tryz.f3)
 generalize tlC 2 (bodyOf Tryz.f3) = T at hT hh
 refine call_of (fn := Tryz.f3) (code := bodyOf Tryz.f3) Tryz.func3 rfl (by kernel_rfl) (rfl) ?_
 intro sl hs
 have s0 : sl 0 = a := hs 0
 rw [← hh]
 dsimp only [Tryz.f3, bodyOf, Option.getD, tlC, hdC]
 by_cases h : 4096 < (bs.length : Int)
 ·rw [decide_eq_true h] at c1
  simp (maxSteps := 10000000) (disch := first | assumption | omega) only [go_sem, ↓reduceIte, Nat.reduceEqDiff, reduceCtorEq, Nat.reduceAdd, Nat.reduceMul, Nat.reduceLeDiff, zc, Int.reduceToNat, s0, s0]
  refine CLL_pure _ c1 (by simp only [pureL, isB_pure hb, Bool.and_self]) rfl rfl ?_
  simp (maxSteps := 10000000) (disch := first | assumption | omega) only [go_sem, ↓reduceIte, Nat.reduceEqDiff, reduceCtorEq, Nat.reduceAdd, Nat.reduceMul, Nat.reduceLeDiff, zc, Int.reduceToNat, s0, s0]
  simp only [zr, zb, retR, resL, outT, outL, zes, zez, oneV, zcp, zed, zfi, Ro.dl, St.ev, zhk, ↓za, ↓reduceIte, Nat.reduceEqDiff, Nat.reduceAdd, Nat.reduceLeDiff]
 ·rw [decide_eq_false h] at c1
  simp (maxSteps := 10000000) (disch := first | assumption | omega) only [go_sem, ↓reduceIte, Nat.reduceEqDiff, reduceCtorEq, Nat.reduceAdd, Nat.reduceMul, Nat.reduceLeDiff, zc, Int.reduceToNat, s0, s0]
  refine CLL_pure _ c1 (by simp only [pureL, isB_pure hb, Bool.and_self]) rfl rfl ?_
  simp (maxSteps := 10000000) (disch := first | assumption | omega) only [go_sem, ↓reduceIte, Nat.reduceEqDiff, reduceCtorEq, Nat.reduceAdd, Nat.reduceMul, Nat.reduceLeDiff, zc, Int.reduceToNat, s0, s0]
  exact hT (by omega) _ _ _ (Ue s0)
end Go.Proofs.YthpmddoakefbmaaGreat
/- What the law hands in, read by the machine: bytes. -/
namespace Go.Proofs.YthpmddoakefbmaaGreat
open Go.RowKit Go.ChangeShapes Go.WideShapes Go.Deep Go.Joins
theorem walk_below {P : Program} {f : Nat} {args : List AV} {b : Bool} (h : CallOK P f args (bo b)) {w : World} {vs : List Value} (hv : RelL (cx0 w (fun _ => False)) args vs []) :
  Calls P f vs.toArray w fun e w' => e = .returned (.bool b) ∧ Below w.heap.size w w' := by
 refine (h.2.2 w (fun _ => False) vs hv (fun _ h => h.elim)).mono ?_
 rintro e w' ⟨v, A', F', rfl, h1, _, _, h4⟩
 obtain ⟨h2, _⟩ := Rel.sc_inv h1
 exact ⟨by rw [h2], ⟨h4.os, h4.tape, h4.output, h4.size, fun k hk => h4.block k hk (by simp)⟩⟩
theorem cell_spot {w : World} {a : Addr} {v : Value} (h : w.cell? a = some v) : a.spot = none ∧ a.block < w.heap.size := by
 unfold World.cell? at h
 split at h
 ·rename_i c E fr hb
  split at h
  ·cases h
  ·rename_i hs
   refine ⟨by cases hsp : a.spot <;> simp_all, ?_⟩
   exact (Array.getElem?_eq_some_iff.1 hb).1
 ·cases h
theorem add_plain {a : Addr} (h : a.spot = none) (i : Nat) : a.add i = ⟨a.block, a.off + i, none⟩ := by
 unfold Addr.add
 split
 ·rename_i hi; subst hi; cases a; simp_all
 ·rfl
theorem wf8 {n : Int} (h : (Lit.int .u8 n).wf = true) : 0 ≤ n ∧ n < 256 := by
 have e : IntKind.bits .u8 = 8 := rfl
 have s : IntKind.signed .u8 = false := rfl
 simp only [Lit.wf, IntKind.min, IntKind.max, s, e] at h
 simp at h
 omega
section
variable {H : Type} {enc : TypeId × Value → H} {P : Program} {w : World} {held : Bool}
theorem open_b1 {t e : TypeId} {fuel : Nat} {v : Value} {x : DataW H × List MemPlace} (ht : P.underlying t = some (.slice e)) (he : P.underlying e = some (.int .u8)) (hc : P.cellsOf e = 1) (h : DataW.trod enc P w 0 (fun _ => true) held fuel t [v] = some x) :
  ∃ a xs, Rel (cx0 w (fun _ => False)) a v [] ∧ isB a xs ∧ xs.length < 2^63 ∧ ∀ j, 0 ≤ atI xs j ∧ atI xs j < 256 := by
 rcases open_ints ht he hc h with ⟨hcs, _⟩ | ⟨ad, len, cap, zs, hcs, _, hl, hm, hz, _, hcell, hwf⟩
 ·simp only [List.cons.injEq, and_true] at hcs
  subst hcs
  exact ⟨.sc (.slice none 0 0), [], .sc _ .nil, .inr ⟨rfl, _, _, rfl⟩, by simp, fun j => by simp [atI]⟩
 ·simp only [List.cons.injEq, and_true] at hcs
  subst hcs
  simp only [if_true] at hz
  have hmx : cap < 2^63 := Nat.lt_of_le_of_lt hm (by decide)
  rcases Nat.eq_zero_or_pos len with h0 | hpos
  ·subst h0
   exact ⟨.sc (.slice (some ad) 0 cap), [], .sc _ .nil, .inr ⟨rfl, _, _, rfl⟩, by simp, fun j => by simp [atI]⟩
  ·have hc0 := hcell 0 (by omega)
   obtain ⟨hs, hb⟩ := cell_spot hc0
   have hs' : ad.spot = none := by simpa [Addr.add] using hs
   have hb' : ad.block < w.heap.size := by simpa [Addr.add] using hb
   have hlen : (zs.take len).length = len := by rw [List.length_take]; omega
   have hlen2 : ((zs.take len).map (Value.int .u8)).length = len := by rw [List.length_map, hlen]
   refine ⟨.imm ((zs.take len).map u8), zs.take len, ?_, .inl rfl, by omega, fun j => ?_⟩
   ·have hr : RelL (cx0 w (fun _ => False)) ((zs.take len).map u8) ((zs.take len).map (Value.int .u8)) [] := by
     have := relL_sc (cx0 w (fun _ => False)) ((zs.take len).map (Value.int .u8))
     rwa [List.map_map] at this
    have := RelL.imm (c := cx0 w (fun _ => False)) ad.block ad.off cap hr ⟨fun h => h, hb', fun i u hu => ?_⟩ (by rw [hlen2]; exact hl) RelL.nil
    ·rw [hlen2] at this
     have e : (⟨ad.block, ad.off, none⟩ : Addr) = ad := by cases ad; simp_all
     rwa [e] at this
    ·show w.cell? ⟨ad.block, ad.off + i, none⟩ = some u
     rw [← add_plain hs' i]
     have hi : i < len := by
      have := (List.getElem?_eq_some_iff.1 hu).1
      rwa [hlen2] at this
     rw [hcell i (by omega)]
     rw [List.getElem?_map, List.getElem?_take, if_pos hi] at hu
     cases hzi : zs[i]? with
     | none => rw [hzi] at hu; cases hu
     | some z =>
      rw [hzi] at hu
      simp only [Option.map_some, Option.some.injEq] at hu
      rw [← hu]
      simp [List.getD_eq_getElem?_getD, hzi]
   ·rcases Nat.lt_or_ge j (zs.take len).length with hj | hj
    ·have hmem : atI (zs.take len) j ∈ zs := by
      have : atI (zs.take len) j = (zs.take len)[j] := by simp only [atI, List.getD_eq_getElem?_getD, List.getElem?_eq_getElem hj, Option.getD_some]
      rw [this]
      exact List.mem_of_mem_take (List.getElem_mem hj)
     exact wf8 (hwf _ hmem)
    ·rw [atI_out hj]; exact ⟨by decide, by decide⟩
end
end Go.Proofs.YthpmddoakefbmaaGreat
