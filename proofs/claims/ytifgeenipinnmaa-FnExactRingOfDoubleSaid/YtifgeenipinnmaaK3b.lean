/- Marking data. -/
import Derived.Test.YtifgeenipinnmaaK3
set_option linter.all false
namespace Go.Proofs.Ytifgeenipinnmaa
open Go.RowKit

set_option maxRecDepth 1000000 in
theorem in13 {s g s2 g2 : Nat} {css : List (List AV)} {us : List AV} {ro : Ro} {gn : Nat → Nat} {k : Int} (hro : ro s g = some (.row (rowsOf css))) (hro2 : ro s2 g2 = some (.row us)) (hne : ¬ (s2 = s ∧ g2 = g)) (hf : ¬ (s = 4096 ∧ g = gn 4096 + 1)) (hf2 : ¬ (s2 = 4096 ∧ g2 = gn 4096 + 1))
    (hn : css.length ≤ maxN) (hn2 : ∀ j, (css.getD j []).length ≤ maxN) (hu : us.length ≤ maxN) (hk : 0 ≤ k) (hk2 : k + sumN (css.map List.length) + us.length ≤ 2^62) :
    InOK Try.prog 13 [.agg [.ref s g [] 0 css.length, .ref s2 g2 [] 0 us.length], i64 k] ro gn (i64 (k + sumN (css.map List.length) + us.length))
      (upr (upr (upr ro 4096 (gn 4096 + 1) (.bx [.ref s g [] 0 css.length, .ref s2 g2 [] 0 us.length])) s g (.row (labsA k (css.map List.length)))) s2 g2 (.row ((iota (k + sumN (css.map List.length)) us.length).map i64))) (upg gn 4096 (gn 4096 + 1)) := by
  refine in_of (fn := Try.f13) (code := bodyOf Try.f13) Try.func13 rfl (by kernel_rfl) ?_
  intro sl hs
  have s0 : sl 0 = .agg [.ref s g [] 0 css.length, .ref s2 g2 [] 0 us.length] := hs 0
  have s1 : sl 1 = i64 k := hs 1
  have hf3 : ¬ (4096 = s ∧ gn 4096 + 1 = g) := fun h => hf ⟨h.1.symm, h.2.symm⟩
  simp only [Try.f13, bodyOf, Option.getD, go_sem, ↓reduceIte, Nat.reduceEqDiff, reduceCtorEq, Nat.reduceAdd, Nat.reduceMul, Nat.reduceLeDiff, ti2, ti3, ti4, ti22, ti23, ti25, s0, s1, hro, hro2, lift]
  refine CLL_in rfl _ _ _ (in43 (css := css) (by simp only [↓zcy, ↓zcz, ↓zda, ↓zdb, ↓reduceIte, Nat.reduceEqDiff, and_true, true_and, and_self, ne_eq, not_false_eq_true, eq_self, false_and, and_false, reduceCtorEq, hf, hro]) hn hn2 hk (by omega)) ?_
  simp (config := { maxSteps := 10000000 }) (disch := first | omega | assumption) only [go_sem, ↓reduceIte, Nat.reduceEqDiff, reduceCtorEq, Nat.reduceAdd, Nat.reduceMul, Nat.reduceLeDiff, zfu, Int.mul_def, Int.add_def, zfv, cond_false, cond_true, isub, ti2, ti3, ti4, ti22, ti23, ti25, s0, s1, hf3, lift]
  refine CLL_in rfl _ _ _ (in32 (plc_nil s2 g2) (cs := us) (by simp only [↓zcy, ↓zcz, ↓zda, ↓zdb, ↓reduceIte, Nat.reduceEqDiff, and_true, true_and, and_self, ne_eq, not_false_eq_true, eq_self, false_and, and_false, reduceCtorEq, hne, hf2, hro2]) hu (by omega) (by omega)) ?_
  simp (config := { maxSteps := 10000000 }) (disch := first | omega | assumption) only [go_sem, ↓reduceIte, Nat.reduceEqDiff, reduceCtorEq, Nat.reduceAdd, Nat.reduceMul, Nat.reduceLeDiff, zfu, Int.mul_def, Int.add_def, zfv, cond_false, cond_true, isub, ti2, ti3, ti4, ti22, ti23, ti25, s0, s1]
  refine ⟨.inr rfl, ⟨_, rfl, ?_⟩, rfl, rfl⟩
  simp only [↓zcy, ↓zcz, ↓zda, ↓zdb, ↓reduceIte, Nat.reduceEqDiff, and_true, true_and, and_self, ne_eq, not_false_eq_true, eq_self, false_and, and_false, reduceCtorEq, oneOrA]
end Go.Proofs.Ytifgeenipinnmaa
