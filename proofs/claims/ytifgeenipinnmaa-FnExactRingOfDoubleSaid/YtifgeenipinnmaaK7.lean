/- FnExactDoubleOfCyclic: the law's run. -/
import Derived.Test.YtifgeenipinnmaaK6
import Derived.Test.YtifgeenipinnmaaK3b
set_option linter.all false
namespace Go.Proofs.Ytifgeenipinnmaa
open Go.RowKit
theorem ti26 : ti0 26 = ti0 26 := rfl

/-! ### The plain law -/
theorem emod_pow (a : Int) (k : Nat) : (a % 55441) ^ k % 55441 = a ^ k % 55441 := by
  induction k with
  | zero => simp
  | succ k ih => rw [Int.pow_succ, Int.pow_succ, Int.mul_emod, ih, Int.emod_emod_of_dvd _ (by decide : (55441:Int) ∣ 55441), ← Int.mul_emod]
theorem pwz_neg {z e : Int} (he : 0 ≤ e) : pwz z (-e) = pw (pw z 55439) e := by
  unfold pwz
  split
  · rename_i h
    have e1 : - -e = e := by omega
    have e2 : (55439 : Int).toNat = 55439 := rfl
    simp only [qt, pw, e1, e2, Int.one_mul, emod_pow, ← Int.pow_mul, Int.emod_emod_of_dvd _ (by decide : (55441:Int) ∣ 55441)]
    rw [Nat.mul_comm]
  · rename_i h
    have : e = 0 := by omega
    subst this
    simp [pw]

theorem rws_congr {α : Type} {f g : Nat → α} {n : Nat} (h : ∀ i, i < n → f i = g i) : rws f n = rws g n := by
  unfold rws
  exact List.map_congr_left fun i hi => h i (List.mem_range.1 hi)
theorem rws_map {α β : Type} (f : Nat → α) (g : α → β) (n : Nat) : (rws f n).map g = rws (fun i => g (f i)) n := by simp [rws, Function.comp_def]

def dS (n k : Int) : List (List Int) := rws (fun i => rws (fun j => pw (pw (dz n) 55439) (dE n k i j)) (n * n).toNat) (n * n).toNat
def dTs (n k : Int) : List Int := rws (fun i => pw (dz n) (dT n k i)) (n * n).toNat

abbrev rowL (xs : List Int) : AV := .row (xs.map i64)
abbrev rowLL (xss : List (List Int)) : AV := .row (xss.map rowL)
abbrev immL (xs : List Int) : AV := .imm (xs.map i64)
abbrev immLL (xss : List (List Int)) : AV := .imm (xss.map immL)

theorem dE_nonneg {n k : Int} (h1 : 1 ≤ n) (h2 : n ≤ 4) (h3 : 0 ≤ k) {i j : Nat} (hi : i < (n * n).toNat) (hj : j < (n * n).toNat) : 0 ≤ dE n k i j := by
  have hi' : (i : Int) < n * n := by omega
  have hj' : (j : Int) < n * n := by omega
  obtain ⟨a1, a2, a3, a4⟩ := dvB h1 h2 (Int.natCast_nonneg i) hi'
  obtain ⟨b1, b2, b3, b4⟩ := dvB h1 h2 (Int.natCast_nonneg j) hj'
  have p1 := mulB a1 a2 b3 b4
  have p2 := mulB b1 b2 a3 a4
  have p3 := mulB (x := n) (X := 4) (y := (i : Int) / n * ((j : Int) % n) + (j : Int) / n * ((i : Int) % n)) (Y := 18) (by omega) h2 (by omega) (by omega)
  have p5 : 0 ≤ 2 * k * ((i : Int) / n) := Int.mul_nonneg (by omega) a1
  have p6 : 0 ≤ 2 * k * ((i : Int) / n) * ((j : Int) / n) := Int.mul_nonneg p5 b1
  unfold dE; omega

theorem c10' {n k : Int} (hn : 1 ≤ n ∧ n ≤ 4) (hk : 0 ≤ k ∧ k ≤ n - 1) : CallOK Try.prog 10 [i64 n, i64 k] (.tup [.agg [rowLL (dS n k), rowL (dTs n k)], i64 0]) := by
  have := c10 hn hk
  simp only [rowLL, rowL, dS, dTs, rws_map]
  exact this
theorem c11' {n k : Int} (hn : 1 ≤ n ∧ n ≤ 4) (hk : 0 ≤ k ∧ k ≤ n - 1) : CallOK Try.prog 11 [i64 n, i64 k] (.tup [.agg [rowLL (dS n k), rowL (dTs n k)], i64 0]) := by
  have := c11 hn hk
  simp only [rowLL, rowL, dS, dTs, rws_map]
  rw [rws_congr (g := fun i => AV.row (rws (fun j => i64 (pw (pw (dz n) 55439) (dE n k i j))) (n * n).toNat)) (fun i hi => by
    rw [rws_congr (g := fun j => i64 (pw (pw (dz n) 55439) (dE n k i j))) (fun j hj => by rw [pwz_neg (dE_nonneg hn.1 hn.2 hk.1 hi hj)])])] at this
  exact this

theorem in13' {s g s2 g2 : Nat} {xss : List (List Int)} {us : List Int} {ro : Ro} {gn : Nat → Nat} {k : Int} (hro : ro s g = some (rowLL xss)) (hro2 : ro s2 g2 = some (rowL us)) (hne : ¬ (s2 = s ∧ g2 = g)) (hf : ¬ (s = 4096 ∧ g = gn 4096 + 1)) (hf2 : ¬ (s2 = 4096 ∧ g2 = gn 4096 + 1))
    (hn : xss.length ≤ maxN) (hn2 : ∀ j, (xss.getD j []).length ≤ maxN) (hu : us.length ≤ maxN) (hk : 0 ≤ k) (hk2 : k + sumN (xss.map List.length) + us.length ≤ 2^62) :
    InOK Try.prog 13 [.agg [.ref s g [] 0 xss.length, .ref s2 g2 [] 0 us.length], i64 k] ro gn (i64 (k + sumN (xss.map List.length) + us.length))
      (upr (upr (upr ro 4096 (gn 4096 + 1) (.bx [.ref s g [] 0 xss.length, .ref s2 g2 [] 0 us.length])) s g (rowLL (labs k (xss.map List.length)))) s2 g2 (rowL (iota (k + sumN (xss.map List.length)) us.length))) (upg gn 4096 (gn 4096 + 1)) := by
  have h1 : ro s g = some (.row (rowsOf (xss.map (·.map i64)))) := by rw [hro]; simp [rowsOf, rowLL]
  have h2 := in13 (css := xss.map (·.map i64)) (us := us.map i64) h1 hro2 hne hf hf2 (by simpa using hn) (fun j => by
    have := hn2 j
    simp only [List.getD_eq_getElem?_getD, List.getElem?_map] at this ⊢
    cases h : xss[j]? <;> simp_all) (by simpa using hu) hk (by simpa [Function.comp_def] using hk2)
  simpa [labsA, Function.comp_def] using h2

/-! ### The law's run -/
theorem exLL (ro : Ro) (k : Nat) (xss : List (List Int)) : (xss.map rowL).map (ex ro (k + 2)) = xss.map immL := by
  rw [List.map_map]
  refine List.map_congr_left fun xs _ => ?_
  show AV.imm ((xs.map i64).map (ex ro (k + 1))) = _
  rw [ex_map]
theorem ex_refLL {ro : Ro} {s g : Nat} {xss : List (List Int)} (h : ro s g = some (rowLL xss)) (k : Nat) : ex ro (k + 3) (.ref s g [] 0 xss.length) = immLL xss := by
  show (match ro.cells s g [] with | some cs => AV.imm (((cs.drop 0).take xss.length).map (ex ro (k + 2))) | none => .dead) = _
  rw [zef, h]
  simp only [zeh, List.drop_zero]
  rw [List.take_of_length_le (by simp), exLL]
theorem ex_refL {ro : Ro} {s g : Nat} {xs : List Int} (h : ro s g = some (rowL xs)) (k : Nat) : ex ro (k + 2) (.ref s g [] 0 xs.length) = immL xs := by
  show (match ro.cells s g [] with | some cs => AV.imm (((cs.drop 0).take xs.length).map (ex ro (k + 1))) | none => .dead) = _
  rw [zef, h]
  simp only [zeh, List.drop_zero]
  rw [List.take_of_length_le (by simp), ex_map]
theorem argsX_data1 {ro : Ro} {s g s2 g2 n1 n2 : Nat} {xss : List (List Int)} {us : List Int} {v : Value} (h1 : ro s g = some (rowLL xss)) (h2 : ro s2 g2 = some (rowL us)) (e1 : n1 = xss.length) (e2 : n2 = us.length) :
    argsX ro [.agg [.ref s g [] 0 n1, .ref s2 g2 [] 0 n2], .sc v] = [.agg [immLL xss, immL us], .sc v] := by
  subst e1 e2
  have hp : pureL [.agg [.ref s g [] 0 xss.length, .ref s2 g2 [] 0 us.length], .sc v] = false := rfl
  unfold argsX
  rw [hp, if_neg Bool.false_ne_true]
  show [AV.agg [ex ro 7 _, ex ro 7 _], AV.sc v] = _
  rw [ex_refLL h1 4, ex_refL h2 5]
theorem argsX_data2 {ro : Ro} {s g s2 g2 s' g' s2' g2' : Nat} {xss xss' : List (List Int)} {us us' : List Int} (h1 : ro s g = some (rowLL xss)) (h2 : ro s2 g2 = some (rowL us)) (h3 : ro s' g' = some (rowLL xss')) (h4 : ro s2' g2' = some (rowL us')) :
    argsX ro [.agg [.ref s g [] 0 xss.length, .ref s2 g2 [] 0 us.length], .agg [.ref s' g' [] 0 xss'.length, .ref s2' g2' [] 0 us'.length]] = [.agg [immLL xss, immL us], .agg [immLL xss', immL us']] := by
  have hp : pureL [.agg [.ref s g [] 0 xss.length, .ref s2 g2 [] 0 us.length], .agg [.ref s' g' [] 0 xss'.length, .ref s2' g2' [] 0 us'.length]] = false := rfl
  unfold argsX
  rw [hp, if_neg Bool.false_ne_true]
  show [AV.agg [ex ro 7 _, ex ro 7 _], AV.agg [ex ro 7 _, ex ro 7 _]] = _
  rw [ex_refLL h1 4, ex_refL h2 5, ex_refLL h3 4, ex_refL h4 5]
theorem c12t {xss : List (List Int)} {us : List Int} (hx : xss.length ≤ maxN) (hx2 : ∀ j, (xss.getD j []).length ≤ maxN) (hu : us.length ≤ maxN) : CallOK Try.prog 12 [.agg [immLL xss, immL us], .agg [immLL xss, immL us]] (bo true) := by
  have := c12 (isLL_imm xss) (isLL_imm xss) (isL_imm us) (isL_imm us) hx hx2 hu
  rwa [decide_eq_true ⟨rfl, rfl⟩] at this
theorem c14' {ns : List Nat} {m : Nat} (hn : ns.length ≤ maxN) (hn2 : ∀ j, ns.getD j 0 ≤ maxN) (hm : m ≤ maxN) (hk2 : (1 : Int) + sumN ns + m ≤ 2^62) :
    CallOK Try.prog 14 [.agg [immLL (labs 1 ns), immL (iota (1 + sumN ns) m)], i64 1] (i64 (1 + sumN ns + m)) :=
  c14 (isLL_imm _) (isL_imm _) hn hn2 hm (by decide) hk2
theorem impE_tupD (b : Nat) (gn : Nat → Nat) (xss : List (List Int)) (us : List Int) (v : Value) : impE b gn (.tup [.agg [rowLL xss, rowL us], .sc v]) = ⟨.tup [.agg [.ref b (gn b + 1) [] 0 xss.length, .ref (b + 1) (gn (b + 1) + 1) [] 0 us.length], .sc v], none, [], [(b, rowLL xss), (b + 1, rowL us)]⟩ := by
  show (⟨.tup [.agg [.ref b (gn b + 1) [] 0 (xss.map rowL).length, .ref (b + 1) (gn (b + 1) + 1) [] 0 (us.map i64).length], .sc v], none, [], [(b, rowLL xss), (b + 1, rowL us)]⟩ : Eff) = _
  rw [List.length_map, List.length_map]
theorem impE_tupN (b : Nat) (gn : Nat → Nat) (v w x : Value) : impE b gn (.tup [.agg [.sc v, .sc w], .sc x]) = ⟨.tup [.agg [.sc v, .sc w], .sc x], none, [], []⟩ := nr _
theorem impOK_tupD (xss : List (List Int)) (us : List Int) (v : Value) : impOK (.tup [.agg [rowLL xss, rowL us], .sc v]) = true := rfl

theorem dS_len (n k : Int) : (dS n k).length = (n * n).toNat := zfe _ _
theorem dTs_len (n k : Int) : (dTs n k).length = (n * n).toNat := zfe _ _

theorem sumN_le : ∀ (ns : List Nat) (m : Nat), (∀ j, ns.getD j 0 ≤ m) → sumN ns ≤ ns.length * m
  | [], m, _ => by simp [sumN]
  | n :: ns, m, h => by
    have h0 := h 0
    have := sumN_le ns m fun j => by simpa using h (j + 1)
    simp only [List.getD_cons_zero] at h0
    simp only [sumN, List.length_cons, Nat.succ_mul]
    omega

set_option maxRecDepth 1000000 in
set_option maxHeartbeats 10000000 in
theorem c3_in {n k : Int} (hn : 1 ≤ n ∧ n ≤ 4) (hk : 0 ≤ k ∧ k ≤ n - 1) : CallOK Try.prog 3 [i64 n, i64 k] (bo true) := by
  refine call_of (fn := Try.f3) (code := bodyOf Try.f3) Try.func3 rfl (by kernel_rfl) rfl ?_
  intro sl hs
  have s0 : sl 0 = i64 n := hs 0
  have s1 : sl 1 = i64 k := hs 1
  have c10 := c10' hn hk
  have c11 := c11' hn hk
  have hnn := mulB (x := n) (y := n) (X := 4) (Y := 4) (by omega) hn.2 (by omega) hn.2
  have hX1 : (dS n k).length ≤ 16 := by rw [dS_len]; omega
  have hX2 : ∀ j, ((dS n k).getD j []).length ≤ 16 := fun j => by
    simp only [dS, rws, List.getD_eq_getElem?_getD, List.getElem?_map]
    cases h : (List.range (n * n).toNat)[j]? with
    | none => simp
    | some x => simp; omega
  have hY1 : (dTs n k).length ≤ 16 := by rw [dTs_len]; omega
  generalize dS n k = X at c10 c11 hX1 hX2
  generalize dTs n k = Y at c10 c11 hY1
  have hX1' : X.length ≤ maxN := by unfold maxN; omega
  have hX2' : ∀ j, (X.getD j []).length ≤ maxN := fun j => by have := hX2 j; unfold maxN; omega
  have hY1' : Y.length ≤ maxN := by unfold maxN; omega
  have hns : (X.map List.length).length ≤ maxN := by simpa using hX1'
  have hns2 : ∀ j, (X.map List.length).getD j 0 ≤ 16 := fun j => by
    have := hX2 j
    simp only [List.getD_eq_getElem?_getD, List.getElem?_map] at this ⊢
    cases h : X[j]? <;> simp_all
  have hsum := sumN_le (X.map List.length) 16 hns2
  rw [List.length_map] at hsum
  have hsum2 : sumN (X.map List.length) ≤ 256 := by omega
  simp (config := { maxSteps := 10000000 }) (disch := first | omega | assumption) only [Try.f3, bodyOf, Option.getD, go_sem, ↓reduceIte, Nat.reduceEqDiff, reduceCtorEq, Nat.reduceAdd, Nat.reduceMul, Nat.reduceLeDiff, zfu, Int.mul_def, Int.add_def, zfv, cond_false, cond_true, isub, ti2, ti3, ti4, ti25, ti26, s0, s1]
  refine CLL_pure _ c10 rfl rfl rfl ?_
  simp (config := { maxSteps := 10000000 }) (disch := first | omega | assumption) only [go_sem, ↓reduceIte, Nat.reduceEqDiff, reduceCtorEq, Nat.reduceAdd, Nat.reduceMul, Nat.reduceLeDiff, zfu, Int.mul_def, Int.add_def, zfv, cond_false, cond_true, isub, ti2, ti3, ti4, ti25, ti26, s0, s1, impE_tupD]
  refine CLL_pure _ c11 rfl rfl rfl ?_
  simp (config := { maxSteps := 10000000 }) (disch := first | omega | assumption) only [go_sem, ↓reduceIte, Nat.reduceEqDiff, reduceCtorEq, Nat.reduceAdd, Nat.reduceMul, Nat.reduceLeDiff, zfu, Int.mul_def, Int.add_def, zfv, cond_false, cond_true, isub, ti2, ti3, ti4, ti25, ti26, s0, s1, impE_tupD]
  refine CLL_args _ (c12t hX1' hX2' hY1') (argsX_data2 (by simp only [↓zcy, ↓zcz, ↓zda, ↓zdb, ↓reduceIte, Nat.reduceEqDiff, and_true, true_and, and_self, ne_eq, not_false_eq_true, eq_self, false_and, and_false, reduceCtorEq]) (by simp only [↓zcy, ↓zcz, ↓zda, ↓zdb, ↓reduceIte, Nat.reduceEqDiff, and_true, true_and, and_self, ne_eq, not_false_eq_true, eq_self, false_and, and_false, reduceCtorEq]) (by simp only [↓zcy, ↓zcz, ↓zda, ↓zdb, ↓reduceIte, Nat.reduceEqDiff, and_true, true_and, and_self, ne_eq, not_false_eq_true, eq_self, false_and, and_false, reduceCtorEq]) (by simp only [↓zcy, ↓zcz, ↓zda, ↓zdb, ↓reduceIte, Nat.reduceEqDiff, and_true, true_and, and_self, ne_eq, not_false_eq_true, eq_self, false_and, and_false, reduceCtorEq])) rfl rfl rfl ?_
  simp (config := { maxSteps := 10000000 }) (disch := first | omega | assumption) only [go_sem, ↓reduceIte, Nat.reduceEqDiff, reduceCtorEq, Nat.reduceAdd, Nat.reduceMul, Nat.reduceLeDiff, zfu, Int.mul_def, Int.add_def, zfv, cond_false, cond_true, isub, ti2, ti3, ti4, ti25, ti26, s0, s1]
  refine CLL_in rfl _ _ _ (in13' (xss := X) (us := Y) (k := 1) (by simp only [↓zcy, ↓zcz, ↓zda, ↓zdb, ↓reduceIte, Nat.reduceEqDiff, and_true, true_and, and_self, ne_eq, not_false_eq_true, eq_self, false_and, and_false, reduceCtorEq]) (by simp only [↓zcy, ↓zcz, ↓zda, ↓zdb, ↓reduceIte, Nat.reduceEqDiff, and_true, true_and, and_self, ne_eq, not_false_eq_true, eq_self, false_and, and_false, reduceCtorEq]) (by decide) (by simp only [↓zcy, ↓zcz, ↓zda, ↓zdb, ↓reduceIte, Nat.reduceEqDiff, and_true, true_and, and_self, ne_eq, not_false_eq_true, eq_self, false_and, and_false, reduceCtorEq]) (by simp only [↓zcy, ↓zcz, ↓zda, ↓zdb, ↓reduceIte, Nat.reduceEqDiff, and_true, true_and, and_self, ne_eq, not_false_eq_true, eq_self, false_and, and_false, reduceCtorEq]) hX1' hX2' hY1' (by decide) (by omega)) ?_
  simp (config := { maxSteps := 10000000 }) (disch := first | omega | assumption) only [go_sem, ↓reduceIte, Nat.reduceEqDiff, reduceCtorEq, Nat.reduceAdd, Nat.reduceMul, Nat.reduceLeDiff, zfu, Int.mul_def, Int.add_def, zfv, cond_false, cond_true, isub, ti2, ti3, ti4, ti25, ti26, s0, s1]
  have hl1 : X.length = (labs 1 (X.map List.length)).length := by rw [labs_len, List.length_map]
  have hl2 : Y.length = (iota (1 + sumN (X.map List.length)) Y.length).length := (iota_len _ _).symm
  refine CLL_args _ (c14' hns (fun j => Nat.le_trans (hns2 j) (by decide)) hY1' (by omega)) (argsX_data1 (by simp only [↓zcy, ↓zcz, ↓zda, ↓zdb, ↓reduceIte, Nat.reduceEqDiff, and_true, true_and, and_self, ne_eq, not_false_eq_true, eq_self, false_and, and_false, reduceCtorEq]) (by simp only [↓zcy, ↓zcz, ↓zda, ↓zdb, ↓reduceIte, Nat.reduceEqDiff, and_true, true_and, and_self, ne_eq, not_false_eq_true, eq_self, false_and, and_false, reduceCtorEq]) hl1 hl2) rfl rfl rfl ?_
  have hge : ¬ ((1 : Int) + sumN (X.map List.length) + Y.length < 0) := by omega
  simp (config := { maxSteps := 10000000 }) (disch := first | omega | assumption) only [go_sem, ↓reduceIte, Nat.reduceEqDiff, reduceCtorEq, Nat.reduceAdd, Nat.reduceMul, Nat.reduceLeDiff, zfu, Int.mul_def, Int.add_def, zfv, cond_false, cond_true, isub, ti2, ti3, ti4, ti25, ti26, s0, s1, hge]
  refine CLL_pure _ c11 rfl rfl rfl ?_
  simp (config := { maxSteps := 10000000 }) (disch := first | omega | assumption) only [go_sem, ↓reduceIte, Nat.reduceEqDiff, reduceCtorEq, Nat.reduceAdd, Nat.reduceMul, Nat.reduceLeDiff, zfu, Int.mul_def, Int.add_def, zfv, cond_false, cond_true, isub, ti2, ti3, ti4, ti25, ti26, s0, s1, impE_tupD]
  refine CLL_args _ (c12t hX1' hX2' hY1') (argsX_data2 (by simp only [↓zcy, ↓zcz, ↓zda, ↓zdb, ↓reduceIte, Nat.reduceEqDiff, and_true, true_and, and_self, ne_eq, not_false_eq_true, eq_self, false_and, and_false, reduceCtorEq]) (by simp only [↓zcy, ↓zcz, ↓zda, ↓zdb, ↓reduceIte, Nat.reduceEqDiff, and_true, true_and, and_self, ne_eq, not_false_eq_true, eq_self, false_and, and_false, reduceCtorEq]) (by simp only [↓zcy, ↓zcz, ↓zda, ↓zdb, ↓reduceIte, Nat.reduceEqDiff, and_true, true_and, and_self, ne_eq, not_false_eq_true, eq_self, false_and, and_false, reduceCtorEq]) (by simp only [↓zcy, ↓zcz, ↓zda, ↓zdb, ↓reduceIte, Nat.reduceEqDiff, and_true, true_and, and_self, ne_eq, not_false_eq_true, eq_self, false_and, and_false, reduceCtorEq])) rfl rfl rfl ?_
  simp (config := { maxSteps := 10000000 }) (disch := first | omega | assumption) only [go_sem, ↓reduceIte, Nat.reduceEqDiff, reduceCtorEq, Nat.reduceAdd, Nat.reduceMul, Nat.reduceLeDiff, zfu, Int.mul_def, Int.add_def, zfv, cond_false, cond_true, isub, ti2, ti3, ti4, ti25, ti26, s0, s1]
  refine CLL_args _ (c14' hns (fun j => Nat.le_trans (hns2 j) (by decide)) hY1' (by omega)) (argsX_data1 (by simp only [↓zcy, ↓zcz, ↓zda, ↓zdb, ↓reduceIte, Nat.reduceEqDiff, and_true, true_and, and_self, ne_eq, not_false_eq_true, eq_self, false_and, and_false, reduceCtorEq]) (by simp only [↓zcy, ↓zcz, ↓zda, ↓zdb, ↓reduceIte, Nat.reduceEqDiff, and_true, true_and, and_self, ne_eq, not_false_eq_true, eq_self, false_and, and_false, reduceCtorEq]) hl1 hl2) rfl rfl rfl ?_
  simp (config := { maxSteps := 10000000 }) (disch := first | omega | assumption) only [go_sem, ↓reduceIte, Nat.reduceEqDiff, reduceCtorEq, Nat.reduceAdd, Nat.reduceMul, Nat.reduceLeDiff, zfu, Int.mul_def, Int.add_def, zfv, cond_false, cond_true, isub, ti2, ti3, ti4, ti25, ti26, s0, s1, hge]
  simp only [zbj, zbk, retR, resL, outT, zes, zez, oneV, ↓zcy, ↓zcz, ↓reduceIte, Nat.reduceEqDiff, Option.some.injEq, AV.sc.injEq, Value.bool.injEq, Value.int.injEq, outL, outT, zft, zcp, zed, zef, zei, zeh, List.length_cons, List.length_nil, Nat.reduceAdd, Nat.zero_add, Nat.reduceLeDiff, List.drop_zero, List.take_succ_cons, List.take_zero, zfi, zfh, Ro.dl, zdb, zda, zfe, and_self, and_true, true_and, eq_self, List.append_nil, List.nil_append, List.cons_append, ne_eq, not_false_eq_true, and_false, false_and, Bool.false_eq_true, St.ev, zes, zfn]

set_option maxRecDepth 1000000 in
theorem in32n {ro : Ro} {gn : Nat → Nat} {k : Int} : InOK Try.prog 32 [nilA, i64 k] ro gn (i64 k) ro gn := by
  refine in_of (fn := Try.f32) (code := bodyOf Try.f32) Try.func32 rfl (by kernel_rfl) ?_
  intro sl hs
  have s0 : sl 0 = nilA := hs 0
  have s1 : sl 1 = i64 k := hs 1
  simp only [Try.f32, bodyOf, Option.getD, go_sem, ↓reduceIte, Nat.reduceEqDiff, reduceCtorEq, Nat.reduceAdd, Nat.reduceMul, Nat.reduceLeDiff, ti2, ti3, ti4, ti23, s0, s1]
  refine WK_for (fun j st => st.sl 0 = nilA ∧ st.sl 1 = i64 k ∧ st.sl 5 = i64 (j : Int) ∧ st.ro = ro ∧ st.gn = gn) 0 ?_ ?_ ?_
  · simp only [↓zcy, ↓zcz, ↓zda, ↓zdb, ↓reduceIte, Nat.reduceEqDiff, and_true, true_and, and_self, ne_eq, not_false_eq_true, eq_self, false_and, and_false, reduceCtorEq, s0, s1, Int.natCast_zero]
  · intro j sl ro' gn' hj; omega
  · rintro sl ro' gn' ⟨s0, s1, s5, rfl, rfl⟩
    dsimp only at s0 s1 s5
    simp (config := { maxSteps := 10000000 }) (disch := first | omega | assumption) only [go_sem, ↓reduceIte, Nat.reduceEqDiff, reduceCtorEq, Nat.reduceAdd, Nat.reduceMul, Nat.reduceLeDiff, zfu, Int.mul_def, Int.add_def, zfv, cond_false, cond_true, isub, ti2, ti3, ti4, ti23, s0, s1, s5, kLen1, Int.natCast_zero, Int.lt_irrefl]
    refine ⟨.inr rfl, ⟨_, rfl, ?_⟩, rfl, rfl⟩
    simp only [↓zcy, ↓zcz, ↓zda, ↓zdb, ↓reduceIte, Nat.reduceEqDiff, and_true, true_and, and_self, ne_eq, not_false_eq_true, eq_self, false_and, and_false, reduceCtorEq, oneOrA]

set_option maxRecDepth 1000000 in
theorem in43n {ro : Ro} {gn : Nat → Nat} {k : Int} : InOK Try.prog 43 [nilA, i64 k] ro gn (i64 k) ro gn := by
  refine in_of (fn := Try.f43) (code := bodyOf Try.f43) Try.func43 rfl (by kernel_rfl) ?_
  intro sl hs
  have s0 : sl 0 = nilA := hs 0
  have s1 : sl 1 = i64 k := hs 1
  simp only [Try.f43, bodyOf, Option.getD, go_sem, ↓reduceIte, Nat.reduceEqDiff, reduceCtorEq, Nat.reduceAdd, Nat.reduceMul, Nat.reduceLeDiff, ti2, ti3, ti4, ti22, s0, s1]
  refine WK_for (fun j st => st.sl 0 = nilA ∧ st.sl 1 = i64 k ∧ st.sl 5 = i64 (j : Int) ∧ st.ro = ro ∧ st.gn = gn) 0 ?_ ?_ ?_
  · simp only [↓zcy, ↓zcz, ↓zda, ↓zdb, ↓reduceIte, Nat.reduceEqDiff, and_true, true_and, and_self, ne_eq, not_false_eq_true, eq_self, false_and, and_false, reduceCtorEq, s0, s1, Int.natCast_zero]
  · intro j sl ro' gn' hj; omega
  · rintro sl ro' gn' ⟨s0, s1, s5, rfl, rfl⟩
    dsimp only at s0 s1 s5
    simp (config := { maxSteps := 10000000 }) (disch := first | omega | assumption) only [go_sem, ↓reduceIte, Nat.reduceEqDiff, reduceCtorEq, Nat.reduceAdd, Nat.reduceMul, Nat.reduceLeDiff, zfu, Int.mul_def, Int.add_def, zfv, cond_false, cond_true, isub, ti2, ti3, ti4, ti22, s0, s1, s5, kLen1, Int.natCast_zero, Int.lt_irrefl]
    refine ⟨.inr rfl, ⟨_, rfl, ?_⟩, rfl, rfl⟩
    simp only [↓zcy, ↓zcz, ↓zda, ↓zdb, ↓reduceIte, Nat.reduceEqDiff, and_true, true_and, and_self, ne_eq, not_false_eq_true, eq_self, false_and, and_false, reduceCtorEq, oneOrA]

set_option maxRecDepth 1000000 in
theorem in13n {ro : Ro} {gn : Nat → Nat} {k : Int} : InOK Try.prog 13 [.agg [nilA, nilA], i64 k] ro gn (i64 k) (upr ro 4096 (gn 4096 + 1) (.bx [nilA, nilA])) (upg gn 4096 (gn 4096 + 1)) := by
  refine in_of (fn := Try.f13) (code := bodyOf Try.f13) Try.func13 rfl (by kernel_rfl) ?_
  intro sl hs
  have s0 : sl 0 = .agg [nilA, nilA] := hs 0
  have s1 : sl 1 = i64 k := hs 1
  simp only [Try.f13, bodyOf, Option.getD, go_sem, ↓reduceIte, Nat.reduceEqDiff, reduceCtorEq, Nat.reduceAdd, Nat.reduceMul, Nat.reduceLeDiff, ti2, ti3, ti4, ti22, ti23, ti25, s0, s1]
  refine CLL_in rfl _ _ _ in43n ?_
  simp (config := { maxSteps := 10000000 }) (disch := first | omega | assumption) only [go_sem, ↓reduceIte, Nat.reduceEqDiff, reduceCtorEq, Nat.reduceAdd, Nat.reduceMul, Nat.reduceLeDiff, zfu, Int.mul_def, Int.add_def, zfv, cond_false, cond_true, isub, ti2, ti3, ti4, ti22, ti23, ti25, s0, s1]
  refine CLL_in rfl _ _ _ in32n ?_
  simp (config := { maxSteps := 10000000 }) (disch := first | omega | assumption) only [go_sem, ↓reduceIte, Nat.reduceEqDiff, reduceCtorEq, Nat.reduceAdd, Nat.reduceMul, Nat.reduceLeDiff, zfu, Int.mul_def, Int.add_def, zfv, cond_false, cond_true, isub, ti2, ti3, ti4, ti22, ti23, ti25, s0, s1]
  refine ⟨.inr rfl, ⟨_, rfl, ?_⟩, rfl, rfl⟩
  simp only [↓zcy, ↓zcz, ↓zda, ↓zdb, ↓reduceIte, Nat.reduceEqDiff, and_true, true_and, and_self, ne_eq, not_false_eq_true, eq_self, false_and, and_false, reduceCtorEq, oneOrA]

set_option maxRecDepth 1000000 in
theorem c3_out {n k : Int} (c10 : CallOK Try.prog 10 [i64 n, i64 k] (.tup [.agg [nilA, nilA], i64 2])) (c11 : CallOK Try.prog 11 [i64 n, i64 k] (.tup [.agg [nilA, nilA], i64 2])) : CallOK Try.prog 3 [i64 n, i64 k] (bo true) := by
  have e12 : CallOK Try.prog 12 [.agg [nilA, nilA], .agg [nilA, nilA]] (bo true) := by
    have := c12 (a := nilA) (b := nilA) (c := nilA) (d := nilA) (xs := []) (ys := []) (us := []) (vs := []) (.inr ⟨rfl, rfl⟩) (.inr ⟨rfl, rfl⟩) (.inr ⟨rfl, rfl⟩) (.inr ⟨rfl, rfl⟩) (by decide) (fun j => by simp) (by decide)
    rwa [decide_eq_true ⟨rfl, rfl⟩] at this
  have e14 : CallOK Try.prog 14 [.agg [nilA, nilA], i64 1] (i64 1) :=
    c14 (a := nilA) (b := nilA) (ns := []) (m := 0) (k := 1) (.inr ⟨rfl, rfl⟩) (.inr ⟨rfl, rfl⟩) (by decide) (fun j => by simp) (by decide) (by decide) (by decide)
  refine call_of (fn := Try.f3) (code := bodyOf Try.f3) Try.func3 rfl (by kernel_rfl) rfl ?_
  intro sl hs
  have s0 : sl 0 = i64 n := hs 0
  have s1 : sl 1 = i64 k := hs 1
  simp (config := { maxSteps := 10000000 }) (disch := first | omega | assumption) only [Try.f3, bodyOf, Option.getD, go_sem, ↓reduceIte, Nat.reduceEqDiff, reduceCtorEq, Nat.reduceAdd, Nat.reduceMul, Nat.reduceLeDiff, zfu, Int.mul_def, Int.add_def, zfv, cond_false, cond_true, isub, ti2, ti3, ti4, ti25, ti26, s0, s1]
  refine CLL_pure _ c10 rfl rfl rfl ?_
  simp (config := { maxSteps := 10000000 }) (disch := first | omega | assumption) only [go_sem, ↓reduceIte, Nat.reduceEqDiff, reduceCtorEq, Nat.reduceAdd, Nat.reduceMul, Nat.reduceLeDiff, zfu, Int.mul_def, Int.add_def, zfv, cond_false, cond_true, isub, ti2, ti3, ti4, ti25, ti26, s0, s1, impE_tupN]
  refine CLL_pure _ c11 rfl rfl rfl ?_
  simp (config := { maxSteps := 10000000 }) (disch := first | omega | assumption) only [go_sem, ↓reduceIte, Nat.reduceEqDiff, reduceCtorEq, Nat.reduceAdd, Nat.reduceMul, Nat.reduceLeDiff, zfu, Int.mul_def, Int.add_def, zfv, cond_false, cond_true, isub, ti2, ti3, ti4, ti25, ti26, s0, s1, impE_tupN]
  refine CLL_pure _ e12 rfl rfl rfl ?_
  simp (config := { maxSteps := 10000000 }) (disch := first | omega | assumption) only [go_sem, ↓reduceIte, Nat.reduceEqDiff, reduceCtorEq, Nat.reduceAdd, Nat.reduceMul, Nat.reduceLeDiff, zfu, Int.mul_def, Int.add_def, zfv, cond_false, cond_true, isub, ti2, ti3, ti4, ti25, ti26, s0, s1]
  refine CLL_in rfl _ _ _ in13n ?_
  have hge : ¬ ((1 : Int) < 0) := by omega
  simp (config := { maxSteps := 10000000 }) (disch := first | omega | assumption) only [go_sem, ↓reduceIte, Nat.reduceEqDiff, reduceCtorEq, Nat.reduceAdd, Nat.reduceMul, Nat.reduceLeDiff, zfu, Int.mul_def, Int.add_def, zfv, cond_false, cond_true, isub, ti2, ti3, ti4, ti25, ti26, s0, s1]
  refine CLL_pure _ e14 rfl rfl rfl ?_
  simp (config := { maxSteps := 10000000 }) (disch := first | omega | assumption) only [go_sem, ↓reduceIte, Nat.reduceEqDiff, reduceCtorEq, Nat.reduceAdd, Nat.reduceMul, Nat.reduceLeDiff, zfu, Int.mul_def, Int.add_def, zfv, cond_false, cond_true, isub, ti2, ti3, ti4, ti25, ti26, s0, s1, hge]
  refine CLL_pure _ c11 rfl rfl rfl ?_
  simp (config := { maxSteps := 10000000 }) (disch := first | omega | assumption) only [go_sem, ↓reduceIte, Nat.reduceEqDiff, reduceCtorEq, Nat.reduceAdd, Nat.reduceMul, Nat.reduceLeDiff, zfu, Int.mul_def, Int.add_def, zfv, cond_false, cond_true, isub, ti2, ti3, ti4, ti25, ti26, s0, s1, impE_tupN]
  refine CLL_pure _ e12 rfl rfl rfl ?_
  simp (config := { maxSteps := 10000000 }) (disch := first | omega | assumption) only [go_sem, ↓reduceIte, Nat.reduceEqDiff, reduceCtorEq, Nat.reduceAdd, Nat.reduceMul, Nat.reduceLeDiff, zfu, Int.mul_def, Int.add_def, zfv, cond_false, cond_true, isub, ti2, ti3, ti4, ti25, ti26, s0, s1]
  refine CLL_pure _ e14 rfl rfl rfl ?_
  simp (config := { maxSteps := 10000000 }) (disch := first | omega | assumption) only [go_sem, ↓reduceIte, Nat.reduceEqDiff, reduceCtorEq, Nat.reduceAdd, Nat.reduceMul, Nat.reduceLeDiff, zfu, Int.mul_def, Int.add_def, zfv, cond_false, cond_true, isub, ti2, ti3, ti4, ti25, ti26, s0, s1, hge]
  simp only [zbj, zbk, retR, resL, outT, zes, zez, oneV, ↓zcy, ↓zcz, ↓reduceIte, Nat.reduceEqDiff, Option.some.injEq, AV.sc.injEq, Value.bool.injEq, Value.int.injEq, outL, outT, zft, zcp, zed, zef, zei, zeh, List.length_cons, List.length_nil, Nat.reduceAdd, Nat.zero_add, Nat.reduceLeDiff, List.drop_zero, List.take_succ_cons, List.take_zero, zfi, zfh, Ro.dl, zdb, zda, zfe, and_self, and_true, true_and, eq_self, List.append_nil, List.nil_append, List.cons_append, ne_eq, not_false_eq_true, and_false, false_and, Bool.false_eq_true, St.ev, zes, zfn]

/-- THE LAW's FUNCTION ANSWERS true. -/
theorem c3 (n k : Int) : CallOK Try.prog 3 [i64 n, i64 k] (bo true) := by
  by_cases hn : 1 ≤ n ∧ n ≤ 4
  · by_cases hk : 0 ≤ k ∧ k ≤ n - 1
    · exact c3_in hn hk
    · exact c3_out (c10_no2 hn hk) (c11_no2 hn hk)
  · exact c3_out (c10_no1 hn) (c11_no1 hn)
end Go.Proofs.Ytifgeenipinnmaa
