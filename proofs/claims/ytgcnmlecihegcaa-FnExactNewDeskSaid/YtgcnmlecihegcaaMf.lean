/- Texts joined: K4 K5 K6 K7. -/
import Derived.Test.YtgcnmlecihegcaaMd
import Derived.Test.YtgcnmlecihegcaaMe
set_option linter.all false
/- The field's small functions. -/
namespace Go.Proofs.Ytgcnmlecihegcaa
open Go.RowKit

theorem c77 {a k : Int} (h1 : 0 ≤ a) (h2 : a < 55441) (h5 : 0 ≤ k) (h7 : k < 2^63) : CallOK Try.prog 43 [i64 a, i64 k] (i64 (a ^ k.toNat % 55441)) := of_body (f77_run h1 h2 h5 h7)
theorem c74 {a k : Int} (h1 : 0 ≤ a) (h2 : a < 55441) (h5 : 0 ≤ k) (h7 : k < 2^63) : CallOK Try.prog 41 [i64 a, i64 k] (i64 (a ^ k.toNat % 55441)) := of_body (f74_run h1 h2 h5 h7)

set_option maxRecDepth 1000000 in
theorem c38 {a b c : Int} : CallOK Try.prog 52 [i64 a, i64 b, i64 c] (bo (decide (b ≤ a ∧ a ≤ c))) := by
  refine call_of (fn := Try.f52) (code := bodyOf Try.f52) Try.func52 rfl (by kernel_rfl) rfl ?_
  intro sl hs
  have s0 : sl 0 = i64 a := hs 0
  have s1 : sl 1 = i64 b := hs 1
  have s2 : sl 2 = i64 c := hs 2
  rcases Int.lt_or_le a b with h | h
  · have h' : ¬ (b ≤ a) := by omega
    simp (config := { maxSteps := 10000000 }) (disch := first | omega | assumption) only [Try.f52, bodyOf, Option.getD, go_sem, ↓reduceIte, Nat.reduceEqDiff, reduceCtorEq, Nat.reduceAdd, Nat.reduceMul, Nat.reduceLeDiff, ti2, s0, s1, s2, h, h']
    simp only [zbj, zbk, retR, resL, outT, zes, zez, oneV, ↓zcy, ↓zcz, ↓reduceIte, Nat.reduceEqDiff, Option.some.injEq, AV.sc.injEq, Value.bool.injEq, Value.int.injEq, outL, outT, zft, zcp, zed, zef, zei, zeh, List.length_cons, List.length_nil, Nat.reduceAdd, Nat.zero_add, Nat.reduceLeDiff, List.drop_zero, List.take_succ_cons, List.take_zero, zfi, zfh, Ro.dl, zdb, zda, zfe, and_self, and_true, true_and, eq_self, List.append_nil, List.nil_append, List.cons_append, ne_eq, not_false_eq_true, and_false, false_and, Bool.false_eq_true, St.ev, zes, zfn, zhk]
  · have h' : ¬ (a < b) := by omega
    simp (config := { maxSteps := 10000000 }) (disch := first | omega | assumption) only [Try.f52, bodyOf, Option.getD, go_sem, ↓reduceIte, Nat.reduceEqDiff, reduceCtorEq, Nat.reduceAdd, Nat.reduceMul, Nat.reduceLeDiff, ti2, s0, s1, s2, h, h']
    simp only [zbj, zbk, retR, resL, outT, zes, zez, oneV, ↓zcy, ↓zcz, ↓reduceIte, Nat.reduceEqDiff, Option.some.injEq, AV.sc.injEq, Value.bool.injEq, Value.int.injEq, outL, outT, zft, zcp, zed, zef, zei, zeh, List.length_cons, List.length_nil, Nat.reduceAdd, Nat.zero_add, Nat.reduceLeDiff, List.drop_zero, List.take_succ_cons, List.take_zero, zfi, zfh, Ro.dl, zdb, zda, zfe, and_self, and_true, true_and, eq_self, List.append_nil, List.nil_append, List.cons_append, ne_eq, not_false_eq_true, and_false, false_and, Bool.false_eq_true, St.ev, zes, zfn, zhk, ← decide_not, Int.not_lt]

/-- Powers in the field. -/
def pw (a : Int) (k : Int) : Int := a ^ k.toNat % 55441
theorem pw_nonneg (a k : Int) : 0 ≤ pw a k := Int.emod_nonneg _ (by decide)
theorem pw_lt (a k : Int) : pw a k < 55441 := Int.emod_lt_of_pos _ (by decide)

set_option maxRecDepth 1000000 in
theorem c59 {a : Int} (h1 : 0 ≤ a) (h2 : a < 55441) : CallOK Try.prog 77 [i64 a] (i64 (pw a 55439)) := by
  refine call_of (fn := Try.f77) (code := bodyOf Try.f77) Try.func77 rfl (by kernel_rfl) rfl ?_
  intro sl hs
  have s0 : sl 0 = i64 a := hs 0
  simp (config := { maxSteps := 10000000 }) (disch := first | omega | assumption) only [Try.f77, bodyOf, Option.getD, go_sem, ↓reduceIte, Nat.reduceEqDiff, reduceCtorEq, Nat.reduceAdd, Nat.reduceMul, Nat.reduceLeDiff, ti2, s0]
  refine CLL_pure _ (c74 h1 h2 (by decide) (by decide)) rfl rfl rfl ?_
  simp (config := { maxSteps := 10000000 }) (disch := first | omega | assumption) only [go_sem, ↓reduceIte, Nat.reduceEqDiff, reduceCtorEq, Nat.reduceAdd, Nat.reduceMul, Nat.reduceLeDiff, ti2, s0]
  simp only [zbj, zbk, retR, resL, outT, zes, zez, oneV, ↓zcy, ↓zcz, ↓reduceIte, Nat.reduceEqDiff, Option.some.injEq, AV.sc.injEq, Value.bool.injEq, Value.int.injEq, outL, outT, zft, zcp, zed, zef, zei, zeh, List.length_cons, List.length_nil, Nat.reduceAdd, Nat.zero_add, Nat.reduceLeDiff, List.drop_zero, List.take_succ_cons, List.take_zero, zfi, zfh, Ro.dl, zdb, zda, zfe, and_self, and_true, true_and, eq_self, List.append_nil, List.nil_append, List.cons_append, ne_eq, not_false_eq_true, and_false, false_and, Bool.false_eq_true, St.ev, zes, zfn, zhk, pw]

/-- The quotient in the field. -/
def qt (a b : Int) : Int := a * pw b 55439 % 55441

set_option maxRecDepth 1000000 in
theorem c75 {n : Int} (h1 : 1 ≤ n) (h2 : n ≤ 55440) : CallOK Try.prog 44 [i64 n] (i64 (pw 38 (55440 / n))) := by
  refine call_of (fn := Try.f44) (code := bodyOf Try.f44) Try.func44 rfl (by kernel_rfl) rfl ?_
  intro sl hs
  have s0 : sl 0 = i64 n := hs 0
  have hd : 0 ≤ 55440 / n := Int.ediv_nonneg (by decide) (by omega)
  have hd2 : 55440 / n ≤ 55440 := Int.ediv_le_self _ (by decide)
  simp (config := { maxSteps := 10000000 }) (disch := first | omega | assumption) only [Try.f44, bodyOf, Option.getD, go_sem, ↓reduceIte, Nat.reduceEqDiff, reduceCtorEq, Nat.reduceAdd, Nat.reduceMul, Nat.reduceLeDiff, zfu, Int.mul_def, Int.add_def, zfv, cond_false, cond_true, isub, ti2, s0, Int.tdiv_eq_ediv_of_nonneg]
  refine CLL_pure _ (c77 (by decide) (by decide) hd (by omega)) rfl rfl rfl ?_
  simp (config := { maxSteps := 10000000 }) (disch := first | omega | assumption) only [go_sem, ↓reduceIte, Nat.reduceEqDiff, reduceCtorEq, Nat.reduceAdd, Nat.reduceMul, Nat.reduceLeDiff, ti2, s0]
  simp only [zbj, zbk, retR, resL, outT, zes, zez, oneV, ↓zcy, ↓zcz, ↓reduceIte, Nat.reduceEqDiff, Option.some.injEq, AV.sc.injEq, Value.bool.injEq, Value.int.injEq, outL, outT, zft, zcp, zed, zef, zei, zeh, List.length_cons, List.length_nil, Nat.reduceAdd, Nat.zero_add, Nat.reduceLeDiff, List.drop_zero, List.take_succ_cons, List.take_zero, zfi, zfh, Ro.dl, zdb, zda, zfe, and_self, and_true, true_and, eq_self, List.append_nil, List.nil_append, List.cons_append, ne_eq, not_false_eq_true, and_false, false_and, Bool.false_eq_true, St.ev, zes, zfn, zhk, pw]

set_option maxRecDepth 1000000 in
theorem c73 {n : Int} (h1 : 1 ≤ n) (h2 : n ≤ 55440) : CallOK Try.prog 39 [i64 n] (i64 (pw 38 (55440 / n))) := by
  refine call_of (fn := Try.f39) (code := bodyOf Try.f39) Try.func39 rfl (by kernel_rfl) rfl ?_
  intro sl hs
  have s0 : sl 0 = i64 n := hs 0
  have hd : 0 ≤ 55440 / n := Int.ediv_nonneg (by decide) (by omega)
  have hd2 : 55440 / n ≤ 55440 := Int.ediv_le_self _ (by decide)
  simp (config := { maxSteps := 10000000 }) (disch := first | omega | assumption) only [Try.f39, bodyOf, Option.getD, go_sem, ↓reduceIte, Nat.reduceEqDiff, reduceCtorEq, Nat.reduceAdd, Nat.reduceMul, Nat.reduceLeDiff, zfu, Int.mul_def, Int.add_def, zfv, cond_false, cond_true, isub, ti2, s0, Int.tdiv_eq_ediv_of_nonneg]
  refine CLLD_pure _ c100 rfl rfl ?_
  simp (config := { maxSteps := 10000000 }) (disch := first | omega | assumption) only [go_sem, ↓reduceIte, Nat.reduceEqDiff, reduceCtorEq, Nat.reduceAdd, Nat.reduceMul, Nat.reduceLeDiff, zfu, Int.mul_def, Int.add_def, zfv, cond_false, cond_true, isub, ti2, s0, Int.tdiv_eq_ediv_of_nonneg]
  refine CLLD_pure _ (c74 (by decide) (by decide) hd (by omega)) rfl rfl ?_
  simp (config := { maxSteps := 10000000 }) (disch := first | omega | assumption) only [go_sem, ↓reduceIte, Nat.reduceEqDiff, reduceCtorEq, Nat.reduceAdd, Nat.reduceMul, Nat.reduceLeDiff, zfu, Int.mul_def, Int.add_def, zfv, cond_false, cond_true, isub, ti2, s0]
  refine FIN_of (by kernel_rfl) ?_
  simp (config := { maxSteps := 10000000 }) (disch := first | omega | assumption) only [go_sem, ↓reduceIte, Nat.reduceEqDiff, reduceCtorEq, Nat.reduceAdd, Nat.reduceMul, Nat.reduceLeDiff, zfu, Int.mul_def, Int.add_def, zfv, cond_false, cond_true, isub, ti2, s0]
  simp only [zbj, zbk, retR, resL, outT, zes, zez, oneV, ↓zcy, ↓zcz, ↓reduceIte, Nat.reduceEqDiff, Option.some.injEq, AV.sc.injEq, Value.bool.injEq, Value.int.injEq, outL, outT, zft, zcp, zed, zef, zei, zeh, List.length_cons, List.length_nil, Nat.reduceAdd, Nat.zero_add, Nat.reduceLeDiff, List.drop_zero, List.take_succ_cons, List.take_zero, zfi, zfh, Ro.dl, zdb, zda, zfe, and_self, and_true, true_and, eq_self, List.append_nil, List.nil_append, List.cons_append, ne_eq, not_false_eq_true, and_false, false_and, Bool.false_eq_true, St.ev, zes, zfn, zhk, pw]

/-- A power with any exponent, as impl.powerOf has it. -/
def pwz (a k : Int) : Int := if k < 0 then qt 1 (pw a (-k)) else pw a k

end Go.Proofs.Ytgcnmlecihegcaa

/- The doubles of cyclic groups. -/
namespace Go.Proofs.Ytgcnmlecihegcaa
open Go.RowKit

theorem mulB {x y X Y : Int} (h1 : 0 ≤ x) (h2 : x ≤ X) (h3 : 0 ≤ y) (h4 : y ≤ Y) : 0 ≤ x * y ∧ x * y ≤ X * Y :=
  ⟨Int.mul_nonneg h1 h3, Int.mul_le_mul h2 h4 h3 (by omega)⟩

theorem dvB {n x : Int} (h1 : 1 ≤ n) (h2 : n ≤ 4) (h3 : 0 ≤ x) (h4 : x < n * n) : 0 ≤ x / n ∧ x / n ≤ 3 ∧ 0 ≤ x % n ∧ x % n ≤ 3 := by
  have h5 : x / n < n := Int.ediv_lt_of_lt_mul (by omega) h4
  have h6 : 0 ≤ x / n := Int.ediv_nonneg h3 (by omega)
  have h7 := Int.emod_nonneg x (b := n) (by omega)
  have h8 := Int.emod_lt_of_pos x (b := n) (by omega)
  omega
theorem noRefL_map {α : Type} (f : α → AV) (h : ∀ i, noRef (f i) = true) : ∀ l : List α, noRefL (l.map f) = true
  | [] => rfl
  | a :: l => by simp only [List.map_cons, noRefL, h, noRefL_map f h l, Bool.and_self]
theorem noRefL_rws (f : Nat → AV) (n : Nat) (h : ∀ i, noRef (f i) = true) : noRefL (rws f n) = true := noRefL_map f h _
theorem noRef_row (cs : List AV) (h : noRefL cs = true) : noRef (.row cs) = true := by simpa only [noRef] using h
theorem noRef_dbl (f : Nat → Nat → Int) (g : Nat → Int) (m m' : Nat) : noRef (.agg [.row (rws (fun i => .row (rws (fun j => i64 (f i j)) m)) m'), .row (rws (fun i => i64 (g i)) m')]) = true := by
  have h1 : noRefL (rws (fun i => AV.row (rws (fun j => i64 (f i j)) m)) m') = true := noRefL_rws _ _ fun i => noRef_row _ (noRefL_rws _ _ fun j => rfl)
  have h2 : noRefL (rws (fun i => i64 (g i)) m') = true := noRefL_rws _ _ fun i => rfl
  simp only [noRef, noRefL, h1, h2, Bool.and_self]
/-- The exponents of the double. -/
def dE (n k : Int) (i j : Nat) : Int := n * ((i : Int) / n * ((j : Int) % n) + (j : Int) / n * ((i : Int) % n)) + 2 * k * ((i : Int) / n) * ((j : Int) / n)
def dT (n k : Int) (i : Nat) : Int := n * ((i : Int) / n) * ((i : Int) % n) + k * ((i : Int) / n) * ((i : Int) / n)
def dz (n : Int) : Int := pw 38 (55440 / (n * n))

end Go.Proofs.Ytgcnmlecihegcaa

/- The doubles of cyclic groups, told. -/
namespace Go.Proofs.Ytgcnmlecihegcaa
open Go.RowKit
theorem noRef_tup1 (a : AV) (v : Value) (h : noRef a = true) : noRef (.tup [a, .sc v]) = true := by simp only [noRef, noRefL, h, Bool.and_self]
theorem c38t {a b c : Int} (h : b ≤ a ∧ a ≤ c) : CallOK Try.prog 52 [i64 a, i64 b, i64 c] (bo true) := by have := c38 (a := a) (b := b) (c := c); rwa [decide_eq_true h] at this
theorem c38f {a b c : Int} (h : ¬ (b ≤ a ∧ a ≤ c)) : CallOK Try.prog 52 [i64 a, i64 b, i64 c] (bo false) := by have := c38 (a := a) (b := b) (c := c); rwa [decide_eq_false h] at this
theorem impE_agg2 (b : Nat) (gn : Nat → Nat) (xs ys : List AV) : impE b gn (.agg [.row xs, .row ys]) = ⟨.agg [.ref b (gn b + 1) [] 0 xs.length, .ref (b + 1) (gn (b + 1) + 1) [] 0 ys.length], none, [], [(b, .row xs), (b + 1, .row ys)]⟩ := nr _

end Go.Proofs.Ytgcnmlecihegcaa

/- FnExactDoubleOfCyclic: the law's run. -/
namespace Go.Proofs.Ytgcnmlecihegcaa
open Go.RowKit
theorem ti26 : ti0 47 = ti0 47 := rfl

/-! ### The plain law -/
theorem emod_pow (a : Int) (k : Nat) : (a % 55441) ^ k % 55441 = a ^ k % 55441 := by
  induction k with
  | zero => simp
  | succ k ih => rw [Int.pow_succ, Int.pow_succ, Int.mul_emod, ih, Int.emod_emod_of_dvd _ (by decide : (55441:Int) ∣ 55441), ← Int.mul_emod]
theorem pwz_neg {z e : Int} (he : 0 ≤ e) : pwz z (-e) = pw (pw z 55439) e := by
  unfold pwz
  split
  · rename_i h
    have e1 : - -e = e := by omega
    have e2 : (55439 : Int).toNat = 55439 := rfl
    simp only [qt, pw, e1, e2, Int.one_mul, emod_pow, ← Int.pow_mul, Int.emod_emod_of_dvd _ (by decide : (55441:Int) ∣ 55441)]
    rw [Nat.mul_comm]
  · rename_i h
    have : e = 0 := by omega
    subst this
    simp [pw]

theorem rws_congr {α : Type} {f g : Nat → α} {n : Nat} (h : ∀ i, i < n → f i = g i) : rws f n = rws g n := by
  unfold rws
  exact List.map_congr_left fun i hi => h i (List.mem_range.1 hi)
theorem rws_map {α β : Type} (f : Nat → α) (g : α → β) (n : Nat) : (rws f n).map g = rws (fun i => g (f i)) n := by simp [rws, Function.comp_def]

def dS (n k : Int) : List (List Int) := rws (fun i => rws (fun j => pw (pw (dz n) 55439) (dE n k i j)) (n * n).toNat) (n * n).toNat
def dTs (n k : Int) : List Int := rws (fun i => pw (dz n) (dT n k i)) (n * n).toNat

abbrev rowL (xs : List Int) : AV := .row (xs.map i64)
abbrev rowLL (xss : List (List Int)) : AV := .row (xss.map rowL)
abbrev immL (xs : List Int) : AV := .imm (xs.map i64)
abbrev immLL (xss : List (List Int)) : AV := .imm (xss.map immL)

theorem dE_nonneg {n k : Int} (h1 : 1 ≤ n) (h2 : n ≤ 4) (h3 : 0 ≤ k) {i j : Nat} (hi : i < (n * n).toNat) (hj : j < (n * n).toNat) : 0 ≤ dE n k i j := by
  have hi' : (i : Int) < n * n := by omega
  have hj' : (j : Int) < n * n := by omega
  obtain ⟨a1, a2, a3, a4⟩ := dvB h1 h2 (Int.natCast_nonneg i) hi'
  obtain ⟨b1, b2, b3, b4⟩ := dvB h1 h2 (Int.natCast_nonneg j) hj'
  have p1 := mulB a1 a2 b3 b4
  have p2 := mulB b1 b2 a3 a4
  have p3 := mulB (x := n) (X := 4) (y := (i : Int) / n * ((j : Int) % n) + (j : Int) / n * ((i : Int) % n)) (Y := 18) (by omega) h2 (by omega) (by omega)
  have p5 : 0 ≤ 2 * k * ((i : Int) / n) := Int.mul_nonneg (by omega) a1
  have p6 : 0 ≤ 2 * k * ((i : Int) / n) * ((j : Int) / n) := Int.mul_nonneg p5 b1
  unfold dE; omega

theorem in13' {s g s2 g2 : Nat} {xss : List (List Int)} {us : List Int} {ro : Ro} {gn : Nat → Nat} {k : Int} (hro : ro s g = some (rowLL xss)) (hro2 : ro s2 g2 = some (rowL us)) (hne : ¬ (s2 = s ∧ g2 = g)) (hf : ¬ (s = 4096 ∧ g = gn 4096 + 1)) (hf2 : ¬ (s2 = 4096 ∧ g2 = gn 4096 + 1))
    (hn : xss.length ≤ maxN) (hn2 : ∀ j, (xss.getD j []).length ≤ maxN) (hu : us.length ≤ maxN) (hk : 0 ≤ k) (hk2 : k + sumN (xss.map List.length) + us.length ≤ 2^62) :
    InOK Try.prog 16 [.agg [.ref s g [] 0 xss.length, .ref s2 g2 [] 0 us.length], i64 k] ro gn (i64 (k + sumN (xss.map List.length) + us.length))
      (upr (upr (upr ro 4096 (gn 4096 + 1) (.bx [.ref s g [] 0 xss.length, .ref s2 g2 [] 0 us.length])) s g (rowLL (labs k (xss.map List.length)))) s2 g2 (rowL (iota (k + sumN (xss.map List.length)) us.length))) (upg gn 4096 (gn 4096 + 1)) := by
  have h1 : ro s g = some (.row (rowsOf (xss.map (·.map i64)))) := by rw [hro]; simp [rowsOf, rowLL]
  have h2 := in13 (css := xss.map (·.map i64)) (us := us.map i64) h1 hro2 hne hf hf2 (by simpa using hn) (fun j => by
    have := hn2 j
    simp only [List.getD_eq_getElem?_getD, List.getElem?_map] at this ⊢
    cases h : xss[j]? <;> simp_all) (by simpa using hu) hk (by simpa [Function.comp_def] using hk2)
  simpa [labsA, Function.comp_def] using h2

/-! ### The law's run -/
theorem exLL (ro : Ro) (k : Nat) (xss : List (List Int)) : (xss.map rowL).map (ex ro (k + 2)) = xss.map immL := by
  rw [List.map_map]
  refine List.map_congr_left fun xs _ => ?_
  show AV.imm ((xs.map i64).map (ex ro (k + 1))) = _
  rw [ex_map]
theorem ex_refLL {ro : Ro} {s g : Nat} {xss : List (List Int)} (h : ro s g = some (rowLL xss)) (k : Nat) : ex ro (k + 3) (.ref s g [] 0 xss.length) = immLL xss := by
  show (match ro.cells s g [] with | some cs => AV.imm (((cs.drop 0).take xss.length).map (ex ro (k + 2))) | none => .dead) = _
  rw [zef, h]
  simp only [zeh, List.drop_zero]
  rw [List.take_of_length_le (by simp), exLL]
theorem ex_refL {ro : Ro} {s g : Nat} {xs : List Int} (h : ro s g = some (rowL xs)) (k : Nat) : ex ro (k + 2) (.ref s g [] 0 xs.length) = immL xs := by
  show (match ro.cells s g [] with | some cs => AV.imm (((cs.drop 0).take xs.length).map (ex ro (k + 1))) | none => .dead) = _
  rw [zef, h]
  simp only [zeh, List.drop_zero]
  rw [List.take_of_length_le (by simp), ex_map]
theorem argsX_data1 {ro : Ro} {s g s2 g2 n1 n2 : Nat} {xss : List (List Int)} {us : List Int} {v : Value} (h1 : ro s g = some (rowLL xss)) (h2 : ro s2 g2 = some (rowL us)) (e1 : n1 = xss.length) (e2 : n2 = us.length) :
    argsX ro [.agg [.ref s g [] 0 n1, .ref s2 g2 [] 0 n2], .sc v] = [.agg [immLL xss, immL us], .sc v] := by
  subst e1 e2
  have hp : pureL [.agg [.ref s g [] 0 xss.length, .ref s2 g2 [] 0 us.length], .sc v] = false := rfl
  unfold argsX
  rw [hp, if_neg Bool.false_ne_true]
  show [AV.agg [ex ro 7 _, ex ro 7 _], AV.sc v] = _
  rw [ex_refLL h1 4, ex_refL h2 5]
theorem argsX_data2 {ro : Ro} {s g s2 g2 s' g' s2' g2' : Nat} {xss xss' : List (List Int)} {us us' : List Int} (h1 : ro s g = some (rowLL xss)) (h2 : ro s2 g2 = some (rowL us)) (h3 : ro s' g' = some (rowLL xss')) (h4 : ro s2' g2' = some (rowL us')) :
    argsX ro [.agg [.ref s g [] 0 xss.length, .ref s2 g2 [] 0 us.length], .agg [.ref s' g' [] 0 xss'.length, .ref s2' g2' [] 0 us'.length]] = [.agg [immLL xss, immL us], .agg [immLL xss', immL us']] := by
  have hp : pureL [.agg [.ref s g [] 0 xss.length, .ref s2 g2 [] 0 us.length], .agg [.ref s' g' [] 0 xss'.length, .ref s2' g2' [] 0 us'.length]] = false := rfl
  unfold argsX
  rw [hp, if_neg Bool.false_ne_true]
  show [AV.agg [ex ro 7 _, ex ro 7 _], AV.agg [ex ro 7 _, ex ro 7 _]] = _
  rw [ex_refLL h1 4, ex_refL h2 5, ex_refLL h3 4, ex_refL h4 5]
theorem c12t {xss : List (List Int)} {us : List Int} (hx : xss.length ≤ maxN) (hx2 : ∀ j, (xss.getD j []).length ≤ maxN) (hu : us.length ≤ maxN) : CallOK Try.prog 13 [.agg [immLL xss, immL us], .agg [immLL xss, immL us]] (bo true) := by
  have := c12 (isLL_imm xss) (isLL_imm xss) (isL_imm us) (isL_imm us) hx hx2 hu
  rwa [decide_eq_true ⟨rfl, rfl⟩] at this
theorem c14' {ns : List Nat} {m : Nat} (hn : ns.length ≤ maxN) (hn2 : ∀ j, ns.getD j 0 ≤ maxN) (hm : m ≤ maxN) (hk2 : (1 : Int) + sumN ns + m ≤ 2^62) :
    CallOK Try.prog 19 [.agg [immLL (labs 1 ns), immL (iota (1 + sumN ns) m)], i64 1] (i64 (1 + sumN ns + m)) :=
  c14 (isLL_imm _) (isL_imm _) hn hn2 hm (by decide) hk2
theorem impE_tupD (b : Nat) (gn : Nat → Nat) (xss : List (List Int)) (us : List Int) (v : Value) : impE b gn (.tup [.agg [rowLL xss, rowL us], .sc v]) = ⟨.tup [.agg [.ref b (gn b + 1) [] 0 xss.length, .ref (b + 1) (gn (b + 1) + 1) [] 0 us.length], .sc v], none, [], [(b, rowLL xss), (b + 1, rowL us)]⟩ := by
  show (⟨.tup [.agg [.ref b (gn b + 1) [] 0 (xss.map rowL).length, .ref (b + 1) (gn (b + 1) + 1) [] 0 (us.map i64).length], .sc v], none, [], [(b, rowLL xss), (b + 1, rowL us)]⟩ : Eff) = _
  rw [List.length_map, List.length_map]
theorem impE_tupN (b : Nat) (gn : Nat → Nat) (v w x : Value) : impE b gn (.tup [.agg [.sc v, .sc w], .sc x]) = ⟨.tup [.agg [.sc v, .sc w], .sc x], none, [], []⟩ := nr _
theorem impOK_tupD (xss : List (List Int)) (us : List Int) (v : Value) : impOK (.tup [.agg [rowLL xss, rowL us], .sc v]) = true := rfl

theorem dS_len (n k : Int) : (dS n k).length = (n * n).toNat := zfe _ _
theorem dTs_len (n k : Int) : (dTs n k).length = (n * n).toNat := zfe _ _

theorem sumN_le : ∀ (ns : List Nat) (m : Nat), (∀ j, ns.getD j 0 ≤ m) → sumN ns ≤ ns.length * m
  | [], m, _ => by simp [sumN]
  | n :: ns, m, h => by
    have h0 := h 0
    have := sumN_le ns m fun j => by simpa using h (j + 1)
    simp only [List.getD_cons_zero] at h0
    simp only [sumN, List.length_cons, Nat.succ_mul]
    omega

set_option maxRecDepth 1000000 in
theorem in32n {ro : Ro} {gn : Nat → Nat} {k : Int} : InOK Try.prog 30 [nilA, i64 k] ro gn (i64 k) ro gn := by
  refine in_of (fn := Try.f30) (code := bodyOf Try.f30) Try.func30 rfl (by kernel_rfl) ?_
  intro sl hs
  have s0 : sl 0 = nilA := hs 0
  have s1 : sl 1 = i64 k := hs 1
  simp only [Try.f30, bodyOf, Option.getD, go_sem, ↓reduceIte, Nat.reduceEqDiff, reduceCtorEq, Nat.reduceAdd, Nat.reduceMul, Nat.reduceLeDiff, ti2, ti3, ti4, ti23, s0, s1]
  refine WK_for (fun j st => st.sl 0 = nilA ∧ st.sl 1 = i64 k ∧ st.sl 5 = i64 (j : Int) ∧ st.ro = ro ∧ st.gn = gn) 0 ?_ ?_ ?_
  · simp only [↓zcy, ↓zcz, ↓zda, ↓zdb, ↓reduceIte, Nat.reduceEqDiff, and_true, true_and, and_self, ne_eq, not_false_eq_true, eq_self, false_and, and_false, reduceCtorEq, s0, s1, Int.natCast_zero]
  · intro j sl ro' gn' hj; omega
  · rintro sl ro' gn' ⟨s0, s1, s5, rfl, rfl⟩
    dsimp only at s0 s1 s5
    simp (config := { maxSteps := 10000000 }) (disch := first | omega | assumption) only [go_sem, ↓reduceIte, Nat.reduceEqDiff, reduceCtorEq, Nat.reduceAdd, Nat.reduceMul, Nat.reduceLeDiff, zfu, Int.mul_def, Int.add_def, zfv, cond_false, cond_true, isub, ti2, ti3, ti4, ti23, s0, s1, s5, kLen1, Int.natCast_zero, Int.lt_irrefl]
    refine ⟨.inr rfl, ⟨_, rfl, ?_⟩, rfl, rfl⟩
    simp only [↓zcy, ↓zcz, ↓zda, ↓zdb, ↓reduceIte, Nat.reduceEqDiff, and_true, true_and, and_self, ne_eq, not_false_eq_true, eq_self, false_and, and_false, reduceCtorEq, oneOrA]

set_option maxRecDepth 1000000 in
theorem in43n {ro : Ro} {gn : Nat → Nat} {k : Int} : InOK Try.prog 31 [nilA, i64 k] ro gn (i64 k) ro gn := by
  refine in_of (fn := Try.f31) (code := bodyOf Try.f31) Try.func31 rfl (by kernel_rfl) ?_
  intro sl hs
  have s0 : sl 0 = nilA := hs 0
  have s1 : sl 1 = i64 k := hs 1
  simp only [Try.f31, bodyOf, Option.getD, go_sem, ↓reduceIte, Nat.reduceEqDiff, reduceCtorEq, Nat.reduceAdd, Nat.reduceMul, Nat.reduceLeDiff, ti2, ti3, ti4, ti22, s0, s1]
  refine WK_for (fun j st => st.sl 0 = nilA ∧ st.sl 1 = i64 k ∧ st.sl 5 = i64 (j : Int) ∧ st.ro = ro ∧ st.gn = gn) 0 ?_ ?_ ?_
  · simp only [↓zcy, ↓zcz, ↓zda, ↓zdb, ↓reduceIte, Nat.reduceEqDiff, and_true, true_and, and_self, ne_eq, not_false_eq_true, eq_self, false_and, and_false, reduceCtorEq, s0, s1, Int.natCast_zero]
  · intro j sl ro' gn' hj; omega
  · rintro sl ro' gn' ⟨s0, s1, s5, rfl, rfl⟩
    dsimp only at s0 s1 s5
    simp (config := { maxSteps := 10000000 }) (disch := first | omega | assumption) only [go_sem, ↓reduceIte, Nat.reduceEqDiff, reduceCtorEq, Nat.reduceAdd, Nat.reduceMul, Nat.reduceLeDiff, zfu, Int.mul_def, Int.add_def, zfv, cond_false, cond_true, isub, ti2, ti3, ti4, ti22, s0, s1, s5, kLen1, Int.natCast_zero, Int.lt_irrefl]
    refine ⟨.inr rfl, ⟨_, rfl, ?_⟩, rfl, rfl⟩
    simp only [↓zcy, ↓zcz, ↓zda, ↓zdb, ↓reduceIte, Nat.reduceEqDiff, and_true, true_and, and_self, ne_eq, not_false_eq_true, eq_self, false_and, and_false, reduceCtorEq, oneOrA]

set_option maxRecDepth 1000000 in
theorem in13n {ro : Ro} {gn : Nat → Nat} {k : Int} : InOK Try.prog 16 [.agg [nilA, nilA], i64 k] ro gn (i64 k) (upr ro 4096 (gn 4096 + 1) (.bx [nilA, nilA])) (upg gn 4096 (gn 4096 + 1)) := by
  refine in_of (fn := Try.f16) (code := bodyOf Try.f16) Try.func16 rfl (by kernel_rfl) ?_
  intro sl hs
  have s0 : sl 0 = .agg [nilA, nilA] := hs 0
  have s1 : sl 1 = i64 k := hs 1
  simp only [Try.f16, bodyOf, Option.getD, go_sem, ↓reduceIte, Nat.reduceEqDiff, reduceCtorEq, Nat.reduceAdd, Nat.reduceMul, Nat.reduceLeDiff, ti2, ti3, ti4, ti22, ti23, ti25, s0, s1]
  refine CLL_in rfl _ _ _ in43n ?_
  simp (config := { maxSteps := 10000000 }) (disch := first | omega | assumption) only [go_sem, ↓reduceIte, Nat.reduceEqDiff, reduceCtorEq, Nat.reduceAdd, Nat.reduceMul, Nat.reduceLeDiff, zfu, Int.mul_def, Int.add_def, zfv, cond_false, cond_true, isub, ti2, ti3, ti4, ti22, ti23, ti25, s0, s1]
  refine CLL_in rfl _ _ _ in32n ?_
  simp (config := { maxSteps := 10000000 }) (disch := first | omega | assumption) only [go_sem, ↓reduceIte, Nat.reduceEqDiff, reduceCtorEq, Nat.reduceAdd, Nat.reduceMul, Nat.reduceLeDiff, zfu, Int.mul_def, Int.add_def, zfv, cond_false, cond_true, isub, ti2, ti3, ti4, ti22, ti23, ti25, s0, s1]
  refine ⟨.inr rfl, ⟨_, rfl, ?_⟩, rfl, rfl⟩
  simp only [↓zcy, ↓zcz, ↓zda, ↓zdb, ↓reduceIte, Nat.reduceEqDiff, and_true, true_and, and_self, ne_eq, not_false_eq_true, eq_self, false_and, and_false, reduceCtorEq, oneOrA]

end Go.Proofs.Ytgcnmlecihegcaa
