/- Texts joined: T5 T6 T7. -/
import Derived.Test.YtkimbjcaoolfpaaGreatDoorMi
import Derived.Test.YtkimbjcaoolfpaaGreatDoorTa
set_option linter.all false
/- Reduced bases by the program. -/
namespace Go.Proofs.YtkimbjcaoolfpaaGreatDoor
open Go.RowKit
set_option maxRecDepth 1000000
theorem cRed1 {x : AV} {xs : List Int} {k : Nat} (hx : isL x xs) (hk : k < xs.length) : CallOK Tryz.prog 105 [x, .iptr [i64 k]] (bo (!decide (atI xs k = 0))) := by
 refine call_of (fn := Tryz.f105) (code := bodyOf Tryz.f105) Tryz.func105 rfl (by kernel_rfl) (rfl) ?_
 intro sl hs
 have s0 : sl 0 = x := hs 0
 have s1 : sl 1 = .iptr [i64 k] := hs 1
 by_cases h : atI xs k = 0
 ·dsimp only [Tryz.f105, bodyOf, Option.getD]
  simp (maxSteps := 10000000) (disch := first | assumption | omega) only [go_sem, ↓reduceIte, Nat.reduceEqDiff, reduceCtorEq, Nat.reduceAdd, Nat.reduceMul, Nat.reduceLeDiff, zc, Int.reduceToNat, s0, s1, isL_idx hx hk, h]
  simp only [zr, zb, retR, resL, outT, outL, zes, zez, oneV, zcp, zed, zfi, Ro.dl, St.ev, zhk, ↓za, ↓reduceIte, Nat.reduceEqDiff, Nat.reduceAdd, Nat.reduceLeDiff]
 ·dsimp only [Tryz.f105, bodyOf, Option.getD]
  simp (maxSteps := 10000000) (disch := first | assumption | omega) only [go_sem, ↓reduceIte, Nat.reduceEqDiff, reduceCtorEq, Nat.reduceAdd, Nat.reduceMul, Nat.reduceLeDiff, zc, Int.reduceToNat, s0, s1, isL_idx hx hk, eq_false h]
  simp only [zr, zb, retR, resL, outT, outL, zes, zez, oneV, zcp, zed, zfi, Ro.dl, St.ev, zhk, ↓za, ↓reduceIte, Nat.reduceEqDiff, Nat.reduceAdd, Nat.reduceLeDiff]
def nmx (G : Nat → Nat → Int) (d k x i j : Nat) : Int := if i = d ∧ j < x then nrm G d k j else G i j
def pex (G : Nat → Nat → Int) (f d k x y i j : Nat) : Int := if i = x ∧ j < y then elm (swp G f d) d k x j else elx G f d k x i j
theorem nmx_zero (G : Nat → Nat → Int) (d k i j : Nat) : nmx G d k 0 i j = G i j := if_neg (fun h => Nat.not_lt_zero _ h.2)
theorem nmx_at (G : Nat → Nat → Int) (d k x : Nat) : nmx G d k x d x = G d x := if_neg (fun h => Nat.lt_irrefl _ h.2)
theorem nmx_ne {G : Nat → Nat → Int} {d k x i j : Nat} (h : ¬ (i = d ∧ j = x)) : nmx G d k (x + 1) i j = nmx G d k x i j := by
 unfold nmx
 by_cases h1 : i = d ∧ j < x
 ·rw [if_pos h1, if_pos ⟨h1.1, by omega⟩]
 ·rw [if_neg h1, if_neg]
  rintro ⟨a, b⟩
  by_cases e : j = x
  ·exact h ⟨a, e⟩
  ·exact h1 ⟨a, by omega⟩
theorem nmx_new (G : Nat → Nat → Int) (d k x : Nat) : nmx G d k (x + 1) d x = nrm G d k x := if_pos ⟨rfl, by omega⟩
theorem nmx_end {G : Nat → Nat → Int} {f d k w i j : Nat} (h : j < w) : elx G f d k 0 i j = nmx (swp G f d) d k w i j := by
 unfold nmx
 by_cases e : i = d
 ·subst e; rw [elx_d, if_pos ⟨rfl, h⟩]
 ·rw [elx_ge e (Nat.zero_le _), if_neg (fun h => e h.1)]
theorem pex_zero (G : Nat → Nat → Int) (f d k x i j : Nat) : pex G f d k x 0 i j = elx G f d k x i j := if_neg (fun h => Nat.not_lt_zero _ h.2)
theorem pex_at {G : Nat → Nat → Int} {f d k x y : Nat} (h : x ≠ d) : pex G f d k x y x y = swp G f d x y := by
 unfold pex; rw [if_neg (fun h => Nat.lt_irrefl _ h.2), elx_ge h (Nat.le_refl _)]
theorem pex_d {G : Nat → Nat → Int} {f d k x y j : Nat} (h : x ≠ d) : pex G f d k x y d j = nrm (swp G f d) d k j := by
 unfold pex; rw [if_neg (fun e => h e.1.symm), elx_d]
theorem pex_ne {G : Nat → Nat → Int} {f d k x y i j : Nat} (h : ¬ (i = x ∧ j = y)) : pex G f d k x (y + 1) i j = pex G f d k x y i j := by
 unfold pex
 by_cases h1 : i = x ∧ j < y
 ·rw [if_pos h1, if_pos ⟨h1.1, by omega⟩]
 ·rw [if_neg h1, if_neg]
  rintro ⟨a, b⟩
  by_cases e : j = y
  ·exact h ⟨a, e⟩
  ·exact h1 ⟨a, by omega⟩
theorem pex_new (G : Nat → Nat → Int) (f d k x y : Nat) (h : x ≠ d) : pex G f d k x (y + 1) x y = (swp G f d x y - swp G f d x k * nrm (swp G f d) d k y) % 55441 := by
 unfold pex elm; rw [if_pos ⟨rfl, by omega⟩, if_neg h]
theorem pex_end {G : Nat → Nat → Int} {f d k x w i j : Nat} (hx : x ≠ d) (h : j < w) : elx G f d k (x + 1) i j = pex G f d k x w i j := by
 unfold pex
 by_cases e : i = x
 ·subst e; rw [if_pos ⟨rfl, h⟩, elx_at hx]; unfold elm; rw [if_neg hx]
 ·rw [if_neg (fun h => e h.1), elx_ne e]
theorem elx_skip {G : Nat → Nat → Int} {f d k x i j : Nat} (hG : ∀ i j, num (G i j)) (hx : x ≠ d) (h0 : swp G f d x k = 0) : elx G f d k (x + 1) i j = elx G f d k x i j := by
 by_cases e : i = x
 ·subst e
  rw [elx_at hx, elx_ge hx (Nat.le_refl _), h0, Int.zero_mul, Int.sub_zero]
  have := num_swp hG f d i j
  exact Int.emod_eq_of_lt this.1 this.2
 ·exact elx_ne e
theorem swp_same (G : Nat → Nat → Int) (d : Nat) : swp G d d = G := by
 funext i j
 unfold swp
 by_cases e : i = d
 ·rw [if_pos e, e]
 ·rw [if_neg e, if_neg e]
set_option maxHeartbeats 4000000 in
theorem cReduce {a : AV} {n w : Nat} {M : Nat → Nat → Int} (ha : isLL a (matL M n w)) (h0 : 0 < n) (hn : n ≤ 65536) (hw0 : 0 < w) (hw : w ≤ 65536) (hM : numM M) : CallOK Tryz.prog 74 [a] (.tup [matA (gj n M w).1 (gj n M w).2.1 w, i64 (gj n M w).2.2]) := by
 have h0' : (0 : Int) < n := by omega
 refine call_of (fn := Tryz.f74) (code := bodyOf Tryz.f74) Tryz.func74 rfl (by kernel_rfl) (by have := noRef_mat (gj n M w).1 (gj n M w).2.1 w; simp only [noRef, noRefL, Bool.and_true] at *; exact this) ?_
 intro sl hs
 have s0 : sl 0 = a := hs 0
 dsimp only [Tryz.f74, bodyOf, Option.getD]
 simp (maxSteps := 10000000) (disch := first | assumption | omega) only [go_sem, ↓reduceIte, Nat.reduceEqDiff, reduceCtorEq, Nat.reduceAdd, Nat.reduceMul, Nat.reduceLeDiff, zc, Int.reduceToNat, s0, isLL_len ha, matL_len2]
 refine WK_for (fun i st => st.sl 19 = a ∧ st.sl 20 = i64 (n : Nat) ∧ st.sl 21 = i64 (i : Int) ∧ st.sl 5 = i64 1 ∧ st.sl 4 = .ref 8192 (st.gn 8192) [] 0 i ∧ st.ro 8192 (st.gn 8192) = some (.row (rws (fun i => .row (rws (fun j => i64 (M i j)) w)) i))) n ?_ ?_ ?_
 ·simp only [↓za, ↓reduceIte, Nat.reduceEqDiff, zb, reduceCtorEq, rws_zero, s0]
  rfl
 ·rintro i sl ro gn hi ⟨s19, s20, s21, s5, s4, r8192⟩
  dsimp only at s19 s20 s21 s5 s4 r8192
  have hi' : (i : Int) < (n : Nat) := by omega
  have hi1 : i < (matL M n w).length := by rw [matL_len2]; exact hi
  have hr := isLL_row ha hi1
  have hi2 : i + 1 ≤ 4294967296 := by omega
  have e1 : rowL (row (matL M n w) i) = .row (rws (fun j => i64 (M i j)) w) := by rw [matL_row hi, rowL, rws_map]
  have c1 := cCloP hr (by rw [matL_row2 hi]; exact Nat.le_trans hw (by decide)) (by rw [matL_row2 hi]; exact hw0)
  rw [e1] at c1
  simp (maxSteps := 10000000) (disch := first | assumption | omega) only [go_sem, ↓reduceIte, Nat.reduceEqDiff, reduceCtorEq, Nat.reduceAdd, Nat.reduceMul, Nat.reduceLeDiff, zc, Int.reduceToNat, s19, s20, s21, s5, s4, r8192, hi', hi, isLL_idx ha hi1]
  refine CLL_pure _ c1 PUt rfl rfl ?_
  simp (maxSteps := 10000000) (disch := first | assumption | omega) only [go_sem, ↓reduceIte, Nat.reduceEqDiff, reduceCtorEq, Nat.reduceAdd, Nat.reduceMul, Nat.reduceLeDiff, zc, Int.reduceToNat, s19, s20, s21, s5, s4, r8192, hi', hi, impE_row, hi2]
  exact i64c (by omega)
 ·rintro sl ro gn ⟨s19, s20, s21, s5, s4, r8192⟩
  dsimp only at s19 s20 s21 s5 s4 r8192
  have hi' : ¬ ((n : Nat) : Int) < (n : Nat) := by omega
  simp (maxSteps := 10000000) (disch := first | assumption | omega) only [go_sem, ↓reduceIte, Nat.reduceEqDiff, reduceCtorEq, Nat.reduceAdd, Nat.reduceMul, Nat.reduceLeDiff, zc, Int.reduceToNat, s19, s20, s21, s5, s4, r8192, hi']
  refine WK_forG (fun k st => st.sl 4 = .ref 8192 (st.gn 8192) [] 0 n ∧ st.sl 8 = i64 ((gj n M k).2.1 : Nat) ∧ st.sl 5 = i64 (gj n M k).2.2 ∧ (∃ u v, st.sl 9 = .ptr u v [] 0 ∧ st.ro u v = some (.bx [i64 (k : Int)]) ∧ v ≤ st.gn u ∧ u ≠ 8192 ∧ u ≠ 3) ∧ (∃ τ : Nat → Nat, Arr st.ro st.gn 8192 (st.gn 8192) (fun i => (3, τ i)) (gj n M k).1 n w)) w (Arr.unp (S := 8192) (g := gn 8192) (b := 3) (n := n) (w := w) (M := M) (by decide) (Ue r8192)).1 ?_ ?_ ?_
  ·simp only [unp_sl, unp_gn (show (8192 : Nat) ≠ 3 by decide), ↓za, ↓reduceIte, Nat.reduceEqDiff, zb, reduceCtorEq]
   refine ⟨s4, rfl, s5, ⟨36864, gn 36864 + 1, rfl, ?_, ?_, by decide, by decide⟩, _, (Arr.unp (S := 8192) (g := gn 8192) (b := 3) (n := n) (w := w) (M := M) (by decide) (Ue r8192)).2⟩
   ·rw [unp_other (by decide) (by decide)]; simp only [↓za, ↓reduceIte, Nat.reduceEqDiff, zb, reduceCtorEq]; rfl
   ·rw [unp_gn (by decide)]; simp only [↓za, ↓reduceIte, Nat.reduceEqDiff, zb, reduceCtorEq]; exact Nat.le_refl _
  ·rintro k sl ro gn hk ⟨s4, s8, s5, q9, q⟩
   dsimp only at s4 s8 s5
   have hk' : (k : Int) < (w : Nat) := by omega
   obtain ⟨u, v, s9, r9, g9, u1, u3⟩ := q9
   obtain ⟨τ, A⟩ := q
   dsimp only at s9 r9 g9 A
   have ok := gj_ok (n := n) hM k
   obtain ⟨G, d, z, hX⟩ : ∃ G d z, gj n M k = (G, d, z) := ⟨_, _, _, rfl⟩
   have hS : gj n M (k + 1) = gst n k (G, d, z) := by rw [gj, hX]
   rw [hX] at A s8 s5 ok
   dsimp only at A s8 s5 ok
   obtain ⟨hG, hd, hz⟩ := ok
   obtain ⟨f1, f2, f3, f4⟩ := fdf_spec G (k := k) hd
   generalize hf : fdf G k n d = f at f1 f2 f3 f4
   have a1 := A.arr
   have a2 := A.rw 0 h0
   dsimp only at a1 a2
   simp (maxSteps := 10000000) (disch := first | assumption | omega) only [go_sem, ↓reduceIte, Nat.reduceEqDiff, reduceCtorEq, Nat.reduceAdd, Nat.reduceMul, Nat.reduceLeDiff, zc, Int.reduceToNat, s4, s8, s5, hk', hk, a1, a2, rws_get, h0', h0, kIdx_refZ, s9, r9]
   refine FIN_w [false, false, false, false, true] (by kernel_rfl) ?_
   simp (maxSteps := 10000000) (disch := first | assumption | omega) only [go_sem, ↓reduceIte, Nat.reduceEqDiff, reduceCtorEq, Nat.reduceAdd, Nat.reduceMul, Nat.reduceLeDiff, zc, Int.reduceToNat, s4, s8, s5, hk', hk, a1, a2, rws_get, s9, r9, Option.map_some, Option.map_none, kSlice_lo, hd]
   have cI : ∀ q : Int, (f = n → q = -1) → (f < n → q = ((f - d : Nat) : Int)) → CallOK Tryz.prog 104 [immLL (matL (fun i j => G (d + i) j) (n - d) w), .fn 105 [.iptr [i64 k]]] (i64 q) := by
    intro q q1 q2
    refine c148 (p := fun x => !decide (G (d + x) k = 0)) (isLL_imm _) (by rw [matL_len2]; exact Nat.le_trans (Nat.le_trans (Nat.sub_le _ _) hn) (by decide)) rfl rfl (fun x hx => ?_) (fun h => ?_) (fun x hx h1 h2 => ?_)
    ·have hx' : x < n - d := by rw [matL_len2] at hx; exact hx
     have := cRed1 (isLL_row (isLL_imm _) hx) (k := k) (by rw [matL_row2 hx']; exact hk)
     rw [matL_row hx', atI_rws _ hk] at this
     exact this
    ·refine q1 (Decidable.byContradiction fun hne => ?_)
     have := h (f - d) (by rw [matL_len2]; omega)
     simp only [Bool.not_eq_false', decide_eq_true_eq] at this
     exact f4 (by omega) (by rw [show d + (f - d) = f by omega] at this; exact this)
    ·have hx' : x < n - d := by rw [matL_len2] at hx; exact hx
     simp only [Bool.not_eq_true', decide_eq_false_iff_not] at h1
     have : fdf G k n d = d + x := fdf_uniq (by omega) (by omega) (fun y g1 g2 => by
      have := h2 (y - d) (by omega)
      simp only [Bool.not_eq_false', decide_eq_true_eq] at this
      rw [show d + (y - d) = y by omega] at this; exact this) (fun _ => h1)
     rw [hf] at this
     rw [q2 (by omega)]; omega
   by_cases hfn : f = n
   ·have e0 : gst n k (G, d, z) = (G, d, 0) := by simp only [gst, hf, hfn, if_true]
    refine CLL_q _ (cI (-1) (fun _ => rfl) (fun h => by omega)) (.cons (A.exq (by omega) (by decide)) (.cons (exq_fn (.cons (exq_ptr r9 (by decide)) .nil)) .nil)) rfl rfl rfl ?_
    simp (maxSteps := 10000000) (disch := first | assumption | omega) only [go_sem, ↓reduceIte, Nat.reduceEqDiff, reduceCtorEq, Nat.reduceAdd, Nat.reduceMul, Nat.reduceLeDiff, zc, Int.reduceToNat, s4, s8, s5, hk', hk, a1, s9, r9]
    rw [hS, e0]
    refine ⟨rfl, rfl, ⟨159744, gn 159744 + 1, rfl, ?_, ?_, by decide, by decide⟩, τ, A.frame Ur (fun i hi => by simp only [↓za, ↓reduceIte, Nat.reduceEqDiff, zb, reduceCtorEq]) (fun i hi => by simp only [↓za, ↓reduceIte, Nat.reduceEqDiff, zb, reduceCtorEq]; exact Nat.le_refl _)⟩
    ·simp only [↓za, ↓reduceIte, Nat.reduceEqDiff, zb, reduceCtorEq]
     exact congrArg (fun x => some (AV.bx [x])) (i64c (by omega))
    ·simp only [↓za, ↓reduceIte, Nat.reduceEqDiff, zb, reduceCtorEq]; exact Nat.le_refl _
   ·have hlt : f < n := by omega
    refine CLL_q _ (cI ((f - d : Nat) : Int) (fun h => absurd h hfn) (fun _ => rfl)) (.cons (A.exq (by omega) (by decide)) (.cons (exq_fn (.cons (exq_ptr r9 (by decide)) .nil)) .nil)) rfl rfl rfl ?_
    have e3 : gst n k (G, d, z) = (elm (swp G f d) d k, d + 1, (if d < f then -z % 55441 else z) * G f k % 55441) := by simp only [gst, hf, hfn, if_false]
    by_cases hfd : f = d
    ·have hz1 := hz
     have e4 : (if d < f then -z % 55441 else z) = z := if_neg (by omega)
     rw [e4] at e3
     have B := A
     rw [← swp_same G d] at B
     have e5 : ((f - d : Nat) : Int) = 0 := by omega
     rw [show swp G d d = swp G f d by rw [hfd]] at B
     have hdn0 : d < n := by omega
     have bd0 := A.rw d hdn0
     dsimp only at bd0
     simp (maxSteps := 10000000) (disch := first | assumption | omega) only [go_sem, ↓reduceIte, Nat.reduceEqDiff, reduceCtorEq, Nat.reduceAdd, Nat.reduceMul, Nat.reduceLeDiff, zc, Int.reduceToNat, s4, s8, s5, hk', hk, e5, s9, r9]
     have hdn : d < n := by omega
     have b1 := B.arr
     have bd := B.rw d hdn
     dsimp only at b1 bd
     have hl : swp G f d d k = G f k := by unfold swp; rw [if_pos rfl]
     have hl2 := hG f k
     have hz2 := num_mul hz1 hl2
     simp (maxSteps := 10000000) (disch := first | assumption | omega) only [go_sem, ↓reduceIte, Nat.reduceEqDiff, reduceCtorEq, Nat.reduceAdd, Nat.reduceMul, Nat.reduceLeDiff, zc, Int.reduceToNat, s4, s8, s5, hk', hk, b1, bd, rws_get, hdn, s9, r9, hk]
     refine FIN_w [false, false, false, false, true] (by kernel_rfl) ?_
     simp (maxSteps := 10000000) (disch := first | assumption | omega) only [go_sem, ↓reduceIte, Nat.reduceEqDiff, reduceCtorEq, Nat.reduceAdd, Nat.reduceMul, Nat.reduceLeDiff, zc, Int.reduceToNat, s4, s8, s5, hk', hk, b1, hl, Int.tmod_eq_emod_of_nonneg]
     refine CLL_pure _ (c65 (a := 1) (b := G f k) (by decide) (by decide) hl2.1 hl2.2) PUt rfl rfl ?_
     rw [qt_1]
     simp (maxSteps := 10000000) (disch := first | assumption | omega) only [go_sem, ↓reduceIte, Nat.reduceEqDiff, reduceCtorEq, Nat.reduceAdd, Nat.reduceMul, Nat.reduceLeDiff, zc, Int.reduceToNat, s4, s8, s5, hk', hk, b1, bd, rws_get, hdn]
     refine WK_for (fun x st => st.sl 4 = .ref 8192 (st.gn 8192) [] 0 n ∧ st.sl 8 = i64 (d : Nat) ∧ st.sl 5 = i64 (z * G f k % 55441) ∧ st.sl 9 = .ptr u v [] 0 ∧ st.sl 12 = i64 (pw (G f k) 55439) ∧ st.sl 91 = i64 (w : Nat) ∧ st.sl 92 = i64 (x : Int) ∧ (st.ro u v = some (.bx [i64 (k : Int)])) ∧ (v ≤ st.gn u) ∧ (Arr st.ro st.gn 8192 (st.gn 8192) (fun i => (3, τ i)) (nmx (swp G f d) d k x) n w)) w ?_ ?_ ?_
     ·simp only [↓za, ↓reduceIte, Nat.reduceEqDiff, zb, reduceCtorEq, s4, s8, s9]
      first | exact ⟨rfl, g9, B.congr fun i _ j _ => nmx_zero _ _ _ _ _⟩ | exact ⟨rfl, r9, g9, B.congr fun i _ j _ => nmx_zero _ _ _ _ _⟩
     ·rintro x sl ro gn hx ⟨s4, s8, s5, s9, s12, s91, s92, r9, g9, B⟩
      dsimp only at s4 s8 s5 s9 s12 s91 s92
      have hx' : (x : Int) < (w : Nat) := by omega
      dsimp only at r9 g9 B
      have b1 := B.arr
      have bd := B.rw d hdn
      dsimp only at b1 bd
      have e7 := nmx_at (swp G f d) d k x
      have hq := num_mul (num_swp hG f d d x) (num_pw (G f k) 55439)
      have hx2 : x + 1 ≤ w := hx
      simp (maxSteps := 10000000) (disch := first | assumption | omega) only [go_sem, ↓reduceIte, Nat.reduceEqDiff, reduceCtorEq, Nat.reduceAdd, Nat.reduceMul, Nat.reduceLeDiff, zc, Int.reduceToNat, s4, s8, s5, s9, s12, s91, s92, hx', hx, b1, bd, rws_get, hdn, e7, hx2, zfe, Int.tmod_eq_emod_of_nonneg]
      refine FIN_of (by kernel_rfl) ?_
      simp (maxSteps := 10000000) (disch := first | assumption | omega) only [go_sem, ↓reduceIte, Nat.reduceEqDiff, reduceCtorEq, Nat.reduceAdd, Nat.reduceMul, Nat.reduceLeDiff, zc, Int.reduceToNat, s4, s8, s5, s9, s12, s91, s92, hx', hx, r9, eq_false u3]
      refine ⟨i64c (by omega), g9, (B.wr (M' := nmx (swp G f d) d k (x + 1)) hdn ?_ fun i h1 _ j _ => nmx_ne fun h => h1 h.1)⟩
      rw [rws_set]
      refine rws_congr fun j _ => ?_
      split
      ·rename_i e; subst e; rw [nmx_new]; unfold nrm; rw [hl]
      ·rename_i e; rw [nmx_ne fun h => e h.2]
     ·rintro sl ro gn ⟨s4, s8, s5, s9, s12, s91, s92, r9, g9, B⟩
      dsimp only at s4 s8 s5 s9 s12 s91 s92
      have hx' : ¬ ((w : Nat) : Int) < (w : Nat) := by omega
      dsimp only at r9 g9 B
      replace B := B.congr fun i _ j hj => nmx_end hj
      have b1 := B.arr
      simp (maxSteps := 10000000) (disch := first | assumption | omega) only [go_sem, ↓reduceIte, Nat.reduceEqDiff, reduceCtorEq, Nat.reduceAdd, Nat.reduceMul, Nat.reduceLeDiff, zc, Int.reduceToNat, s4, s8, s5, s9, s12, s91, s92, hx', b1]
      refine WK_for (fun x st => st.sl 4 = .ref 8192 (st.gn 8192) [] 0 n ∧ st.sl 8 = i64 (d : Nat) ∧ st.sl 5 = i64 (z * G f k % 55441) ∧ st.sl 9 = .ptr u v [] 0 ∧ st.sl 112 = .ref 8192 (st.gn 8192) [] 0 n ∧ st.sl 113 = i64 (n : Nat) ∧ st.sl 114 = i64 (x : Int) ∧ (st.ro u v = some (.bx [i64 (k : Int)])) ∧ (v ≤ st.gn u) ∧ (Arr st.ro st.gn 8192 (st.gn 8192) (fun i => (3, τ i)) (elx G f d k x) n w)) n ?_ ?_ ?_
      ·simp only [↓za, ↓reduceIte, Nat.reduceEqDiff, zb, reduceCtorEq, s4, s8, s9, s5]
       first | exact ⟨rfl, g9, B⟩ | exact ⟨rfl, r9, g9, B⟩
      ·rintro x sl ro gn hx ⟨s4, s8, s5, s9, s112, s113, s114, r9, g9, B⟩
       dsimp only at s4 s8 s5 s9 s112 s113 s114
       have hx' : (x : Int) < (n : Nat) := by omega
       dsimp only at r9 g9 B
       have b1 := B.arr
       have bx := B.rw x hx
       have bd := B.rw d hdn
       dsimp only at b1 bx bd
       by_cases hxd : x = d
       ·have hxd' : (x : Int) = d := by omega
        simp (maxSteps := 10000000) (disch := first | assumption | omega) only [go_sem, ↓reduceIte, Nat.reduceEqDiff, reduceCtorEq, Nat.reduceAdd, Nat.reduceMul, Nat.reduceLeDiff, zc, Int.reduceToNat, s4, s8, s5, s9, s112, s113, s114, hx', hx, b1, bx, rws_get, hxd', hx]
        first | exact ⟨i64c (by omega), g9, B.congr fun i _ j _ => by rw [hxd]; exact elx_same⟩ | exact ⟨i64c (by omega), r9, g9, B.congr fun i _ j _ => by rw [hxd]; exact elx_same⟩
       ·have hxd' : ¬ (x : Int) = d := by omega
        have eg : ∀ j, elx G f d k x x j = swp G f d x j := fun j => elx_ge hxd (Nat.le_refl _)
        simp only [eg, elx_d] at bx bd
        by_cases h0 : swp G f d x k = 0
        ·simp (maxSteps := 10000000) (disch := first | assumption | omega) only [go_sem, ↓reduceIte, Nat.reduceEqDiff, reduceCtorEq, Nat.reduceAdd, Nat.reduceMul, Nat.reduceLeDiff, zc, Int.reduceToNat, s4, s8, s5, s9, s112, s113, s114, hx', hx, b1, bx, rws_get, eq_false hxd', hx, r9, hk, h0]
         exact ⟨i64c (by omega), g9, B.congr fun i _ j _ => elx_skip hG hxd h0⟩
        ·simp (maxSteps := 10000000) (disch := first | assumption | omega) only [go_sem, ↓reduceIte, Nat.reduceEqDiff, reduceCtorEq, Nat.reduceAdd, Nat.reduceMul, Nat.reduceLeDiff, zc, Int.reduceToNat, s4, s8, s5, s9, s112, s113, s114, hx', hx, b1, bx, rws_get, eq_false hxd', hx, r9, hk, eq_false h0]
         refine WK_for (fun y st => st.sl 4 = .ref 8192 (st.gn 8192) [] 0 n ∧ st.sl 8 = i64 (d : Nat) ∧ st.sl 5 = i64 (z * G f k % 55441) ∧ st.sl 9 = .ptr u v [] 0 ∧ st.sl 112 = .ref 8192 (st.gn 8192) [] 0 n ∧ st.sl 113 = i64 (n : Nat) ∧ st.sl 114 = i64 (x : Int) ∧ st.sl 15 = .ref 3 (τ x) [] 0 w ∧ st.sl 16 = i64 (swp G f d x k) ∧ st.sl 134 = i64 (w : Nat) ∧ st.sl 135 = i64 (y : Int) ∧ (st.ro u v = some (.bx [i64 (k : Int)])) ∧ (v ≤ st.gn u) ∧ (Arr st.ro st.gn 8192 (st.gn 8192) (fun i => (3, τ i)) (pex G f d k x y) n w)) w ?_ ?_ ?_
         ·simp only [↓za, ↓reduceIte, Nat.reduceEqDiff, zb, reduceCtorEq, s4, s8, s9, s5, s112, s113, s114]
          exact ⟨rfl, r9, g9, B.congr fun i _ j _ => pex_zero _ _ _ _ _ _ _⟩
         ·rintro y sl ro gn hy ⟨s4, s8, s5, s9, s112, s113, s114, s15, s16, s134, s135, r9, g9, B⟩
          dsimp only at s4 s8 s5 s9 s112 s113 s114 s15 s16 s134 s135
          have hy' : (y : Int) < (w : Nat) := by omega
          dsimp only at r9 g9 B
          have b1 := B.arr
          have bx := B.rw x hx
          have bd := B.rw d hdn
          dsimp only at b1 bx bd
          simp only [pex_d hxd] at bd
          have e7 := pex_at (G := G) (f := f) (d := d) (k := k) (y := y) hxd
          have q1 := num_swp hG f d x y
          have q2 := num_swp hG f d x k
          have q3 := num_nrm (swp G f d) d k y
          have q4 := num_mul q2 q3
          unfold num at q1
          have hy2 : y + 1 ≤ w := hy
          simp (maxSteps := 10000000) (disch := first | assumption | omega) only [go_sem, ↓reduceIte, Nat.reduceEqDiff, reduceCtorEq, Nat.reduceAdd, Nat.reduceMul, Nat.reduceLeDiff, zc, Int.reduceToNat, s4, s8, s5, s9, s112, s113, s114, s15, s16, s134, s135, hy', hy, b1, bx, bd, rws_get, hdn, hx, hy, e7, hy2, zfe]
          refine CLLD_pure _ (cModI (by omega) (by omega)) PUt rfl ?_
          simp (maxSteps := 10000000) (disch := first | assumption | omega) only [go_sem, ↓reduceIte, Nat.reduceEqDiff, reduceCtorEq, Nat.reduceAdd, Nat.reduceMul, Nat.reduceLeDiff, zc, Int.reduceToNat, s4, s8, s5, s9, s112, s113, s114, s15, s16, s134, s135, hy', hy, b1, bx, bd, rws_get, hdn, hx, hy, e7, hy2, zfe]
          refine FIN_of (by kernel_rfl) ?_
          simp (maxSteps := 10000000) (disch := first | assumption | omega) only [go_sem, ↓reduceIte, Nat.reduceEqDiff, reduceCtorEq, Nat.reduceAdd, Nat.reduceMul, Nat.reduceLeDiff, zc, Int.reduceToNat, s4, s8, s5, s9, s112, s113, s114, s15, s16, s134, s135, hy', hy, r9, eq_false u3]
          refine ⟨i64c (by omega), g9, (B.wr (M' := pex G f d k x (y + 1)) hx ?_ fun i h1 _ j _ => pex_ne fun h => h1 h.1)⟩
          rw [rws_set]
          refine rws_congr fun j _ => ?_
          split
          ·rename_i e; subst e; rw [pex_new _ _ _ _ _ _ hxd]
          ·rename_i e; rw [pex_ne fun h => e h.2]
         ·rintro sl ro gn ⟨s4, s8, s5, s9, s112, s113, s114, s15, s16, s134, s135, r9, g9, B⟩
          dsimp only at s4 s8 s5 s9 s112 s113 s114 s15 s16 s134 s135
          have hy' : ¬ ((w : Nat) : Int) < (w : Nat) := by omega
          dsimp only at r9 g9 B
          simp (maxSteps := 10000000) (disch := first | assumption | omega) only [go_sem, ↓reduceIte, Nat.reduceEqDiff, reduceCtorEq, Nat.reduceAdd, Nat.reduceMul, Nat.reduceLeDiff, zc, Int.reduceToNat, s4, s8, s5, s9, s112, s113, s114, s15, s16, s134, s135, hy']
          exact ⟨i64c (by omega), r9, g9, B.congr fun i _ j hj => pex_end hxd hj⟩
      ·rintro sl ro gn ⟨s4, s8, s5, s9, s112, s113, s114, r9, g9, B⟩
       dsimp only at s4 s8 s5 s9 s112 s113 s114
       have hx' : ¬ ((n : Nat) : Int) < (n : Nat) := by omega
       dsimp only at r9 g9 B
       have b1 := B.arr
       simp (maxSteps := 10000000) (disch := first | assumption | omega) only [go_sem, ↓reduceIte, Nat.reduceEqDiff, reduceCtorEq, Nat.reduceAdd, Nat.reduceMul, Nat.reduceLeDiff, zc, Int.reduceToNat, s4, s8, s5, s9, s112, s113, s114, hx', b1, r9]
       rw [hS, e3]
       dsimp only
       refine ⟨i64c (by omega), rfl, ⟨159744, gn 159744 + 1, rfl, ?_, ?_, by decide, by decide⟩, τ, (B.congr fun i hi j _ => (elx_end hi).symm).frame Ur (fun i hi => by simp only [↓za, ↓reduceIte, Nat.reduceEqDiff, zb, reduceCtorEq]) (fun i hi => by simp only [↓za, ↓reduceIte, Nat.reduceEqDiff, zb, reduceCtorEq]; exact Nat.le_refl _)⟩
       ·simp only [↓za, ↓reduceIte, Nat.reduceEqDiff, zb, reduceCtorEq]
        exact congrArg (fun x => some (AV.bx [x])) (i64c (by omega))
       ·simp only [↓za, ↓reduceIte, Nat.reduceEqDiff, zb, reduceCtorEq]; exact Nat.le_refl _
    ·have hp : (0 : Int) < ((f - d : Nat) : Int) := by omega
     have hp2 : ¬ ((f - d : Nat) : Int) < 0 := by omega
     have e1 : (d : Int) + ((f - d : Nat) : Int) = (f : Nat) := by omega
     have e4 : (if d < f then -z % 55441 else z) = -z % 55441 := if_pos (by omega)
     rw [e4, show -z % 55441 = (0 - z) % 55441 by rw [Int.zero_sub]] at e3
     have hdn0 : d < n := by omega
     have hdn2 : d + 1 ≤ n := hdn0
     have hlt2 : f + 1 ≤ n := hlt
     have bd0 := A.rw d hdn0
     have bf0 := A.rw f hlt
     dsimp only at bd0 bf0
     simp (maxSteps := 10000000) (disch := first | assumption | omega) only [go_sem, ↓reduceIte, Nat.reduceEqDiff, reduceCtorEq, Nat.reduceAdd, Nat.reduceMul, Nat.reduceLeDiff, zc, Int.reduceToNat, s4, s8, s5, hk', hk, a1, s9, r9, hp, hp2, e1, bd0, bf0, rws_get, hdn2, hlt2, zfe, List.length_set, hdn0, hlt]
     refine FIN_of (by kernel_rfl) ?_
     have hz0 := hz
     unfold num at hz0
     simp (maxSteps := 10000000) (disch := first | assumption | omega) only [go_sem, ↓reduceIte, Nat.reduceEqDiff, reduceCtorEq, Nat.reduceAdd, Nat.reduceMul, Nat.reduceLeDiff, zc, Int.reduceToNat, s4, s8, s5, hk', hk]
     refine CLL_pure _ (cModI (by omega) (by omega)) PUt rfl rfl ?_
     have B := A.swap (d := d) (f := f) (X1 := .bx ((rws (fun i => AV.ref 3 (τ i) [] 0 w) n).set d (AV.ref 3 (τ f) [] 0 w))) hdn0 hlt
     dsimp only at B
     generalize hr2 : upr (upr ro 8192 (gn 8192) (.bx ((rws (fun i => AV.ref 3 (τ i) [] 0 w) n).set d (AV.ref 3 (τ f) [] 0 w)))) 8192 (gn 8192) (.bx (((rws (fun i => AV.ref 3 (τ i) [] 0 w) n).set d (AV.ref 3 (τ f) [] 0 w)).set f (AV.ref 3 (τ d) [] 0 w))) = ro2 at B ⊢
     replace r9 : ro2 u v = some (.bx [i64 k]) := by rw [← hr2, upr_ne u1, upr_ne u1]; exact r9
     have hz1 := num_mod (0 - z)
     obtain ⟨ρ, B⟩ : ∃ ρ : Nat → Nat, Arr ro2 gn 8192 (gn 8192) (fun i => (3, ρ i)) (swp G f d) n w := ⟨_, B⟩
     have hdn : d < n := by omega
     have b1 := B.arr
     have bd := B.rw d hdn
     dsimp only at b1 bd
     have hl : swp G f d d k = G f k := by unfold swp; rw [if_pos rfl]
     have hl2 := hG f k
     have hz2 := num_mul hz1 hl2
     simp (maxSteps := 10000000) (disch := first | assumption | omega) only [go_sem, ↓reduceIte, Nat.reduceEqDiff, reduceCtorEq, Nat.reduceAdd, Nat.reduceMul, Nat.reduceLeDiff, zc, Int.reduceToNat, s4, s8, s5, hk', hk, b1, bd, rws_get, hdn, s9, r9, hk]
     refine FIN_w [false, false, false, false, true] (by kernel_rfl) ?_
     simp (maxSteps := 10000000) (disch := first | assumption | omega) only [go_sem, ↓reduceIte, Nat.reduceEqDiff, reduceCtorEq, Nat.reduceAdd, Nat.reduceMul, Nat.reduceLeDiff, zc, Int.reduceToNat, s4, s8, s5, hk', hk, b1, hl, Int.tmod_eq_emod_of_nonneg]
     refine CLL_pure _ (c65 (a := 1) (b := G f k) (by decide) (by decide) hl2.1 hl2.2) PUt rfl rfl ?_
     rw [qt_1]
     simp (maxSteps := 10000000) (disch := first | assumption | omega) only [go_sem, ↓reduceIte, Nat.reduceEqDiff, reduceCtorEq, Nat.reduceAdd, Nat.reduceMul, Nat.reduceLeDiff, zc, Int.reduceToNat, s4, s8, s5, hk', hk, b1, bd, rws_get, hdn]
     refine WK_for (fun x st => st.sl 4 = .ref 8192 (st.gn 8192) [] 0 n ∧ st.sl 8 = i64 (d : Nat) ∧ st.sl 5 = i64 (((0 - z) % 55441) * G f k % 55441) ∧ st.sl 9 = .ptr u v [] 0 ∧ st.sl 12 = i64 (pw (G f k) 55439) ∧ st.sl 91 = i64 (w : Nat) ∧ st.sl 92 = i64 (x : Int) ∧ (st.ro u v = some (.bx [i64 (k : Int)])) ∧ (v ≤ st.gn u) ∧ (Arr st.ro st.gn 8192 (st.gn 8192) (fun i => (3, ρ i)) (nmx (swp G f d) d k x) n w)) w ?_ ?_ ?_
     ·simp only [↓za, ↓reduceIte, Nat.reduceEqDiff, zb, reduceCtorEq, s4, s8, s9]
      first | exact ⟨rfl, g9, B.congr fun i _ j _ => nmx_zero _ _ _ _ _⟩ | exact ⟨rfl, r9, g9, B.congr fun i _ j _ => nmx_zero _ _ _ _ _⟩
     ·rintro x sl ro gn hx ⟨s4, s8, s5, s9, s12, s91, s92, r9, g9, B⟩
      dsimp only at s4 s8 s5 s9 s12 s91 s92
      have hx' : (x : Int) < (w : Nat) := by omega
      dsimp only at r9 g9 B
      have b1 := B.arr
      have bd := B.rw d hdn
      dsimp only at b1 bd
      have e7 := nmx_at (swp G f d) d k x
      have hq := num_mul (num_swp hG f d d x) (num_pw (G f k) 55439)
      have hx2 : x + 1 ≤ w := hx
      simp (maxSteps := 10000000) (disch := first | assumption | omega) only [go_sem, ↓reduceIte, Nat.reduceEqDiff, reduceCtorEq, Nat.reduceAdd, Nat.reduceMul, Nat.reduceLeDiff, zc, Int.reduceToNat, s4, s8, s5, s9, s12, s91, s92, hx', hx, b1, bd, rws_get, hdn, e7, hx2, zfe, Int.tmod_eq_emod_of_nonneg]
      refine FIN_of (by kernel_rfl) ?_
      simp (maxSteps := 10000000) (disch := first | assumption | omega) only [go_sem, ↓reduceIte, Nat.reduceEqDiff, reduceCtorEq, Nat.reduceAdd, Nat.reduceMul, Nat.reduceLeDiff, zc, Int.reduceToNat, s4, s8, s5, s9, s12, s91, s92, hx', hx, r9, eq_false u3]
      refine ⟨i64c (by omega), g9, (B.wr (M' := nmx (swp G f d) d k (x + 1)) hdn ?_ fun i h1 _ j _ => nmx_ne fun h => h1 h.1)⟩
      rw [rws_set]
      refine rws_congr fun j _ => ?_
      split
      ·rename_i e; subst e; rw [nmx_new]; unfold nrm; rw [hl]
      ·rename_i e; rw [nmx_ne fun h => e h.2]
     ·rintro sl ro gn ⟨s4, s8, s5, s9, s12, s91, s92, r9, g9, B⟩
      dsimp only at s4 s8 s5 s9 s12 s91 s92
      have hx' : ¬ ((w : Nat) : Int) < (w : Nat) := by omega
      dsimp only at r9 g9 B
      replace B := B.congr fun i _ j hj => nmx_end hj
      have b1 := B.arr
      simp (maxSteps := 10000000) (disch := first | assumption | omega) only [go_sem, ↓reduceIte, Nat.reduceEqDiff, reduceCtorEq, Nat.reduceAdd, Nat.reduceMul, Nat.reduceLeDiff, zc, Int.reduceToNat, s4, s8, s5, s9, s12, s91, s92, hx', b1]
      refine WK_for (fun x st => st.sl 4 = .ref 8192 (st.gn 8192) [] 0 n ∧ st.sl 8 = i64 (d : Nat) ∧ st.sl 5 = i64 (((0 - z) % 55441) * G f k % 55441) ∧ st.sl 9 = .ptr u v [] 0 ∧ st.sl 112 = .ref 8192 (st.gn 8192) [] 0 n ∧ st.sl 113 = i64 (n : Nat) ∧ st.sl 114 = i64 (x : Int) ∧ (st.ro u v = some (.bx [i64 (k : Int)])) ∧ (v ≤ st.gn u) ∧ (Arr st.ro st.gn 8192 (st.gn 8192) (fun i => (3, ρ i)) (elx G f d k x) n w)) n ?_ ?_ ?_
      ·simp only [↓za, ↓reduceIte, Nat.reduceEqDiff, zb, reduceCtorEq, s4, s8, s9, s5]
       first | exact ⟨rfl, g9, B⟩ | exact ⟨rfl, r9, g9, B⟩
      ·rintro x sl ro gn hx ⟨s4, s8, s5, s9, s112, s113, s114, r9, g9, B⟩
       dsimp only at s4 s8 s5 s9 s112 s113 s114
       have hx' : (x : Int) < (n : Nat) := by omega
       dsimp only at r9 g9 B
       have b1 := B.arr
       have bx := B.rw x hx
       have bd := B.rw d hdn
       dsimp only at b1 bx bd
       by_cases hxd : x = d
       ·have hxd' : (x : Int) = d := by omega
        simp (maxSteps := 10000000) (disch := first | assumption | omega) only [go_sem, ↓reduceIte, Nat.reduceEqDiff, reduceCtorEq, Nat.reduceAdd, Nat.reduceMul, Nat.reduceLeDiff, zc, Int.reduceToNat, s4, s8, s5, s9, s112, s113, s114, hx', hx, b1, bx, rws_get, hxd', hx]
        first | exact ⟨i64c (by omega), g9, B.congr fun i _ j _ => by rw [hxd]; exact elx_same⟩ | exact ⟨i64c (by omega), r9, g9, B.congr fun i _ j _ => by rw [hxd]; exact elx_same⟩
       ·have hxd' : ¬ (x : Int) = d := by omega
        have eg : ∀ j, elx G f d k x x j = swp G f d x j := fun j => elx_ge hxd (Nat.le_refl _)
        simp only [eg, elx_d] at bx bd
        by_cases h0 : swp G f d x k = 0
        ·simp (maxSteps := 10000000) (disch := first | assumption | omega) only [go_sem, ↓reduceIte, Nat.reduceEqDiff, reduceCtorEq, Nat.reduceAdd, Nat.reduceMul, Nat.reduceLeDiff, zc, Int.reduceToNat, s4, s8, s5, s9, s112, s113, s114, hx', hx, b1, bx, rws_get, eq_false hxd', hx, r9, hk, h0]
         exact ⟨i64c (by omega), g9, B.congr fun i _ j _ => elx_skip hG hxd h0⟩
        ·simp (maxSteps := 10000000) (disch := first | assumption | omega) only [go_sem, ↓reduceIte, Nat.reduceEqDiff, reduceCtorEq, Nat.reduceAdd, Nat.reduceMul, Nat.reduceLeDiff, zc, Int.reduceToNat, s4, s8, s5, s9, s112, s113, s114, hx', hx, b1, bx, rws_get, eq_false hxd', hx, r9, hk, eq_false h0]
         refine WK_for (fun y st => st.sl 4 = .ref 8192 (st.gn 8192) [] 0 n ∧ st.sl 8 = i64 (d : Nat) ∧ st.sl 5 = i64 (((0 - z) % 55441) * G f k % 55441) ∧ st.sl 9 = .ptr u v [] 0 ∧ st.sl 112 = .ref 8192 (st.gn 8192) [] 0 n ∧ st.sl 113 = i64 (n : Nat) ∧ st.sl 114 = i64 (x : Int) ∧ st.sl 15 = .ref 3 (ρ x) [] 0 w ∧ st.sl 16 = i64 (swp G f d x k) ∧ st.sl 134 = i64 (w : Nat) ∧ st.sl 135 = i64 (y : Int) ∧ (st.ro u v = some (.bx [i64 (k : Int)])) ∧ (v ≤ st.gn u) ∧ (Arr st.ro st.gn 8192 (st.gn 8192) (fun i => (3, ρ i)) (pex G f d k x y) n w)) w ?_ ?_ ?_
         ·simp only [↓za, ↓reduceIte, Nat.reduceEqDiff, zb, reduceCtorEq, s4, s8, s9, s5, s112, s113, s114]
          exact ⟨rfl, r9, g9, B.congr fun i _ j _ => pex_zero _ _ _ _ _ _ _⟩
         ·rintro y sl ro gn hy ⟨s4, s8, s5, s9, s112, s113, s114, s15, s16, s134, s135, r9, g9, B⟩
          dsimp only at s4 s8 s5 s9 s112 s113 s114 s15 s16 s134 s135
          have hy' : (y : Int) < (w : Nat) := by omega
          dsimp only at r9 g9 B
          have b1 := B.arr
          have bx := B.rw x hx
          have bd := B.rw d hdn
          dsimp only at b1 bx bd
          simp only [pex_d hxd] at bd
          have e7 := pex_at (G := G) (f := f) (d := d) (k := k) (y := y) hxd
          have q1 := num_swp hG f d x y
          have q2 := num_swp hG f d x k
          have q3 := num_nrm (swp G f d) d k y
          have q4 := num_mul q2 q3
          unfold num at q1
          have hy2 : y + 1 ≤ w := hy
          simp (maxSteps := 10000000) (disch := first | assumption | omega) only [go_sem, ↓reduceIte, Nat.reduceEqDiff, reduceCtorEq, Nat.reduceAdd, Nat.reduceMul, Nat.reduceLeDiff, zc, Int.reduceToNat, s4, s8, s5, s9, s112, s113, s114, s15, s16, s134, s135, hy', hy, b1, bx, bd, rws_get, hdn, hx, hy, e7, hy2, zfe]
          refine CLLD_pure _ (cModI (by omega) (by omega)) PUt rfl ?_
          simp (maxSteps := 10000000) (disch := first | assumption | omega) only [go_sem, ↓reduceIte, Nat.reduceEqDiff, reduceCtorEq, Nat.reduceAdd, Nat.reduceMul, Nat.reduceLeDiff, zc, Int.reduceToNat, s4, s8, s5, s9, s112, s113, s114, s15, s16, s134, s135, hy', hy, b1, bx, bd, rws_get, hdn, hx, hy, e7, hy2, zfe]
          refine FIN_of (by kernel_rfl) ?_
          simp (maxSteps := 10000000) (disch := first | assumption | omega) only [go_sem, ↓reduceIte, Nat.reduceEqDiff, reduceCtorEq, Nat.reduceAdd, Nat.reduceMul, Nat.reduceLeDiff, zc, Int.reduceToNat, s4, s8, s5, s9, s112, s113, s114, s15, s16, s134, s135, hy', hy, r9, eq_false u3]
          refine ⟨i64c (by omega), g9, (B.wr (M' := pex G f d k x (y + 1)) hx ?_ fun i h1 _ j _ => pex_ne fun h => h1 h.1)⟩
          rw [rws_set]
          refine rws_congr fun j _ => ?_
          split
          ·rename_i e; subst e; rw [pex_new _ _ _ _ _ _ hxd]
          ·rename_i e; rw [pex_ne fun h => e h.2]
         ·rintro sl ro gn ⟨s4, s8, s5, s9, s112, s113, s114, s15, s16, s134, s135, r9, g9, B⟩
          dsimp only at s4 s8 s5 s9 s112 s113 s114 s15 s16 s134 s135
          have hy' : ¬ ((w : Nat) : Int) < (w : Nat) := by omega
          dsimp only at r9 g9 B
          simp (maxSteps := 10000000) (disch := first | assumption | omega) only [go_sem, ↓reduceIte, Nat.reduceEqDiff, reduceCtorEq, Nat.reduceAdd, Nat.reduceMul, Nat.reduceLeDiff, zc, Int.reduceToNat, s4, s8, s5, s9, s112, s113, s114, s15, s16, s134, s135, hy']
          exact ⟨i64c (by omega), r9, g9, B.congr fun i _ j hj => pex_end hxd hj⟩
      ·rintro sl ro gn ⟨s4, s8, s5, s9, s112, s113, s114, r9, g9, B⟩
       dsimp only at s4 s8 s5 s9 s112 s113 s114
       have hx' : ¬ ((n : Nat) : Int) < (n : Nat) := by omega
       dsimp only at r9 g9 B
       have b1 := B.arr
       simp (maxSteps := 10000000) (disch := first | assumption | omega) only [go_sem, ↓reduceIte, Nat.reduceEqDiff, reduceCtorEq, Nat.reduceAdd, Nat.reduceMul, Nat.reduceLeDiff, zc, Int.reduceToNat, s4, s8, s5, s9, s112, s113, s114, hx', b1, r9]
       rw [hS, e3]
       dsimp only
       refine ⟨i64c (by omega), rfl, ⟨159744, gn 159744 + 1, rfl, ?_, ?_, by decide, by decide⟩, ρ, (B.congr fun i hi j _ => (elx_end hi).symm).frame Ur (fun i hi => by simp only [↓za, ↓reduceIte, Nat.reduceEqDiff, zb, reduceCtorEq]) (fun i hi => by simp only [↓za, ↓reduceIte, Nat.reduceEqDiff, zb, reduceCtorEq]; exact Nat.le_refl _)⟩
       ·simp only [↓za, ↓reduceIte, Nat.reduceEqDiff, zb, reduceCtorEq]
        exact congrArg (fun x => some (AV.bx [x])) (i64c (by omega))
       ·simp only [↓za, ↓reduceIte, Nat.reduceEqDiff, zb, reduceCtorEq]; exact Nat.le_refl _
  ·rintro sl ro gn ⟨s4, s8, s5, q9, q⟩
   dsimp only at s4 s8 s5
   have hk' : ¬ ((w : Nat) : Int) < (w : Nat) := by omega
   obtain ⟨u, v, s9, r9, g9, u1, u3⟩ := q9
   obtain ⟨τ, A⟩ := q
   dsimp only at s9 r9 g9 A
   have ok := gj_ok (n := n) hM w
   have a1 := A.arr
   have a2 := A.rw 0 h0
   dsimp only at a1 a2
   simp (maxSteps := 10000000) (disch := first | assumption | omega) only [go_sem, ↓reduceIte, Nat.reduceEqDiff, reduceCtorEq, Nat.reduceAdd, Nat.reduceMul, Nat.reduceLeDiff, zc, Int.reduceToNat, s4, s8, s5, hk', a1, a2, rws_get, h0', h0, kIdx_refZ, s9, r9]
   refine FIN_w [false, false, false, false, true] (by kernel_rfl) ?_
   simp (maxSteps := 10000000) (disch := first | assumption | omega) only [go_sem, ↓reduceIte, Nat.reduceEqDiff, reduceCtorEq, Nat.reduceAdd, Nat.reduceMul, Nat.reduceLeDiff, zc, Int.reduceToNat, s4, s8, s5, hk', a1, Option.map_none, Option.map_some, kSlice_hi, ok.2.1]
   obtain ⟨dl, ho⟩ := A.out ok.2.1
   simp only [retR, resL, outT, ↓za, ↓reduceIte, Nat.reduceEqDiff, zb, reduceCtorEq, ho]
   rfl
end Go.Proofs.YtkimbjcaoolfpaaGreatDoor
/- Inverses: the reference's and the program's. -/
namespace Go.Proofs.YtkimbjcaoolfpaaGreatDoor
open Go.RowKit
set_option maxRecDepth 1000000
def flt (S : List (List Int)) : Nat → List Int
 | 0 => []
 | i + 1 => flt S i ++ row S i
theorem flt_mono (S : List (List Int)) : ∀ {i k : Nat}, i ≤ k → (flt S i).length ≤ (flt S k).length
 | i, 0, h => by
  have : i = 0 := by omega
  rw [this]; exact Nat.le_refl _
 | i, k + 1, h => by
  by_cases e : i = k + 1
  ·rw [e]; exact Nat.le_refl _
  ·have := flt_mono S (i := i) (k := k) (by omega)
   simp only [flt, List.length_append]; omega
theorem cConcat {a : AV} {S : List (List Int)} (ha : isLL a S) (hS : S.length ≤ 65536) (h1 : 1 ≤ (flt S S.length).length) (hm : (flt S S.length).length ≤ 65536) : CallOK Tryz.prog 73 [a] (rowL (flt S S.length)) := by
 refine call_of (fn := Tryz.f73) (code := bodyOf Tryz.f73) Tryz.func73 rfl (by kernel_rfl) (noRef_rowL _) ?_
 intro sl hs
 have s0 : sl 0 = a := hs 0
 dsimp only [Tryz.f73, bodyOf, Option.getD]
 simp (maxSteps := 10000000) (disch := first | assumption | omega) only [go_sem, ↓reduceIte, Nat.reduceEqDiff, reduceCtorEq, Nat.reduceAdd, Nat.reduceMul, Nat.reduceLeDiff, zc, Int.reduceToNat, s0, isLL_len ha]
 refine WK_for (fun i st => st.sl 0 = a ∧ st.sl 9 = a ∧ st.sl 10 = i64 (S.length : Nat) ∧ st.sl 11 = i64 (i : Int) ∧ st.sl 3 = i64 ((flt S i).length : Nat)) S.length ?_ ?_ ?_
 ·simp only [↓za, ↓reduceIte, Nat.reduceEqDiff, zb, reduceCtorEq, rws_zero, s0]
  exact ⟨rfl, rfl⟩
 ·rintro i sl ro gn hi ⟨s0, s9, s10, s11, s3⟩
  dsimp only at s0 s9 s10 s11 s3
  have hi' : (i : Int) < (S.length : Nat) := by omega
  have hr := isLL_row ha hi
  have hl := flt_mono S (show i + 1 ≤ S.length from hi)
  simp only [flt, List.length_append] at hl
  have hn : ¬ (((flt S i).length : Int) + ((row S i).length : Int)) < 0 := by omega
  simp (maxSteps := 10000000) (disch := first | assumption | omega) only [go_sem, ↓reduceIte, Nat.reduceEqDiff, reduceCtorEq, Nat.reduceAdd, Nat.reduceMul, Nat.reduceLeDiff, zc, Int.reduceToNat, s0, s9, s10, s11, s3, hi', hi, isLL_idx ha hi, isL_len hr, hn]
  exact ⟨i64c (by omega), i64c (by simp only [flt, List.length_append]; omega)⟩
 ·rintro sl ro gn ⟨s0, s9, s10, s11, s3⟩
  dsimp only at s0 s9 s10 s11 s3
  have hi' : ¬ ((S.length : Nat) : Int) < (S.length : Nat) := by omega
  simp (maxSteps := 10000000) (disch := first | assumption | omega) only [go_sem, ↓reduceIte, Nat.reduceEqDiff, reduceCtorEq, Nat.reduceAdd, Nat.reduceMul, Nat.reduceLeDiff, zc, Int.reduceToNat, s0, s9, s10, s11, s3, hi']
  refine CLL_pure _ (cGrow h1 (Nat.le_trans hm (by decide))) PUt rfl rfl ?_
  simp (maxSteps := 10000000) (disch := first | assumption | omega) only [go_sem, ↓reduceIte, Nat.reduceEqDiff, reduceCtorEq, Nat.reduceAdd, Nat.reduceMul, Nat.reduceLeDiff, zc, Int.reduceToNat, s0, s9, s10, s11, s3, hi', impE_row, isLL_len ha]
  refine WK_for (fun i st => st.sl 25 = a ∧ st.sl 26 = i64 (S.length : Nat) ∧ st.sl 27 = i64 (i : Int) ∧ st.sl 6 = .ref 40976 (st.gn 40976) [] 0 (flt S i).length ∧ st.ro 40976 (st.gn 40976) = some (.row ((flt S i).map i64))) S.length ?_ ?_ ?_
  ·simp only [↓za, ↓reduceIte, Nat.reduceEqDiff, zb, reduceCtorEq, rws_zero, s0, s9, s10, s11, s3, hi']
   exact ⟨rfl, rfl, rfl⟩
  ·rintro i sl ro gn hi ⟨s25, s26, s27, s6, r40976⟩
   dsimp only at s25 s26 s27 s6 r40976
   have hi' : (i : Int) < (S.length : Nat) := by omega
   have hr := isLL_row ha hi
   have hl := flt_mono S (show i + 1 ≤ S.length from hi)
   simp only [flt, List.length_append] at hl
   have hb : (flt S i).length + (row S i).length ≤ 4294967296 := by omega
   have ht : (((flt S i).map i64).drop 0).take (flt S i).length = (flt S i).map i64 := by rw [List.drop_zero, List.take_of_length_le (by rw [List.length_map]; exact Nat.le_refl _)]
   rcases hr with e | ⟨e1, e⟩
   ·have hc : ((row S i).map i64).all zez = true := by rw [List.all_map]; exact List.all_eq_true.2 fun _ _ => rfl
    simp (maxSteps := 10000000) (disch := first | assumption | omega) only [go_sem, ↓reduceIte, Nat.reduceEqDiff, reduceCtorEq, Nat.reduceAdd, Nat.reduceMul, Nat.reduceLeDiff, zc, Int.reduceToNat, s25, s26, s27, s6, r40976, hi', hi, isLL_idx ha hi, e, hc, List.length_map, hb]
    refine ⟨i64c (by omega), by simp only [flt, List.length_append], ?_⟩
    rw [List.take_of_length_le (by rw [List.length_map]; exact Nat.le_refl _)]
    simp only [flt, List.map_append]
   ·have hb0 : (flt S i).length ≤ 4294967296 := by omega
    simp (maxSteps := 10000000) (disch := first | assumption | omega) only [go_sem, ↓reduceIte, Nat.reduceEqDiff, reduceCtorEq, Nat.reduceAdd, Nat.reduceMul, Nat.reduceLeDiff, zc, Int.reduceToNat, s25, s26, s27, s6, r40976, hi', hi, isLL_idx ha hi, e, List.length_map, hb0, show isNilV (Value.slice none 0 0) = true from rfl]
    refine ⟨i64c (by omega), by simp only [flt, e1, List.append_nil], ?_⟩
    rw [List.take_of_length_le (by rw [List.length_map]; exact Nat.le_refl _)]
    simp only [flt, e1, List.append_nil]
  ·rintro sl ro gn ⟨s25, s26, s27, s6, r40976⟩
   dsimp only at s25 s26 s27 s6 r40976
   have hi' : ¬ ((S.length : Nat) : Int) < (S.length : Nat) := by omega
   simp (maxSteps := 10000000) (disch := first | assumption | omega) only [go_sem, ↓reduceIte, Nat.reduceEqDiff, reduceCtorEq, Nat.reduceAdd, Nat.reduceMul, Nat.reduceLeDiff, zc, Int.reduceToNat, s25, s26, s27, s6, r40976, hi']
   simp only [zr, zb, retR, resL, outT, outL, zes, zez, oneV, zcp, zed, zfi, Ro.dl, St.ev, zhk, ↓za, ↓reduceIte, Nat.reduceEqDiff, Nat.reduceAdd, Nat.reduceLeDiff, r40976]
def wdM (S : Nat → Nat → Int) (n i j : Nat) : Int := if j < n then S i j else unM i (j - n)
theorem rws_app2 {α : Type} (f g : Nat → α) (n m : Nat) : rws f n ++ rws g m = rws (fun j => if j < n then f j else g (j - n)) (n + m) := by
 apply List.ext_getElem?
 intro i
 by_cases h : i < n
 ·rw [List.getElem?_append_left (by rw [zfe]; exact h), rws_get _ _ _ h, rws_get _ _ _ (by omega), if_pos h]
 ·rw [List.getElem?_append_right (by rw [zfe]; omega), zfe]
  by_cases h2 : i < n + m
  ·rw [rws_get _ _ _ (by omega), rws_get _ _ _ h2, if_neg h]
  ·rw [List.getElem?_eq_none (by rw [zfe]; omega), List.getElem?_eq_none (by rw [zfe]; omega)]
theorem wd_row (S : Nat → Nat → Int) (n i : Nat) : rws (fun j => i64 (S i j)) n ++ rws (fun j => i64 (unM i j)) n = rws (fun j => i64 (wdM S n i j)) (n + n) := by
 rw [rws_app2]
 refine rws_congr fun j _ => ?_
 unfold wdM
 split <;> rfl
theorem num_wdM {S : Nat → Nat → Int} (h : numM S) (n : Nat) : numM (wdM S n) := by
 intro i j
 unfold wdM
 split
 ·exact h i j
 ·unfold unM; split <;> (unfold num; decide)
theorem exq_rowP {ro : Ro} {s g n w i off m k : Nat} {f : Nat → Nat → Int} (h : ro s g = some (matA f n w)) (hi : i < n) (hm : off + m ≤ w) (hk : 2 ≤ k) : exq k ro (.ref s g [i] off m) (immL (rws (fun j => f i (off + j)) m)) := by
 refine ⟨fun q hq => ?_, fun hp => by simp [pureA] at hp⟩
 obtain ⟨j, rfl⟩ : ∃ j, q = j + 2 := ⟨q - 2, by omega⟩
 have hc : ro.cells s g [i] = some (rws (fun j => i64 (f i j)) w) := by
  simp only [Ro.cells, Ro.at, h, ath, rws_get _ _ _ hi]
 simp only [ex, hc]
 congr 1
 have e : ((rws (fun j => i64 (f i j)) w).drop off).take m = rws (fun j => i64 (f i (off + j))) m := by
  apply List.ext_getElem?
  intro x
  rw [List.getElem?_take]
  split
  ·rename_i hx
   rw [List.getElem?_drop, rws_get _ _ _ (by omega), rws_get _ _ _ hx]
  ·rename_i hx
   exact (List.getElem?_eq_none (by rw [zfe]; omega)).symm
 rw [e, rws_map, rws_map]
theorem exq_two {ro : Ro} {s g k : Nat} {xs ys : List Int} (h : ro s g = some (.row [.imm (xs.map i64), .row (ys.map i64)])) (hk : 3 ≤ k) : exq k ro (.ref s g [] 0 2) (immLL [xs, ys]) := by
 refine ⟨fun q hq => ?_, fun hp => by simp [pureA] at hp⟩
 obtain ⟨j, rfl⟩ : ∃ j, q = j + 3 := ⟨q - 3, by omega⟩
 have hc : ro.cells s g [] = some [.imm (xs.map i64), .row (ys.map i64)] := by simp only [Ro.cells, h, blk]
 have hm : ∀ l : List Int, (l.map i64).map (ex ro (j + 1)) = l.map i64 := fun l => by rw [List.map_map]; exact List.map_congr_left fun _ _ => rfl
 have h1 : ∀ l : List Int, ex ro (j + 2) (.imm (l.map i64)) = .imm (l.map i64) := fun l => congrArg AV.imm (hm l)
 have h2 : ∀ l : List Int, ex ro (j + 2) (.row (l.map i64)) = .imm (l.map i64) := fun l => congrArg AV.imm (hm l)
 show (match ro.cells s g [] with | some cs => AV.imm (((cs.drop 0).take 2).map (ex ro (j + 2))) | none => .dead) = _
 rw [hc]
 show AV.imm [ex ro (j + 2) _, ex ro (j + 2) _] = _
 rw [h1, h2]
 rfl
theorem impE_tupM {b : Nat} {gn : Nat → Nat} {cs : List AV} {v : Value} : impE b gn (.tup [.row cs, .sc v]) = ⟨.tup [.ref b (gn b + 1) [] 0 cs.length, .sc v], none, [], [(b, .row cs)]⟩ := nr _
def ivM (S : Nat → Nat → Int) (n i j : Nat) : Int := (gj n (wdM S n) (n + n)).1 i (n + j)
structure Ivt (S : Nat → Nat → Int) (n : Nat) : Prop where
 d : (gj n (wdM S n) (n + n)).2.1 = n
 one : ∀ i, i < n → (gj n (wdM S n) (n + n)).1 i i = 1
theorem cUnitI {n : Nat} (hn : n ≤ maxN) : CallOK Tryz.prog 39 [i64 n, i64 1] (matA unM n n) := by
 refine call_of (fn := Tryz.f39) (code := bodyOf Tryz.f39) Tryz.func39 rfl (by kernel_rfl) (noRef_mat _ _ _) ?_
 intro sl hs
 have s0 : sl 0 = i64 n := hs 0
 have s1 : sl 1 = i64 1 := hs 1
 dsimp only [Tryz.f39, bodyOf, Option.getD]
 simp (maxSteps := 10000000) (disch := first | assumption | omega) only [go_sem, ↓reduceIte, Nat.reduceEqDiff, reduceCtorEq, Nat.reduceAdd, Nat.reduceMul, Nat.reduceLeDiff, zc, Int.reduceToNat, s0, s1]
 refine CLL_pure _ (c126m hn hn) PUt rfl rfl ?_
 simp (maxSteps := 10000000) (disch := first | assumption | omega) only [go_sem, ↓reduceIte, Nat.reduceEqDiff, reduceCtorEq, Nat.reduceAdd, Nat.reduceMul, Nat.reduceLeDiff, zc, Int.reduceToNat, s0, s1, impE_row]
 refine WK_for (fun x st => st.sl 1 = i64 1 ∧ st.sl 5 = .ref 8224 (st.gn 8224) [] 0 n ∧ st.sl 10 = i64 (n : Nat) ∧ st.sl 11 = i64 (x : Int) ∧ st.ro 8224 (st.gn 8224) = some (.row (rws (fun i => .row (rws (fun j => i64 (if i < x then unM i j else 0)) n)) n))) n ?_ ?_ ?_
 ·simp only [↓za, ↓reduceIte, Nat.reduceEqDiff, zb, reduceCtorEq, rws_zero, s0, s1]
  exact ⟨rfl, by simp only [Nat.not_lt_zero, if_false]⟩
 ·rintro x sl ro gn hx ⟨s1, s5, s10, s11, r8224⟩
  dsimp only at s1 s5 s10 s11 r8224
  have hx' : (x : Int) < (n : Nat) := by omega
  have hn' : n ≤ 4294967296 := hn
  simp (maxSteps := 10000000) (disch := first | assumption | omega) only [go_sem, ↓reduceIte, Nat.reduceEqDiff, reduceCtorEq, Nat.reduceAdd, Nat.reduceMul, Nat.reduceLeDiff, zc, Int.reduceToNat, s1, s5, s10, s11, r8224, hx', hx, rws_get, hx]
  refine ⟨i64c (by omega), congrArg some (mat_congr fun i j hi hj => ?_)⟩
  show (if i = x ∧ j = x then (1 : Int) else if i < x then (if j = i then 1 else 0) else 0) = if i < x + 1 then (if j = i then 1 else 0) else 0
  split <;> split <;> (try split) <;> (try split) <;> first | rfl | omega
 ·rintro sl ro gn ⟨s1, s5, s10, s11, r8224⟩
  dsimp only at s1 s5 s10 s11 r8224
  have hx' : ¬ ((n : Nat) : Int) < (n : Nat) := by omega
  simp (maxSteps := 10000000) (disch := first | assumption | omega) only [go_sem, ↓reduceIte, Nat.reduceEqDiff, reduceCtorEq, Nat.reduceAdd, Nat.reduceMul, Nat.reduceLeDiff, zc, Int.reduceToNat, s1, s5, s10, s11, r8224, hx']
  simp only [zr, zb, retR, resL, outT, outL, zes, zez, oneV, zcp, zed, zfi, Ro.dl, St.ev, zhk, ↓za, ↓reduceIte, Nat.reduceEqDiff, Nat.reduceAdd, Nat.reduceLeDiff, r8224]
  exact mat_congr fun i j hi hj => if_pos hi
theorem cInvS {a : AV} {n : Nat} {S : Nat → Nat → Int} (ha : isLL a (matL S n n)) (h0 : 0 < n) (hn : n ≤ 4096) (hS : numM S) (hI : Ivt S n) : CallOK Tryz.prog 43 [a] (matA (ivM S n) n n) := by
 have hn2 : n + n ≤ 65536 := by omega
 have cB := cBasis (isLL_mat (wdM S n) n (n + n)) h0 (by omega) hn2 (num_wdM hS n)
 rw [hI.d] at cB
 refine call_of (fn := Tryz.f43) (code := bodyOf Tryz.f43) Tryz.func43 rfl (by kernel_rfl) (noRef_mat _ _ _) ?_
 intro sl hs
 have s0 : sl 0 = a := hs 0
 dsimp only [Tryz.f43, bodyOf, Option.getD]
 simp (maxSteps := 10000000) (disch := first | assumption | omega) only [go_sem, ↓reduceIte, Nat.reduceEqDiff, reduceCtorEq, Nat.reduceAdd, Nat.reduceMul, Nat.reduceLeDiff, zc, Int.reduceToNat, s0, isLL_len ha, matL_len2]
 refine CLL_pure _ (cUnit (n := n) (Nat.le_trans hn (by decide))) PUt rfl rfl ?_
 simp (maxSteps := 10000000) (disch := first | assumption | omega) only [go_sem, ↓reduceIte, Nat.reduceEqDiff, reduceCtorEq, Nat.reduceAdd, Nat.reduceMul, Nat.reduceLeDiff, zc, Int.reduceToNat, s0, impE_row]
 refine WK_for (fun i st => st.sl 0 = a ∧ st.sl 4 = .ref 8240 (st.gn 8240) [] 0 n ∧ st.sl 5 = i64 (i : Int) ∧ st.sl 3 = .ref 8192 (st.gn 8192) [] 0 i ∧ st.ro 8240 (st.gn 8240) = some (matA unM n n) ∧ st.ro 8192 (st.gn 8192) = some (.row (rws (fun i => .row (rws (fun j => i64 (wdM S n i j)) (n + n))) i))) n ?_ ?_ ?_
 ·simp only [↓za, ↓reduceIte, Nat.reduceEqDiff, zb, reduceCtorEq, rws_zero, s0]
  rfl
 ·rintro i sl ro gn hi ⟨s0, s4, s5, s3, r8240, r8192⟩
  dsimp only at s0 s4 s5 s3 r8240 r8192
  have hi' : (i : Int) < (n : Nat) := by omega
  have hi1 : i < (matL S n n).length := by rw [matL_len2]; exact hi
  have hr := isLL_row ha hi1
  have hi2 : i + 1 ≤ 4294967296 := by omega
  have hn4 : n + n ≤ 4294967296 := by omega
  have c1 := cOwn hr (by rw [matL_row2 hi]; exact Nat.le_trans hn (by decide))
  rw [show rowL (row (matL S n n) i) = .row (rws (fun j => i64 (S i j)) n) by rw [matL_row hi, rowL, rws_map]] at c1
  have hall : (rws (fun j => i64 (unM i j)) n).all zez = true := List.all_eq_true.2 fun x hx => by
   obtain ⟨j, -, rfl⟩ := List.mem_map.1 hx
   rfl
  simp (maxSteps := 10000000) (disch := first | assumption | omega) only [go_sem, ↓reduceIte, Nat.reduceEqDiff, reduceCtorEq, Nat.reduceAdd, Nat.reduceMul, Nat.reduceLeDiff, zc, Int.reduceToNat, s0, s4, s5, s3, r8240, r8192, hi', hi, isLL_len ha, matL_len2, isLL_idx ha hi1, isLL_sites ha]
  refine CLLD_pure _ c1 PUt rfl ?_
  simp (maxSteps := 10000000) (disch := first | assumption | omega) only [go_sem, ↓reduceIte, Nat.reduceEqDiff, reduceCtorEq, Nat.reduceAdd, Nat.reduceMul, Nat.reduceLeDiff, zc, Int.reduceToNat, s0, s4, s5, s3, r8240, r8192, hi', hi, impE_row, hi2, rws_get, hi, hn4, wd_row, zfe, hall]
  refine FIN_of (by kernel_rfl) ?_
  simp (maxSteps := 10000000) (disch := first | assumption | omega) only [go_sem, ↓reduceIte, Nat.reduceEqDiff, reduceCtorEq, Nat.reduceAdd, Nat.reduceMul, Nat.reduceLeDiff, zc, Int.reduceToNat, s0, s4, s5, s3, r8240, r8192, hi', hi]
  exact i64c (by omega)
 ·rintro sl ro gn ⟨s0, s4, s5, s3, r8240, r8192⟩
  dsimp only at s0 s4 s5 s3 r8240 r8192
  have hi' : ¬ ((n : Nat) : Int) < (n : Nat) := by omega
  simp (maxSteps := 10000000) (disch := first | assumption | omega) only [go_sem, ↓reduceIte, Nat.reduceEqDiff, reduceCtorEq, Nat.reduceAdd, Nat.reduceMul, Nat.reduceLeDiff, zc, Int.reduceToNat, s0, s4, s5, s3, r8240, r8192, hi', matL_len2]
  refine CLL_q _ cB (.cons (exq_mat (by first | exact r8192 | (simp only [↓za, ↓reduceIte, Nat.reduceEqDiff, zb, reduceCtorEq]; exact r8192)) (by decide)) .nil) rfl rfl (noI_mat _ _ _) ?_
  simp (maxSteps := 10000000) (disch := first | assumption | omega) only [go_sem, ↓reduceIte, Nat.reduceEqDiff, reduceCtorEq, Nat.reduceAdd, Nat.reduceMul, Nat.reduceLeDiff, zc, Int.reduceToNat, s0, s4, s5, s3, r8240, r8192, hi', impE_row]
  refine WK_for (fun i st => st.sl 0 = a ∧ st.sl 3 = .ref 28688 (st.gn 28688) [] 0 n ∧ st.sl 7 = i64 (i : Int) ∧ st.sl 6 = .ref 32768 (st.gn 32768) [] 0 i ∧ st.ro 28688 (st.gn 28688) = some (matA (gj n (wdM S n) (n + n)).1 n (n + n)) ∧ st.ro 32768 (st.gn 32768) = some (.row (rws (fun i => .row (rws (fun j => i64 (ivM S n i j)) n)) i))) n ?_ ?_ ?_
  ·simp only [↓za, ↓reduceIte, Nat.reduceEqDiff, zb, reduceCtorEq, rws_zero, s0, s4, s5, s3, r8240, r8192, hi']
   rfl
  ·rintro i sl ro gn hi ⟨s0, s3, s7, s6, r28688, r32768⟩
   dsimp only at s0 s3 s7 s6 r28688 r32768
   have hi' : (i : Int) < (n : Nat) := by omega
   have hi2 : i + 1 ≤ 4294967296 := by omega
   have c1 := cOwn (isL_imm (rws (fun j => ivM S n i j) n)) (by rw [zfe]; exact Nat.le_trans hn (by decide))
   rw [show rowL (rws (fun j => ivM S n i j) n) = .row (rws (fun j => i64 (ivM S n i j)) n) by rw [rowL, rws_map]] at c1
   have hn3 : n ≤ n + n := by omega
   have hn4 : n + n - n = n := by omega
   simp (maxSteps := 10000000) (disch := first | assumption | omega) only [go_sem, ↓reduceIte, Nat.reduceEqDiff, reduceCtorEq, Nat.reduceAdd, Nat.reduceMul, Nat.reduceLeDiff, zc, Int.reduceToNat, s0, s3, s7, s6, r28688, r32768, hi', hi, matL_len2, rws_get, hi, Option.map_some, Option.map_none, kSlice_lo, hn3, hn4]
   refine CLL_q _ c1 (.cons (exq_rowP (by first | exact r28688 | (simp only [↓za, ↓reduceIte, Nat.reduceEqDiff, zb, reduceCtorEq]; exact r28688)) hi (Nat.le_refl _) (by decide)) .nil) rfl rfl (noI_row _ (noIL_map _ (fun _ => rfl) _)) ?_
   simp (maxSteps := 10000000) (disch := first | assumption | omega) only [go_sem, ↓reduceIte, Nat.reduceEqDiff, reduceCtorEq, Nat.reduceAdd, Nat.reduceMul, Nat.reduceLeDiff, zc, Int.reduceToNat, s0, s3, s7, s6, r28688, r32768, hi', hi, impE_row, hi2]
   exact i64c (by omega)
  ·rintro sl ro gn ⟨s0, s3, s7, s6, r28688, r32768⟩
   dsimp only at s0 s3 s7 s6 r28688 r32768
   have hi' : ¬ ((n : Nat) : Int) < (n : Nat) := by omega
   simp (maxSteps := 10000000) (disch := first | assumption | omega) only [go_sem, ↓reduceIte, Nat.reduceEqDiff, reduceCtorEq, Nat.reduceAdd, Nat.reduceMul, Nat.reduceLeDiff, zc, Int.reduceToNat, s0, s3, s7, s6, r28688, r32768, hi']
   simp only [zr, zb, retR, resL, outT, outL, zes, zez, oneV, zcp, zed, zfi, Ro.dl, St.ev, zhk, ↓za, ↓reduceIte, Nat.reduceEqDiff, Nat.reduceAdd, Nat.reduceLeDiff, r32768]
theorem cInvI {a : AV} {n : Nat} {S : Nat → Nat → Int} (ha : isLL a (matL S n n)) (h0 : 0 < n) (hn : n ≤ 4096) (hS : numM S) (hI : Ivt S n) : CallOK Tryz.prog 55 [a] (matA (ivM S n) n n) := by
 have hn2 : n + n ≤ 65536 := by omega
 have cB := cReduce (isLL_mat (wdM S n) n (n + n)) h0 (by omega) (by omega) hn2 (num_wdM hS n)
 rw [hI.d] at cB
 refine call_of (fn := Tryz.f55) (code := bodyOf Tryz.f55) Tryz.func55 rfl (by kernel_rfl) (noRef_mat _ _ _) ?_
 intro sl hs
 have s0 : sl 0 = a := hs 0
 dsimp only [Tryz.f55, bodyOf, Option.getD]
 simp (maxSteps := 10000000) (disch := first | assumption | omega) only [go_sem, ↓reduceIte, Nat.reduceEqDiff, reduceCtorEq, Nat.reduceAdd, Nat.reduceMul, Nat.reduceLeDiff, zc, Int.reduceToNat, s0, isLL_len ha, matL_len2]
 refine CLL_pure _ (cUnitI (n := n) (Nat.le_trans hn (by decide))) PUt rfl rfl ?_
 simp (maxSteps := 10000000) (disch := first | assumption | omega) only [go_sem, ↓reduceIte, Nat.reduceEqDiff, reduceCtorEq, Nat.reduceAdd, Nat.reduceMul, Nat.reduceLeDiff, zc, Int.reduceToNat, s0, impE_row, matL_len2]
 refine WK_forG (fun x st => st.sl 3 = i64 (n : Nat) ∧ st.sl 19 = a ∧ st.sl 20 = i64 (n : Nat) ∧ st.sl 21 = i64 (x : Int) ∧ st.sl 4 = .ref 8256 (st.gn 8256) [] 0 n ∧ st.sl 5 = .ref 12288 (st.gn 12288) [] 0 x ∧ st.ro 12288 (st.gn 12288) = some (.row (rws (fun i => .row (rws (fun j => i64 (wdM S n i j)) (n + n))) x)) ∧ (∃ τ : Nat → Nat, (∀ y z, y < n → z < n → τ y = τ z → y = z) ∧ st.ro 8256 (st.gn 8256) = some (.bx (rws (fun i => .ref 3 (τ i) [] 0 n) n)) ∧ ∀ y, x ≤ y → y < n → st.ro 3 (τ y) = some (.row (rws (fun j => i64 (unM y j)) n)))) n (Arr.unp (S := 8256) (g := 1) (b := 3) (n := n) (w := n) (M := unM) (by decide) Ur).1 ?_ ?_ ?_
 ·simp only [unp_sl, unp_gn (show (8256 : Nat) ≠ 3 by decide), unp_gn (show (12288 : Nat) ≠ 3 by decide), unp_other (show (12288 : Nat) ≠ 8256 by decide) (show (12288 : Nat) ≠ 3 by decide), ↓za, ↓reduceIte, Nat.reduceEqDiff, zb, reduceCtorEq]
  refine ⟨rfl, rfl, fun i => upg (upg (fun _ => 0) 8256 1) 12288 1 3 + 1 + i, fun y z _ _ e => by dsimp only at e; omega, (Arr.unp (S := 8256) (g := 1) (b := 3) (n := n) (w := n) (M := unM) (by decide) Ur).2.arr, fun y _ hy => (Arr.unp (S := 8256) (g := 1) (b := 3) (n := n) (w := n) (M := unM) (by decide) Ur).2.rw y hy⟩
 ·rintro x sl ro gn hx ⟨s3, s19, s20, s21, s4, s5, r12288, q⟩
  dsimp only at s3 s19 s20 s21 s4 s5 r12288
  have hx' : (x : Int) < (n : Nat) := by omega
  obtain ⟨τ, q1, q2, q3⟩ := q
  dsimp only at q2 q3
  have hi1 : x < (matL S n n).length := by rw [matL_len2]; exact hx
  have hr := isLL_row ha hi1
  have hi2 : x + 1 ≤ 4294967296 := by omega
  have q4 := q3 x (Nat.le_refl _) hx
  have ea : atA a x = .imm ((row (matL S n n) x).map i64) := by
   rcases hr with e | ⟨e, -⟩
   ·exact e
   ·have := congrArg List.length e
    rw [matL_row2 hx] at this
    simp at this; omega
  have er : (row (matL S n n) x).map i64 = (rws (fun j => S x j) n).map i64 := by rw [matL_row hx]
  rw [er] at ea
  have l1 : (rws (fun j => S x j) n).length = n := zfe _ _
  have l2 : (rws (fun j => unM x j) n).length = n := zfe _ _
  have ef : flt [rws (fun j => S x j) n, rws (fun j => unM x j) n] 2 = rws (fun j => S x j) n ++ rws (fun j => unM x j) n := rfl
  have cC := cConcat (S := [rws (fun j => S x j) n, rws (fun j => unM x j) n]) (isLL_imm _) (by show 2 ≤ 65536; decide) (by show 1 ≤ (flt _ 2).length; rw [ef, List.length_append, l1, l2]; omega) (by show (flt _ 2).length ≤ 65536; rw [ef, List.length_append, l1, l2]; omega)
  rw [show rowL (flt [rws (fun j => S x j) n, rws (fun j => unM x j) n] [rws (fun j => S x j) n, rws (fun j => unM x j) n].length) = .row (rws (fun j => i64 (wdM S n x j)) (n + n)) by
   show rowL (flt _ 2) = _
   rw [ef, rowL, List.map_append, rws_map, rws_map, wd_row]] at cC
  simp (maxSteps := 10000000) (disch := first | assumption | omega) only [go_sem, ↓reduceIte, Nat.reduceEqDiff, reduceCtorEq, Nat.reduceAdd, Nat.reduceMul, Nat.reduceLeDiff, zc, Int.reduceToNat, s3, s19, s20, s21, s4, s5, r12288, hx', hx, isLL_len ha, matL_len2, isLL_idx ha hi1, ea, q2, rws_get, hx, q4, zfe]
  refine CLL_q _ cC (.cons (exq_two (by simp only [↓za, ↓reduceIte, Nat.reduceEqDiff, zb, reduceCtorEq, rws_map]) (by decide)) .nil) rfl rfl (noI_row _ (noIL_map _ (fun _ => rfl) _)) ?_
  simp (maxSteps := 10000000) (disch := first | assumption | omega) only [go_sem, ↓reduceIte, Nat.reduceEqDiff, reduceCtorEq, Nat.reduceAdd, Nat.reduceMul, Nat.reduceLeDiff, zc, Int.reduceToNat, s3, s19, s20, s21, s4, s5, r12288, hx', hx, impE_row, hi2, q2]
  refine ⟨i64c (by omega), τ, q1, ?_, fun y hy hyn => ?_⟩
  ·simp only [↓za, ↓reduceIte, Nat.reduceEqDiff, zb, reduceCtorEq]
  ·have : ¬ τ y = τ x := fun e => by have := q1 y x hyn hx e; omega
   simp only [↓za, ↓reduceIte, Nat.reduceEqDiff, zb, reduceCtorEq, this]
   exact q3 y (by omega) hyn
 ·rintro sl ro gn ⟨s3, s19, s20, s21, s4, s5, r12288, q⟩
  dsimp only at s3 s19 s20 s21 s4 s5 r12288
  have hx' : ¬ ((n : Nat) : Int) < (n : Nat) := by omega
  simp (maxSteps := 10000000) (disch := first | assumption | omega) only [go_sem, ↓reduceIte, Nat.reduceEqDiff, reduceCtorEq, Nat.reduceAdd, Nat.reduceMul, Nat.reduceLeDiff, zc, Int.reduceToNat, s3, s19, s20, s21, s4, s5, r12288, hx']
  refine CLL_q _ cB (.cons (exq_mat (by first | exact r12288 | (simp only [↓za, ↓reduceIte, Nat.reduceEqDiff, zb, reduceCtorEq]; exact r12288)) (by decide)) .nil) rfl rfl ?_ ?_
  ·have := noI_mat (gj n (wdM S n) (n + n)).1 n (n + n)
   simp only [noI, noIL, Bool.and_true] at *; exact this
  simp (maxSteps := 10000000) (disch := first | assumption | omega) only [go_sem, ↓reduceIte, Nat.reduceEqDiff, reduceCtorEq, Nat.reduceAdd, Nat.reduceMul, Nat.reduceLeDiff, zc, Int.reduceToNat, s3, s19, s20, s21, s4, s5, r12288, hx', impE_tupM]
  refine WK_for (fun i st => st.sl 3 = i64 (n : Nat) ∧ st.sl 8 = .ref 36880 (st.gn 36880) [] 0 n ∧ st.sl 43 = .ref 36880 (st.gn 36880) [] 0 n ∧ st.sl 44 = i64 (n : Nat) ∧ st.sl 45 = i64 (i : Int) ∧ st.sl 10 = .ref 40960 (st.gn 40960) [] 0 i ∧ st.ro 36880 (st.gn 36880) = some (matA (gj n (wdM S n) (n + n)).1 n (n + n)) ∧ st.ro 40960 (st.gn 40960) = some (.row (rws (fun i => .row (rws (fun j => i64 (ivM S n i j)) n)) i))) n ?_ ?_ ?_
  ·simp only [↓za, ↓reduceIte, Nat.reduceEqDiff, zb, reduceCtorEq, rws_zero, s3, s19, s20, s21, s4, s5, r12288, hx']
   rfl
  ·rintro i sl ro gn hi ⟨s3, s8, s43, s44, s45, s10, r36880, r40960⟩
   dsimp only at s3 s8 s43 s44 s45 s10 r36880 r40960
   have hi' : (i : Int) < (n : Nat) := by omega
   have hi2 : i + 1 ≤ 4294967296 := by omega
   have c1 := cCloP (isL_imm (rws (fun j => ivM S n i j) n)) (by rw [zfe]; exact Nat.le_trans hn (by decide)) (by rw [zfe]; exact h0)
   rw [show rowL (rws (fun j => ivM S n i j) n) = .row (rws (fun j => i64 (ivM S n i j)) n) by rw [rowL, rws_map]] at c1
   have hn3 : n ≤ n + n := by omega
   have hn4 : n + n - n = n := by omega
   have hin : i < n + n := by omega
   have ho := hI.one i hi
   simp (maxSteps := 10000000) (disch := first | assumption | omega) only [go_sem, ↓reduceIte, Nat.reduceEqDiff, reduceCtorEq, Nat.reduceAdd, Nat.reduceMul, Nat.reduceLeDiff, zc, Int.reduceToNat, s3, s8, s43, s44, s45, s10, r36880, r40960, hi', hi, rws_get, hi, Option.map_some, Option.map_none, kSlice_lo, hn3, hn4, hin, ho]
   refine CLL_q _ c1 (.cons (exq_rowP (by first | exact r36880 | (simp only [↓za, ↓reduceIte, Nat.reduceEqDiff, zb, reduceCtorEq]; exact r36880)) hi (Nat.le_refl _) (by decide)) .nil) rfl rfl (noI_row _ (noIL_map _ (fun _ => rfl) _)) ?_
   simp (maxSteps := 10000000) (disch := first | assumption | omega) only [go_sem, ↓reduceIte, Nat.reduceEqDiff, reduceCtorEq, Nat.reduceAdd, Nat.reduceMul, Nat.reduceLeDiff, zc, Int.reduceToNat, s3, s8, s43, s44, s45, s10, r36880, r40960, hi', hi, impE_row, hi2]
   exact i64c (by omega)
  ·rintro sl ro gn ⟨s3, s8, s43, s44, s45, s10, r36880, r40960⟩
   dsimp only at s3 s8 s43 s44 s45 s10 r36880 r40960
   have hi' : ¬ ((n : Nat) : Int) < (n : Nat) := by omega
   simp (maxSteps := 10000000) (disch := first | assumption | omega) only [go_sem, ↓reduceIte, Nat.reduceEqDiff, reduceCtorEq, Nat.reduceAdd, Nat.reduceMul, Nat.reduceLeDiff, zc, Int.reduceToNat, s3, s8, s43, s44, s45, s10, r36880, r40960, hi']
   simp only [zr, zb, retR, resL, outT, outL, zes, zez, oneV, zcp, zed, zfi, Ro.dl, St.ev, zhk, ↓za, ↓reduceIte, Nat.reduceEqDiff, Nat.reduceAdd, Nat.reduceLeDiff, r40960]
end Go.Proofs.YtkimbjcaoolfpaaGreatDoor
/- The reduction of a matrix with an inverse, beside the unit matrix: the plain law. -/
namespace Go.Proofs.YtkimbjcaoolfpaaGreatDoor
open Go.RowKit
set_option maxRecDepth 1000000
theorem MM.neg {a b : Int} (h : MM a b) : MM (-a) (-b) := by
 have := MM.mul (MM.rfl (a := -1)) h
 simpa using this
theorem MM.sub {a b c d : Int} (h1 : MM a b) (h2 : MM c d) : MM (a - c) (b - d) := by
 rw [Int.sub_eq_add_neg, Int.sub_eq_add_neg]; exact MM.add h1 h2.neg
theorem sm_sub (f g : Nat → Int) (n : Nat) : sm (fun k => f k - g k) n = sm f n - sm g n := by
 have h1 := sm_addf f (fun k => g k * (-1)) n
 have h2 := sm_mul g (-1) n
 have h3 : sm (fun k => f k - g k) n = sm (fun k => f k + g k * (-1)) n := sm_congr fun k _ => by omega
 rw [h3, h1, ← h2]; omega
theorem sm_at {n j : Nat} (hj : j < n) (v : Int) : sm (fun k => if k = j then v else 0) n = v := sm_pick hj fun _ _ => rfl
def Inj (S : Nat → Nat → Int) (n : Nat) : Prop := ∀ x : Nat → Int, (∀ i, i < n → MM (sm (fun j => S i j * x j) n) 0) → ∀ j, j < n → MM (x j) 0
structure RedP (S : Nat → Nat → Int) (n k : Nat) (G : Nat → Nat → Int) : Prop where
 num : numM G
 col : ∀ i, i < n → ∀ j, j < k → G i j = if j = i then 1 else 0
 rel : ∀ i, i < n → ∀ j, j < n → MM (G i j) (sm (fun l => G i (n + l) * S l j) n)
 ker : ∀ x : Nat → Int, (∀ i, i < n → MM (sm (fun j => G i j * x j) n) 0) → ∀ i, i < n → MM (sm (fun j => S i j * x j) n) 0
theorem RedP.start {S : Nat → Nat → Int} {n : Nat} (hS : numM S) : RedP S n 0 (wdM S n) := by
 have hl : ∀ i j, j < n → wdM S n i j = S i j := fun i j hj => if_pos hj
 have hr : ∀ i l, wdM S n i (n + l) = unM i l := fun i l => by unfold wdM; rw [if_neg (by omega), Nat.add_sub_cancel_left]
 refine ⟨num_wdM hS n, fun i _ j hj => absurd hj (Nat.not_lt_zero _), fun i hi j hj => ?_, fun x h i hi => ?_⟩
 ·rw [hl i j hj, sm_pick (f := fun l => wdM S n i (n + l) * S l j) (j := i) (v := S i j) hi fun l hl' => ?_]
  ·exact MM.rfl
  ·show wdM S n i (n + l) * S l j = _
   rw [hr]
   unfold unM
   split
   ·rename_i e; subst e; rw [Int.one_mul]
   ·rw [Int.zero_mul]
 ·have := h i hi
  rw [sm_congr (g := fun j => S i j * x j) fun j hj => by rw [hl i j hj]] at this
  exact this
theorem RedP.piv {S : Nat → Nat → Int} {n k : Nat} {G : Nat → Nat → Int} (h : RedP S n k G) (hI : Inj S n) (hk : k < n) : fdf G k n k < n := by
 obtain ⟨f1, f2, f3, f4⟩ := fdf_spec G (k := k) (n := n) (d := k) (by omega)
 refine Decidable.byContradiction fun hge => ?_
 have hf : fdf G k n k = n := by omega
 rw [hf] at f3
 have h1 := h.ker (fun j => if j = k then 1 else if j < k then - G j k else 0) (fun i hi => by
  have e : sm (fun j => G i j * (if j = k then 1 else if j < k then - G j k else 0)) n = sm (fun j => (if j = i then (if i < k then - G i k else 0) else 0) + (if j = k then G i k else 0)) n := by
   refine sm_congr fun j hj => ?_
   by_cases e1 : j = k
   ·subst e1
    rw [if_pos rfl, Int.mul_one, if_pos rfl]
    by_cases e2 : j = i
    ·rw [if_pos e2, if_neg (by omega)]; omega
    ·rw [if_neg e2]; omega
   ·rw [if_neg e1, if_neg e1]
    by_cases e2 : j < k
    ·rw [if_pos e2, h.col i hi j e2]
     by_cases e3 : j = i
     ·subst e3; rw [if_pos rfl, if_pos rfl, if_pos e2]; omega
     ·rw [if_neg e3, if_neg e3]; omega
    ·rw [if_neg e2, Int.mul_zero]
     by_cases e3 : j = i
     ·rw [if_pos e3, if_neg (by omega)]; rfl
     ·rw [if_neg e3]; rfl
  rw [e, sm_addf, sm_at hi, sm_at hk]
  refine MM.of_eq ?_
  by_cases e2 : i < k
  ·rw [if_pos e2]; omega
  ·rw [if_neg e2, f3 i (by omega) hi]; rfl)
 have h2 := hI _ h1 k hk
 simp only [if_true] at h2
 exact absurd h2 (by unfold MM; decide)
theorem RedP.step {S : Nat → Nat → Int} {n k : Nat} {G : Nat → Nat → Int} (h : RedP S n k G) (hk : k < n) {f : Nat} (hf1 : k ≤ f) (hf2 : f < n) (hf3 : G f k ≠ 0) : RedP S n (k + 1) (elm (swp G f k) k k) := by
 have inv : MM (pw (G f k) 55439 * G f k) 1 := inv_mul (h.num f k) hf3
 let τ : Nat → Nat := fun i => if i = k then f else if i = f then k else i
 have hτ : ∀ i, i < n → τ i < n := fun i hi => by show (if i = k then f else if i = f then k else i) < n; split <;> (try split) <;> omega
 have hττ : ∀ i, τ (τ i) = i := fun i => by
  show (if (if i = k then f else if i = f then k else i) = k then f else if (if i = k then f else if i = f then k else i) = f then k else (if i = k then f else if i = f then k else i)) = i
  by_cases e1 : i = k
  ·rw [if_pos e1]
   by_cases e2 : f = k
   ·rw [if_pos e2]; omega
   ·rw [if_neg e2, if_pos rfl]; omega
  ·rw [if_neg e1]
   by_cases e2 : i = f
   ·rw [if_pos e2, if_pos rfl]; omega
   ·rw [if_neg e2, if_neg e1, if_neg e2]
 have hsw : ∀ i j, swp G f k i j = G (τ i) j := fun _ _ => rfl
 have hrow : ∀ j, elm (swp G f k) k k k j = nrm (swp G f k) k k j := fun j => if_pos rfl
 have hoth : ∀ i j, i ≠ k → elm (swp G f k) k k i j = (G (τ i) j - G (τ i) k * nrm (swp G f k) k k j) % 55441 := fun i j e => if_neg e
 have hn : ∀ j, nrm (swp G f k) k k j = G f j * pw (G f k) 55439 % 55441 := fun j => nrm_swp G f k k j
 refine ⟨num_elm _ _, fun i hi j hj => ?_, fun i hi j hj => ?_, fun x hx => ?_⟩
 ·by_cases e1 : j = k
  ·subst e1
   have h1 : nrm (swp G f j) j j j = 1 := by
    rw [hn, Int.mul_comm]; exact inv
   by_cases e2 : i = j
   ·subst e2; rw [hrow, h1, if_pos rfl]
   ·rw [hoth i j e2, h1, Int.mul_one, Int.sub_self, if_neg fun e => e2 e.symm]; rfl
  ·have hjk : j < k := by omega
   have h0 : nrm (swp G f k) k k j = 0 := by
    rw [hn, h.col f hf2 j hjk, if_neg (by omega), Int.zero_mul]; rfl
   by_cases e2 : i = k
   ·subst e2; rw [hrow, h0, if_neg e1]
   ·rw [hoth i j e2, h0, Int.mul_zero, Int.sub_zero, h.col _ (hτ i hi) j hjk]
    have : (j = τ i) ↔ (j = i) := by
     show (j = if i = k then f else if i = f then k else i) ↔ _
     rw [if_neg e2]
     by_cases e3 : i = f
     ·rw [if_pos e3]; omega
     ·rw [if_neg e3]
    by_cases e3 : j = i
    ·rw [if_pos (this.2 e3), if_pos e3]; rfl
    ·rw [if_neg fun e => e3 (this.1 e), if_neg e3]; rfl
 ·-- the rows are those of the right half times S
  have hR : MM (nrm (swp G f k) k k j) (sm (fun l => nrm (swp G f k) k k (n + l) * S l j) n) := by
   rw [hn]
   refine (MM.mod _).trans ((MM.mul (h.rel f hf2 j hj) MM.rfl).trans ?_)
   rw [sm_mul]
   refine sm_MM fun l hl => ?_
   rw [hn]
   have := MM.mul (MM.mod (G f (n + l) * pw (G f k) 55439)) (MM.rfl (a := S l j))
   refine MM.trans (MM.of_eq ?_) this.symm
   rw [Int.mul_assoc, Int.mul_assoc, Int.mul_comm (S l j)]
  by_cases e2 : i = k
  ·subst e2
   rw [hrow]
   refine hR.trans (MM.of_eq (sm_congr fun l _ => by rw [hrow]))
  ·rw [hoth i j e2]
   refine (MM.mod _).trans ((MM.sub (h.rel _ (hτ i hi) j hj) (MM.mul (MM.rfl (a := G (τ i) k)) hR)).trans ?_)
   rw [Int.mul_comm (G (τ i) k), sm_mul, ← sm_sub]
   refine sm_MM fun l hl => ?_
   rw [hoth i (n + l) e2]
   have := MM.mul (MM.mod (G (τ i) (n + l) - G (τ i) k * nrm (swp G f k) k k (n + l))) (MM.rfl (a := S l j))
   refine MM.trans (MM.of_eq ?_) this.symm
   rw [Int.sub_mul]
   congr 1
   rw [Int.mul_comm (nrm (swp G f k) k k (n + l) * S l j), Int.mul_assoc]
 ·refine h.ker x fun i hi => ?_
  have hk0 : MM (sm (fun j => nrm (swp G f k) k k j * x j) n) 0 := by
   have := hx k hk
   rw [sm_congr (g := fun j => nrm (swp G f k) k k j * x j) fun j _ => by rw [hrow]] at this
   exact this
  have hf0 : MM (sm (fun j => G f j * x j) n) 0 := by
   have h1 : MM (sm (fun j => nrm (swp G f k) k k j * x j) n) (sm (fun j => G f j * x j) n * pw (G f k) 55439) := by
    rw [sm_mul]
    refine sm_MM fun j _ => ?_
    rw [hn]
    refine (MM.mul (MM.mod _) MM.rfl).trans (MM.of_eq ?_)
    rw [Int.mul_assoc, Int.mul_assoc, Int.mul_comm (pw _ _)]
   have h2 := MM.mul (h1.symm.trans hk0) (MM.rfl (a := G f k))
   rw [Int.zero_mul, Int.mul_assoc] at h2
   have h3 := MM.mul (MM.rfl (a := sm (fun j => G f j * x j) n)) inv
   rw [Int.mul_one] at h3
   exact h3.symm.trans h2
  by_cases e2 : τ i = k
  ·have e3 : i = f := by
    have := hττ i
    rw [e2] at this
    have h4 : τ k = f := if_pos rfl
    omega
   rw [e3]; exact hf0
  ·have h1 := hx (τ i) (hτ i hi)
   have h2 : MM (sm (fun j => elm (swp G f k) k k (τ i) j * x j) n) (sm (fun j => G i j * x j) n - sm (fun j => nrm (swp G f k) k k j * x j) n * G i k) := by
    rw [sm_mul, ← sm_sub]
    refine sm_MM fun j _ => ?_
    rw [hoth _ _ e2, hττ]
    refine (MM.mul (MM.mod _) MM.rfl).trans (MM.of_eq ?_)
    rw [Int.sub_mul]
    congr 1
    rw [Int.mul_comm (nrm (swp G f k) k k j * x j), Int.mul_assoc]
   have h3 := MM.mul hk0 (MM.rfl (a := G i k))
   rw [Int.zero_mul] at h3
   have h4 := MM.add (h2.symm.trans h1) h3
   rw [Int.sub_add_cancel] at h4
   exact h4
theorem gj_red {S : Nat → Nat → Int} {n : Nat} (hS : numM S) (hI : Inj S n) : ∀ k, k ≤ n → RedP S n k (gj n (wdM S n) k).1 ∧ (gj n (wdM S n) k).2.1 = k
 | 0, _ => ⟨RedP.start hS, rfl⟩
 | k + 1, h => by
  obtain ⟨h1, h2⟩ := gj_red hS hI k (by omega)
  have hp := h1.piv hI (by omega)
  obtain ⟨f1, f2, f3, f4⟩ := fdf_spec (gj n (wdM S n) k).1 (k := k) (n := n) (d := k) (by omega)
  have hs := h1.step (by omega) f1 hp (f4 hp)
  have e : gj n (wdM S n) (k + 1) = gst n k (gj n (wdM S n) k) := rfl
  rw [e]
  unfold gst
  rw [h2, if_neg (by omega)]
  exact ⟨hs, rfl⟩
theorem gj_stay {n : Nat} {M : Nat → Nat → Int} (h : (gj n M n).2.1 = n) : ∀ k, (gj n M (n + k)).1 = (gj n M n).1 ∧ (gj n M (n + k)).2.1 = n
 | 0 => ⟨rfl, h⟩
 | k + 1 => by
  obtain ⟨h1, h2⟩ := gj_stay h k
  have e : gj n M (n + (k + 1)) = gst n (n + k) (gj n M (n + k)) := rfl
  rw [e]
  unfold gst
  rw [h2]
  have : fdf (gj n M (n + k)).1 (n + k) n n = n := by unfold fdf; rw [Nat.sub_self]; rfl
  rw [if_pos this]
  exact ⟨h1, rfl⟩
theorem ivt_of {S : Nat → Nat → Int} {n : Nat} (hS : numM S) (hI : Inj S n) : Ivt S n ∧ numM (ivM S n) ∧ ∀ i, i < n → ∀ j, j < n → MM (sm (fun l => ivM S n i l * S l j) n) (if j = i then 1 else 0) := by
 obtain ⟨h1, h2⟩ := gj_red hS hI n (Nat.le_refl _)
 obtain ⟨h3, h4⟩ := gj_stay h2 n
 refine ⟨⟨h4, fun i hi => by rw [h3, h1.col i hi i hi, if_pos rfl]⟩, fun i j => ?_, fun i hi j hj => ?_⟩
 ·unfold ivM; rw [h3]; exact h1.num _ _
 ·have := h1.rel i hi j hj
  rw [h1.col i hi j hj] at this
  refine MM.symm (this.trans (MM.of_eq (sm_congr fun l _ => ?_)))
  unfold ivM; rw [h3]
end Go.Proofs.YtkimbjcaoolfpaaGreatDoor
