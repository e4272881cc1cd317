/- Texts joined: Q5 Q6 Q7 Q8 Q9 QA. -/
import Derived.Test.YtmchdjiigfiabaaGreatOa
set_option linter.all false
/- Orders of a group, drawn. -/
namespace Go.Proofs.YtmchdjiigfiabaaGreat
open Go.RowKit
set_option maxRecDepth 1000000
theorem pfx_app {O : List Int} {x : Int} : ∀ {i : Nat}, i ≤ O.length → pfx (O ++ [x]) i = pfx O i
 | 0, _ => rfl
 | i + 1, h => by
  simp only [pfx]
  rw [pfx_app (by omega)]
  congr 1
  unfold atI
  rw [List.getD_eq_getElem?_getD, List.getD_eq_getElem?_getD, List.getElem?_append_left (by omega)]
theorem atI_app {O : List Int} {x : Int} (i : Nat) : atI (O ++ [x]) i = if i < O.length then atI O i else if i = O.length then x else 0 := by
 unfold atI
 simp only [List.getD_eq_getElem?_getD]
 split
 ·rename_i h; rw [List.getElem?_append_left h]
 ·rename_i h
  rw [List.getElem?_append_right (by omega)]
  split
  ·rename_i h2; subst h2; simp
  ·rename_i h2
   rw [List.getElem?_eq_none (by simp; omega)]; rfl
theorem pfx_snoc {O : List Int} {x : Int} : pfx (O ++ [x]) (O ++ [x]).length = pfx O O.length * x := by
 rw [List.length_append, List.length_singleton]
 simp only [pfx]
 rw [pfx_app (Nat.le_refl _), atI_app, if_neg (by omega), if_pos rfl]
theorem OrdP.snoc {O : List Int} {x : Int} (h : OrdP O) (hx : 1 ≤ x) : OrdP (O ++ [x]) := by
 refine ⟨by simp, fun i hi => ?_⟩
 rw [atI_app]
 rw [List.length_append, List.length_singleton] at hi
 split
 ·rename_i h2; exact h.2 i h2
 ·rw [if_pos (by omega)]; exact hx
theorem rowL_snoc (O : List Int) (x : Int) : AV.row (List.take O.length (O.map i64) ++ [i64 x]) = rowL (O ++ [x]) := by
 rw [List.take_of_length_le (by simp)]; simp [rowL]
def WOr : List Nat := [8288, 8256, 24608]
def ROr (m : Int) (gn : Nat → Nat) (r : AV) (ro' : Ro) (gn' : Nat → Nat) : Prop := ∃ (O : List Int) (u : Nat), r = .ref 8256 u [] 0 O.length ∧ gn 8256 < u ∧ u ≤ gn' 8256 ∧ ro' 8256 u = some (rowL O) ∧ OrdP O ∧ pfx O O.length ≤ m ∧ O.length ≤ 4
section
variable {a : AV} {bs : List Int} {g : Nat} {ro : Ro} {gn : Nat → Nat} {m : Int}
set_option maxHeartbeats 1000000 in
theorem sOrders (hc : Cod a bs) (hs : Src a bs (ro 8288 g)) (hm : 1 ≤ m ∧ m ≤ 64) : InS Tryz.prog 34 [.ptr 8288 g [] 0, i64 m] ro gn
  (fun r ro' gn' => Frm WOr g ro gn ro' gn' ∧ Src a bs (ro' 8288 g) ∧ ROr m gn r ro' gn') := by
 have m1 : 8288 ∈ WOr := by simp [WOr]
 have m2 : 8256 ∈ WOr := by simp [WOr]
 have m3 : 24608 ∈ WOr := by simp [WOr]
 have hs' := hs
 refine in_ofS (fn := Tryz.f34) (code := bodyOf Tryz.f34) Tryz.func34 rfl (by kernel_rfl) ?_
 intro sl hs
 have s0 : sl 0 = .ptr 8288 g [] 0 := hs 0
 have s1 : sl 1 = i64 m := hs 1
 dsimp only [Tryz.f34, bodyOf, Option.getD]
 refine Yac ?_
 refine CLL_inS rfl (sNext hc hs' (n := m) (by omega)) ?_
 rintro _ _ _ ⟨v, rfl, -, hv, rfl, w, rfl, hw⟩
 obtain ⟨v0, v1⟩ := hv (by omega)
 have F0 := ((Frm.refl WOr g ro gn).src w m1).al 8256 _ (rowL [1 + v]) m2 rfl
 simp (maxSteps := 10000000) (disch := first | assumption | omega) only [go_sem, ↓reduceIte, Nat.reduceEqDiff, reduceCtorEq, Nat.reduceAdd, Nat.reduceMul, Nat.reduceLeDiff, zc, Int.reduceToNat, s0, s1, kIdx_ref0]
 refine WK_loopM (fun n st => ∃ O : List Int, O.length + n = 4 ∧ st.sl 0 = .ptr 8288 g [] 0 ∧ st.sl 1 = i64 m ∧ st.sl 5 = .ref 8256 (st.gn 8256) [] 0 O.length ∧ st.sl 6 = i64 (pfx O O.length) ∧ st.ro 8256 (st.gn 8256) = some (rowL O) ∧ OrdP O ∧ pfx O O.length ≤ m ∧ Frm WOr g ro gn st.ro st.gn ∧ Src a bs (st.ro 8288 g) ∧ gn 8256 < st.gn 8256) 3 ?_ ?_
 ·refine ⟨[1 + v], rfl, ?_⟩
  simp only [↓za, ↓reduceIte, Nat.reduceEqDiff, zb, reduceCtorEq, s0, s1, List.length_cons, List.length_nil]
  refine ⟨?_, rfl, ⟨by simp, fun i hi => ?_⟩, ?_, F0, hw, by omega⟩
  ·simp [pfx, atI]
  ·have : i = 0 := by simpa using hi
   subst this
   show (1 : Int) ≤ 1 + v
   omega
  ·simp only [pfx, atI, List.getD_cons_zero]; omega
 ·rintro n sl ro1 gn1 ⟨O, hl, s0, s1, s5, s6, r1, hO, hp, hF, hS, hu⟩
  dsimp only at s0 s1 s5 s6 r1 hF hS hu
  have hpos := pfx_pos1 hO.2
  simp (maxSteps := 10000000) (disch := first | assumption | omega) only [go_sem, ↓reduceIte, Nat.reduceEqDiff, reduceCtorEq, Nat.reduceAdd, Nat.reduceMul, Nat.reduceLeDiff, zc, s0, s1, s5, s6, r1]
  refine CLL_inS rfl (sNext hc hS (n := 2) (by omega)) ?_
  rintro _ _ _ ⟨x, rfl, -, hx, rfl, w1, rfl, hw1⟩
  have hF1 := hF.src w1 m1
  have hO4 : O.length ≤ 4 := by omega
  have fin : Frm WOr g ro gn (upr ro1 8288 g w1) gn1 ∧ Src a bs ((upr ro1 8288 g w1) 8288 g) ∧ ROr m gn (.ref 8256 (gn1 8256) [] 0 O.length) (upr ro1 8288 g w1) gn1 := by
   refine ⟨hF1, by rw [upr_same]; exact hw1, O, _, rfl, hu, Nat.le_refl _, by rw [zdb, if_neg (by omega)]; exact r1, hO, hp, hO4⟩
  by_cases hx0 : x = 0
  ·by_cases h4 : (O.length : Int) < 4
   ·by_cases h2 : 2 * pfx O O.length ≤ m
    ·have hdv : (2 : Int) ≤ m / pfx O O.length := (Int.le_ediv_iff_mul_le (by omega)).2 h2
     have hdm : m / pfx O O.length ≤ m := Int.ediv_le_self _ (by omega)
     have etd : m.tdiv (pfx O O.length) = m / pfx O O.length := Int.tdiv_eq_ediv_of_nonneg (by omega)
     have hmul : pfx O O.length * (m / pfx O O.length) ≤ m := Int.mul_ediv_self_le (by omega)
     have hnz : ¬ pfx O O.length = 0 := by omega
     simp (maxSteps := 10000000) (disch := first | assumption | omega) only [go_sem, ↓reduceIte, Nat.reduceEqDiff, reduceCtorEq, Nat.reduceAdd, Nat.reduceMul, Nat.reduceLeDiff, zc, s0, s1, s5, s6, r1, eq_true hx0, eq_true h4, eq_true h2, etd, hnz]
     refine CLL_inS rfl (sNext hc (by simp only [upr_same]; exact hw1) (n := m / pfx O O.length - 1) (by omega)) ?_
     rintro _ _ _ ⟨y, rfl, -, hy, rfl, w2, rfl, hw2⟩
     obtain ⟨y0, y1⟩ := hy (by omega)
     have b1 : 0 ≤ pfx O O.length * (2 + y) := Int.mul_nonneg (by omega) (by omega)
     have b2 : pfx O O.length * (2 + y) ≤ pfx O O.length * (m / pfx O O.length) := Int.mul_le_mul_of_nonneg_left (by omega) (by omega)
     have hl5 : O.length + 1 ≤ 4294967296 := by omega
     simp (maxSteps := 10000000) (disch := first | assumption | omega) only [go_sem, ↓reduceIte, Nat.reduceEqDiff, reduceCtorEq, Nat.reduceAdd, Nat.reduceMul, Nat.reduceLeDiff, zc, s0, s1, s5, s6, r1, hl5]
     refine ⟨n - 1, by omega, O ++ [2 + y], by simp; omega, by simp, by rw [pfx_snoc], by rw [← rowL_snoc], hO.snoc (by omega), by rw [pfx_snoc]; omega, ?_, hw2⟩
     exact ((((hF1.src w2 m1).al 24608 _ _ m3 rfl).wr 8256 _ _ m2 hu).al 8256 _ _ m2 rfl)
    ·simp (maxSteps := 10000000) (disch := first | assumption | omega) only [go_sem, ↓reduceIte, Nat.reduceEqDiff, reduceCtorEq, Nat.reduceAdd, Nat.reduceMul, Nat.reduceLeDiff, zc, s0, s1, s5, s6, r1, eq_true hx0, eq_true h4, eq_false h2]
     exact RETS_1 _ Ur fin
   ·simp (maxSteps := 10000000) (disch := first | assumption | omega) only [go_sem, ↓reduceIte, Nat.reduceEqDiff, reduceCtorEq, Nat.reduceAdd, Nat.reduceMul, Nat.reduceLeDiff, zc, s0, s1, s5, s6, r1, eq_true hx0, eq_false h4]
    exact RETS_1 _ Ur fin
  ·simp (maxSteps := 10000000) (disch := first | assumption | omega) only [go_sem, ↓reduceIte, Nat.reduceEqDiff, reduceCtorEq, Nat.reduceAdd, Nat.reduceMul, Nat.reduceLeDiff, zc, s0, s1, s5, s6, r1, eq_false hx0]
   exact RETS_1 _ Ur fin
end
end Go.Proofs.YtmchdjiigfiabaaGreat
/- Cocycles and braidings: types; sums of elements, remainders, common divisors, copies (reference). -/
namespace Go.Proofs.YtmchdjiigfiabaaGreat
open Go.RowKit
set_option maxRecDepth 1000000
theorem tiC : ti0 27 = some ⟨3, true, [Value.slice none 0 0, Value.int .i64 0, Value.slice none 0 0], none, [(0, 24), (1, 2), (2, 25)], none, false, false⟩ := by kernel_rfl
theorem tiD : ti0 33 = some ⟨4, true, [Value.slice none 0 0, Value.int .i64 0, Value.slice none 0 0, Value.slice none 0 0], none, [(0, 27), (3, 31)], none, false, false⟩ := by kernel_rfl
attribute [go_sem] tiC tiD
theorem RETS_D {k : Nat} {Po : AV → Ro → (Nat → Nat) → Prop} {sl : Nat → AV} {ro : Ro} {gn : Nat → Nat} {s g : Nat} {o i v c : AV} (h1 : sl k = .ptr s g [] 0) (h2 : ro s g = some (.bx [o, i, v, c])) (hl : zfi s g [] 0 [o, i, v, c] = [o, i, v, c]) (hp : Po (.agg [o, i, v, c]) ro gn) : RETS ti0 [.cell k 33] Po .ret ⟨sl, ro, gn⟩ := by
 refine ⟨.inr rfl, [.agg [o, i, v, c]], ?_, hp⟩
 have e : (⟨sl, ro, gn⟩ : St).ev (.tmp k) = .ptr s g [] 0 := h1
 have : opC ti0 0 ro gn (⟨sl, ro, gn⟩ : St).ev (.load 33 (.tmp k)) = some ⟨.agg [o, i, v, c], none, [], []⟩ := by
  simp only [opC, e, tiD, Ro.cells, h2, blk]
  simp [hl]
 simp only [resL, this]
theorem RETS_C {k : Nat} {Po : AV → Ro → (Nat → Nat) → Prop} {sl : Nat → AV} {ro : Ro} {gn : Nat → Nat} {s g : Nat} {o i v : AV} (h1 : sl k = .ptr s g [] 0) (h2 : ro s g = some (.bx [o, i, v])) (hl : zfi s g [] 0 [o, i, v] = [o, i, v]) (hp : Po (.agg [o, i, v]) ro gn) : RETS ti0 [.cell k 27] Po .ret ⟨sl, ro, gn⟩ := by
 refine ⟨.inr rfl, [.agg [o, i, v]], ?_, hp⟩
 have e : (⟨sl, ro, gn⟩ : St).ev (.tmp k) = .ptr s g [] 0 := h1
 have : opC ti0 0 ro gn (⟨sl, ro, gn⟩ : St).ev (.load 27 (.tmp k)) = some ⟨.agg [o, i, v], none, [], []⟩ := by
  simp only [opC, e, tiC, Ro.cells, h2, blk]
  simp [hl]
 simp only [resL, this]
theorem tmod_rest {n M : Int} (h : 0 < M) : (n.tmod M + M).tmod M = n % M ∧ -M < n.tmod M ∧ n.tmod M < M := by
 have h1 : -M < n.tmod M := by have := Int.lt_tmod_of_pos n h; omega
 have h2 : n.tmod M < M := Int.tmod_lt_of_pos n h
 refine ⟨?_, h1, h2⟩
 rw [Int.tmod_eq_emod_of_nonneg (by omega), Int.add_emod_right, Int.tmod_def, Int.sub_mul_emod_self_left]
theorem pg_z {F : Nat → Nat → Nat → Int} {x y n : Nat} : cubeA (pgF F x y n) n = cubeA (pgF F x (y + 1) 0) n := cube_congr fun i j k _ _ hk => by
 have e : (i < x ∨ (i = x ∧ (j < y ∨ (j = y ∧ k < n)))) ↔ (i < x ∨ (i = x ∧ (j < y + 1 ∨ (j = y + 1 ∧ k < 0)))) := by omega
 simp only [pgF, e]
theorem pg_y {F : Nat → Nat → Nat → Int} {x n : Nat} : cubeA (pgF F x n 0) n = cubeA (pgF F (x + 1) 0 0) n := cube_congr fun i j k _ hj _ => by
 have e : (i < x ∨ (i = x ∧ (j < n ∨ (j = n ∧ k < 0)))) ↔ (i < x + 1 ∨ (i = x + 1 ∧ (j < 0 ∨ (j = 0 ∧ k < 0)))) := by omega
 simp only [pgF, e]
theorem pg_0 {F : Nat → Nat → Nat → Int} {n : Nat} : cubeA (fun _ _ _ => 0) n = cubeA (pgF F 0 0 0) n := cube_congr fun i j k _ _ _ => by simp [pgF]
theorem pg_n {F : Nat → Nat → Nat → Int} {n : Nat} : cubeA (pgF F n 0 0) n = cubeA F n := cube_congr fun i j k hi _ _ => by simp [pgF, hi]
section
variable {O : List Int}
def adN (O : List Int) (x y : Nat) : Nat := (adO O x y).toNat
theorem GrpP.adN (h : GrpP O) (x y : Nat) : adO O (x : Int) (y : Int) = (adN O x y : Int) ∧ (adN O x y : Int) < pfx O O.length := by
 have := h.ad x y
 unfold Proofs.YtmchdjiigfiabaaGreat.adN
 omega
theorem GrpP.z0N (h : GrpP O) {x : Nat} (hx : (x : Int) < pfx O O.length) : Proofs.YtmchdjiigfiabaaGreat.adN O 0 x = x := by
 have := h.z0 (x := x) (by omega) hx
 unfold Proofs.YtmchdjiigfiabaaGreat.adN
 rw [show ((0 : Nat) : Int) = 0 from rfl, this, Int.toNat_natCast]
theorem cL6a (hO : GrpP O) {x y : Int} (hx : 0 ≤ x ∧ x < 4294967296) (hy : 0 ≤ y ∧ y < 4294967296) : CallOK Tryz.prog 84 [immL O, i64 x, i64 y] (i64 (adO O x y)) := by
 have ho := isL_imm O
 have hl1 := hO.l1
 have hl4 := hO.l4
 rw [← adT_sum]
 refine call_of (fn := Tryz.f84) (code := bodyOf Tryz.f84) Tryz.func84 rfl (by kernel_rfl) (rfl) ?_
 intro sl hs
 have s0 : sl 0 = immL O := hs 0
 have s1 : sl 1 = i64 x := hs 1
 have s2 : sl 2 = i64 y := hs 2
 dsimp only [Tryz.f84, bodyOf, Option.getD]
 refine Yae ?_
 refine WK_for (fun k st => st.sl 0 = immL O ∧ st.sl 1 = i64 (adT x y ((dwn O.length k).map (atI O))).2.2.1 ∧ st.sl 2 = i64 (adT x y ((dwn O.length k).map (atI O))).2.2.2 ∧ st.sl 7 = i64 (adT x y ((dwn O.length k).map (atI O))).1 ∧ st.sl 8 = i64 (adT x y ((dwn O.length k).map (atI O))).2.1 ∧ st.sl 9 = i64 ((O.length : Int) - 1 - (k : Int))) O.length ?_ ?_ ?_
 ·refine Ybv ?_
  refine ⟨rfl, rfl, rfl, rfl, i64c (by omega)⟩
 ·rintro k sl ro gn hk ⟨s0, s1, s2, s7, s8, s9⟩
  dsimp only at s0 s1 s2 s7 s8 s9
  have hk' : (k : Int) < (O.length : Nat) := by omega
  have hidx : ((O.length : Int) - 1 - (k : Int)) = ((O.length - 1 - k : Nat) : Int) := by omega
  have hge : (0 : Int) ≤ ((O.length - 1 - k : Nat) : Int) := by omega
  have hkk : O.length - 1 - k < O.length := by omega
  have hok := adT_ok hx hy _ ((dwn O.length k).map (atI O)) rfl fun m hm => by
   obtain ⟨z, hz, rfl⟩ := List.mem_map.1 hm
   exact hO.rg _ (dwn_lt hz hl1)
  rw [List.length_map, dwn_length] at hok
  have h16 := pow6 (i := k) (by omega)
  have hst : adT x y ((dwn O.length (k + 1)).map (atI O)) = adR (adT x y ((dwn O.length k).map (atI O))) (atI O (O.length - 1 - k)) := by rw [dwn_succ, List.map_append, List.map_singleton, adT_snoc]
  rw [hst]
  simp only [adR]
  obtain ⟨m1, m2⟩ := hO.rg _ hkk
  generalize adT x y ((dwn O.length k).map (atI O)) = t at s1 s2 s7 s8 hok ⊢
  generalize hm : atI O (O.length - 1 - k) = m at m1 m2 ⊢
  obtain ⟨s, p, u, v⟩ := t
  dsimp only at s1 s2 s7 s8 hok ⊢
  obtain ⟨q1, q2, q3, q4, q5, q6, q7⟩ := hok
  have hmz : ¬ m = 0 := by omega
  have eu : u.tmod m = u % m := Int.tmod_eq_emod_of_nonneg q4
  have ev : v.tmod m = v % m := Int.tmod_eq_emod_of_nonneg q6
  have du : u.tdiv m = u / m := Int.tdiv_eq_ediv_of_nonneg q4
  have dv : v.tdiv m = v / m := Int.tdiv_eq_ediv_of_nonneg q6
  have c1 : 0 ≤ u % m := Int.emod_nonneg _ (by omega)
  have c2 : u % m < m := Int.emod_lt_of_pos _ (by omega)
  have c3 : 0 ≤ v % m := Int.emod_nonneg _ (by omega)
  have c4 : v % m < m := Int.emod_lt_of_pos _ (by omega)
  have ed : (u % m + v % m).tmod m = (u % m + v % m) % m := Int.tmod_eq_emod_of_nonneg (by omega)
  have c5 : 0 ≤ (u % m + v % m) % m := Int.emod_nonneg _ (by omega)
  have c6 : (u % m + v % m) % m < m := Int.emod_lt_of_pos _ (by omega)
  have c7 : 0 ≤ (u % m + v % m) % m * p := Int.mul_nonneg c5 (by omega)
  have c8 : (u % m + v % m) % m * p ≤ 16 * 1048576 := Int.mul_le_mul (by omega) (by omega) (by omega) (by omega)
  have c9 : 0 ≤ p * m := Int.mul_nonneg (by omega) (by omega)
  have c10 : p * m ≤ 1048576 * 16 := Int.mul_le_mul (by omega) m2 (by omega) (by omega)
  have c11 : 0 ≤ u / m := Int.ediv_nonneg q4 (by omega)
  have c12 : u / m ≤ u := Int.ediv_le_self _ q4
  have c13 : 0 ≤ v / m := Int.ediv_nonneg q6 (by omega)
  have c14 : v / m ≤ v := Int.ediv_le_self _ q6
  simp (maxSteps := 10000000) (disch := first | assumption | omega) only [go_sem, ↓reduceIte, Nat.reduceEqDiff, reduceCtorEq, Nat.reduceAdd, Nat.reduceMul, Nat.reduceLeDiff, zc, Int.reduceToNat, s0, s1, s2, s7, s8, s9, hk', hk, hidx, hge, hm, eu, ev, ed, du, dv]
  refine FIN_of (by kernel_rfl) ?_
  simp (maxSteps := 10000000) (disch := first | assumption | omega) only [go_sem, ↓reduceIte, Nat.reduceEqDiff, reduceCtorEq, Nat.reduceAdd, Nat.reduceMul, Nat.reduceLeDiff, zc, Int.reduceToNat, s0, s1, s2, s7, s8, s9, hk', hk, hidx, hge, hm, eu, ev, ed, du, dv]
  exact i64c (by omega)
 ·rintro sl ro gn ⟨s0, s1, s2, s7, s8, s9⟩
  dsimp only at s0 s1 s2 s7 s8 s9
  have hk' : ¬ ((O.length : Nat) : Int) < (O.length : Nat) := by omega
  have hlt : ¬ (0 : Int) ≤ (O.length : Int) - 1 - (O.length : Int) := by omega
  simp (maxSteps := 10000000) (disch := first | assumption | omega) only [go_sem, ↓reduceIte, Nat.reduceEqDiff, reduceCtorEq, Nat.reduceAdd, Nat.reduceMul, Nat.reduceLeDiff, zc, Int.reduceToNat, s0, s1, s2, s7, s8, s9, hk', eq_false hlt]
  refine Yab ?_
  rfl
end
theorem cL18m {n m : Int} (hn : -4294967296 < n ∧ n < 4294967296) (hm : 1 ≤ m ∧ m ≤ 65536) : CallOK Tryz.prog 86 [i64 n, i64 m] (i64 (n % m)) := by
 obtain ⟨e1, e2, e3⟩ := tmod_rest (n := n) (M := m) (by omega)
 have hM0 : ¬ m = 0 := by omega
 refine call_of (fn := Tryz.f86) (code := bodyOf Tryz.f86) Tryz.func86 rfl (by kernel_rfl) (rfl) ?_
 intro sl hs
 have s0 : sl 0 = i64 n := hs 0
 have s1 : sl 1 = i64 m := hs 1
 dsimp only [Tryz.f86, bodyOf, Option.getD]
 simp (maxSteps := 10000000) (disch := first | assumption | omega) only [go_sem, ↓reduceIte, Nat.reduceEqDiff, reduceCtorEq, Nat.reduceAdd, Nat.reduceMul, Nat.reduceLeDiff, zc, Int.reduceToNat, s0, s1, e1]
 exact Yad
theorem cGcd {x y : Nat} (hx : x < 4294967296) (hy : y < 4294967296) : CallOK Tryz.prog 38 [i64 (x : Int), i64 (y : Int)] (i64 (Nat.gcd x y : Nat)) := by
 refine call_of (fn := Tryz.f38) (code := bodyOf Tryz.f38) Tryz.func38 rfl (by kernel_rfl) (rfl) ?_
 intro sl hs
 have s0 : sl 0 = i64 (x : Int) := hs 0
 have s1 : sl 1 = i64 (y : Int) := hs 1
 dsimp only [Tryz.f38, bodyOf, Option.getD]
 refine Yac ?_
 refine WK_loopM (fun n st => ∃ u v : Nat, v = n ∧ u < 4294967296 ∧ v < 4294967296 ∧ Nat.gcd u v = Nat.gcd x y ∧ st.sl 0 = i64 (u : Int) ∧ st.sl 1 = i64 (v : Int)) y ?_ ?_
 ·simp only [↓za, ↓reduceIte, Nat.reduceEqDiff, zb, reduceCtorEq, s0, s1]
  exact ⟨x, y, rfl, hx, hy, rfl, rfl, rfl⟩
 ·rintro n sl ro gn ⟨u, v, rfl, hu, hv, hg, s0, s1⟩
  dsimp only at s0 s1
  by_cases hv0 : (0 : Int) < (v : Int)
  ·have hnz : ¬ (v : Int) = 0 := by omega
   have et : Int.tmod (u : Int) (v : Int) = ((u % v : Nat) : Int) := by rw [Int.tmod_eq_emod_of_nonneg (Int.natCast_nonneg _)]; rfl
   have hlt : u % v < v := Nat.mod_lt _ (by omega)
   simp (maxSteps := 10000000) (disch := first | assumption | omega) only [go_sem, ↓reduceIte, Nat.reduceEqDiff, reduceCtorEq, Nat.reduceAdd, Nat.reduceMul, Nat.reduceLeDiff, zc, s0, s1, eq_true hv0, hnz, et]
   refine ⟨u % v, hlt, v, u % v, rfl, hv, by omega, ?_, rfl, i64c rfl⟩
   rw [← hg, Nat.gcd_comm u v, Nat.gcd_rec v u, Nat.gcd_comm]
  ·have : v = 0 := by omega
   subst this
   rw [Nat.gcd_zero_right] at hg
   simp (maxSteps := 10000000) (disch := first | assumption | omega) only [go_sem, ↓reduceIte, Nat.reduceEqDiff, reduceCtorEq, Nat.reduceAdd, Nat.reduceMul, Nat.reduceLeDiff, zc, s0, s1, eq_false hv0]
   simp only [zr, zb, retR, resL, outT, outL, zes, zez, oneV, zcp, zed, zfi, Ro.dl, St.ev, zhk, ↓za, ↓reduceIte, Nat.reduceEqDiff, Nat.reduceAdd, Nat.reduceLeDiff, s0]
   rw [hg]
theorem cOwn1 {xs : List Int} (hx : xs.length ≤ maxN) : CallOK Tryz.prog 55 [immL xs] (rowL xs) := by
 have hx' : 0 + xs.length ≤ 4294967296 := by have : xs.length ≤ 4294967296 := hx; omega
 have hall : (xs.map i64).all zez = true := List.all_eq_true.2 fun x hx => by obtain ⟨y, -, rfl⟩ := List.mem_map.1 hx; rfl
 refine call_of (fn := Tryz.f55) (code := bodyOf Tryz.f55) Tryz.func55 rfl (by kernel_rfl) (noRef_rowL _) ?_
 intro sl hs
 have s0 : sl 0 = immL xs := hs 0
 dsimp only [Tryz.f55, bodyOf, Option.getD]
 simp (maxSteps := 10000000) (disch := first | assumption | omega) only [go_sem, ↓reduceIte, Nat.reduceEqDiff, reduceCtorEq, Nat.reduceAdd, Nat.reduceMul, Nat.reduceLeDiff, zc, Int.reduceToNat, s0, hall, List.length_map, hx']
 exact Yad
theorem cOwn0 : CallOK Tryz.prog 55 [nilA] (rowL []) := by
 have hnil : isNilV (Value.slice none 0 0) = true := rfl
 refine call_of (fn := Tryz.f55) (code := bodyOf Tryz.f55) Tryz.func55 rfl (by kernel_rfl) (noRef_rowL _) ?_
 intro sl hs
 have s0 : sl 0 = nilA := hs 0
 dsimp only [Tryz.f55, bodyOf, Option.getD]
 simp (maxSteps := 10000000) (disch := first | assumption | omega) only [go_sem, ↓reduceIte, Nat.reduceEqDiff, reduceCtorEq, Nat.reduceAdd, Nat.reduceMul, Nat.reduceLeDiff, zc, Int.reduceToNat, s0, hnil]
 refine Yab ?_
 rfl
theorem cOwn {a : AV} {xs : List Int} (ha : isL a xs) (hx : xs.length ≤ maxN) : CallOK Tryz.prog 55 [a] (rowL xs) := by
 rcases ha with rfl | ⟨rfl, rfl⟩
 ·exact cOwn1 hx
 ·exact cOwn0
theorem cOwn2 {a : AV} {S : List (List Int)} (ha : isLL a S) (hS : S.length ≤ maxN) (hR : ∀ i, i < S.length → (row S i).length ≤ maxN) : CallOK Tryz.prog 58 [a] (.row (rws (fun x => rowL (row S x)) S.length)) := by
 have hS' : S.length ≤ 4294967296 := hS
 refine call_of (fn := Tryz.f58) (code := bodyOf Tryz.f58) Tryz.func58 rfl (by kernel_rfl) (noRef_row _ (noRefL_rws _ _ fun _ => noRef_rowL _)) ?_
 intro sl hs
 have s0 : sl 0 = a := hs 0
 dsimp only [Tryz.f58, bodyOf, Option.getD]
 refine Yaa ?_
 refine WK_for (fun i st => st.sl 0 = a ∧ st.sl 3 = .ref 8192 (st.gn 8192) [] 0 i ∧ st.ro 8192 (st.gn 8192) = some (.row (rws (fun x => rowL (row S x)) i)) ∧ st.sl 4 = i64 (i : Int)) S.length ?_ ?_ ?_
 ·refine Yaz ?_
  exact rfl
 ·rintro i sl ro gn hi ⟨s0, s3, r8192, s4⟩
  dsimp only at s0 s3 r8192 s4
  have hi' : (i : Int) < (S.length : Nat) := by omega
  have hi2 : i + 1 ≤ 4294967296 := by omega
  have hr := isLL_row ha hi
  simp (maxSteps := 10000000) (disch := first | assumption | omega) only [go_sem, ↓reduceIte, Nat.reduceEqDiff, reduceCtorEq, Nat.reduceAdd, Nat.reduceMul, Nat.reduceLeDiff, zc, Int.reduceToNat, s0, s3, r8192, s4, hi', hi]
  refine CLL_pure _ (cOwn hr (hR i hi)) PUt rfl rfl ?_
  refine Ybq ?_
  exact i64c (by omega)
 ·rintro sl ro gn ⟨s0, s3, r8192, s4⟩
  dsimp only at s0 s3 r8192 s4
  have hi' : ¬ ((S.length : Nat) : Int) < (S.length : Nat) := by omega
  refine Ycj ?_
  exact Ybx
theorem cOwn3 {a : AV} {T : List (List (List Int))} (ha : isLLL a T) (hT : T.length ≤ maxN) (hT2 : ∀ i, i < T.length → (mat T i).length ≤ maxN ∧ ∀ j, j < (mat T i).length → (row (mat T i) j).length ≤ maxN) : CallOK Tryz.prog 105 [a] (.row (rws (fun x => .row (rws (fun y => rowL (row (mat T x) y)) (mat T x).length)) T.length)) := by
 have hS' : T.length ≤ 4294967296 := hT
 refine call_of (fn := Tryz.f105) (code := bodyOf Tryz.f105) Tryz.func105 rfl (by kernel_rfl) (noRef_row _ (noRefL_rws _ _ fun _ => noRef_row _ (noRefL_rws _ _ fun _ => noRef_rowL _))) ?_
 intro sl hs
 have s0 : sl 0 = a := hs 0
 dsimp only [Tryz.f105, bodyOf, Option.getD]
 refine Yaa ?_
 refine WK_for (fun i st => st.sl 0 = a ∧ st.sl 3 = .ref 8192 (st.gn 8192) [] 0 i ∧ st.ro 8192 (st.gn 8192) = some (.row (rws (fun x => .row (rws (fun y => rowL (row (mat T x) y)) (mat T x).length)) i)) ∧ st.sl 4 = i64 (i : Int)) T.length ?_ ?_ ?_
 ·refine Yaz ?_
  exact rfl
 ·rintro i sl ro gn hi ⟨s0, s3, r8192, s4⟩
  dsimp only at s0 s3 r8192 s4
  have hi' : (i : Int) < (T.length : Nat) := by omega
  have hi2 : i + 1 ≤ 4294967296 := by omega
  have hr := isLLL_mat ha hi
  simp (maxSteps := 10000000) (disch := first | assumption | omega) only [go_sem, ↓reduceIte, Nat.reduceEqDiff, reduceCtorEq, Nat.reduceAdd, Nat.reduceMul, Nat.reduceLeDiff, zc, Int.reduceToNat, s0, s3, r8192, s4, hi', hi]
  refine CLL_pure _ (cOwn2 hr (hT2 i hi).1 (hT2 i hi).2) PUt rfl rfl ?_
  refine Ybq ?_
  exact i64c (by omega)
 ·rintro sl ro gn ⟨s0, s3, r8192, s4⟩
  dsimp only at s0 s3 r8192 s4
  have hi' : ¬ ((T.length : Nat) : Int) < (T.length : Nat) := by omega
  refine Ycj ?_
  exact Ybx
end Go.Proofs.YtmchdjiigfiabaaGreat
/- Coboundaries and cyclic cocycles (reference). -/
namespace Go.Proofs.YtmchdjiigfiabaaGreat
open Go.RowKit
set_option maxRecDepth 1000000
def cobF (O : List Int) (m : Int) (F : List (List Int)) (x y z : Nat) : Int := (atI (row F y) z - atI (row F (adN O x y)) z + atI (row F x) (adN O y z) - atI (row F x) y) % m
structure Sq (n : Nat) (m : Int) (F : List (List Int)) : Prop where
 l : F.length = n
 r : ∀ i, i < n → (row F i).length = n
 b : ∀ i, i < n → ∀ j, j < n → 0 ≤ atI (row F i) j ∧ atI (row F i) j < m
section
variable {O : List Int} {m : Int} {f : AV} {F : List (List Int)}
theorem noRef_cc (O : List Int) (m : Int) (F : Nat → Nat → Nat → Int) (n : Nat) : noRef (.agg [rowL O, i64 m, cubeA F n]) = true := by
 show (noRef (rowL O) && (true && (noRef (cubeA F n) && true))) = true
 rw [noRef_rowL, noRef_cube]; rfl
set_option maxHeartbeats 4000000 in
theorem cCobL {n : Nat} (hO : GrpP O) (hn : (n : Int) = pfx O O.length) (hf : isLL f F) (hq : Sq n m F) (hm : 1 ≤ m ∧ m ≤ 1000) : CallOK Tryz.prog 70 [immL O, i64 m, f] (.agg [rowL O, i64 m, cubeA (cobF O m F) n]) := by
 have hpo : pureA (immL O) = true := isL_pure (isL_imm O)
 have hl := hq.l
 have h16 := hO.sz
 have hl4 := hO.l4
 have hn16 : n ≤ 16 := by omega
 have hmx : n ≤ maxN := Nat.le_trans hn16 (by decide)
 have hm0 : ¬ m = 0 := by omega
 have hox : O.length ≤ maxN := Nat.le_trans hl4 (by decide)
 refine call_of (fn := Tryz.f70) (code := bodyOf Tryz.f70) Tryz.func70 rfl (by kernel_rfl) (noRef_cc _ _ _ _) ?_
 intro sl hs
 have s0 : sl 0 = immL O := hs 0
 have s1 : sl 1 = i64 m := hs 1
 have s2 : sl 2 = f := hs 2
 dsimp only [Tryz.f70, bodyOf, Option.getD]
 refine Yco ?_
 refine CLL_pure _ (cOwn1 hox) PUt rfl rfl ?_
 refine Yco ?_
 refine CLL_pure _ (c101 hmx) rfl rfl rfl ?_
 refine Yco ?_
 refine WK_for (fun x st => st.sl 0 = immL O ∧ st.sl 1 = i64 m ∧ st.sl 2 = f ∧ st.sl 6 = .ptr 4096 1 [] 0 ∧ st.ro 4096 1 = some (.bx [nilA, i64 0, nilA]) ∧ st.sl 7 = i64 (n : Int) ∧ st.sl 8 = .ptr 12384 1 [] 0 ∧ st.ro 12384 1 = some (.bx [.ref 12304 1 [] 0 O.length, i64 m, .ref 12352 1 [] 0 n]) ∧ st.ro 12304 1 = some (rowL O) ∧ st.ro 12352 1 = some (cubeA (pgF (cobF O m F) x 0 0) n) ∧ st.sl 9 = i64 (x : Int)) n ?_ ?_ ?_
 ·refine Ybv ?_
  exact ⟨congrArg some pg_0, rfl⟩
 ·rintro x sl ro gn hx ⟨s0, s1, s2, s6, r4096, s7, s8, r12384, r12304, r12352, s9⟩
  dsimp only at s0 s1 s2 s6 r4096 s7 s8 r12384 r12304 r12352 s9
  have hx' : (x : Int) < (n : Nat) := by omega
  simp (maxSteps := 10000000) (disch := first | assumption | omega) only [go_sem, ↓reduceIte, Nat.reduceEqDiff, reduceCtorEq, Nat.reduceAdd, Nat.reduceMul, Nat.reduceLeDiff, zc, Int.reduceToNat, s0, s1, s2, s6, r4096, s7, s8, r12384, r12304, r12352, s9, hx', hx]
  refine WK_for (fun y st => st.sl 0 = immL O ∧ st.sl 1 = i64 m ∧ st.sl 2 = f ∧ st.sl 6 = .ptr 4096 1 [] 0 ∧ st.ro 4096 1 = some (.bx [nilA, i64 0, nilA]) ∧ st.sl 7 = i64 (n : Int) ∧ st.sl 8 = .ptr 12384 1 [] 0 ∧ st.ro 12384 1 = some (.bx [.ref 12304 1 [] 0 O.length, i64 m, .ref 12352 1 [] 0 n]) ∧ st.ro 12304 1 = some (rowL O) ∧ st.sl 9 = i64 (x : Int) ∧ st.ro 12352 1 = some (cubeA (pgF (cobF O m F) x y 0) n) ∧ st.sl 10 = i64 (y : Int)) n ?_ ?_ ?_
  ·simp only [↓za, ↓reduceIte, Nat.reduceEqDiff, zb, reduceCtorEq, rws_zero, s0, s1, s2, s6, r4096, s7, s8, r12384, r12304, r12352, s9, hx', hx]
   exact rfl
  ·rintro y sl ro gn hy ⟨s0, s1, s2, s6, r4096, s7, s8, r12384, r12304, s9, r12352, s10⟩
   dsimp only at s0 s1 s2 s6 r4096 s7 s8 r12384 r12304 s9 r12352 s10
   have hy' : (y : Int) < (n : Nat) := by omega
   simp (maxSteps := 10000000) (disch := first | assumption | omega) only [go_sem, ↓reduceIte, Nat.reduceEqDiff, reduceCtorEq, Nat.reduceAdd, Nat.reduceMul, Nat.reduceLeDiff, zc, Int.reduceToNat, s0, s1, s2, s6, r4096, s7, s8, r12384, r12304, s9, r12352, s10, hy', hy]
   refine WK_for (fun z st => st.sl 0 = immL O ∧ st.sl 1 = i64 m ∧ st.sl 2 = f ∧ st.sl 6 = .ptr 4096 1 [] 0 ∧ st.ro 4096 1 = some (.bx [nilA, i64 0, nilA]) ∧ st.sl 7 = i64 (n : Int) ∧ st.sl 8 = .ptr 12384 1 [] 0 ∧ st.ro 12384 1 = some (.bx [.ref 12304 1 [] 0 O.length, i64 m, .ref 12352 1 [] 0 n]) ∧ st.ro 12304 1 = some (rowL O) ∧ st.sl 9 = i64 (x : Int) ∧ st.sl 10 = i64 (y : Int) ∧ st.ro 12352 1 = some (cubeA (pgF (cobF O m F) x y z) n) ∧ st.sl 11 = i64 (z : Int)) n ?_ ?_ ?_
   ·simp only [↓za, ↓reduceIte, Nat.reduceEqDiff, zb, reduceCtorEq, rws_zero, s0, s1, s2, s6, r4096, s7, s8, r12384, r12304, s9, r12352, s10, hy', hy]
    exact rfl
   ·rintro z sl ro gn hz ⟨s0, s1, s2, s6, r4096, s7, s8, r12384, r12304, s9, s10, r12352, s11⟩
    dsimp only at s0 s1 s2 s6 r4096 s7 s8 r12384 r12304 s9 s10 r12352 s11
    have hz' : (z : Int) < (n : Nat) := by omega
    have a1 := hO.adN x y
    have a2 := hO.adN y z
    have n1 : adN O x y < n := by omega
    have n2 : adN O y z < n := by omega
    have c1 := cL6a hO (x := (x : Int)) (y := (y : Int)) (by omega) (by omega)
    have c2 := cL6a hO (x := (y : Int)) (y := (z : Int)) (by omega) (by omega)
    rw [a1.1] at c1
    rw [a2.1] at c2
    have r1 := isLL_row hf (k := y) (by omega)
    have r2 := isLL_row hf (k := adN O x y) (by omega)
    have r3 := isLL_row hf (k := x) (by omega)
    have l1 := hq.r y hy
    have l2 := hq.r _ n1
    have l3 := hq.r x hx
    have b1 := hq.b y hy z hz
    have b2 := hq.b _ n1 z hz
    have b3 := hq.b x hx _ n2
    have b4 := hq.b x hx y hy
    have et : (atI (row F y) z - atI (row F (adN O x y)) z + atI (row F x) (adN O y z) - atI (row F x) y + 2 * m).tmod m = cobF O m F x y z := by
     unfold cobF
     rw [Int.tmod_eq_emod_of_nonneg (by omega), Int.add_mul_emod_self_right]
    refine Ydg ?_
    refine CLLD_pure _ c1 PUt rfl ?_
    refine Ydd ?_
    refine CLLD_pure _ c2 PUt rfl ?_
    refine Ydd ?_
    refine FIN_of (by kernel_rfl) ?_
    simp (maxSteps := 10000000) (disch := first | assumption | omega) only [go_sem, ↓reduceIte, Nat.reduceEqDiff, reduceCtorEq, Nat.reduceAdd, Nat.reduceMul, Nat.reduceLeDiff, zc, Int.reduceToNat, s0, s1, s2, s6, r4096, s7, s8, r12384, r12304, s9, s10, r12352, s11, hz', hz, et, cube_cells r12352 hx hy, cube_bx r12352 hx hy, cube_wr r12352 hx hy hz]
    refine FIN_of (by kernel_rfl) ?_
    refine Ydg ?_
    exact ⟨congrArg some (pg_step _ _ _ _ _), i64c (by omega)⟩
   ·rintro sl ro gn ⟨s0, s1, s2, s6, r4096, s7, s8, r12384, r12304, s9, s10, r12352, s11⟩
    dsimp only at s0 s1 s2 s6 r4096 s7 s8 r12384 r12304 s9 s10 r12352 s11
    have hz' : ¬ ((n : Nat) : Int) < (n : Nat) := by omega
    simp (maxSteps := 10000000) (disch := first | assumption | omega) only [go_sem, ↓reduceIte, Nat.reduceEqDiff, reduceCtorEq, Nat.reduceAdd, Nat.reduceMul, Nat.reduceLeDiff, zc, Int.reduceToNat, s0, s1, s2, s6, r4096, s7, s8, r12384, r12304, s9, s10, r12352, s11, hz']
    exact ⟨congrArg some pg_z, i64c (by omega)⟩
  ·rintro sl ro gn ⟨s0, s1, s2, s6, r4096, s7, s8, r12384, r12304, s9, r12352, s10⟩
   dsimp only at s0 s1 s2 s6 r4096 s7 s8 r12384 r12304 s9 r12352 s10
   have hy' : ¬ ((n : Nat) : Int) < (n : Nat) := by omega
   simp (maxSteps := 10000000) (disch := first | assumption | omega) only [go_sem, ↓reduceIte, Nat.reduceEqDiff, reduceCtorEq, Nat.reduceAdd, Nat.reduceMul, Nat.reduceLeDiff, zc, Int.reduceToNat, s0, s1, s2, s6, r4096, s7, s8, r12384, r12304, s9, r12352, s10, hy']
   exact ⟨congrArg some pg_y, i64c (by omega)⟩
 ·rintro sl ro gn ⟨s0, s1, s2, s6, r4096, s7, s8, r12384, r12304, r12352, s9⟩
  dsimp only at s0 s1 s2 s6 r4096 s7 s8 r12384 r12304 r12352 s9
  have hx' : ¬ ((n : Nat) : Int) < (n : Nat) := by omega
  rw [pg_n] at r12352
  simp (maxSteps := 10000000) (disch := first | assumption | omega) only [go_sem, ↓reduceIte, Nat.reduceEqDiff, reduceCtorEq, Nat.reduceAdd, Nat.reduceMul, Nat.reduceLeDiff, zc, Int.reduceToNat, s0, s1, s2, s6, r4096, s7, s8, r12384, r12304, r12352, s9, hx']
  simp only [zr, zb, retR, resL, outT, outL, zes, zez, oneV, zcp, zed, zfi, Ro.dl, St.ev, zhk, ↓za, ↓reduceIte, Nat.reduceEqDiff, Nat.reduceAdd, Nat.reduceLeDiff, tiC, s6, r12384, r12304, r12352]
end
end Go.Proofs.YtmchdjiigfiabaaGreat
/- Sums and turns of braidings (reference). -/
namespace Go.Proofs.YtmchdjiigfiabaaGreat
open Go.RowKit
set_option maxRecDepth 1000000
theorem impE_aC (b : Nat) (gn : Nat → Nat) (xs ys : List AV) (v : Value) : impE b gn (.agg [.row xs, .sc v, .row ys]) = ⟨.agg [.ref b (gn b + 1) [] 0 xs.length, .sc v, .ref (b + 1) (gn (b + 1) + 1) [] 0 ys.length], none, [], [(b, .row xs), (b + 1, .row ys)]⟩ := nr _
theorem impE_aD (b : Nat) (gn : Nat → Nat) (xs ys zs : List AV) (v : Value) : impE b gn (.agg [.row xs, .sc v, .row ys, .row zs]) = ⟨.agg [.ref b (gn b + 1) [] 0 xs.length, .sc v, .ref (b + 1) (gn (b + 1) + 1) [] 0 ys.length, .ref (b + 1 + 1) (gn (b + 1 + 1) + 1) [] 0 zs.length], none, [], [(b, .row xs), (b + 1, .row ys), (b + 1 + 1, .row zs)]⟩ := nr _
attribute [go_sem] impE_aC impE_aD
def phF (F G : Nat → Nat → Nat → Int) (i j k : Nat) : Nat → Nat → Nat → Int := fun x y z => if x < i ∨ (x = i ∧ (y < j ∨ (y = j ∧ z < k))) then G x y z else F x y z
section
variable {F G : Nat → Nat → Nat → Int} {n : Nat}
theorem ph_step (i j k : Nat) : cubeA (updF (phF F G i j k) i j k (G i j k)) n = cubeA (phF F G i j (k + 1)) n := by
 refine cube_congr fun x y z _ _ _ => ?_
 unfold updF
 by_cases h : x = i ∧ y = j ∧ z = k
 ·obtain ⟨rfl, rfl, rfl⟩ := h
  simp [phF]
 ·rw [if_neg h]
  have e : (x < i ∨ (x = i ∧ (y < j ∨ (y = j ∧ z < k)))) ↔ (x < i ∨ (x = i ∧ (y < j ∨ (y = j ∧ z < k + 1)))) := by omega
  simp only [phF, e]
theorem ph_z {x y : Nat} : cubeA (phF F G x y n) n = cubeA (phF F G x (y + 1) 0) n := cube_congr fun i j k _ _ hk => by
 have e : (i < x ∨ (i = x ∧ (j < y ∨ (j = y ∧ k < n)))) ↔ (i < x ∨ (i = x ∧ (j < y + 1 ∨ (j = y + 1 ∧ k < 0)))) := by omega
 simp only [phF, e]
theorem ph_y {x : Nat} : cubeA (phF F G x n 0) n = cubeA (phF F G (x + 1) 0 0) n := cube_congr fun i j k _ hj _ => by
 have e : (i < x ∨ (i = x ∧ (j < n ∨ (j = n ∧ k < 0)))) ↔ (i < x + 1 ∨ (i = x + 1 ∧ (j < 0 ∨ (j = 0 ∧ k < 0)))) := by omega
 simp only [phF, e]
theorem ph_0 : cubeA F n = cubeA (phF F G 0 0 0) n := cube_congr fun i j k _ _ _ => by simp [phF]
theorem ph_n : cubeA (phF F G n 0 0) n = cubeA G n := cube_congr fun i j k hi _ _ => by simp [phF, hi]
theorem own_cube : AV.row (rws (fun x => .row (rws (fun y => rowL (row (mat (cubeL F n) x) y)) (mat (cubeL F n) x).length)) (cubeL F n).length) = cubeA F n := by
 have hl : (cubeL F n).length = n := zfe _ _
 rw [hl]
 refine congrArg AV.row (rws_congr fun x hx => ?_)
 rw [mat_cube hx, zfe]
 refine congrArg AV.row (rws_congr fun y hy => ?_)
 rw [row_rws _ hy]
 simp only [rowL, rws_map]
theorem cubeL_mx (hn : n ≤ 16) : (cubeL F n).length ≤ maxN ∧ ∀ i, i < (cubeL F n).length → (mat (cubeL F n) i).length ≤ maxN ∧ ∀ j, j < (mat (cubeL F n) i).length → (row (mat (cubeL F n) i) j).length ≤ maxN := by
 have hl : (cubeL F n).length = n := zfe _ _
 have hm : maxN = 4294967296 := rfl
 rw [hl]
 refine ⟨by omega, fun i hi => ?_⟩
 rw [mat_cube hi, zfe]
 refine ⟨by omega, fun j hj => ?_⟩
 rw [row_rws _ hj, zfe]; omega
end
section
variable {O : List Int} {m : Int} {f : AV} {F : List (List Int)} {n : Nat}
def tuF (m : Int) (F : List (List Int)) (x y : Nat) : Int := (atI (row F y) x - atI (row F x) y) % m
theorem cTurn (hf : isLL f F) (hq : Sq n m F) (h16 : n ≤ 16) (hm : 1 ≤ m ∧ m ≤ 1000) : CallOK Tryz.prog 71 [f, i64 m] (matA (tuF m F) n n) := by
 have hl := hq.l
 refine call_of (fn := Tryz.f71) (code := bodyOf Tryz.f71) Tryz.func71 rfl (by kernel_rfl) (noRef_row _ (noRefL_rws _ _ fun _ => noRef_row _ (noRefL_rws _ _ fun _ => rfl))) ?_
 intro sl hs
 have s0 : sl 0 = f := hs 0
 have s1 : sl 1 = i64 m := hs 1
 dsimp only [Tryz.f71, bodyOf, Option.getD]
 refine Yac ?_
 refine WK_for (fun x st => st.sl 0 = f ∧ st.sl 1 = i64 m ∧ st.sl 5 = .ref 8192 (st.gn 8192) [] 0 x ∧ st.ro 8192 (st.gn 8192) = some (.row (rws (fun x => .row (rws (fun y => i64 (tuF m F x y)) n)) x)) ∧ st.sl 6 = i64 (x : Int)) n ?_ ?_ ?_
 ·refine Yan ?_
  exact rfl
 ·rintro x sl ro gn hx ⟨s0, s1, s5, r8192, s6⟩
  dsimp only at s0 s1 s5 r8192 s6
  have hx' : (x : Int) < (n : Nat) := by omega
  have r3 := isLL_row hf (k := x) (by omega)
  have l3 := hq.r x hx
  have hx2 : x + 1 ≤ 4294967296 := by omega
  simp (maxSteps := 10000000) (disch := first | assumption | omega) only [go_sem, ↓reduceIte, Nat.reduceEqDiff, reduceCtorEq, Nat.reduceAdd, Nat.reduceMul, Nat.reduceLeDiff, zc, Int.reduceToNat, s0, s1, s5, r8192, s6, hx', hx, hl]
  refine WK_for (fun y st => st.sl 0 = f ∧ st.sl 1 = i64 m ∧ st.sl 5 = .ref 8192 (st.gn 8192) [] 0 x ∧ st.ro 8192 (st.gn 8192) = some (.row (rws (fun x => .row (rws (fun y => i64 (tuF m F x y)) n)) x)) ∧ st.sl 6 = i64 (x : Int) ∧ st.sl 7 = .ref 24576 (st.gn 24576) [] 0 y ∧ st.ro 24576 (st.gn 24576) = some (.row (rws (fun y => i64 (tuF m F x y)) y)) ∧ st.sl 8 = i64 (y : Int)) n ?_ ?_ ?_
  ·simp only [↓za, ↓reduceIte, Nat.reduceEqDiff, zb, reduceCtorEq, rws_zero, s0, s1, s5, r8192, s6, hx', hx]
   exact rfl
  ·rintro y sl ro gn hy ⟨s0, s1, s5, r8192, s6, s7, r24576, s8⟩
   dsimp only at s0 s1 s5 r8192 s6 s7 r24576 s8
   have hy' : (y : Int) < (n : Nat) := by omega
   have r1 := isLL_row hf (k := y) (by omega)
   have l1 := hq.r y hy
   have b1 := hq.b y hy x hx
   have b2 := hq.b x hx y hy
   have hy2 : y + 1 ≤ 4294967296 := by omega
   have cm := cL18m (n := atI (row F y) x - atI (row F x) y) (m := m) (by omega) (by omega)
   simp (maxSteps := 10000000) (disch := first | assumption | omega) only [go_sem, ↓reduceIte, Nat.reduceEqDiff, reduceCtorEq, Nat.reduceAdd, Nat.reduceMul, Nat.reduceLeDiff, zc, Int.reduceToNat, s0, s1, s5, r8192, s6, s7, r24576, s8, hy', hy, hl]
   refine CLLD_pure _ cm PUt rfl ?_
   simp (maxSteps := 10000000) (disch := first | assumption | omega) only [go_sem, ↓reduceIte, Nat.reduceEqDiff, reduceCtorEq, Nat.reduceAdd, Nat.reduceMul, Nat.reduceLeDiff, zc, Int.reduceToNat, s0, s1, s5, r8192, s6, s7, r24576, s8, hy', hy, hy2]
   refine FIN_of (by kernel_rfl) ?_
   simp (maxSteps := 10000000) (disch := first | assumption | omega) only [go_sem, ↓reduceIte, Nat.reduceEqDiff, reduceCtorEq, Nat.reduceAdd, Nat.reduceMul, Nat.reduceLeDiff, zc, Int.reduceToNat, s0, s1, s5, r8192, s6, s7, r24576, s8, hy', hy]
   exact ⟨congrArg (fun z => some (AV.row z)) (zfm _ _), i64c (by omega)⟩
  ·rintro sl ro gn ⟨s0, s1, s5, r8192, s6, s7, r24576, s8⟩
   dsimp only at s0 s1 s5 r8192 s6 s7 r24576 s8
   have hy' : ¬ ((n : Nat) : Int) < (n : Nat) := by omega
   simp (maxSteps := 10000000) (disch := first | assumption | omega) only [go_sem, ↓reduceIte, Nat.reduceEqDiff, reduceCtorEq, Nat.reduceAdd, Nat.reduceMul, Nat.reduceLeDiff, zc, Int.reduceToNat, s0, s1, s5, r8192, s6, s7, r24576, s8, hy', hl, hx2]
   exact i64c (by omega)
 ·rintro sl ro gn ⟨s0, s1, s5, r8192, s6⟩
  dsimp only at s0 s1 s5 r8192 s6
  have hx' : ¬ ((n : Nat) : Int) < (n : Nat) := by omega
  simp (maxSteps := 10000000) (disch := first | assumption | omega) only [go_sem, ↓reduceIte, Nat.reduceEqDiff, reduceCtorEq, Nat.reduceAdd, Nat.reduceMul, Nat.reduceLeDiff, zc, Int.reduceToNat, s0, s1, s5, r8192, s6, hx', hl]
  exact Ybx
def smF (F F' : Nat → Nat → Nat → Int) (m : Int) (x y z : Nat) : Int := (F x y z + F' x y z) % m
set_option maxHeartbeats 4000000 in
theorem cSum7 {o o' c c' : AV} {F F' : Nat → Nat → Nat → Int} {m' : Int} {O' : List Int} (ho : isL o O) (ho' : isL o' O') (hO : O.length ≤ maxN) (hc : isLLL c (cubeL F n)) (hc' : isLLL c' (cubeL F' n)) (h16 : n ≤ 16) (hm : 1 ≤ m ∧ m ≤ 1000) (hF : ∀ x, x < n → ∀ y, y < n → ∀ z, z < n → 0 ≤ F x y z ∧ F x y z < m) (hF' : ∀ x, x < n → ∀ y, y < n → ∀ z, z < n → 0 ≤ F' x y z ∧ F' x y z < m) :
  CallOK Tryz.prog 93 [.agg [o, i64 m, c], .agg [o', i64 m', c']] (.agg [rowL O, i64 m, cubeA (smF F F' m) n]) := by
 have hcx := cubeL_mx (F := F) h16
 have co := cOwn3 hc hcx.1 hcx.2
 rw [own_cube] at co
 have lX : (cubeL F n).length = n := zfe _ _
 have lX' : (cubeL F' n).length = n := zfe _ _
 have hm0 : ¬ m = 0 := by omega
 refine call_of (fn := Tryz.f93) (code := bodyOf Tryz.f93) Tryz.func93 rfl (by kernel_rfl) (noRef_cc _ _ _ _) ?_
 intro sl hs
 have s0 : sl 0 = .agg [o, i64 m, c] := hs 0
 have s1 : sl 1 = .agg [o', i64 m', c'] := hs 1
 dsimp only [Tryz.f93, bodyOf, Option.getD]
 refine Yac ?_
 refine CLLD_pure _ (cOwn ho hO) PUt rfl ?_
 refine Yac ?_
 refine CLLD_pure _ co PUt rfl ?_
 refine Yac ?_
 refine FIN_of (by kernel_rfl) ?_
 refine Yac ?_
 refine WK_for (fun x st => st.sl 2 = .ptr 4096 1 [] 0 ∧ st.ro 4096 1 = some (.bx [o, i64 m, c]) ∧ st.sl 3 = .ptr 4112 1 [] 0 ∧ st.ro 4112 1 = some (.bx [o', i64 m', c']) ∧ st.sl 4 = .ptr 4128 1 [] 0 ∧ st.ro 4128 1 = some (.bx [nilA, i64 0, nilA]) ∧ st.sl 5 = .ptr 8336 1 [] 0 ∧ st.ro 8336 1 = some (.bx [.ref 8224 1 [] 0 O.length, i64 m, .ref 8304 1 [] 0 n]) ∧ st.ro 8224 1 = some (rowL O) ∧ st.ro 8304 1 = some (cubeA (phF F (smF F F' m) x 0 0) n) ∧ st.sl 6 = i64 (x : Int)) n ?_ ?_ ?_
 ·refine Yan ?_
  exact ⟨congrArg some ph_0, rfl⟩
 ·rintro x sl ro gn hx ⟨s2, r4096, s3, r4112, s4, r4128, s5, r8336, r8224, r8304, s6⟩
  dsimp only at s2 r4096 s3 r4112 s4 r4128 s5 r8336 r8224 r8304 s6
  have hx' : (x : Int) < (n : Nat) := by omega
  have hi := isLLL_mat hc (k := x) (by omega)
  have hi' := isLLL_mat hc' (k := x) (by omega)
  have lm : (mat (cubeL F n) x).length = n := by rw [mat_cube hx, zfe]
  have lm' : (mat (cubeL F' n) x).length = n := by rw [mat_cube hx, zfe]
  simp (maxSteps := 10000000) (disch := first | assumption | omega) only [go_sem, ↓reduceIte, Nat.reduceEqDiff, reduceCtorEq, Nat.reduceAdd, Nat.reduceMul, Nat.reduceLeDiff, zc, Int.reduceToNat, s2, r4096, s3, r4112, s4, r4128, s5, r8336, r8224, r8304, s6, hx', hx]
  refine WK_for (fun y st => st.sl 2 = .ptr 4096 1 [] 0 ∧ st.ro 4096 1 = some (.bx [o, i64 m, c]) ∧ st.sl 3 = .ptr 4112 1 [] 0 ∧ st.ro 4112 1 = some (.bx [o', i64 m', c']) ∧ st.sl 4 = .ptr 4128 1 [] 0 ∧ st.ro 4128 1 = some (.bx [nilA, i64 0, nilA]) ∧ st.sl 5 = .ptr 8336 1 [] 0 ∧ st.ro 8336 1 = some (.bx [.ref 8224 1 [] 0 O.length, i64 m, .ref 8304 1 [] 0 n]) ∧ st.ro 8224 1 = some (rowL O) ∧ st.sl 6 = i64 (x : Int) ∧ st.ro 8304 1 = some (cubeA (phF F (smF F F' m) x y 0) n) ∧ st.sl 7 = i64 (y : Int)) n ?_ ?_ ?_
  ·simp only [↓za, ↓reduceIte, Nat.reduceEqDiff, zb, reduceCtorEq, rws_zero, s2, r4096, s3, r4112, s4, r4128, s5, r8336, r8224, r8304, s6, hx', hx]
   exact rfl
  ·rintro y sl ro gn hy ⟨s2, r4096, s3, r4112, s4, r4128, s5, r8336, r8224, s6, r8304, s7⟩
   dsimp only at s2 r4096 s3 r4112 s4 r4128 s5 r8336 r8224 s6 r8304 s7
   have hy' : (y : Int) < (n : Nat) := by omega
   have hj := isLL_row hi (k := y) (by omega)
   have hj' := isLL_row hi' (k := y) (by omega)
   have lr : (row (mat (cubeL F n) x) y).length = n := by rw [mat_cube hx, row_rws _ hy, zfe]
   have lr' : (row (mat (cubeL F' n) x) y).length = n := by rw [mat_cube hx, row_rws _ hy, zfe]
   simp (maxSteps := 10000000) (disch := first | assumption | omega) only [go_sem, ↓reduceIte, Nat.reduceEqDiff, reduceCtorEq, Nat.reduceAdd, Nat.reduceMul, Nat.reduceLeDiff, zc, Int.reduceToNat, s2, r4096, s3, r4112, s4, r4128, s5, r8336, r8224, s6, r8304, s7, hy', hy]
   refine WK_for (fun z st => st.sl 2 = .ptr 4096 1 [] 0 ∧ st.ro 4096 1 = some (.bx [o, i64 m, c]) ∧ st.sl 3 = .ptr 4112 1 [] 0 ∧ st.ro 4112 1 = some (.bx [o', i64 m', c']) ∧ st.sl 4 = .ptr 4128 1 [] 0 ∧ st.ro 4128 1 = some (.bx [nilA, i64 0, nilA]) ∧ st.sl 5 = .ptr 8336 1 [] 0 ∧ st.ro 8336 1 = some (.bx [.ref 8224 1 [] 0 O.length, i64 m, .ref 8304 1 [] 0 n]) ∧ st.ro 8224 1 = some (rowL O) ∧ st.sl 6 = i64 (x : Int) ∧ st.sl 7 = i64 (y : Int) ∧ st.ro 8304 1 = some (cubeA (phF F (smF F F' m) x y z) n) ∧ st.sl 8 = i64 (z : Int)) n ?_ ?_ ?_
   ·simp only [↓za, ↓reduceIte, Nat.reduceEqDiff, zb, reduceCtorEq, rws_zero, s2, r4096, s3, r4112, s4, r4128, s5, r8336, r8224, s6, r8304, s7, hy', hy]
    exact rfl
   ·rintro z sl ro gn hz ⟨s2, r4096, s3, r4112, s4, r4128, s5, r8336, r8224, s6, s7, r8304, s8⟩
    dsimp only at s2 r4096 s3 r4112 s4 r4128 s5 r8336 r8224 s6 s7 r8304 s8
    have hz' : (z : Int) < (n : Nat) := by omega
    have v1 : atI (row (mat (cubeL F n) x) y) z = F x y z := at3_cube hx hy hz
    have v2 : atI (row (mat (cubeL F' n) x) y) z = F' x y z := at3_cube hx hy hz
    have b1 := hF x hx y hy z hz
    have b2 := hF' x hx y hy z hz
    have et : (F x y z + F' x y z).tmod m = smF F F' m x y z := Int.tmod_eq_emod_of_nonneg (by omega)
    simp (maxSteps := 10000000) (disch := first | assumption | omega) only [go_sem, ↓reduceIte, Nat.reduceEqDiff, reduceCtorEq, Nat.reduceAdd, Nat.reduceMul, Nat.reduceLeDiff, zc, Int.reduceToNat, s2, r4096, s3, r4112, s4, r4128, s5, r8336, r8224, s6, s7, r8304, s8, hz', hz, v1, v2, et, cube_cells r8304 hx hy, cube_bx r8304 hx hy, cube_wr r8304 hx hy hz]
    refine FIN_of (by kernel_rfl) ?_
    simp (maxSteps := 10000000) (disch := first | assumption | omega) only [go_sem, ↓reduceIte, Nat.reduceEqDiff, reduceCtorEq, Nat.reduceAdd, Nat.reduceMul, Nat.reduceLeDiff, zc, Int.reduceToNat, s2, r4096, s3, r4112, s4, r4128, s5, r8336, r8224, s6, s7, r8304, s8, hz', hz]
    exact ⟨congrArg some (ph_step _ _ _), i64c (by omega)⟩
   ·rintro sl ro gn ⟨s2, r4096, s3, r4112, s4, r4128, s5, r8336, r8224, s6, s7, r8304, s8⟩
    dsimp only at s2 r4096 s3 r4112 s4 r4128 s5 r8336 r8224 s6 s7 r8304 s8
    have hz' : ¬ ((n : Nat) : Int) < (n : Nat) := by omega
    simp (maxSteps := 10000000) (disch := first | assumption | omega) only [go_sem, ↓reduceIte, Nat.reduceEqDiff, reduceCtorEq, Nat.reduceAdd, Nat.reduceMul, Nat.reduceLeDiff, zc, Int.reduceToNat, s2, r4096, s3, r4112, s4, r4128, s5, r8336, r8224, s6, s7, r8304, s8, hz']
    exact ⟨congrArg some ph_z, i64c (by omega)⟩
  ·rintro sl ro gn ⟨s2, r4096, s3, r4112, s4, r4128, s5, r8336, r8224, s6, r8304, s7⟩
   dsimp only at s2 r4096 s3 r4112 s4 r4128 s5 r8336 r8224 s6 r8304 s7
   have hy' : ¬ ((n : Nat) : Int) < (n : Nat) := by omega
   simp (maxSteps := 10000000) (disch := first | assumption | omega) only [go_sem, ↓reduceIte, Nat.reduceEqDiff, reduceCtorEq, Nat.reduceAdd, Nat.reduceMul, Nat.reduceLeDiff, zc, Int.reduceToNat, s2, r4096, s3, r4112, s4, r4128, s5, r8336, r8224, s6, r8304, s7, hy']
   exact ⟨congrArg some ph_y, i64c (by omega)⟩
 ·rintro sl ro gn ⟨s2, r4096, s3, r4112, s4, r4128, s5, r8336, r8224, r8304, s6⟩
  dsimp only at s2 r4096 s3 r4112 s4 r4128 s5 r8336 r8224 r8304 s6
  have hx' : ¬ ((n : Nat) : Int) < (n : Nat) := by omega
  rw [ph_n] at r8304
  simp (maxSteps := 10000000) (disch := first | assumption | omega) only [go_sem, ↓reduceIte, Nat.reduceEqDiff, reduceCtorEq, Nat.reduceAdd, Nat.reduceMul, Nat.reduceLeDiff, zc, Int.reduceToNat, s2, r4096, s3, r4112, s4, r4128, s5, r8336, r8224, r8304, s6, hx']
  simp only [zr, zb, retR, resL, outT, outL, zes, zez, oneV, zcp, zed, zfi, Ro.dl, St.ev, zhk, ↓za, ↓reduceIte, Nat.reduceEqDiff, Nat.reduceAdd, Nat.reduceLeDiff, tiC, s4, r8336, r8224, r8304]
end
end Go.Proofs.YtmchdjiigfiabaaGreat
/- Sums of braidings; cyclic cocycles (reference). -/
namespace Go.Proofs.YtmchdjiigfiabaaGreat
open Go.RowKit
set_option maxRecDepth 1000000
theorem noRef_bb (O : List Int) (m : Int) (F : Nat → Nat → Nat → Int) (G : Nat → Nat → Int) (n : Nat) : noRef (.agg [rowL O, i64 m, cubeA F n, matA G n n]) = true := by
 show (noRef (rowL O) && (true && (noRef (cubeA F n) && (noRef (matA G n n) && true)))) = true
 rw [noRef_rowL, noRef_cube, noRef_row _ (noRefL_rws _ _ fun _ => noRef_row _ (noRefL_rws _ _ fun _ => rfl))]; rfl
section
variable {O : List Int} {m : Int} {n : Nat}
def sm2 (G G' : Nat → Nat → Int) (m : Int) (x y : Nat) : Int := (G x y + G' x y) % m
theorem matL_len (G : Nat → Nat → Int) : (matL G n n).length = n := zfe _ _
set_option maxHeartbeats 4000000 in
theorem cSum8 {o o' c c' s s' : AV} {F F' : Nat → Nat → Nat → Int} {G G' : Nat → Nat → Int} {m' : Int} {O' : List Int} (ho : isL o O) (ho' : isL o' O') (hO : O.length ≤ maxN) (hc : isLLL c (cubeL F n)) (hc' : isLLL c' (cubeL F' n)) (hv : isLL s (matL G n n)) (hv' : isLL s' (matL G' n n)) (h0 : 0 < n) (h16 : n ≤ 16) (hm : 1 ≤ m ∧ m ≤ 1000)
  (hF : ∀ x, x < n → ∀ y, y < n → ∀ z, z < n → 0 ≤ F x y z ∧ F x y z < m) (hF' : ∀ x, x < n → ∀ y, y < n → ∀ z, z < n → 0 ≤ F' x y z ∧ F' x y z < m) (hG : ∀ x, x < n → ∀ y, y < n → 0 ≤ G x y ∧ G x y < m) (hG' : ∀ x, x < n → ∀ y, y < n → 0 ≤ G' x y ∧ G' x y < m) :
  CallOK Tryz.prog 69 [.agg [o, i64 m, c, s], .agg [o', i64 m', c', s']] (.agg [rowL O, i64 m, cubeA (smF F F' m) n, matA (sm2 G G' m) n n]) := by
 have lX := matL_len (n := n) G
 have lX' := matL_len (n := n) G'
 have hm0 : ¬ m = 0 := by omega
 refine call_of (fn := Tryz.f69) (code := bodyOf Tryz.f69) Tryz.func69 rfl (by kernel_rfl) (noRef_bb _ _ _ _ _) ?_
 intro sl hs
 have s0 : sl 0 = .agg [o, i64 m, c, s] := hs 0
 have s1 : sl 1 = .agg [o', i64 m', c', s'] := hs 1
 dsimp only [Tryz.f69, bodyOf, Option.getD]
 refine Yac ?_
 refine CLL_pure _ (cSum7 ho ho' hO hc hc' h16 hm hF hF') PUt rfl rfl ?_
 refine Yac ?_
 refine WK_for (fun x st => st.sl 2 = .ptr 4096 1 [] 0 ∧ st.ro 4096 1 = some (.bx [o, i64 m, c, s]) ∧ st.sl 3 = .ptr 4112 1 [] 0 ∧ st.ro 4112 1 = some (.bx [o', i64 m', c', s']) ∧ st.sl 4 = .ptr 4128 1 [] 0 ∧ st.ro 4128 1 = some (.bx [nilA, i64 0, nilA, nilA]) ∧ st.sl 5 = .ptr 8288 1 [] 0 ∧ st.ro 8256 1 = some (rowL O) ∧ st.ro 8257 1 = some (cubeA (smF F F' m) n) ∧ st.sl 6 = i64 (x : Int) ∧ ((x = 0 ∧ st.ro 8288 1 = some (.bx [.ref 8256 1 [] 0 O.length, i64 m, .ref 8257 1 [] 0 n, nilA])) ∨ (0 < x ∧ st.ro 8288 1 = some (.bx [.ref 8256 1 [] 0 O.length, i64 m, .ref 8257 1 [] 0 n, .ref 45120 (st.gn 45120) [] 0 x]) ∧ st.ro 45120 (st.gn 45120) = some (.row (rws (fun x => .row (rws (fun y => i64 (sm2 G G' m x y)) n)) x))))) n ?_ ?_ ?_
 ·refine Yan ?_
  exact ⟨rfl, .inl trivial⟩
 ·rintro x sl ro gn hx ⟨s2, r4096, s3, r4112, s4, r4128, s5, r8256, r8257, s6, q⟩
  dsimp only at s2 r4096 s3 r4112 s4 r4128 s5 r8256 r8257 s6
  have hx' : (x : Int) < (n : Nat) := by omega
  dsimp only at q
  have hj := isLL_row hv (k := x) (by omega)
  have hj' := isLL_row hv' (k := x) (by omega)
  have lr : (row (matL G n n) x).length = n := by rw [matL_row hx, zfe]
  have lr' : (row (matL G' n n) x).length = n := by rw [matL_row hx, zfe]
  simp (maxSteps := 10000000) (disch := first | assumption | omega) only [go_sem, ↓reduceIte, Nat.reduceEqDiff, reduceCtorEq, Nat.reduceAdd, Nat.reduceMul, Nat.reduceLeDiff, zc, Int.reduceToNat, s2, r4096, s3, r4112, s4, r4128, s5, r8256, r8257, s6, hx', hx]
  refine WK_for (fun y st => st.sl 2 = .ptr 4096 1 [] 0 ∧ st.ro 4096 1 = some (.bx [o, i64 m, c, s]) ∧ st.sl 3 = .ptr 4112 1 [] 0 ∧ st.ro 4112 1 = some (.bx [o', i64 m', c', s']) ∧ st.sl 4 = .ptr 4128 1 [] 0 ∧ st.ro 4128 1 = some (.bx [nilA, i64 0, nilA, nilA]) ∧ st.sl 5 = .ptr 8288 1 [] 0 ∧ st.ro 8256 1 = some (rowL O) ∧ st.ro 8257 1 = some (cubeA (smF F F' m) n) ∧ st.sl 6 = i64 (x : Int) ∧ st.sl 7 = .ref 24576 (st.gn 24576) [] 0 y ∧ st.ro 24576 (st.gn 24576) = some (.row (rws (fun y => i64 (sm2 G G' m x y)) y)) ∧ st.sl 8 = i64 (y : Int) ∧ ((x = 0 ∧ st.ro 8288 1 = some (.bx [.ref 8256 1 [] 0 O.length, i64 m, .ref 8257 1 [] 0 n, nilA])) ∨ (0 < x ∧ st.ro 8288 1 = some (.bx [.ref 8256 1 [] 0 O.length, i64 m, .ref 8257 1 [] 0 n, .ref 45120 (st.gn 45120) [] 0 x]) ∧ st.ro 45120 (st.gn 45120) = some (.row (rws (fun x => .row (rws (fun y => i64 (sm2 G G' m x y)) n)) x))))) n ?_ ?_ ?_
  ·simp only [↓za, ↓reduceIte, Nat.reduceEqDiff, zb, reduceCtorEq, rws_zero, s2, r4096, s3, r4112, s4, r4128, s5, r8256, r8257, s6, hx', hx]
   exact ⟨rfl, q⟩
  ·rintro y sl ro gn hy ⟨s2, r4096, s3, r4112, s4, r4128, s5, r8256, r8257, s6, s7, r24576, s8, q⟩
   dsimp only at s2 r4096 s3 r4112 s4 r4128 s5 r8256 r8257 s6 s7 r24576 s8
   have hy' : (y : Int) < (n : Nat) := by omega
   dsimp only at q
   have v1 : atI (row (matL G n n) x) y = G x y := matL_at hx hy
   have v2 : atI (row (matL G' n n) x) y = G' x y := matL_at hx hy
   have b1 := hG x hx y hy
   have b2 := hG' x hx y hy
   have hy2 : y + 1 ≤ 4294967296 := by omega
   have et : (G x y + G' x y).tmod m = sm2 G G' m x y := Int.tmod_eq_emod_of_nonneg (by omega)
   rcases q with ⟨hx0, q2⟩ | ⟨hx0, q2, q3⟩
   ·refine Ycv ?_
    refine FIN_of (by kernel_rfl) ?_
    refine Ydf ?_
    exact ⟨i64c (by omega), .inl ⟨hx0, q2⟩⟩
   ·refine Ycv ?_
    refine FIN_of (by kernel_rfl) ?_
    refine Ydf ?_
    exact ⟨i64c (by omega), .inr ⟨hx0, q2, q3⟩⟩
  ·rintro sl ro gn ⟨s2, r4096, s3, r4112, s4, r4128, s5, r8256, r8257, s6, s7, r24576, s8, q⟩
   dsimp only at s2 r4096 s3 r4112 s4 r4128 s5 r8256 r8257 s6 s7 r24576 s8
   have hy' : ¬ ((n : Nat) : Int) < (n : Nat) := by omega
   dsimp only at q
   have hx2 : x + 1 ≤ 4294967296 := by omega
   rcases q with ⟨hx0, q2⟩ | ⟨hx0, q2, q3⟩
   ·subst hx0
    simp (maxSteps := 10000000) (disch := first | assumption | omega) only [go_sem, ↓reduceIte, Nat.reduceEqDiff, reduceCtorEq, Nat.reduceAdd, Nat.reduceMul, Nat.reduceLeDiff, zc, Int.reduceToNat, s2, r4096, s3, r4112, s4, r4128, s5, r8256, r8257, s6, s7, r24576, s8, hy', q2, hx2]
    exact ⟨i64c (by omega), .inr rfl⟩
   ·simp (maxSteps := 10000000) (disch := first | assumption | omega) only [go_sem, ↓reduceIte, Nat.reduceEqDiff, reduceCtorEq, Nat.reduceAdd, Nat.reduceMul, Nat.reduceLeDiff, zc, Int.reduceToNat, s2, r4096, s3, r4112, s4, r4128, s5, r8256, r8257, s6, s7, r24576, s8, hy', q2, q3, hx2]
    exact ⟨i64c (by omega), .inr trivial⟩
 ·rintro sl ro gn ⟨s2, r4096, s3, r4112, s4, r4128, s5, r8256, r8257, s6, q⟩
  dsimp only at s2 r4096 s3 r4112 s4 r4128 s5 r8256 r8257 s6
  have hx' : ¬ ((n : Nat) : Int) < (n : Nat) := by omega
  dsimp only at q
  rcases q with ⟨hx0, q2⟩ | ⟨hx0, q2, q3⟩
  ·omega
  ·simp (maxSteps := 10000000) (disch := first | assumption | omega) only [go_sem, ↓reduceIte, Nat.reduceEqDiff, reduceCtorEq, Nat.reduceAdd, Nat.reduceMul, Nat.reduceLeDiff, zc, Int.reduceToNat, s2, r4096, s3, r4112, s4, r4128, s5, r8256, r8257, s6, hx', q2, q3]
   simp only [zr, zb, retR, resL, outT, outL, zes, zez, oneV, zcp, zed, zfi, Ro.dl, St.ev, zhk, ↓za, ↓reduceIte, Nat.reduceEqDiff, Nat.reduceAdd, Nat.reduceLeDiff, tiD, s4, q2, q3, r8256, r8257]
def cyF (n : Nat) (k : Int) (x y z : Nat) : Int := if n ≤ y + z then k * x % n else 0
theorem cCyc {k : Int} (h0 : 0 < n) (h16 : n ≤ 16) (hk : 0 ≤ k ∧ k ≤ 1000) : CallOK Tryz.prog 40 [i64 (n : Int), i64 k] (.agg [rowL [(n : Int)], i64 (n : Int), cubeA (cyF n k) n]) := by
 have hmx : n ≤ maxN := Nat.le_trans h16 (by decide)
 have hn0 : ¬ (n : Int) = 0 := by omega
 refine call_of (fn := Tryz.f40) (code := bodyOf Tryz.f40) Tryz.func40 rfl (by kernel_rfl) (noRef_cc _ _ _ _) ?_
 intro sl hs
 have s0 : sl 0 = i64 (n : Int) := hs 0
 have s1 : sl 1 = i64 k := hs 1
 dsimp only [Tryz.f40, bodyOf, Option.getD]
 refine Yac ?_
 refine CLL_pure _ (c101 hmx) rfl rfl rfl ?_
 refine Yac ?_
 refine WK_for (fun x st => st.sl 0 = i64 (n : Int) ∧ st.sl 1 = i64 k ∧ st.sl 4 = .ptr 4096 1 [] 0 ∧ st.ro 4096 1 = some (.bx [nilA, i64 0, nilA]) ∧ st.sl 5 = .ptr 8288 1 [] 0 ∧ st.ro 8288 1 = some (.bx [.ref 8208 1 [] 0 1, i64 (n : Int), .ref 8256 1 [] 0 n]) ∧ st.ro 8208 1 = some (rowL [(n : Int)]) ∧ st.ro 8256 1 = some (cubeA (pgF (cyF n k) x 0 0) n) ∧ st.sl 6 = i64 (x : Int)) n ?_ ?_ ?_
 ·refine Yan ?_
  exact ⟨rfl, congrArg some pg_0, rfl⟩
 ·rintro x sl ro gn hx ⟨s0, s1, s4, r4096, s5, r8288, r8208, r8256, s6⟩
  dsimp only at s0 s1 s4 r4096 s5 r8288 r8208 r8256 s6
  have hx' : (x : Int) < (n : Nat) := by omega
  have p0 : 0 ≤ k * (x : Int) := Int.mul_nonneg hk.1 (by omega)
  have p1 : k * (x : Int) ≤ 1000 * 16 := Int.mul_le_mul hk.2 (by omega) (by omega) (by omega)
  have et : (k * (x : Int)).tmod (n : Int) = k * (x : Int) % n := Int.tmod_eq_emod_of_nonneg p0
  simp (maxSteps := 10000000) (disch := first | assumption | omega) only [go_sem, ↓reduceIte, Nat.reduceEqDiff, reduceCtorEq, Nat.reduceAdd, Nat.reduceMul, Nat.reduceLeDiff, zc, Int.reduceToNat, s0, s1, s4, r4096, s5, r8288, r8208, r8256, s6, hx', hx]
  refine WK_for (fun y st => st.sl 0 = i64 (n : Int) ∧ st.sl 1 = i64 k ∧ st.sl 4 = .ptr 4096 1 [] 0 ∧ st.ro 4096 1 = some (.bx [nilA, i64 0, nilA]) ∧ st.sl 5 = .ptr 8288 1 [] 0 ∧ st.ro 8288 1 = some (.bx [.ref 8208 1 [] 0 1, i64 (n : Int), .ref 8256 1 [] 0 n]) ∧ st.ro 8208 1 = some (rowL [(n : Int)]) ∧ st.sl 6 = i64 (x : Int) ∧ st.ro 8256 1 = some (cubeA (pgF (cyF n k) x y 0) n) ∧ st.sl 7 = i64 (y : Int)) n ?_ ?_ ?_
  ·simp only [↓za, ↓reduceIte, Nat.reduceEqDiff, zb, reduceCtorEq, rws_zero, s0, s1, s4, r4096, s5, r8288, r8208, r8256, s6, hx', hx]
   exact rfl
  ·rintro y sl ro gn hy ⟨s0, s1, s4, r4096, s5, r8288, r8208, s6, r8256, s7⟩
   dsimp only at s0 s1 s4 r4096 s5 r8288 r8208 s6 r8256 s7
   have hy' : (y : Int) < (n : Nat) := by omega
   simp (maxSteps := 10000000) (disch := first | assumption | omega) only [go_sem, ↓reduceIte, Nat.reduceEqDiff, reduceCtorEq, Nat.reduceAdd, Nat.reduceMul, Nat.reduceLeDiff, zc, Int.reduceToNat, s0, s1, s4, r4096, s5, r8288, r8208, s6, r8256, s7, hy', hy]
   refine WK_for (fun j st => st.sl 0 = i64 (n : Int) ∧ st.sl 1 = i64 k ∧ st.sl 4 = .ptr 4096 1 [] 0 ∧ st.ro 4096 1 = some (.bx [nilA, i64 0, nilA]) ∧ st.sl 5 = .ptr 8288 1 [] 0 ∧ st.ro 8288 1 = some (.bx [.ref 8208 1 [] 0 1, i64 (n : Int), .ref 8256 1 [] 0 n]) ∧ st.ro 8208 1 = some (rowL [(n : Int)]) ∧ st.sl 6 = i64 (x : Int) ∧ st.sl 7 = i64 (y : Int) ∧ st.ro 8256 1 = some (cubeA (pgF (cyF n k) x y (n - y + j)) n) ∧ st.sl 8 = i64 ((n : Int) - y + j)) y ?_ ?_ ?_
   ·simp only [↓za, ↓reduceIte, Nat.reduceEqDiff, zb, reduceCtorEq, rws_zero, s0, s1, s4, r4096, s5, r8288, r8208, s6, r8256, s7, hy', hy]
    refine ⟨congrArg some (cube_congr fun a b c _ _ _ => ?_), i64c (by omega)⟩
    unfold pgF cyF
    split <;> split <;> (first | rfl | (split <;> (first | rfl | omega)) | omega)
   ·rintro j sl ro gn hj ⟨s0, s1, s4, r4096, s5, r8288, r8208, s6, s7, r8256, s8⟩
    dsimp only at s0 s1 s4 r4096 s5 r8288 r8208 s6 s7 r8256 s8
    have hj' : (j : Int) < (y : Nat) := by omega
    have hz : (n : Int) - y + j = ((n - y + j : Nat) : Int) := by omega
    have hzn : n - y + j < n := by omega
    have hzn' : ((n - y + j : Nat) : Int) < n := by omega
    have ev : k * (x : Int) % n = cyF n k x y (n - y + j) := by unfold cyF; rw [if_pos (by omega)]
    simp (maxSteps := 10000000) (disch := first | assumption | omega) only [go_sem, ↓reduceIte, Nat.reduceEqDiff, reduceCtorEq, Nat.reduceAdd, Nat.reduceMul, Nat.reduceLeDiff, zc, Int.reduceToNat, s0, s1, s4, r4096, s5, r8288, r8208, s6, s7, r8256, s8, hj', hj, hz, hzn', hzn, et, cube_cells r8256 hx hy, cube_bx r8256 hx hy, cube_wr r8256 hx hy hzn]
    refine FIN_of (by kernel_rfl) ?_
    simp (maxSteps := 10000000) (disch := first | assumption | omega) only [go_sem, ↓reduceIte, Nat.reduceEqDiff, reduceCtorEq, Nat.reduceAdd, Nat.reduceMul, Nat.reduceLeDiff, zc, Int.reduceToNat, s0, s1, s4, r4096, s5, r8288, r8208, s6, s7, r8256, s8, hj', hj, hz]
    rw [ev]
    exact ⟨congrArg some (pg_step _ _ _ _ _), i64c (by omega)⟩
   ·rintro sl ro gn ⟨s0, s1, s4, r4096, s5, r8288, r8208, s6, s7, r8256, s8⟩
    dsimp only at s0 s1 s4 r4096 s5 r8288 r8208 s6 s7 r8256 s8
    have hj' : ¬ ((y : Nat) : Int) < (y : Nat) := by omega
    have hz : ¬ (n : Int) - y + y < n := by omega
    have hzz : n - y + y = n := by omega
    rw [hzz] at r8256
    simp (maxSteps := 10000000) (disch := first | assumption | omega) only [go_sem, ↓reduceIte, Nat.reduceEqDiff, reduceCtorEq, Nat.reduceAdd, Nat.reduceMul, Nat.reduceLeDiff, zc, Int.reduceToNat, s0, s1, s4, r4096, s5, r8288, r8208, s6, s7, r8256, s8, hj', hz]
    exact ⟨congrArg some pg_z, i64c (by omega)⟩
  ·rintro sl ro gn ⟨s0, s1, s4, r4096, s5, r8288, r8208, s6, r8256, s7⟩
   dsimp only at s0 s1 s4 r4096 s5 r8288 r8208 s6 r8256 s7
   have hy' : ¬ ((n : Nat) : Int) < (n : Nat) := by omega
   simp (maxSteps := 10000000) (disch := first | assumption | omega) only [go_sem, ↓reduceIte, Nat.reduceEqDiff, reduceCtorEq, Nat.reduceAdd, Nat.reduceMul, Nat.reduceLeDiff, zc, Int.reduceToNat, s0, s1, s4, r4096, s5, r8288, r8208, s6, r8256, s7, hy']
   exact ⟨congrArg some pg_y, i64c (by omega)⟩
 ·rintro sl ro gn ⟨s0, s1, s4, r4096, s5, r8288, r8208, r8256, s6⟩
  dsimp only at s0 s1 s4 r4096 s5 r8288 r8208 r8256 s6
  have hx' : ¬ ((n : Nat) : Int) < (n : Nat) := by omega
  rw [pg_n] at r8256
  simp (maxSteps := 10000000) (disch := first | assumption | omega) only [go_sem, ↓reduceIte, Nat.reduceEqDiff, reduceCtorEq, Nat.reduceAdd, Nat.reduceMul, Nat.reduceLeDiff, zc, Int.reduceToNat, s0, s1, s4, r4096, s5, r8288, r8208, r8256, s6, hx']
  simp only [zr, zb, retR, resL, outT, outL, zes, zez, oneV, zcp, zed, zfi, Ro.dl, St.ev, zhk, ↓za, ↓reduceIte, Nat.reduceEqDiff, Nat.reduceAdd, Nat.reduceLeDiff, tiC, s4, r8288, r8208, r8256]
end
end Go.Proofs.YtmchdjiigfiabaaGreat
/- Mixed, triple and standard ones (reference). -/
namespace Go.Proofs.YtmchdjiigfiabaaGreat
open Go.RowKit
set_option maxRecDepth 1000000
theorem tdv (x m : Nat) : Int.tdiv (x : Int) (m : Int) = ((x / m : Nat) : Int) := by rw [Int.tdiv_eq_ediv_of_nonneg (Int.natCast_nonneg _)]; rfl
theorem tmd (x m : Nat) : Int.tmod (x : Int) (m : Int) = ((x % m : Nat) : Int) := by rw [Int.tmod_eq_emod_of_nonneg (Int.natCast_nonneg _)]; rfl
theorem wrfN {k : Nat} (h : k ≤ 1000) : wrF (k : Int) = k := zfu (by omega) (by omega)
def trF (x y z : Nat) : Int := ((x / 4 : Nat) : Int) * ((y / 2 % 2 : Nat) : Int) * ((z % 2 : Nat) : Int)
theorem cTri : CallOK Tryz.prog 92 [] (.agg [rowL [2, 2, 2], i64 2, cubeA trF 8]) := by
 have c8 : CallOK Tryz.prog 66 [i64 8] (cubeA (fun _ _ _ => 0) 8) := c101 (n := 8) (by decide)
 refine call_of (fn := Tryz.f92) (code := bodyOf Tryz.f92) Tryz.func92 rfl (by kernel_rfl) (noRef_cc _ _ _ _) ?_
 intro sl hs
 dsimp only [Tryz.f92, bodyOf, Option.getD]
 simp (maxSteps := 10000000) (disch := first | assumption | omega) only [go_sem, ↓reduceIte, Nat.reduceEqDiff, reduceCtorEq, Nat.reduceAdd, Nat.reduceMul, Nat.reduceLeDiff, zc, Int.reduceToNat]
 refine CLL_pure _ c8 rfl rfl rfl ?_
 simp (maxSteps := 10000000) (disch := first | assumption | omega) only [go_sem, ↓reduceIte, Nat.reduceEqDiff, reduceCtorEq, Nat.reduceAdd, Nat.reduceMul, Nat.reduceLeDiff, zc, Int.reduceToNat]
 refine WK_for (fun x st => st.sl 0 = .ptr 4096 1 [] 0 ∧ st.ro 4096 1 = some (.bx [nilA, i64 0, nilA]) ∧ st.sl 1 = .ptr 8240 1 [] 0 ∧ st.ro 8240 1 = some (.bx [.ref 8192 1 [] 0 3, i64 2, .ref 8208 1 [] 0 8]) ∧ st.ro 8192 1 = some (rowL [2, 2, 2]) ∧ st.ro 8208 1 = some (cubeA (pgF trF x 0 0) 8) ∧ st.sl 2 = i64 (x : Int)) 8 ?_ ?_ ?_
 ·simp only [↓za, ↓reduceIte, Nat.reduceEqDiff, zb, reduceCtorEq, rws_zero]
  exact ⟨rfl, congrArg some pg_0, rfl⟩
 ·rintro x sl ro gn hx ⟨s0, r4096, s1, r8240, r8192, r8208, s2⟩
  dsimp only at s0 r4096 s1 r8240 r8192 r8208 s2
  have hx' : (x : Int) < (8 : Nat) := by omega
  have hx8 : (x : Int) < 8 := by omega
  simp (maxSteps := 10000000) (disch := first | assumption | omega) only [go_sem, ↓reduceIte, Nat.reduceEqDiff, reduceCtorEq, Nat.reduceAdd, Nat.reduceMul, Nat.reduceLeDiff, zc, Int.reduceToNat, s0, r4096, s1, r8240, r8192, r8208, s2, hx', hx, hx8]
  refine WK_for (fun y st => st.sl 0 = .ptr 4096 1 [] 0 ∧ st.ro 4096 1 = some (.bx [nilA, i64 0, nilA]) ∧ st.sl 1 = .ptr 8240 1 [] 0 ∧ st.ro 8240 1 = some (.bx [.ref 8192 1 [] 0 3, i64 2, .ref 8208 1 [] 0 8]) ∧ st.ro 8192 1 = some (rowL [2, 2, 2]) ∧ st.sl 2 = i64 (x : Int) ∧ st.ro 8208 1 = some (cubeA (pgF trF x y 0) 8) ∧ st.sl 3 = i64 (y : Int)) 8 ?_ ?_ ?_
  ·simp only [↓za, ↓reduceIte, Nat.reduceEqDiff, zb, reduceCtorEq, rws_zero, s0, r4096, s1, r8240, r8192, r8208, s2, hx', hx]
   exact rfl
  ·rintro y sl ro gn hy ⟨s0, r4096, s1, r8240, r8192, s2, r8208, s3⟩
   dsimp only at s0 r4096 s1 r8240 r8192 s2 r8208 s3
   have hy' : (y : Int) < (8 : Nat) := by omega
   have hy8 : (y : Int) < 8 := by omega
   simp (maxSteps := 10000000) (disch := first | assumption | omega) only [go_sem, ↓reduceIte, Nat.reduceEqDiff, reduceCtorEq, Nat.reduceAdd, Nat.reduceMul, Nat.reduceLeDiff, zc, Int.reduceToNat, s0, r4096, s1, r8240, r8192, s2, r8208, s3, hy', hy, hy8]
   refine WK_for (fun z st => st.sl 0 = .ptr 4096 1 [] 0 ∧ st.ro 4096 1 = some (.bx [nilA, i64 0, nilA]) ∧ st.sl 1 = .ptr 8240 1 [] 0 ∧ st.ro 8240 1 = some (.bx [.ref 8192 1 [] 0 3, i64 2, .ref 8208 1 [] 0 8]) ∧ st.ro 8192 1 = some (rowL [2, 2, 2]) ∧ st.sl 2 = i64 (x : Int) ∧ st.sl 3 = i64 (y : Int) ∧ st.ro 8208 1 = some (cubeA (pgF trF x y z) 8) ∧ st.sl 4 = i64 (z : Int)) 8 ?_ ?_ ?_
   ·simp only [↓za, ↓reduceIte, Nat.reduceEqDiff, zb, reduceCtorEq, rws_zero, s0, r4096, s1, r8240, r8192, s2, r8208, s3, hy', hy]
    exact rfl
   ·rintro z sl ro gn hz ⟨s0, r4096, s1, r8240, r8192, s2, s3, r8208, s4⟩
    dsimp only at s0 r4096 s1 r8240 r8192 s2 s3 r8208 s4
    have hz' : (z : Int) < (8 : Nat) := by omega
    have hz8 : (z : Int) < 8 := by omega
    have t1 : Int.tdiv (x : Int) 4 = ((x / 4 : Nat) : Int) := tdv x 4
    have t2 : Int.tdiv (y : Int) 2 = ((y / 2 : Nat) : Int) := tdv y 2
    have t3 : Int.tmod ((y / 2 : Nat) : Int) 2 = ((y / 2 % 2 : Nat) : Int) := tmd _ 2
    have t4 : Int.tmod (z : Int) 2 = ((z % 2 : Nat) : Int) := tmd z 2
    have w1 : wrF ((x / 4 : Nat) : Int) = (x / 4 : Nat) := wrfN (by omega)
    have w2 : wrF ((y / 2 : Nat) : Int) = (y / 2 : Nat) := wrfN (by omega)
    have w3 : wrF ((y / 2 % 2 : Nat) : Int) = (y / 2 % 2 : Nat) := wrfN (by omega)
    have w4 : wrF ((z % 2 : Nat) : Int) = (z % 2 : Nat) := wrfN (by omega)
    have e1 : ((x / 4 : Nat) : Int) * ((y / 2 % 2 : Nat) : Int) = ((x / 4 * (y / 2 % 2) : Nat) : Int) := by omega
    have e2 : ((x / 4 * (y / 2 % 2) : Nat) : Int) * ((z % 2 : Nat) : Int) = ((x / 4 * (y / 2 % 2) * (z % 2) : Nat) : Int) := by omega
    have q1 : x / 4 * (y / 2 % 2) ≤ 1 * 1 := Nat.mul_le_mul (by omega) (by omega)
    have q2 : x / 4 * (y / 2 % 2) * (z % 2) ≤ 1 * 1 := Nat.mul_le_mul (by omega) (by omega)
    have w5 : wrF ((x / 4 * (y / 2 % 2) : Nat) : Int) = (x / 4 * (y / 2 % 2) : Nat) := wrfN (by omega)
    have w6 : wrF ((x / 4 * (y / 2 % 2) * (z % 2) : Nat) : Int) = (x / 4 * (y / 2 % 2) * (z % 2) : Nat) := wrfN (by omega)
    have ev : ((x / 4 * (y / 2 % 2) * (z % 2) : Nat) : Int) = trF x y z := by unfold trF; rw [e1, e2]
    simp (maxSteps := 10000000) (disch := first | assumption | omega) only [go_sem, ↓reduceIte, Nat.reduceEqDiff, reduceCtorEq, Nat.reduceAdd, Nat.reduceMul, Nat.reduceLeDiff, zc, Int.reduceToNat, s0, r4096, s1, r8240, r8192, s2, s3, r8208, s4, hz', hz, hz8, t1, t2, t3, t4, w1, w2, w3, w4, e1, e2, w5, w6, cube_cells r8208 hx hy, cube_bx r8208 hx hy, cube_wr r8208 hx hy hz]
    rw [ev]
    exact ⟨congrArg some (pg_step _ _ _ _ _), i64c (by omega)⟩
   ·rintro sl ro gn ⟨s0, r4096, s1, r8240, r8192, s2, s3, r8208, s4⟩
    dsimp only at s0 r4096 s1 r8240 r8192 s2 s3 r8208 s4
    have hz' : ¬ ((8 : Nat) : Int) < (8 : Nat) := by omega
    simp (maxSteps := 10000000) (disch := first | assumption | omega) only [go_sem, ↓reduceIte, Nat.reduceEqDiff, reduceCtorEq, Nat.reduceAdd, Nat.reduceMul, Nat.reduceLeDiff, zc, Int.reduceToNat, s0, r4096, s1, r8240, r8192, s2, s3, r8208, s4, hz']
    exact ⟨congrArg some pg_z, i64c (by omega)⟩
  ·rintro sl ro gn ⟨s0, r4096, s1, r8240, r8192, s2, r8208, s3⟩
   dsimp only at s0 r4096 s1 r8240 r8192 s2 r8208 s3
   have hy' : ¬ ((8 : Nat) : Int) < (8 : Nat) := by omega
   simp (maxSteps := 10000000) (disch := first | assumption | omega) only [go_sem, ↓reduceIte, Nat.reduceEqDiff, reduceCtorEq, Nat.reduceAdd, Nat.reduceMul, Nat.reduceLeDiff, zc, Int.reduceToNat, s0, r4096, s1, r8240, r8192, s2, r8208, s3, hy']
   exact ⟨congrArg some pg_y, i64c (by omega)⟩
 ·rintro sl ro gn ⟨s0, r4096, s1, r8240, r8192, r8208, s2⟩
  dsimp only at s0 r4096 s1 r8240 r8192 r8208 s2
  have hx' : ¬ ((8 : Nat) : Int) < (8 : Nat) := by omega
  rw [pg_n] at r8208
  simp (maxSteps := 10000000) (disch := first | assumption | omega) only [go_sem, ↓reduceIte, Nat.reduceEqDiff, reduceCtorEq, Nat.reduceAdd, Nat.reduceMul, Nat.reduceLeDiff, zc, Int.reduceToNat, s0, r4096, s1, r8240, r8192, r8208, s2, hx']
  simp only [zr, zb, retR, resL, outT, outL, zes, zez, oneV, zcp, zed, zfi, Ro.dl, St.ev, zhk, ↓za, ↓reduceIte, Nat.reduceEqDiff, Nat.reduceAdd, Nat.reduceLeDiff, tiC, s0, r8240, r8192, r8208]
section
variable {n m : Nat} {k : Int}
def mxF (m : Nat) (k : Int) (a : Nat) (x y z : Nat) : Int := if m ≤ y % m + z % m then k * ((x / m : Nat) : Int) % a else 0
set_option maxHeartbeats 4000000 in
theorem cMix (hn : 1 ≤ n) (hm : 1 ≤ m) (h8 : n * m ≤ 8) (hk : 0 ≤ k ∧ k ≤ 7) : CallOK Tryz.prog 91 [i64 (n : Int), i64 (m : Int), i64 k] (.agg [rowL [(n : Int), (m : Int)], i64 (Nat.gcd n m : Nat), cubeA (mxF m k (Nat.gcd n m)) (n * m)]) := by
 have hn8 : n ≤ 8 := Nat.le_trans (Nat.le_mul_of_pos_right _ hm) h8
 have hm8 : m ≤ 8 := Nat.le_trans (Nat.le_mul_of_pos_left _ hn) h8
 have e1 : (n : Int) * m = (n * m : Nat) := by omega
 have hmx : n * m ≤ maxN := Nat.le_trans h8 (by decide)
 have g1 : 1 ≤ Nat.gcd n m := Nat.gcd_pos_of_pos_left _ hn
 have g2 : Nat.gcd n m ≤ n := Nat.gcd_le_left _ hn
 have hm0 : ¬ (m : Int) = 0 := by omega
 refine call_of (fn := Tryz.f91) (code := bodyOf Tryz.f91) Tryz.func91 rfl (by kernel_rfl) (noRef_cc _ _ _ _) ?_
 intro sl hs
 have s0 : sl 0 = i64 (n : Int) := hs 0
 have s1 : sl 1 = i64 (m : Int) := hs 1
 have s2 : sl 2 = i64 k := hs 2
 dsimp only [Tryz.f91, bodyOf, Option.getD]
 refine Yae ?_
 refine WK_loopM (fun q st => ∃ u v : Nat, v = q ∧ u < 4294967296 ∧ v < 4294967296 ∧ Nat.gcd u v = Nat.gcd n m ∧ st.sl 0 = i64 (n : Int) ∧ st.sl 1 = i64 (m : Int) ∧ st.sl 2 = i64 k ∧ st.sl 6 = .ptr 4096 1 [] 0 ∧ st.ro 4096 1 = some (.bx [nilA, i64 0, nilA]) ∧ st.sl 7 = i64 (u : Int) ∧ st.sl 8 = i64 (v : Int) ∧ (∀ x, x ≠ 4096 → st.gn x = 0)) m ?_ ?_
 ·simp only [↓za, ↓reduceIte, Nat.reduceEqDiff, zb, reduceCtorEq, s0, s1, s2]
  exact ⟨n, m, rfl, by omega, by omega, rfl, rfl, rfl, fun x hx => if_neg hx⟩
 ·rintro q sl ro gn ⟨u, v, rfl, hu, hv, hg, s0, s1, s2, s6, r6, s7, s8, hgn⟩
  dsimp only at s0 s1 s2 s6 r6 s7 s8 hgn
  by_cases hv0 : (0 : Int) < (v : Int)
  ·have hnz : ¬ (v : Int) = 0 := by omega
   have et : Int.tmod (u : Int) (v : Int) = ((u % v : Nat) : Int) := tmd u v
   have hlt : u % v < v := Nat.mod_lt _ (by omega)
   simp (maxSteps := 10000000) (disch := first | assumption | omega) only [go_sem, ↓reduceIte, Nat.reduceEqDiff, reduceCtorEq, Nat.reduceAdd, Nat.reduceMul, Nat.reduceLeDiff, zc, s0, s1, s2, s6, r6, s7, s8, eq_true hv0, hnz, et]
   refine ⟨u % v, hlt, v, u % v, rfl, hv, by omega, ?_, rfl, i64c rfl, hgn⟩
   rw [← hg, Nat.gcd_comm u v, Nat.gcd_rec v u, Nat.gcd_comm]
  ·have : v = 0 := by omega
   subst this
   rw [Nat.gcd_zero_right] at hg
   subst hg
   have g5 := hgn 28704 (by decide)
   have g6 := hgn 28784 (by decide)
   have g7 := hgn 28816 (by decide)
   simp (maxSteps := 10000000) (disch := first | assumption | omega) only [go_sem, ↓reduceIte, Nat.reduceEqDiff, reduceCtorEq, Nat.reduceAdd, Nat.reduceMul, Nat.reduceLeDiff, zc, s0, s1, s2, s6, r6, s7, s8, eq_false hv0, e1]
   refine CLL_pure _ (c101 hmx) rfl rfl rfl ?_
   simp (maxSteps := 10000000) (disch := first | assumption | omega) only [go_sem, ↓reduceIte, Nat.reduceEqDiff, reduceCtorEq, Nat.reduceAdd, Nat.reduceMul, Nat.reduceLeDiff, zc, s0, s1, s2, s6, r6, s7, s8, eq_false hv0, e1]
   simp only [g5, g6, g7, Nat.zero_add]
   refine WK_for (fun x st => st.sl 0 = i64 (n : Int) ∧ st.sl 1 = i64 (m : Int) ∧ st.sl 2 = i64 k ∧ st.sl 6 = .ptr 4096 1 [] 0 ∧ st.ro 4096 1 = some (.bx [nilA, i64 0, nilA]) ∧ st.sl 7 = i64 ((Nat.gcd n m : Nat) : Int) ∧ st.sl 10 = .ptr 28816 1 [] 0 ∧ st.ro 28816 1 = some (.bx [.ref 28704 1 [] 0 2, i64 ((Nat.gcd n m : Nat) : Int), .ref 28784 1 [] 0 (n * m)]) ∧ st.ro 28704 1 = some (rowL [(n : Int), (m : Int)]) ∧ st.ro 28784 1 = some (cubeA (pgF (mxF m k (Nat.gcd n m)) x 0 0) (n * m)) ∧ st.sl 11 = i64 (x : Int)) ((n * m)) ?_ ?_ ?_
   ·refine Ybv ?_
    (repeat' apply And.intro) <;> first | exact s6 | exact r6 | exact s7 | exact rfl | exact congrArg some pg_0
   ·rintro x sl ro gn hx ⟨s0, s1, s2, s6, r4096, s7, s10, r28816, r28704, r28784, s11⟩
    dsimp only at s0 s1 s2 s6 r4096 s7 s10 r28816 r28704 r28784 s11
    have hx' : (x : Int) < ((n * m) : Nat) := by omega
    have ga : ¬ ((Nat.gcd n m : Nat) : Int) = 0 := by omega
    have hxm : x / m < n := Nat.div_lt_of_lt_mul (by rw [Nat.mul_comm]; exact hx)
    have w1 : wrF ((x / m : Nat) : Int) = (x / m : Nat) := wrfN (by omega)
    have p0 : 0 ≤ k * ((x / m : Nat) : Int) := Int.mul_nonneg hk.1 (Int.natCast_nonneg _)
    have p1 : k * ((x / m : Nat) : Int) ≤ 7 * 8 := Int.mul_le_mul hk.2 (Int.ofNat_le.2 (by omega : x / m ≤ 8)) (Int.natCast_nonneg _) (by omega)
    have et : (k * ((x / m : Nat) : Int)).tmod ((Nat.gcd n m : Nat) : Int) = k * ((x / m : Nat) : Int) % ((Nat.gcd n m : Nat) : Int) := Int.tmod_eq_emod_of_nonneg p0
    have m0 : 0 ≤ k * ((x / m : Nat) : Int) % ((Nat.gcd n m : Nat) : Int) := Int.emod_nonneg _ ga
    have m1 : k * ((x / m : Nat) : Int) % ((Nat.gcd n m : Nat) : Int) < ((Nat.gcd n m : Nat) : Int) := Int.emod_lt_of_pos _ (by omega)
    simp (maxSteps := 10000000) (disch := first | assumption | omega) only [go_sem, ↓reduceIte, Nat.reduceEqDiff, reduceCtorEq, Nat.reduceAdd, Nat.reduceMul, Nat.reduceLeDiff, zc, Int.reduceToNat, s0, s1, s2, s6, r4096, s7, s10, r28816, r28704, r28784, s11, hx', hx, e1]
    refine WK_for (fun y st => st.sl 0 = i64 (n : Int) ∧ st.sl 1 = i64 (m : Int) ∧ st.sl 2 = i64 k ∧ st.sl 6 = .ptr 4096 1 [] 0 ∧ st.ro 4096 1 = some (.bx [nilA, i64 0, nilA]) ∧ st.sl 7 = i64 ((Nat.gcd n m : Nat) : Int) ∧ st.sl 10 = .ptr 28816 1 [] 0 ∧ st.ro 28816 1 = some (.bx [.ref 28704 1 [] 0 2, i64 ((Nat.gcd n m : Nat) : Int), .ref 28784 1 [] 0 (n * m)]) ∧ st.ro 28704 1 = some (rowL [(n : Int), (m : Int)]) ∧ st.sl 11 = i64 (x : Int) ∧ st.ro 28784 1 = some (cubeA (pgF (mxF m k (Nat.gcd n m)) x y 0) (n * m)) ∧ st.sl 12 = i64 (y : Int)) ((n * m)) ?_ ?_ ?_
    ·simp only [↓za, ↓reduceIte, Nat.reduceEqDiff, zb, reduceCtorEq, rws_zero, s0, s1, s2, s6, r4096, s7, s10, r28816, r28704, r28784, s11, hx', hx]
     exact rfl
    ·rintro y sl ro gn hy ⟨s0, s1, s2, s6, r4096, s7, s10, r28816, r28704, s11, r28784, s12⟩
     dsimp only at s0 s1 s2 s6 r4096 s7 s10 r28816 r28704 s11 r28784 s12
     have hy' : (y : Int) < ((n * m) : Nat) := by omega
     have ym : y % m < m := Nat.mod_lt _ hm
     have w2 : wrF ((y % m : Nat) : Int) = (y % m : Nat) := wrfN (by omega)
     simp (maxSteps := 10000000) (disch := first | assumption | omega) only [go_sem, ↓reduceIte, Nat.reduceEqDiff, reduceCtorEq, Nat.reduceAdd, Nat.reduceMul, Nat.reduceLeDiff, zc, Int.reduceToNat, s0, s1, s2, s6, r4096, s7, s10, r28816, r28704, s11, r28784, s12, hy', hy, e1]
     refine WK_for (fun z st => st.sl 0 = i64 (n : Int) ∧ st.sl 1 = i64 (m : Int) ∧ st.sl 2 = i64 k ∧ st.sl 6 = .ptr 4096 1 [] 0 ∧ st.ro 4096 1 = some (.bx [nilA, i64 0, nilA]) ∧ st.sl 7 = i64 ((Nat.gcd n m : Nat) : Int) ∧ st.sl 10 = .ptr 28816 1 [] 0 ∧ st.ro 28816 1 = some (.bx [.ref 28704 1 [] 0 2, i64 ((Nat.gcd n m : Nat) : Int), .ref 28784 1 [] 0 (n * m)]) ∧ st.ro 28704 1 = some (rowL [(n : Int), (m : Int)]) ∧ st.sl 11 = i64 (x : Int) ∧ st.sl 12 = i64 (y : Int) ∧ st.ro 28784 1 = some (cubeA (pgF (mxF m k (Nat.gcd n m)) x y z) (n * m)) ∧ st.sl 13 = i64 (z : Int)) ((n * m)) ?_ ?_ ?_
     ·simp only [↓za, ↓reduceIte, Nat.reduceEqDiff, zb, reduceCtorEq, rws_zero, s0, s1, s2, s6, r4096, s7, s10, r28816, r28704, s11, r28784, s12, hy', hy]
      exact rfl
     ·rintro z sl ro gn hz ⟨s0, s1, s2, s6, r4096, s7, s10, r28816, r28704, s11, s12, r28784, s13⟩
      dsimp only at s0 s1 s2 s6 r4096 s7 s10 r28816 r28704 s11 s12 r28784 s13
      have hz' : (z : Int) < ((n * m) : Nat) := by omega
      have zm : z % m < m := Nat.mod_lt _ hm
      have w3 : wrF ((z % m : Nat) : Int) = (z % m : Nat) := wrfN (by omega)
      by_cases hc : m ≤ y % m + z % m
      ·have hci : (m : Int) ≤ ((y % m : Nat) : Int) + ((z % m : Nat) : Int) := by omega
       have ev : k * ((x / m : Nat) : Int) % ((Nat.gcd n m : Nat) : Int) = mxF m k (Nat.gcd n m) x y z := by unfold mxF; rw [if_pos hc]
       refine Ycu ?_
       refine FIN_of (by kernel_rfl) ?_
       simp (maxSteps := 10000000) (disch := first | assumption | omega) only [go_sem, ↓reduceIte, Nat.reduceEqDiff, reduceCtorEq, Nat.reduceAdd, Nat.reduceMul, Nat.reduceLeDiff, zc, Int.reduceToNat, s0, s1, s2, s6, r4096, s7, s10, r28816, r28704, s11, s12, r28784, s13, hz', hz, e1, tmd, tdv, w1, w2, w3, eq_true hci, et, cube_cells r28784 hx hy, cube_bx r28784 hx hy, cube_wr r28784 hx hy hz]
       refine FIN_of (by kernel_rfl) ?_
       simp (maxSteps := 10000000) (disch := first | assumption | omega) only [go_sem, ↓reduceIte, Nat.reduceEqDiff, reduceCtorEq, Nat.reduceAdd, Nat.reduceMul, Nat.reduceLeDiff, zc, Int.reduceToNat, s0, s1, s2, s6, r4096, s7, s10, r28816, r28704, s11, s12, r28784, s13, hz', hz, e1]
       rw [ev]
       exact ⟨congrArg some (pg_step _ _ _ _ _), i64c (by omega)⟩
      ·have hci : ¬ (m : Int) ≤ ((y % m : Nat) : Int) + ((z % m : Nat) : Int) := by omega
       refine Ycu ?_
       refine FIN_of (by kernel_rfl) ?_
       simp (maxSteps := 10000000) (disch := first | assumption | omega) only [go_sem, ↓reduceIte, Nat.reduceEqDiff, reduceCtorEq, Nat.reduceAdd, Nat.reduceMul, Nat.reduceLeDiff, zc, Int.reduceToNat, s0, s1, s2, s6, r4096, s7, s10, r28816, r28704, s11, s12, r28784, s13, hz', hz, e1, eq_false hci]
       refine ⟨congrArg some (cube_congr fun a b c _ _ _ => ?_), i64c (by omega)⟩
       by_cases h : a = x ∧ b = y ∧ c = z
       ·obtain ⟨rfl, rfl, rfl⟩ := h
        simp only [pgF, mxF, if_neg hc, ite_self]
       ·have e : (a < x ∨ (a = x ∧ (b < y ∨ (b = y ∧ c < z)))) ↔ (a < x ∨ (a = x ∧ (b < y ∨ (b = y ∧ c < z + 1)))) := by omega
        simp only [pgF, e]
     ·rintro sl ro gn ⟨s0, s1, s2, s6, r4096, s7, s10, r28816, r28704, s11, s12, r28784, s13⟩
      dsimp only at s0 s1 s2 s6 r4096 s7 s10 r28816 r28704 s11 s12 r28784 s13
      have hz' : ¬ (((n * m) : Nat) : Int) < ((n * m) : Nat) := by omega
      simp (maxSteps := 10000000) (disch := first | assumption | omega) only [go_sem, ↓reduceIte, Nat.reduceEqDiff, reduceCtorEq, Nat.reduceAdd, Nat.reduceMul, Nat.reduceLeDiff, zc, Int.reduceToNat, s0, s1, s2, s6, r4096, s7, s10, r28816, r28704, s11, s12, r28784, s13, hz', e1]
      exact ⟨congrArg some pg_z, i64c (by omega)⟩
    ·rintro sl ro gn ⟨s0, s1, s2, s6, r4096, s7, s10, r28816, r28704, s11, r28784, s12⟩
     dsimp only at s0 s1 s2 s6 r4096 s7 s10 r28816 r28704 s11 r28784 s12
     have hy' : ¬ (((n * m) : Nat) : Int) < ((n * m) : Nat) := by omega
     simp (maxSteps := 10000000) (disch := first | assumption | omega) only [go_sem, ↓reduceIte, Nat.reduceEqDiff, reduceCtorEq, Nat.reduceAdd, Nat.reduceMul, Nat.reduceLeDiff, zc, Int.reduceToNat, s0, s1, s2, s6, r4096, s7, s10, r28816, r28704, s11, r28784, s12, hy', e1]
     exact ⟨congrArg some pg_y, i64c (by omega)⟩
   ·rintro sl ro gn ⟨s0, s1, s2, s6, r4096, s7, s10, r28816, r28704, r28784, s11⟩
    dsimp only at s0 s1 s2 s6 r4096 s7 s10 r28816 r28704 r28784 s11
    have hx' : ¬ (((n * m) : Nat) : Int) < ((n * m) : Nat) := by omega
    rw [pg_n] at r28784
    simp (maxSteps := 10000000) (disch := first | assumption | omega) only [go_sem, ↓reduceIte, Nat.reduceEqDiff, reduceCtorEq, Nat.reduceAdd, Nat.reduceMul, Nat.reduceLeDiff, zc, Int.reduceToNat, s0, s1, s2, s6, r4096, s7, s10, r28816, r28704, r28784, s11, hx', e1]
    simp only [zr, zb, retR, resL, outT, outL, zes, zez, oneV, zcp, zed, zfi, Ro.dl, St.ev, zhk, ↓za, ↓reduceIte, Nat.reduceEqDiff, Nat.reduceAdd, Nat.reduceLeDiff, tiC, s6, r28816, r28704, r28784]
def stW (n : Nat) (a : Int) (x y z : Nat) : Int := if n ≤ y + z then a * n * x % (2 * n) else 0
def stC (n : Nat) (a : Int) (x y : Nat) : Int := a * x * y % (2 * n)
set_option maxHeartbeats 4000000 in
theorem cStd {a : Int} (h0 : 0 < n) (h16 : n ≤ 16) (ha : 0 ≤ a ∧ a < 32) : CallOK Tryz.prog 67 [i64 (n : Int), i64 a] (.agg [rowL [(n : Int)], i64 (2 * (n : Int)), cubeA (stW n a) n, matA (stC n a) n n]) := by
 have hmx : n ≤ maxN := Nat.le_trans h16 (by decide)
 have hn0 : ¬ 2 * (n : Int) = 0 := by omega
 refine call_of (fn := Tryz.f67) (code := bodyOf Tryz.f67) Tryz.func67 rfl (by kernel_rfl) (noRef_bb _ _ _ _ _) ?_
 intro sl hs
 have s0 : sl 0 = i64 (n : Int) := hs 0
 have s1 : sl 1 = i64 a := hs 1
 dsimp only [Tryz.f67, bodyOf, Option.getD]
 refine Yac ?_
 refine CLL_pure _ (c101 hmx) rfl rfl rfl ?_
 refine Yac ?_
 refine WK_for (fun x st => st.sl 0 = i64 (n : Int) ∧ st.sl 1 = i64 a ∧ st.sl 4 = .ptr 4096 1 [] 0 ∧ st.ro 4096 1 = some (.bx [nilA, i64 0, nilA, nilA]) ∧ st.sl 5 = i64 (2 * (n : Int)) ∧ st.sl 6 = .ptr 12400 1 [] 0 ∧ st.ro 12304 1 = some (rowL [(n : Int)]) ∧ st.ro 12352 1 = some (cubeA (pgF (stW n a) x 0 0) n) ∧ st.sl 7 = i64 (x : Int) ∧ ((x = 0 ∧ st.ro 12400 1 = some (.bx [.ref 12304 1 [] 0 1, i64 (2 * (n : Int)), .ref 12352 1 [] 0 n, nilA])) ∨ (0 < x ∧ st.ro 12400 1 = some (.bx [.ref 12304 1 [] 0 1, i64 (2 * (n : Int)), .ref 12352 1 [] 0 n, .ref 73792 (st.gn 73792) [] 0 x]) ∧ st.ro 73792 (st.gn 73792) = some (.row (rws (fun x => .row (rws (fun y => i64 (stC n a x y)) n)) x))))) n ?_ ?_ ?_
 ·refine Yan ?_
  (repeat' apply And.intro) <;> first | exact rfl | exact congrArg some pg_0 | exact .inl trivial
 ·rintro x sl ro gn hx ⟨s0, s1, s4, r4096, s5, s6, r12304, r12352, s7, q⟩
  dsimp only at s0 s1 s4 r4096 s5 s6 r12304 r12352 s7
  have hx' : (x : Int) < (n : Nat) := by omega
  dsimp only at q
  have p0 : 0 ≤ a * (x : Int) := Int.mul_nonneg ha.1 (Int.natCast_nonneg _)
  have p1 : a * (x : Int) ≤ 32 * 16 := Int.mul_le_mul (by omega) (by omega) (by omega) (by omega)
  have p2 : 0 ≤ a * (n : Int) := Int.mul_nonneg ha.1 (Int.natCast_nonneg _)
  have p3 : a * (n : Int) ≤ 32 * 16 := Int.mul_le_mul (by omega) (by omega) (by omega) (by omega)
  have p4 : 0 ≤ a * (n : Int) * x := Int.mul_nonneg p2 (Int.natCast_nonneg _)
  have p5 : a * (n : Int) * x ≤ 32 * 16 * 16 := Int.mul_le_mul p3 (by omega) (by omega) (by omega)
  have et : (a * (n : Int) * x).tmod (2 * (n : Int)) = a * n * x % (2 * n) := Int.tmod_eq_emod_of_nonneg p4
  simp (maxSteps := 10000000) (disch := first | assumption | omega) only [go_sem, ↓reduceIte, Nat.reduceEqDiff, reduceCtorEq, Nat.reduceAdd, Nat.reduceMul, Nat.reduceLeDiff, zc, Int.reduceToNat, s0, s1, s4, r4096, s5, s6, r12304, r12352, s7, hx', hx]
  refine WK_for (fun y st => st.sl 0 = i64 (n : Int) ∧ st.sl 1 = i64 a ∧ st.sl 4 = .ptr 4096 1 [] 0 ∧ st.ro 4096 1 = some (.bx [nilA, i64 0, nilA, nilA]) ∧ st.sl 5 = i64 (2 * (n : Int)) ∧ st.sl 6 = .ptr 12400 1 [] 0 ∧ st.ro 12304 1 = some (rowL [(n : Int)]) ∧ st.sl 7 = i64 (x : Int) ∧ st.ro 12352 1 = some (cubeA (pgF (stW n a) x y 0) n) ∧ st.sl 8 = .ref 28672 (st.gn 28672) [] 0 y ∧ st.ro 28672 (st.gn 28672) = some (.row (rws (fun y => i64 (stC n a x y)) y)) ∧ st.sl 9 = i64 (y : Int) ∧ ((x = 0 ∧ st.ro 12400 1 = some (.bx [.ref 12304 1 [] 0 1, i64 (2 * (n : Int)), .ref 12352 1 [] 0 n, nilA])) ∨ (0 < x ∧ st.ro 12400 1 = some (.bx [.ref 12304 1 [] 0 1, i64 (2 * (n : Int)), .ref 12352 1 [] 0 n, .ref 73792 (st.gn 73792) [] 0 x]) ∧ st.ro 73792 (st.gn 73792) = some (.row (rws (fun x => .row (rws (fun y => i64 (stC n a x y)) n)) x))))) n ?_ ?_ ?_
  ·simp only [↓za, ↓reduceIte, Nat.reduceEqDiff, zb, reduceCtorEq, rws_zero, s0, s1, s4, r4096, s5, s6, r12304, r12352, s7, hx', hx]
   exact ⟨rfl, q⟩
  ·rintro y sl ro gn hy ⟨s0, s1, s4, r4096, s5, s6, r12304, s7, r12352, s8, r28672, s9, q⟩
   dsimp only at s0 s1 s4 r4096 s5 s6 r12304 s7 r12352 s8 r28672 s9
   have hy' : (y : Int) < (n : Nat) := by omega
   dsimp only at q
   have hy2 : y + 1 ≤ 4294967296 := by omega
   have p6 : 0 ≤ a * (x : Int) * y := Int.mul_nonneg p0 (Int.natCast_nonneg _)
   have p7 : a * (x : Int) * y ≤ 32 * 16 * 16 := Int.mul_le_mul p1 (by omega) (by omega) (by omega)
   have ec : (a * (x : Int) * y).tmod (2 * (n : Int)) = stC n a x y := Int.tmod_eq_emod_of_nonneg p6
   simp (maxSteps := 10000000) (disch := first | assumption | omega) only [go_sem, ↓reduceIte, Nat.reduceEqDiff, reduceCtorEq, Nat.reduceAdd, Nat.reduceMul, Nat.reduceLeDiff, zc, Int.reduceToNat, s0, s1, s4, r4096, s5, s6, r12304, s7, r12352, s8, r28672, s9, hy', hy, ec, hy2]
   refine WK_for (fun z st => st.sl 0 = i64 (n : Int) ∧ st.sl 1 = i64 a ∧ st.sl 4 = .ptr 4096 1 [] 0 ∧ st.ro 4096 1 = some (.bx [nilA, i64 0, nilA, nilA]) ∧ st.sl 5 = i64 (2 * (n : Int)) ∧ st.sl 6 = .ptr 12400 1 [] 0 ∧ st.ro 12304 1 = some (rowL [(n : Int)]) ∧ st.sl 7 = i64 (x : Int) ∧ st.sl 9 = i64 (y : Int) ∧ st.ro 12352 1 = some (cubeA (pgF (stW n a) x y z) n) ∧ st.sl 8 = .ref 28672 (st.gn 28672) [] 0 (y + 1) ∧ st.ro 28672 (st.gn 28672) = some (.row (rws (fun y => i64 (stC n a x y)) (y + 1))) ∧ st.sl 10 = i64 (z : Int) ∧ ((x = 0 ∧ st.ro 12400 1 = some (.bx [.ref 12304 1 [] 0 1, i64 (2 * (n : Int)), .ref 12352 1 [] 0 n, nilA])) ∨ (0 < x ∧ st.ro 12400 1 = some (.bx [.ref 12304 1 [] 0 1, i64 (2 * (n : Int)), .ref 12352 1 [] 0 n, .ref 73792 (st.gn 73792) [] 0 x]) ∧ st.ro 73792 (st.gn 73792) = some (.row (rws (fun x => .row (rws (fun y => i64 (stC n a x y)) n)) x))))) n ?_ ?_ ?_
   ·simp only [↓za, ↓reduceIte, Nat.reduceEqDiff, zb, reduceCtorEq, rws_zero, s0, s1, s4, r4096, s5, s6, r12304, s7, r12352, s8, r28672, s9, hy', hy]
    (repeat' apply And.intro) <;> first | exact rfl | exact q
   ·rintro z sl ro gn hz ⟨s0, s1, s4, r4096, s5, s6, r12304, s7, s9, r12352, s8, r28672, s10, q⟩
    dsimp only at s0 s1 s4 r4096 s5 s6 r12304 s7 s9 r12352 s8 r28672 s10
    have hz' : (z : Int) < (n : Nat) := by omega
    dsimp only at q
    by_cases hc : n ≤ y + z
    ·have hci : (n : Int) ≤ (y : Int) + (z : Int) := by omega
     have ev : a * (n : Int) * x % (2 * n) = stW n a x y z := by unfold stW; rw [if_pos hc]
     rcases q with ⟨hx0, q2⟩ | ⟨hx0, q2, q3⟩
     ·refine Ycg ?_
      rw [ev]
      exact ⟨congrArg some (pg_step _ _ _ _ _), i64c (by omega), by first | exact .inl hx0 | exact .inl ⟨hx0, q2⟩⟩
     ·refine Ycg ?_
      rw [ev]
      exact ⟨congrArg some (pg_step _ _ _ _ _), i64c (by omega), by first | exact .inr hx0 | exact .inr ⟨hx0, q3⟩ | exact .inr ⟨hx0, q2, q3⟩⟩
    ·have hci : ¬ (n : Int) ≤ (y : Int) + (z : Int) := by omega
     simp (maxSteps := 10000000) (disch := first | assumption | omega) only [go_sem, ↓reduceIte, Nat.reduceEqDiff, reduceCtorEq, Nat.reduceAdd, Nat.reduceMul, Nat.reduceLeDiff, zc, Int.reduceToNat, s0, s1, s4, r4096, s5, s6, r12304, s7, s9, r12352, s8, r28672, s10, hz', hz, eq_false hci]
     refine ⟨congrArg some (cube_congr fun u b c _ _ _ => ?_), i64c (by omega), q⟩
     by_cases h : u = x ∧ b = y ∧ c = z
     ·obtain ⟨rfl, rfl, rfl⟩ := h
      simp only [pgF, stW, if_neg hc, ite_self]
     ·have e : (u < x ∨ (u = x ∧ (b < y ∨ (b = y ∧ c < z)))) ↔ (u < x ∨ (u = x ∧ (b < y ∨ (b = y ∧ c < z + 1)))) := by omega
      simp only [pgF, e]
   ·rintro sl ro gn ⟨s0, s1, s4, r4096, s5, s6, r12304, s7, s9, r12352, s8, r28672, s10, q⟩
    dsimp only at s0 s1 s4 r4096 s5 s6 r12304 s7 s9 r12352 s8 r28672 s10
    have hz' : ¬ ((n : Nat) : Int) < (n : Nat) := by omega
    dsimp only at q
    simp (maxSteps := 10000000) (disch := first | assumption | omega) only [go_sem, ↓reduceIte, Nat.reduceEqDiff, reduceCtorEq, Nat.reduceAdd, Nat.reduceMul, Nat.reduceLeDiff, zc, Int.reduceToNat, s0, s1, s4, r4096, s5, s6, r12304, s7, s9, r12352, s8, r28672, s10, hz']
    exact ⟨congrArg some pg_z, i64c (by omega), q⟩
  ·rintro sl ro gn ⟨s0, s1, s4, r4096, s5, s6, r12304, s7, r12352, s8, r28672, s9, q⟩
   dsimp only at s0 s1 s4 r4096 s5 s6 r12304 s7 r12352 s8 r28672 s9
   have hy' : ¬ ((n : Nat) : Int) < (n : Nat) := by omega
   dsimp only at q
   have hx2 : x + 1 ≤ 4294967296 := by omega
   rcases q with ⟨hx0, q2⟩ | ⟨hx0, q2, q3⟩
   ·subst hx0
    simp (maxSteps := 10000000) (disch := first | assumption | omega) only [go_sem, ↓reduceIte, Nat.reduceEqDiff, reduceCtorEq, Nat.reduceAdd, Nat.reduceMul, Nat.reduceLeDiff, zc, Int.reduceToNat, s0, s1, s4, r4096, s5, s6, r12304, s7, r12352, s8, r28672, s9, hy', q2, hx2]
    exact ⟨congrArg some pg_y, i64c (by omega), .inr rfl⟩
   ·simp (maxSteps := 10000000) (disch := first | assumption | omega) only [go_sem, ↓reduceIte, Nat.reduceEqDiff, reduceCtorEq, Nat.reduceAdd, Nat.reduceMul, Nat.reduceLeDiff, zc, Int.reduceToNat, s0, s1, s4, r4096, s5, s6, r12304, s7, r12352, s8, r28672, s9, hy', q2, q3, hx2]
    exact ⟨congrArg some pg_y, i64c (by omega), .inr trivial⟩
 ·rintro sl ro gn ⟨s0, s1, s4, r4096, s5, s6, r12304, r12352, s7, q⟩
  dsimp only at s0 s1 s4 r4096 s5 s6 r12304 r12352 s7
  have hx' : ¬ ((n : Nat) : Int) < (n : Nat) := by omega
  dsimp only at q
  rw [pg_n] at r12352
  rcases q with ⟨hx0, q2⟩ | ⟨hx0, q2, q3⟩
  ·omega
  ·simp (maxSteps := 10000000) (disch := first | assumption | omega) only [go_sem, ↓reduceIte, Nat.reduceEqDiff, reduceCtorEq, Nat.reduceAdd, Nat.reduceMul, Nat.reduceLeDiff, zc, Int.reduceToNat, s0, s1, s4, r4096, s5, s6, r12304, r12352, s7, hx', q2, q3]
   simp only [zr, zb, retR, resL, outT, outL, zes, zez, oneV, zcp, zed, zfi, Ro.dl, St.ev, zhk, ↓za, ↓reduceIte, Nat.reduceEqDiff, Nat.reduceAdd, Nat.reduceLeDiff, tiD, s4, q2, q3, r12304, r12352]
end
end Go.Proofs.YtmchdjiigfiabaaGreat
