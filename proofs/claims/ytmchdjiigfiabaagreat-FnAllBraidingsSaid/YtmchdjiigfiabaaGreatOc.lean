/- Texts joined: QB QC QD. -/
import Derived.Test.YtmchdjiigfiabaaGreatOb
set_option linter.all false
/- Pairings, drawn. -/
namespace Go.Proofs.YtmchdjiigfiabaaGreat
open Go.RowKit
set_option maxRecDepth 1000000
def WPr : List Nat := [8288, 8192, 24576, 45072, 49232, 53280]
def RPr (n : Nat) (m : Int) (gn : Nat → Nat) (r : AV) (ro' : Ro) (gn' : Nat → Nat) : Prop := ∃ (G : Nat → Nat → Int) (u : Nat), r = .ref 8192 u [] 0 n ∧ gn 8192 < u ∧ u ≤ gn' 8192 ∧ ro' 8192 u = some (matA G n n) ∧ ∀ x, x < n → ∀ y, y < n → 0 ≤ G x y ∧ G x y < m ∧ (x = 0 ∨ y = 0 → G x y = 0)
theorem RPr.loc {n : Nat} {m : Int} : ∀ gn r ro' gn' ro2 gn1 gn2, (∀ s, s ∈ WPr → ro2 s = ro' s ∧ gn1 s = gn s ∧ gn2 s = gn' s) → RPr n m gn r ro' gn' → RPr n m gn1 r ro2 gn2 := by
 rintro gn r ro' gn' ro2 gn1 gn2 h ⟨G, u, e1, e2, e3, e4, e5⟩
 obtain ⟨h1, h2, h3⟩ := h 8192 (by decide)
 exact ⟨G, u, e1, by rw [h2]; exact e2, by rw [h3]; exact e3, by rw [h1]; exact e4, e5⟩
theorem rws_ext (h : Nat → Int) (y : Nat) (v : Int) : rws (fun j => i64 (h j)) y ++ [i64 v] = rws (fun j => i64 (if j = y then v else h j)) (y + 1) := by
 have e : rws (fun j => i64 (h j)) y = rws (fun j => i64 (if j = y then v else h j)) y := rws_congr fun j hj => by rw [if_neg (by omega)]
 have e2 : i64 v = (fun j => i64 (if j = y then v else h j)) y := by simp
 rw [e, e2]
 exact zfm (fun j => i64 (if j = y then v else h j)) y
theorem mat_snoc (G : Nat → Nat → Int) (h : Nat → Int) (n x : Nat) : rws (fun i => AV.row (rws (fun j => i64 (G i j)) n)) x ++ [.row (rws (fun j => i64 (h j)) n)] = rws (fun i => .row (rws (fun j => i64 ((if i = x then h else G i) j)) n)) (x + 1) := by
 have e : rws (fun i => AV.row (rws (fun j => i64 (G i j)) n)) x = rws (fun i => .row (rws (fun j => i64 ((if i = x then h else G i) j)) n)) x := rws_congr fun i hi => by rw [if_neg (by omega)]
 have e2 : AV.row (rws (fun j => i64 (h j)) n) = (fun i => .row (rws (fun j => i64 ((if i = x then h else G i) j)) n)) x := by simp
 rw [e, e2]
 exact zfm (fun i => AV.row (rws (fun j => i64 ((if i = x then h else G i) j)) n)) x
theorem all_ext {P : Nat → Int → Prop} {h : Nat → Int} {y : Nat} {v : Int} (hp : ∀ j, j < y → P j (h j)) (hv : P y v) : ∀ j, j < y + 1 → P j (if j = y then v else h j) := by
 intro j hj
 by_cases e : j = y
 ·subst e; rw [if_pos rfl]; exact hv
 ·rw [if_neg e]; exact hp j (by omega)
section
variable {a : AV} {bs : List Int} {g : Nat} {rb : Ro} {gb : Nat → Nat} {m : Int} {n : Nat}
set_option maxHeartbeats 4000000 in
theorem sPairing (hc : Cod a bs) (hs : Src a bs (rb 8288 g)) (hn : n ≤ 16) (hm : 1 ≤ m ∧ m ≤ 1000) : InS Tryz.prog 68 [.ptr 8288 g [] 0, i64 (n : Int), i64 m] rb gb
  (fun r ro' gn' => Frm WPr g rb gb ro' gn' ∧ Src a bs (ro' 8288 g) ∧ RPr n m gb r ro' gn') := by
 have m1 : 8288 ∈ WPr := by simp [WPr]
 have m2 : 8192 ∈ WPr := by simp [WPr]
 have m3 : 24576 ∈ WPr := by simp [WPr]
 have m4 : 45072 ∈ WPr := by simp [WPr]
 have m5 : 49232 ∈ WPr := by simp [WPr]
 have m6 : 53280 ∈ WPr := by simp [WPr]
 have hS0 := hs
 have emx : mxI 1 m = m := by unfold mxI; split <;> omega
 refine in_ofS (fn := Tryz.f68) (code := bodyOf Tryz.f68) Tryz.func68 rfl (by kernel_rfl) ?_
 intro sl hs
 have s0 : sl 0 = .ptr 8288 g [] 0 := hs 0
 have s1 : sl 1 = i64 (n : Int) := hs 1
 have s2 : sl 2 = i64 m := hs 2
 dsimp only [Tryz.f68, bodyOf, Option.getD]
 refine Yae ?_
 refine WK_for (fun x st => st.sl 0 = .ptr 8288 g [] 0 ∧ st.sl 1 = i64 (n : Int) ∧ st.sl 2 = i64 m ∧ st.sl 7 = .ref 8192 (st.gn 8192) [] 0 x ∧ st.sl 8 = i64 (x : Int) ∧ (∃ G : Nat → Nat → Int, st.ro 8192 (st.gn 8192) = some (.row (rws (fun i => .row (rws (fun j => i64 (G i j)) n)) x)) ∧ ∀ i, i < x → ∀ j, j < n → 0 ≤ G i j ∧ G i j < m ∧ (i = 0 ∨ j = 0 → G i j = 0)) ∧ (Frm WPr g rb gb st.ro st.gn) ∧ (Src a bs (st.ro 8288 g)) ∧ (gb 8192 < st.gn 8192)) n ?_ ?_ ?_
 ·refine Ybv ?_
  exact ⟨rfl, ⟨fun _ _ => 0, fun i hi => absurd hi (Nat.not_lt_zero _)⟩, (Frm.refl WPr g rb gb).al 8192 _ _ m2 rfl, hS0, by omega⟩
 ·rintro x sl ro gn hx ⟨s0, s1, s2, s7, s8, q, hF, hS, u1⟩
  dsimp only at s0 s1 s2 s7 s8
  have hx' : (x : Int) < (n : Nat) := by omega
  dsimp only at q hF hS u1
  obtain ⟨G, qG, qb⟩ := q
  have hx2 : x + 1 ≤ 4294967296 := by omega
  simp (maxSteps := 10000000) (disch := first | assumption | omega) only [go_sem, ↓reduceIte, Nat.reduceEqDiff, reduceCtorEq, Nat.reduceAdd, Nat.reduceMul, Nat.reduceLeDiff, zc, Int.reduceToNat, s0, s1, s2, s7, s8, hx', hx]
  refine WK_for (fun y st => st.sl 0 = .ptr 8288 g [] 0 ∧ st.sl 1 = i64 (n : Int) ∧ st.sl 2 = i64 m ∧ st.sl 7 = .ref 8192 (st.gn 8192) [] 0 x ∧ st.sl 8 = i64 (x : Int) ∧ st.sl 9 = .ref 24576 (st.gn 24576) [] 0 y ∧ st.sl 10 = i64 (y : Int) ∧ (∃ h : Nat → Int, st.ro 24576 (st.gn 24576) = some (.row (rws (fun j => i64 (h j)) y)) ∧ ∀ j, j < y → 0 ≤ h j ∧ h j < m ∧ (x = 0 ∨ j = 0 → h j = 0)) ∧ st.ro 8192 (st.gn 8192) = some (.row (rws (fun i => .row (rws (fun j => i64 (G i j)) n)) x)) ∧ (Frm WPr g rb gb st.ro st.gn) ∧ (Src a bs (st.ro 8288 g)) ∧ (gb 8192 < st.gn 8192) ∧ (gb 24576 < st.gn 24576)) n ?_ ?_ ?_
  ·simp only [↓za, ↓reduceIte, Nat.reduceEqDiff, zb, reduceCtorEq, rws_zero, s0, s1, s2, s7, s8, hx', hx]
   refine ⟨rfl, ⟨fun _ => 0, fun j hj => absurd hj (Nat.not_lt_zero _)⟩, qG, hF.al 24576 _ _ m3 rfl, hS, u1, ?_⟩
   have := hF.up 24576
   omega
  ·rintro y sl ro gn hy ⟨s0, s1, s2, s7, s8, s9, s10, q, r8192, hF, hS, u1, u2⟩
   dsimp only at s0 s1 s2 s7 s8 s9 s10 r8192
   have hy' : (y : Int) < (n : Nat) := by omega
   dsimp only at q hF hS u1 u2
   obtain ⟨h, qh, qc⟩ := q
   have hy2 : y + 1 ≤ 4294967296 := by omega
   by_cases hx0 : x = 0
   ·have hx0' : (x : Int) = 0 := by omega
    simp (maxSteps := 10000000) (disch := first | assumption | omega) only [go_sem, ↓reduceIte, Nat.reduceEqDiff, reduceCtorEq, Nat.reduceAdd, Nat.reduceMul, Nat.reduceLeDiff, zc, Int.reduceToNat, s0, s1, s2, s7, s8, s9, s10, r8192, hy', hy, qh, eq_true hx0', hy2]
    refine ⟨i64c (by omega), ⟨fun j => if j = y then 0 else h j, congrArg (fun z => some (AV.row z)) (rws_ext h y 0), all_ext (P := fun j v => 0 ≤ v ∧ v < m ∧ (x = 0 ∨ j = 0 → v = 0)) qc ⟨by omega, by omega, fun _ => rfl⟩⟩, ?_, hS, u1⟩
    (repeat' first | assumption | exact Frm.refl _ _ _ _ | refine Frm.al ?_ _ _ _ (by decide) rfl | refine Frm.wr ?_ _ _ _ (by decide) (by omega) | refine Frm.src ?_ _ (by decide))
   ·have hx0' : ¬ (x : Int) = 0 := by omega
    by_cases hy0 : y = 0
    ·have hy0' : (y : Int) = 0 := by omega
     simp (maxSteps := 10000000) (disch := first | assumption | omega) only [go_sem, ↓reduceIte, Nat.reduceEqDiff, reduceCtorEq, Nat.reduceAdd, Nat.reduceMul, Nat.reduceLeDiff, zc, Int.reduceToNat, s0, s1, s2, s7, s8, s9, s10, r8192, hy', hy, qh, eq_false hx0', eq_true hy0', hy2]
     refine ⟨i64c (by omega), ⟨fun j => if j = y then 0 else h j, congrArg (fun z => some (AV.row z)) (rws_ext h y 0), all_ext (P := fun j v => 0 ≤ v ∧ v < m ∧ (x = 0 ∨ j = 0 → v = 0)) qc ⟨by omega, by omega, fun _ => rfl⟩⟩, ?_, hS, u1⟩
     (repeat' first | assumption | exact Frm.refl _ _ _ _ | refine Frm.al ?_ _ _ _ (by decide) rfl | refine Frm.wr ?_ _ _ _ (by decide) (by omega) | refine Frm.src ?_ _ (by decide))
    ·have hy0' : ¬ (y : Int) = 0 := by omega
     simp (maxSteps := 10000000) (disch := first | assumption | omega) only [go_sem, ↓reduceIte, Nat.reduceEqDiff, reduceCtorEq, Nat.reduceAdd, Nat.reduceMul, Nat.reduceLeDiff, zc, Int.reduceToNat, s0, s1, s2, s7, s8, s9, s10, r8192, hy', hy, qh, eq_false hx0', eq_false hy0', emx]
     refine CLL_inS rfl (sNext hc hS (n := m) (by omega)) ?_
     rintro _ _ _ ⟨v, rfl, -, hv, rfl, w, rfl, hw⟩
     obtain ⟨v0, v1⟩ := hv (by omega)
     simp (maxSteps := 10000000) (disch := first | assumption | omega) only [go_sem, ↓reduceIte, Nat.reduceEqDiff, reduceCtorEq, Nat.reduceAdd, Nat.reduceMul, Nat.reduceLeDiff, zc, Int.reduceToNat, s0, s1, s2, s7, s8, s9, s10, r8192, hy', hy, qh, hy2]
     refine ⟨i64c (by omega), ⟨fun j => if j = y then v else h j, congrArg (fun z => some (AV.row z)) (rws_ext h y v), all_ext (P := fun j v => 0 ≤ v ∧ v < m ∧ (x = 0 ∨ j = 0 → v = 0)) qc ⟨v0, v1, fun h => by omega⟩⟩, ?_, hw, u1⟩
     (repeat' first | assumption | exact Frm.refl _ _ _ _ | refine Frm.al ?_ _ _ _ (by decide) rfl | refine Frm.wr ?_ _ _ _ (by decide) (by omega) | refine Frm.src ?_ _ (by decide))
  ·rintro sl ro gn ⟨s0, s1, s2, s7, s8, s9, s10, q, r8192, hF, hS, u1, u2⟩
   dsimp only at s0 s1 s2 s7 s8 s9 s10 r8192
   have hy' : ¬ ((n : Nat) : Int) < (n : Nat) := by omega
   dsimp only at q hF hS u1 u2
   obtain ⟨h, qh, qc⟩ := q
   simp (maxSteps := 10000000) (disch := first | assumption | omega) only [go_sem, ↓reduceIte, Nat.reduceEqDiff, reduceCtorEq, Nat.reduceAdd, Nat.reduceMul, Nat.reduceLeDiff, zc, Int.reduceToNat, s0, s1, s2, s7, s8, s9, s10, r8192, hy', qh, hx2]
   have u6 := hF.up 53280
   refine ⟨i64c (by omega), ⟨fun i => if i = x then h else G i, congrArg (fun z => some (AV.row z)) (mat_snoc G h n x), fun i hi j hj => ?_⟩, ?_, hS⟩
   ·dsimp only
    by_cases e : i = x
    ·rw [if_pos e, e]; exact qc j hj
    ·rw [if_neg e]; exact qb i (by omega) j hj
   ·(repeat' first | assumption | exact Frm.refl _ _ _ _ | refine Frm.al ?_ _ _ _ (by decide) rfl | refine Frm.wr ?_ _ _ _ (by decide) (by omega) | refine Frm.src ?_ _ (by decide))
 ·rintro sl ro gn ⟨s0, s1, s2, s7, s8, q, hF, hS, u1⟩
  dsimp only at s0 s1 s2 s7 s8
  have hx' : ¬ ((n : Nat) : Int) < (n : Nat) := by omega
  dsimp only at q hF hS u1
  obtain ⟨G, qG, qb⟩ := q
  simp (maxSteps := 10000000) (disch := first | assumption | omega) only [go_sem, ↓reduceIte, Nat.reduceEqDiff, reduceCtorEq, Nat.reduceAdd, Nat.reduceMul, Nat.reduceLeDiff, zc, Int.reduceToNat, s0, s1, s2, s7, s8, hx']
  exact RETS_1 _ Ur ⟨hF, hS, G, _, rfl, u1, Nat.le_refl _, qG, qb⟩
end
end Go.Proofs.YtmchdjiigfiabaaGreat
/- Bicharacters, drawn. -/
namespace Go.Proofs.YtmchdjiigfiabaaGreat
open Go.RowKit
set_option maxRecDepth 1000000
def dgq (O : List Int) (x : Int) : Nat → Int
 | 0 => x
 | k + 1 => dgq O x k / atI O (O.length - 1 - k)
def dgD (O : List Int) (x : Int) (j : Nat) : Int := dgq O x (O.length - 1 - j) % atI O j
theorem dgq_rng {O : List Int} (h : ∀ i, i < O.length → 1 ≤ atI O i) {x : Int} (hx : 0 ≤ x ∧ x < 4294967296) : ∀ {k : Nat}, k ≤ O.length → 0 ≤ dgq O x k ∧ dgq O x k < 4294967296
 | 0, _ => hx
 | k + 1, hk => by
  obtain ⟨h1, h2⟩ := dgq_rng h hx (k := k) (by omega)
  have h3 := h (O.length - 1 - k) (by omega)
  have := Int.ediv_le_self (atI O (O.length - 1 - k)) h1
  exact ⟨Int.ediv_nonneg h1 (by omega), by simp only [dgq]; omega⟩
theorem cDigits {O : List Int} (hO : GrpP O) {x : Int} (hx : 0 ≤ x ∧ x < 4294967296) : CallOK Tryz.prog 94 [immL O, i64 x] (.row (rws (fun j => i64 (dgD O x j)) O.length)) := by
 have ho := isL_imm O
 have hl1 := hO.l1
 have hl4 := hO.l4
 have hge1 : ∀ i, i < O.length → 1 ≤ atI O i := fun i hi => (hO.rg i hi).1
 have hm' : (O.length : Int) ≤ ((4294967296 : Nat) : Int) := by omega
 have e0 : AV.row (rws (fun j => i64 (dgD O x j)) O.length) = .row (rws (fun j => i64 (if O.length ≤ j + O.length then dgD O x j else 0)) O.length) := congrArg AV.row (rws_congr fun j hj => by rw [if_pos (by omega)])
 rw [e0]
 refine call_of (fn := Tryz.f94) (code := bodyOf Tryz.f94) Tryz.func94 rfl (by kernel_rfl) (noRef_row _ (noRefL_rws _ _ fun _ => rfl)) ?_
 intro sl hs
 have s0 : sl 0 = immL O := hs 0
 have s1 : sl 1 = i64 x := hs 1
 dsimp only [Tryz.f94, bodyOf, Option.getD]
 refine Yde ?_
 refine WK_for (fun k st => st.sl 0 = immL O ∧ st.sl 1 = i64 (dgq O x k) ∧ st.sl 5 = .ref 8224 1 [] 0 O.length ∧ st.ro 8224 1 = some (.row (rws (fun j => i64 (if O.length ≤ j + k then dgD O x j else 0)) O.length)) ∧ st.sl 6 = i64 ((O.length : Int) - 1 - (k : Int))) O.length ?_ ?_ ?_
 ·refine Yan ?_
  exact ⟨rfl, congrArg some (congrArg AV.row (rws_congr fun j hj => by rw [if_neg (by omega)])), i64c (by omega)⟩
 ·rintro k sl ro gn hk ⟨s0, s1, s5, r8224, s6⟩
  dsimp only at s0 s1 s5 r8224 s6
  have hk' : (k : Int) < (O.length : Nat) := by omega
  have hidx : ((O.length : Int) - 1 - (k : Int)) = ((O.length - 1 - k : Nat) : Int) := by omega
  have hge : (0 : Int) ≤ ((O.length - 1 - k : Nat) : Int) := by omega
  have hkk : O.length - 1 - k < O.length := by omega
  obtain ⟨q1, q2⟩ := dgq_rng hge1 hx (k := k) (by omega)
  obtain ⟨q3, q4⟩ := dgq_rng hge1 hx (k := k + 1) (by omega)
  obtain ⟨m1, m2⟩ := hO.rg _ hkk
  have hdg : dgD O x (O.length - 1 - k) = dgq O x k % atI O (O.length - 1 - k) := by
   unfold dgD
   rw [show O.length - 1 - (O.length - 1 - k) = k by omega]
  have hd0 : 0 ≤ dgD O x (O.length - 1 - k) := by rw [hdg]; exact Int.emod_nonneg _ (by omega)
  have hd1 : dgD O x (O.length - 1 - k) < atI O (O.length - 1 - k) := by rw [hdg]; exact Int.emod_lt_of_pos _ (by omega)
  have hmz : ¬ atI O (O.length - 1 - k) = 0 := by omega
  have eu : (dgq O x k).tmod (atI O (O.length - 1 - k)) = dgD O x (O.length - 1 - k) := by rw [hdg]; exact Int.tmod_eq_emod_of_nonneg q1
  have du : (dgq O x k).tdiv (atI O (O.length - 1 - k)) = dgq O x (k + 1) := Int.tdiv_eq_ediv_of_nonneg q1
  simp (maxSteps := 10000000) (disch := first | assumption | omega) only [go_sem, ↓reduceIte, Nat.reduceEqDiff, reduceCtorEq, Nat.reduceAdd, Nat.reduceMul, Nat.reduceLeDiff, zc, Int.reduceToNat, s0, s1, s5, r8224, s6, hk', hk, hidx, hge, eu, du]
  refine ⟨congrArg (fun z => some (AV.row z)) ?_, i64c (by omega)⟩
  rw [rws_set]
  refine rws_congr fun j hj => ?_
  by_cases e : j = O.length - 1 - k
  ·rw [if_pos e, if_pos (by omega), e]
  ·rw [if_neg e]
   have e2 : (O.length ≤ j + k) ↔ (O.length ≤ j + (k + 1)) := by omega
   simp only [e2]
 ·rintro sl ro gn ⟨s0, s1, s5, r8224, s6⟩
  dsimp only at s0 s1 s5 r8224 s6
  have hk' : ¬ ((O.length : Nat) : Int) < (O.length : Nat) := by omega
  have hlt : ¬ (0 : Int) ≤ (O.length : Int) - 1 - (O.length : Int) := by omega
  simp (maxSteps := 10000000) (disch := first | assumption | omega) only [go_sem, ↓reduceIte, Nat.reduceEqDiff, reduceCtorEq, Nat.reduceAdd, Nat.reduceMul, Nat.reduceLeDiff, zc, Int.reduceToNat, s0, s1, s5, r8224, s6, hk', eq_false hlt]
  simp only [zr, zb, retR, resL, outT, outL, zes, zez, oneV, zcp, zed, zfi, Ro.dl, St.ev, zhk, ↓za, ↓reduceIte, Nat.reduceEqDiff, Nat.reduceAdd, Nat.reduceLeDiff, r8224]
  exact e0.symm
theorem dgD_rng {O : List Int} (hO : GrpP O) (x : Int) {j : Nat} (hj : j < O.length) : 0 ≤ dgD O x j ∧ dgD O x j < 16 := by
 have := hO.rg j hj
 unfold dgD
 have h1 := Int.emod_nonneg (dgq O x (O.length - 1 - j)) (show atI O j ≠ 0 by omega)
 have h2 := Int.emod_lt_of_pos (dgq O x (O.length - 1 - j)) (show 0 < atI O j by omega)
 omega
theorem cGcdI {x y : Int} (hx : 0 ≤ x ∧ x < 4294967296) (hy : 0 ≤ y ∧ y < 4294967296) : CallOK Tryz.prog 38 [i64 x, i64 y] (i64 (Int.gcd x y : Nat)) := by
 obtain ⟨p, rfl⟩ := Int.eq_ofNat_of_zero_le hx.1
 obtain ⟨q, rfl⟩ := Int.eq_ofNat_of_zero_le hy.1
 exact cGcd (by omega) (by omega)
def WCh : List Nat := [8288, 4096, 12304, 12352, 12400, 16384, 32768, 53376, 57376, 73728, 90144, 90192, 122944, 127024, 127040]
def RCh (O : List Int) (n : Nat) (m : Int) (gn : Nat → Nat) (r : AV) (ro' : Ro) (gn' : Nat → Nat) : Prop := ∃ (C : Nat → Nat → Int) (u1 u2 u3 : Nat), r = .agg [.ref 12304 u1 [] 0 O.length, i64 m, .ref 12352 u2 [] 0 n, .ref 127040 u3 [] 0 n] ∧ gn 12304 < u1 ∧ u1 ≤ gn' 12304 ∧ gn 12352 < u2 ∧ u2 ≤ gn' 12352 ∧ gn 127040 < u3 ∧ u3 ≤ gn' 127040 ∧
 ro' 12304 u1 = some (rowL O) ∧ ro' 12352 u2 = some (cubeA (fun _ _ _ => 0) n) ∧ ro' 127040 u3 = some (matA C n n) ∧ ∀ x, x < n → ∀ y, y < n → 0 ≤ C x y ∧ C x y < m
structure ChI (a : AV) (bs : List Int) (g : Nat) (rb : Ro) (gb : Nat → Nat) (n : Nat) (O : List Int) (ro : Ro) (gn : Nat → Nat) : Prop where
 hF : Frm WCh g rb gb ro gn
 hS : Src a bs (ro 8288 g)
 hA : ro 4096 (gb 4096 + 1) = some (.bx [nilA, i64 0, nilA, nilA])
 hB : ro 12304 (gb 12304 + 1) = some (rowL O)
 hC : ro 12352 (gb 12352 + 1) = some (cubeA (fun _ _ _ => 0) n)
 k1 : gn 12304 = gb 12304 + 1
 k2 : gn 12352 = gb 12352 + 1
section
variable {a : AV} {bs : List Int} {g : Nat} {rb : Ro} {gb : Nat → Nat} {n : Nat} {O : List Int} {ro : Ro} {gn : Nat → Nat}
theorem ChI.al (h : ChI a bs g rb gb n O ro gn) (t u : Nat) (v : AV) (hW : t ∈ WCh) (ht : t ≠ 8288 ∧ t ≠ 4096 ∧ t ≠ 12304 ∧ t ≠ 12352) (hu : u = gn t + 1) : ChI a bs g rb gb n O (upr ro t u v) (upg gn t u) := by
 obtain ⟨t1, t2, t3, t4⟩ := ht
 refine ⟨h.hF.al t u v hW hu, ?_, ?_, ?_, ?_, ?_, ?_⟩
 ·rw [upr_col (Ne.symm t1)]; exact h.hS
 ·rw [upr_col (Ne.symm t2)]; exact h.hA
 ·rw [upr_col (Ne.symm t3)]; exact h.hB
 ·rw [upr_col (Ne.symm t4)]; exact h.hC
 ·rw [zda, if_neg (Ne.symm t3)]; exact h.k1
 ·rw [zda, if_neg (Ne.symm t4)]; exact h.k2
theorem ChI.wr (h : ChI a bs g rb gb n O ro gn) (t u : Nat) (v : AV) (hW : t ∈ WCh) (ht : t ≠ 8288 ∧ t ≠ 4096 ∧ t ≠ 12304 ∧ t ≠ 12352) (hu : gb t < u) : ChI a bs g rb gb n O (upr ro t u v) gn := by
 obtain ⟨t1, t2, t3, t4⟩ := ht
 refine ⟨h.hF.wr t u v hW hu, ?_, ?_, ?_, ?_, h.k1, h.k2⟩
 ·rw [upr_col (Ne.symm t1)]; exact h.hS
 ·rw [upr_col (Ne.symm t2)]; exact h.hA
 ·rw [upr_col (Ne.symm t3)]; exact h.hB
 ·rw [upr_col (Ne.symm t4)]; exact h.hC
theorem ChI.src (h : ChI a bs g rb gb n O ro gn) (w : AV) (hw : Src a bs (some w)) : ChI a bs g rb gb n O (upr ro 8288 g w) gn := by
 refine ⟨h.hF.src w (by decide), ?_, ?_, ?_, ?_, h.k1, h.k2⟩
 ·rw [upr_same]; exact hw
 ·rw [upr_col (by decide)]; exact h.hA
 ·rw [upr_col (by decide)]; exact h.hB
 ·rw [upr_col (by decide)]; exact h.hC
end
section
variable {a : AV} {bs : List Int} {g : Nat} {rb : Ro} {gb : Nat → Nat} {m : Int} {n : Nat} {O : List Int} {so gu : Nat}
set_option maxHeartbeats 8000000 in
theorem sChar (hc : Cod a bs) (hs : Src a bs (rb 8288 g)) (hg2 : gu ≤ gb so) (hne : ¬ (so = 8288 ∧ gu = g)) (hr : rb so gu = some (rowL O)) (hO : GrpP O) (hn : (n : Int) = pfx O O.length) (hn8 : n ≤ 8) (hm : 1 ≤ m ∧ m ≤ 1000) : InS Tryz.prog 72 [.ptr 8288 g [] 0, .ref so gu [] 0 O.length, i64 m] rb gb
  (fun r ro' gn' => Frm WCh g rb gb ro' gn' ∧ Src a bs (ro' 8288 g) ∧ RCh O n m gb r ro' gn') := by
 have hS0 := hs
 have hl4 := hO.l4
 have hl1 := hO.l1
 have hxO : O.length ≤ maxN := Nat.le_trans hl4 (by decide)
 have hge1 : ∀ i, i < O.length → 1 ≤ atI O i := fun i hi => (hO.rg i hi).1
 have en : l6s O = n := by unfold l6s; rw [if_pos (by omega)]; omega
 have cs := cL7s (isL_imm O) hxO hge1
 rw [en] at cs
 have H1 : ∀ t, (so = t ∧ gu = gb t + 1) = False := fun t => eq_false (by rintro ⟨rfl, rfl⟩; omega)
 refine in_ofS (fn := Tryz.f72) (code := bodyOf Tryz.f72) Tryz.func72 rfl (by kernel_rfl) ?_
 intro sl hs
 have s0 : sl 0 = .ptr 8288 g [] 0 := hs 0
 have s1 : sl 1 = .ref so gu [] 0 O.length := hs 1
 have s2 : sl 2 = i64 m := hs 2
 dsimp only [Tryz.f72, bodyOf, Option.getD]
 refine Yae ?_
 refine CLL_q _ cs (.cons (exq_refL (by simp only [↓za, ↓reduceIte, Nat.reduceEqDiff, zb, reduceCtorEq, H1]; exact hr) rfl (by decide)) .nil) rfl rfl rfl ?_
 refine Yae ?_
 refine CLL_q _ (cOwn1 hxO) (.cons (exq_refL (by simp only [↓za, ↓reduceIte, Nat.reduceEqDiff, zb, reduceCtorEq, H1]; exact hr) rfl (by decide)) .nil) rfl rfl (noI_rowL _) ?_
 refine Yae ?_
 refine CLL_pure _ (c101 (n := n) (Nat.le_trans hn8 (by decide))) rfl rfl rfl ?_
 refine Yae ?_
 refine WK_for (fun i st => st.sl 0 = .ptr 8288 g [] 0 ∧ st.sl 1 = .ref so gu [] 0 O.length ∧ st.sl 2 = i64 m ∧ st.sl 6 = .ptr 4096 (gb 4096 + 1) [] 0 ∧ st.sl 7 = i64 (n : Int) ∧ st.sl 8 = .ptr 12400 (gb 12400 + 1) [] 0 ∧ st.sl 9 = .ref 16384 (st.gn 16384) [] 0 i ∧ st.sl 10 = i64 (i : Int) ∧ (st.ro 12400 (gb 12400 + 1) = some (.bx [.ref 12304 (gb 12304 + 1) [] 0 O.length, i64 m, .ref 12352 (gb 12352 + 1) [] 0 n, nilA])) ∧ (ChI a bs g rb gb n O st.ro st.gn) ∧ (∃ Tb : Nat → Nat → Int, st.ro 16384 (st.gn 16384) = some (.row (rws (fun p => .row (rws (fun q => i64 (Tb p q)) O.length)) i)) ∧ ∀ p, p < i → ∀ q, q < O.length → 0 ≤ Tb p q ∧ Tb p q < m) ∧ (gb 16384 < st.gn 16384)) O.length ?_ ?_ ?_
 ·refine Ybv ?_
  refine ⟨rfl, ?_, ⟨fun _ _ => 0, fun p hp => absurd hp (Nat.not_lt_zero _)⟩, by omega⟩
  refine ChI.al (ChI.wr (ChI.al ⟨(((Frm.refl WCh g rb gb).al 4096 _ _ (by decide) rfl).al 12304 _ _ (by decide) rfl).al 12352 _ _ (by decide) rfl, ?_, ?_, ?_, ?_, ?_, ?_⟩ 12400 _ _ (by decide) (by decide) rfl) 12400 _ _ (by decide) (by decide) (by omega)) 16384 _ _ (by decide) (by decide) rfl
  all_goals simp only [↓za, ↓reduceIte, Nat.reduceEqDiff, zb, reduceCtorEq]
  exact hS0
 ·rintro i sl ro gn hi ⟨s0, s1, s2, s6, s7, s8, s9, s10, qD, qI, qT, u1⟩
  dsimp only at s0 s1 s2 s6 s7 s8 s9 s10
  have hi' : (i : Int) < (O.length : Nat) := by omega
  dsimp only at qD qI qT u1
  obtain ⟨Tb, qT, qb⟩ := qT
  have R2 : ro so gu = some (rowL O) := (qI.hF.kp so gu hg2 hne).trans hr
  have hup := qI.hF.up so
  have H : ∀ t, (so = t ∧ gu = gn t + 1) = False := fun t => eq_false (by rintro ⟨rfl, rfl⟩; omega)
  simp (maxSteps := 10000000) (disch := first | assumption | omega) only [go_sem, ↓reduceIte, Nat.reduceEqDiff, reduceCtorEq, Nat.reduceAdd, Nat.reduceMul, Nat.reduceLeDiff, zc, Int.reduceToNat, s0, s1, s2, s6, s7, s8, s9, s10, hi', hi, R2]
  refine WK_for (fun k st => st.sl 0 = .ptr 8288 g [] 0 ∧ st.sl 1 = .ref so gu [] 0 O.length ∧ st.sl 2 = i64 m ∧ st.sl 6 = .ptr 4096 (gb 4096 + 1) [] 0 ∧ st.sl 7 = i64 (n : Int) ∧ st.sl 8 = .ptr 12400 (gb 12400 + 1) [] 0 ∧ st.sl 9 = .ref 16384 (st.gn 16384) [] 0 i ∧ st.sl 10 = i64 (i : Int) ∧ st.sl 11 = .ref 32768 (st.gn 32768) [] 0 k ∧ st.sl 12 = i64 (k : Int) ∧ st.ro 16384 (st.gn 16384) = some (.row (rws (fun p => .row (rws (fun q => i64 (Tb p q)) O.length)) i)) ∧ (st.ro 12400 (gb 12400 + 1) = some (.bx [.ref 12304 (gb 12304 + 1) [] 0 O.length, i64 m, .ref 12352 (gb 12352 + 1) [] 0 n, nilA])) ∧ (ChI a bs g rb gb n O st.ro st.gn) ∧ (∃ h : Nat → Int, st.ro 32768 (st.gn 32768) = some (.row (rws (fun q => i64 (h q)) k)) ∧ ∀ q, q < k → 0 ≤ h q ∧ h q < m) ∧ (gb 16384 < st.gn 16384) ∧ (gb 32768 < st.gn 32768)) O.length ?_ ?_ ?_
  ·simp only [↓za, ↓reduceIte, Nat.reduceEqDiff, zb, reduceCtorEq, rws_zero, s0, s1, s2, s6, s7, s8, s9, s10, hi', hi]
   refine ⟨rfl, qT, qD, ?_, ⟨fun _ => 0, fun p hp => absurd hp (Nat.not_lt_zero _)⟩, u1, ?_⟩
   ·(repeat' first | assumption | refine ChI.al ?_ _ _ _ (by decide) (by decide) rfl | refine ChI.wr ?_ _ _ _ (by decide) (by decide) (by omega) | refine ChI.src ?_ _ ?_)
   ·have := qI.hF.up 32768
    omega
  ·rintro k sl ro gn hk ⟨s0, s1, s2, s6, s7, s8, s9, s10, s11, s12, r16384, qD, qI, qR, u1, u2⟩
   dsimp only at s0 s1 s2 s6 s7 s8 s9 s10 s11 s12 r16384
   have hk' : (k : Int) < (O.length : Nat) := by omega
   dsimp only at qD qI qR u1 u2
   obtain ⟨h, qR, qc⟩ := qR
   have R2 : ro so gu = some (rowL O) := (qI.hF.kp so gu hg2 hne).trans hr
   have hup := qI.hF.up so
   have H : ∀ t, (so = t ∧ gu = gn t + 1) = False := fun t => eq_false (by rintro ⟨rfl, rfl⟩; omega)
   have hoi := hO.rg i hi
   have hok := hO.rg k hk
   have c1 := cGcdI (x := atI O i) (y := atI O k) (by omega) (by omega)
   have gi := getI hi
   have gk := getI hk
   have gp1 : 1 ≤ Int.gcd (atI O i) (atI O k) := Int.gcd_pos_of_ne_zero_left _ (by omega)
   have gp2 : Int.gcd (atI O i) (atI O k) ≤ 16 := by
    have := Nat.gcd_le_left (m := (atI O i).natAbs) (atI O k).natAbs (by omega)
    have e : Int.gcd (atI O i) (atI O k) = Nat.gcd (atI O i).natAbs (atI O k).natAbs := rfl
    omega
   have c2 := cGcdI (x := (Int.gcd (atI O i) (atI O k) : Nat)) (y := m) (by omega) (by omega)
   generalize hp : Int.gcd (atI O i) (atI O k) = p at c1 c2 gp1 gp2
   have gp3 : 1 ≤ Int.gcd (p : Int) m := Int.gcd_pos_of_ne_zero_left _ (by omega)
   have gp4 : (Int.gcd (p : Int) m : Int) ≤ m := by
    have := Nat.gcd_le_right (p : Int).natAbs (by omega : 0 < m.natAbs)
    have e : Int.gcd (p : Int) m = Nat.gcd (p : Int).natAbs m.natAbs := rfl
    omega
   generalize hq : Int.gcd (p : Int) m = q at c2 gp3 gp4
   have hk2 : k + 1 ≤ 4294967296 := by omega
   simp (maxSteps := 10000000) (disch := first | assumption | omega) only [go_sem, ↓reduceIte, Nat.reduceEqDiff, reduceCtorEq, Nat.reduceAdd, Nat.reduceMul, Nat.reduceLeDiff, zc, Int.reduceToNat, s0, s1, s2, s6, s7, s8, s9, s10, s11, s12, r16384, hk', hk, R2, H, gi, gk]
   refine CLLD_pure _ c1 PUt rfl ?_
   refine Ycf ?_
   refine CLLD_pure _ c2 PUt rfl ?_
   refine Ycf ?_
   refine FIN_of (by kernel_rfl) ?_
   have hqz : ¬ (q : Int) = 0 := by omega
   have edv : Int.tdiv m (q : Int) = m / q := Int.tdiv_eq_ediv_of_nonneg (by omega)
   have d1 : 1 ≤ m / q := (Int.le_ediv_iff_mul_le (by omega)).2 (by omega)
   have d2 : m / q ≤ m := Int.ediv_le_self _ (by omega)
   have d3 : m / (q : Int) * q ≤ m := Int.ediv_mul_le _ hqz
   simp (maxSteps := 10000000) (disch := first | assumption | omega) only [go_sem, ↓reduceIte, Nat.reduceEqDiff, reduceCtorEq, Nat.reduceAdd, Nat.reduceMul, Nat.reduceLeDiff, zc, Int.reduceToNat, s0, s1, s2, s6, s7, s8, s9, s10, s11, s12, r16384, hk', hk, R2, qR, edv]
   refine CLLD_inS [e0, e0, e0, e0, e0, e0, ⟨some [], [8288]⟩, e0, ⟨some [], [53376]⟩, ⟨some [32768, 53376], [32768, 32768]⟩, e0] (xNext hc qI.hS (n := (q : Int)) (by omega) (by kernel_rfl)) rfl ?_ rfl (by kernel_rfl) rfl
   ·rintro _ _ _ ⟨v, rfl, -, hv, rfl, w, rfl, hw⟩
    obtain ⟨v0, v1⟩ := hv (by omega)
    have p0 : 0 ≤ m / (q : Int) * v := Int.mul_nonneg (by omega) v0
    have p1 : m / (q : Int) * v ≤ m / (q : Int) * (q - 1) := Int.mul_le_mul_of_nonneg_left (by omega) (by omega)
    have p2 : m / (q : Int) * (q - 1) = m / (q : Int) * q - m / q := by rw [Int.mul_sub, Int.mul_one]
    simp (maxSteps := 10000000) (disch := first | assumption | omega) only [go_sem, ↓reduceIte, Nat.reduceEqDiff, reduceCtorEq, Nat.reduceAdd, Nat.reduceMul, Nat.reduceLeDiff, zc, Int.reduceToNat, s0, s1, s2, s6, s7, s8, s9, s10, s11, s12, r16384, hk', hk, qR, hk2]
    refine FING_of rfl ?_
    refine Ycf ?_
    refine ⟨i64c (by omega), qD, ?_, ⟨fun j => if j = k then m / (q : Int) * v else h j, congrArg (fun z => some (AV.row z)) (rws_ext h k _), all_ext (P := fun _ v => 0 ≤ v ∧ v < m) qc ⟨p0, by omega⟩⟩, u1⟩
    (repeat' first | assumption | refine ChI.al ?_ _ _ _ (by decide) (by decide) rfl | refine ChI.wr ?_ _ _ _ (by decide) (by decide) (by omega) | refine ChI.src ?_ _ ?_)
  ·rintro sl ro gn ⟨s0, s1, s2, s6, s7, s8, s9, s10, s11, s12, r16384, qD, qI, qR, u1, u2⟩
   dsimp only at s0 s1 s2 s6 s7 s8 s9 s10 s11 s12 r16384
   have hk' : ¬ ((O.length : Nat) : Int) < (O.length : Nat) := by omega
   dsimp only at qD qI qR u1 u2
   obtain ⟨h, qR, qc⟩ := qR
   have R2 : ro so gu = some (rowL O) := (qI.hF.kp so gu hg2 hne).trans hr
   have u6 := qI.hF.up 57376
   have hi2 : i + 1 ≤ 4294967296 := by omega
   simp (maxSteps := 10000000) (disch := first | assumption | omega) only [go_sem, ↓reduceIte, Nat.reduceEqDiff, reduceCtorEq, Nat.reduceAdd, Nat.reduceMul, Nat.reduceLeDiff, zc, Int.reduceToNat, s0, s1, s2, s6, s7, s8, s9, s10, s11, s12, r16384, hk', R2, qR, hi2]
   refine ⟨i64c (by omega), qD, ?_, ⟨fun p => if p = i then h else Tb p, congrArg (fun z => some (AV.row z)) (mat_snoc Tb h O.length i), fun p hp q hq => ?_⟩⟩
   ·(repeat' first | assumption | refine ChI.al ?_ _ _ _ (by decide) (by decide) rfl | refine ChI.wr ?_ _ _ _ (by decide) (by decide) (by omega) | refine ChI.src ?_ _ ?_)
   ·dsimp only
    by_cases e : p = i
    ·rw [if_pos e]; exact qc q hq
    ·rw [if_neg e]; exact qb p (by omega) q hq
 ·rintro sl ro gn ⟨s0, s1, s2, s6, s7, s8, s9, s10, qD, qI, qT, u1⟩
  dsimp only at s0 s1 s2 s6 s7 s8 s9 s10
  have hi' : ¬ ((O.length : Nat) : Int) < (O.length : Nat) := by omega
  dsimp only at qD qI qT u1
  obtain ⟨Tb, qT, qb⟩ := qT
  have R2 : ro so gu = some (rowL O) := (qI.hF.kp so gu hg2 hne).trans hr
  simp (maxSteps := 10000000) (disch := first | assumption | omega) only [go_sem, ↓reduceIte, Nat.reduceEqDiff, reduceCtorEq, Nat.reduceAdd, Nat.reduceMul, Nat.reduceLeDiff, zc, Int.reduceToNat, s0, s1, s2, s6, s7, s8, s9, s10, hi', R2]
  refine WK_for (fun x st => st.sl 0 = .ptr 8288 g [] 0 ∧ st.sl 1 = .ref so gu [] 0 O.length ∧ st.sl 2 = i64 m ∧ st.sl 6 = .ptr 4096 (gb 4096 + 1) [] 0 ∧ st.sl 7 = i64 (n : Int) ∧ st.sl 8 = .ptr 12400 (gb 12400 + 1) [] 0 ∧ st.sl 9 = .ref 16384 (st.gn 16384) [] 0 O.length ∧ st.ro 16384 (st.gn 16384) = some (.row (rws (fun p => .row (rws (fun q => i64 (Tb p q)) O.length)) O.length)) ∧ st.sl 14 = i64 (x : Int) ∧ (ChI a bs g rb gb n O st.ro st.gn) ∧ (∃ C : Nat → Nat → Int, ((x = 0 ∧ st.ro 12400 (gb 12400 + 1) = some (.bx [.ref 12304 (gb 12304 + 1) [] 0 O.length, i64 m, .ref 12352 (gb 12352 + 1) [] 0 n, nilA])) ∨ (0 < x ∧ st.ro 12400 (gb 12400 + 1) = some (.bx [.ref 12304 (gb 12304 + 1) [] 0 O.length, i64 m, .ref 12352 (gb 12352 + 1) [] 0 n, .ref 127040 (st.gn 127040) [] 0 x]) ∧ st.ro 127040 (st.gn 127040) = some (.row (rws (fun i => .row (rws (fun j => i64 (C i j)) n)) x)) ∧ gb 127040 < st.gn 127040)) ∧ ∀ i, i < x → ∀ j, j < n → 0 ≤ C i j ∧ C i j < m)) n ?_ ?_ ?_
  ·simp only [↓za, ↓reduceIte, Nat.reduceEqDiff, zb, reduceCtorEq, rws_zero, s0, s1, s2, s6, s7, s8, s9, s10, hi']
   exact ⟨qT, rfl, qI, fun _ _ => 0, .inl qD, fun i hi => absurd hi (Nat.not_lt_zero _)⟩
  ·rintro x sl ro gn hx ⟨s0, s1, s2, s6, s7, s8, s9, r16384, s14, qI, qC⟩
   dsimp only at s0 s1 s2 s6 s7 s8 s9 r16384 s14
   have hx' : (x : Int) < (n : Nat) := by omega
   dsimp only at qI qC
   obtain ⟨C, qD, qCb⟩ := qC
   have x2 : x + 1 ≤ 4294967296 := by omega
   simp (maxSteps := 10000000) (disch := first | assumption | omega) only [go_sem, ↓reduceIte, Nat.reduceEqDiff, reduceCtorEq, Nat.reduceAdd, Nat.reduceMul, Nat.reduceLeDiff, zc, Int.reduceToNat, s0, s1, s2, s6, s7, s8, s9, r16384, s14, hx', hx]
   refine WK_for (fun y st => st.sl 0 = .ptr 8288 g [] 0 ∧ st.sl 1 = .ref so gu [] 0 O.length ∧ st.sl 2 = i64 m ∧ st.sl 6 = .ptr 4096 (gb 4096 + 1) [] 0 ∧ st.sl 7 = i64 (n : Int) ∧ st.sl 8 = .ptr 12400 (gb 12400 + 1) [] 0 ∧ st.sl 9 = .ref 16384 (st.gn 16384) [] 0 O.length ∧ st.ro 16384 (st.gn 16384) = some (.row (rws (fun p => .row (rws (fun q => i64 (Tb p q)) O.length)) O.length)) ∧ st.sl 14 = i64 (x : Int) ∧ st.sl 15 = .ref 73728 (st.gn 73728) [] 0 y ∧ st.sl 16 = i64 (y : Int) ∧ (ChI a bs g rb gb n O st.ro st.gn) ∧ (((x = 0 ∧ st.ro 12400 (gb 12400 + 1) = some (.bx [.ref 12304 (gb 12304 + 1) [] 0 O.length, i64 m, .ref 12352 (gb 12352 + 1) [] 0 n, nilA])) ∨ (0 < x ∧ st.ro 12400 (gb 12400 + 1) = some (.bx [.ref 12304 (gb 12304 + 1) [] 0 O.length, i64 m, .ref 12352 (gb 12352 + 1) [] 0 n, .ref 127040 (st.gn 127040) [] 0 x]) ∧ st.ro 127040 (st.gn 127040) = some (.row (rws (fun i => .row (rws (fun j => i64 (C i j)) n)) x)) ∧ gb 127040 < st.gn 127040))) ∧ (∃ h : Nat → Int, st.ro 73728 (st.gn 73728) = some (.row (rws (fun q => i64 (h q)) y)) ∧ ∀ q, q < y → 0 ≤ h q ∧ h q < m) ∧ (gb 73728 < st.gn 73728)) n ?_ ?_ ?_
   ·simp only [↓za, ↓reduceIte, Nat.reduceEqDiff, zb, reduceCtorEq, rws_zero, s0, s1, s2, s6, s7, s8, s9, r16384, s14, hx', hx]
    refine ⟨rfl, ?_, qD, ⟨fun _ => 0, fun q hq => absurd hq (Nat.not_lt_zero _)⟩, ?_⟩
    ·(repeat' first | assumption | refine ChI.al ?_ _ _ _ (by decide) (by decide) rfl | refine ChI.wr ?_ _ _ _ (by decide) (by decide) (by omega) | refine ChI.src ?_ _ ?_)
    ·have := qI.hF.up 73728
     omega
   ·rintro y sl ro gn hy ⟨s0, s1, s2, s6, s7, s8, s9, r16384, s14, s15, s16, qI, qD, qR, u2⟩
    dsimp only at s0 s1 s2 s6 s7 s8 s9 r16384 s14 s15 s16
    have hy' : (y : Int) < (n : Nat) := by omega
    dsimp only at qI qD qR u2
    obtain ⟨h, qR, qc⟩ := qR
    have R2 : ro so gu = some (rowL O) := (qI.hF.kp so gu hg2 hne).trans hr
    have hup := qI.hF.up so
    have H : ∀ t, (so = t ∧ gu = gn t + 1) = False := fun t => eq_false (by rintro ⟨rfl, rfl⟩; omega)
    have y2 : y + 1 ≤ 4294967296 := by omega
    simp (maxSteps := 10000000) (disch := first | assumption | omega) only [go_sem, ↓reduceIte, Nat.reduceEqDiff, reduceCtorEq, Nat.reduceAdd, Nat.reduceMul, Nat.reduceLeDiff, zc, Int.reduceToNat, s0, s1, s2, s6, s7, s8, s9, r16384, s14, s15, s16, hy', hy, R2]
    refine CLL_q _ (cDigits hO (x := (x : Int)) (by omega)) (.cons (exq_refL R2 rfl (by decide)) (.cons (exq_sc _ _ _ (by decide)) .nil)) rfl rfl (noI_row _ (noIL_map _ (fun _ => rfl) _)) ?_
    simp (maxSteps := 10000000) (disch := first | assumption | omega) only [go_sem, ↓reduceIte, Nat.reduceEqDiff, reduceCtorEq, Nat.reduceAdd, Nat.reduceMul, Nat.reduceLeDiff, zc, Int.reduceToNat, s0, s1, s2, s6, s7, s8, s9, r16384, s14, s15, s16, hy', hy, R2, H]
    refine CLL_q _ (cDigits hO (x := (y : Int)) (by omega)) (.cons (exq_refL (by simp only [↓za, ↓reduceIte, Nat.reduceEqDiff, zb, reduceCtorEq, H]; exact R2) rfl (by decide)) (.cons (exq_sc _ _ _ (by decide)) .nil)) rfl rfl (noI_row _ (noIL_map _ (fun _ => rfl) _)) ?_
    simp (maxSteps := 10000000) (disch := first | assumption | omega) only [go_sem, ↓reduceIte, Nat.reduceEqDiff, reduceCtorEq, Nat.reduceAdd, Nat.reduceMul, Nat.reduceLeDiff, zc, Int.reduceToNat, s0, s1, s2, s6, s7, s8, s9, r16384, s14, s15, s16, hy', hy, R2, H]
    refine WK_for (fun i st => st.sl 0 = .ptr 8288 g [] 0 ∧ st.sl 1 = .ref so gu [] 0 O.length ∧ st.sl 2 = i64 m ∧ st.sl 6 = .ptr 4096 (gb 4096 + 1) [] 0 ∧ st.sl 7 = i64 (n : Int) ∧ st.sl 8 = .ptr 12400 (gb 12400 + 1) [] 0 ∧ st.sl 9 = .ref 16384 (st.gn 16384) [] 0 O.length ∧ st.ro 16384 (st.gn 16384) = some (.row (rws (fun p => .row (rws (fun q => i64 (Tb p q)) O.length)) O.length)) ∧ st.sl 14 = i64 (x : Int) ∧ st.sl 15 = .ref 73728 (st.gn 73728) [] 0 y ∧ st.sl 16 = i64 (y : Int) ∧ st.sl 17 = .ref 90144 (st.gn 90144) [] 0 O.length ∧ st.sl 18 = .ref 90192 (st.gn 90192) [] 0 O.length ∧ st.ro 90144 (st.gn 90144) = some (.row (rws (fun j => i64 (dgD O (x : Int) j)) O.length)) ∧ st.ro 90192 (st.gn 90192) = some (.row (rws (fun j => i64 (dgD O (y : Int) j)) O.length)) ∧ st.sl 20 = i64 (i : Int) ∧ st.ro 73728 (st.gn 73728) = some (.row (rws (fun q => i64 (h q)) y)) ∧ (ChI a bs g rb gb n O st.ro st.gn) ∧ (((x = 0 ∧ st.ro 12400 (gb 12400 + 1) = some (.bx [.ref 12304 (gb 12304 + 1) [] 0 O.length, i64 m, .ref 12352 (gb 12352 + 1) [] 0 n, nilA])) ∨ (0 < x ∧ st.ro 12400 (gb 12400 + 1) = some (.bx [.ref 12304 (gb 12304 + 1) [] 0 O.length, i64 m, .ref 12352 (gb 12352 + 1) [] 0 n, .ref 127040 (st.gn 127040) [] 0 x]) ∧ st.ro 127040 (st.gn 127040) = some (.row (rws (fun i => .row (rws (fun j => i64 (C i j)) n)) x)) ∧ gb 127040 < st.gn 127040))) ∧ (gb 73728 < st.gn 73728) ∧ (∃ v : Int, st.sl 19 = i64 v ∧ 0 ≤ v ∧ v ≤ 256000 * (6 * i))) O.length ?_ ?_ ?_
    ·simp only [↓za, ↓reduceIte, Nat.reduceEqDiff, zb, reduceCtorEq, rws_zero, s0, s1, s2, s6, s7, s8, s9, r16384, s14, s15, s16, hy', hy]
     refine ⟨rfl, qR, ?_, qD, u2, 0, rfl, by omega, by omega⟩
     (repeat' first | assumption | refine ChI.al ?_ _ _ _ (by decide) (by decide) rfl | refine ChI.wr ?_ _ _ _ (by decide) (by decide) (by omega) | refine ChI.src ?_ _ ?_)
    ·rintro i sl ro gn hi ⟨s0, s1, s2, s6, s7, s8, s9, r16384, s14, s15, s16, s17, s18, r90144, r90192, s20, r73728, qI, qD, u2, qV⟩
     dsimp only at s0 s1 s2 s6 s7 s8 s9 r16384 s14 s15 s16 s17 s18 r90144 r90192 s20 r73728
     have hi' : (i : Int) < (O.length : Nat) := by omega
     dsimp only at qI qD u2 qV
     obtain ⟨v, s19, v0, v1⟩ := qV
     have R2 : ro so gu = some (rowL O) := (qI.hF.kp so gu hg2 hne).trans hr
     simp (maxSteps := 10000000) (disch := first | assumption | omega) only [go_sem, ↓reduceIte, Nat.reduceEqDiff, reduceCtorEq, Nat.reduceAdd, Nat.reduceMul, Nat.reduceLeDiff, zc, Int.reduceToNat, s0, s1, s2, s6, s7, s8, s9, r16384, s14, s15, s16, s17, s18, r90144, r90192, s20, r73728, hi', hi, R2, s19]
     refine WK_for (fun k st => st.sl 0 = .ptr 8288 g [] 0 ∧ st.sl 1 = .ref so gu [] 0 O.length ∧ st.sl 2 = i64 m ∧ st.sl 6 = .ptr 4096 (gb 4096 + 1) [] 0 ∧ st.sl 7 = i64 (n : Int) ∧ st.sl 8 = .ptr 12400 (gb 12400 + 1) [] 0 ∧ st.sl 9 = .ref 16384 (st.gn 16384) [] 0 O.length ∧ st.ro 16384 (st.gn 16384) = some (.row (rws (fun p => .row (rws (fun q => i64 (Tb p q)) O.length)) O.length)) ∧ st.sl 14 = i64 (x : Int) ∧ st.sl 15 = .ref 73728 (st.gn 73728) [] 0 y ∧ st.sl 16 = i64 (y : Int) ∧ st.sl 17 = .ref 90144 (st.gn 90144) [] 0 O.length ∧ st.sl 18 = .ref 90192 (st.gn 90192) [] 0 O.length ∧ st.ro 90144 (st.gn 90144) = some (.row (rws (fun j => i64 (dgD O (x : Int) j)) O.length)) ∧ st.ro 90192 (st.gn 90192) = some (.row (rws (fun j => i64 (dgD O (y : Int) j)) O.length)) ∧ st.sl 20 = i64 (i : Int) ∧ st.ro 73728 (st.gn 73728) = some (.row (rws (fun q => i64 (h q)) y)) ∧ st.sl 21 = i64 (k : Int) ∧ (ChI a bs g rb gb n O st.ro st.gn) ∧ (((x = 0 ∧ st.ro 12400 (gb 12400 + 1) = some (.bx [.ref 12304 (gb 12304 + 1) [] 0 O.length, i64 m, .ref 12352 (gb 12352 + 1) [] 0 n, nilA])) ∨ (0 < x ∧ st.ro 12400 (gb 12400 + 1) = some (.bx [.ref 12304 (gb 12304 + 1) [] 0 O.length, i64 m, .ref 12352 (gb 12352 + 1) [] 0 n, .ref 127040 (st.gn 127040) [] 0 x]) ∧ st.ro 127040 (st.gn 127040) = some (.row (rws (fun i => .row (rws (fun j => i64 (C i j)) n)) x)) ∧ gb 127040 < st.gn 127040))) ∧ (gb 73728 < st.gn 73728) ∧ (∃ v : Int, st.sl 19 = i64 v ∧ 0 ≤ v ∧ v ≤ 256000 * (6 * i + k))) O.length ?_ ?_ ?_
     ·simp only [↓za, ↓reduceIte, Nat.reduceEqDiff, zb, reduceCtorEq, rws_zero, s0, s1, s2, s6, s7, s8, s9, r16384, s14, s15, s16, s17, s18, r90144, r90192, s20, r73728, hi', hi]
      exact ⟨rfl, qI, qD, u2, v, s19, v0, by omega⟩
     ·rintro k sl ro gn hk ⟨s0, s1, s2, s6, s7, s8, s9, r16384, s14, s15, s16, s17, s18, r90144, r90192, s20, r73728, s21, qI, qD, u2, qV⟩
      dsimp only at s0 s1 s2 s6 s7 s8 s9 r16384 s14 s15 s16 s17 s18 r90144 r90192 s20 r73728 s21
      have hk' : (k : Int) < (O.length : Nat) := by omega
      dsimp only at qI qD u2 qV
      obtain ⟨v, s19, v0, v1⟩ := qV
      have R2 : ro so gu = some (rowL O) := (qI.hF.kp so gu hg2 hne).trans hr
      have b1 := qb i hi k hk
      have b2 := dgD_rng hO (x : Int) hi
      have b3 := dgD_rng hO (y : Int) hk
      have p0 : 0 ≤ Tb i k * dgD O x i := Int.mul_nonneg b1.1 b2.1
      have p1 : Tb i k * dgD O x i ≤ 1000 * 16 := Int.mul_le_mul (by omega) (by omega) b2.1 (by omega)
      have p2 : 0 ≤ Tb i k * dgD O x i * dgD O y k := Int.mul_nonneg p0 b3.1
      have p3 : Tb i k * dgD O x i * dgD O y k ≤ 1000 * 16 * 16 := Int.mul_le_mul p1 (by omega) b3.1 (by omega)
      simp (maxSteps := 10000000) (disch := first | assumption | omega) only [go_sem, ↓reduceIte, Nat.reduceEqDiff, reduceCtorEq, Nat.reduceAdd, Nat.reduceMul, Nat.reduceLeDiff, zc, Int.reduceToNat, s0, s1, s2, s6, s7, s8, s9, r16384, s14, s15, s16, s17, s18, r90144, r90192, s20, r73728, s21, hk', hk, R2, s19]
      refine FIN_of (by kernel_rfl) ?_
      simp (maxSteps := 10000000) (disch := first | assumption | omega) only [go_sem, ↓reduceIte, Nat.reduceEqDiff, reduceCtorEq, Nat.reduceAdd, Nat.reduceMul, Nat.reduceLeDiff, zc, Int.reduceToNat, s0, s1, s2, s6, s7, s8, s9, r16384, s14, s15, s16, s17, s18, r90144, r90192, s20, r73728, s21, hk', hk, s19]
      exact ⟨i64c (by omega), qI, qD, u2, _, rfl, by omega, by omega⟩
     ·rintro sl ro gn ⟨s0, s1, s2, s6, s7, s8, s9, r16384, s14, s15, s16, s17, s18, r90144, r90192, s20, r73728, s21, qI, qD, u2, qV⟩
      dsimp only at s0 s1 s2 s6 s7 s8 s9 r16384 s14 s15 s16 s17 s18 r90144 r90192 s20 r73728 s21
      have hk' : ¬ ((O.length : Nat) : Int) < (O.length : Nat) := by omega
      dsimp only at qI qD u2 qV
      obtain ⟨v, s19, v0, v1⟩ := qV
      have R2 : ro so gu = some (rowL O) := (qI.hF.kp so gu hg2 hne).trans hr
      simp (maxSteps := 10000000) (disch := first | assumption | omega) only [go_sem, ↓reduceIte, Nat.reduceEqDiff, reduceCtorEq, Nat.reduceAdd, Nat.reduceMul, Nat.reduceLeDiff, zc, Int.reduceToNat, s0, s1, s2, s6, s7, s8, s9, r16384, s14, s15, s16, s17, s18, r90144, r90192, s20, r73728, s21, hk', R2, s19]
      exact ⟨i64c (by omega), qI, qD, u2, v, rfl, v0, by omega⟩
    ·rintro sl ro gn ⟨s0, s1, s2, s6, s7, s8, s9, r16384, s14, s15, s16, s17, s18, r90144, r90192, s20, r73728, qI, qD, u2, qV⟩
     dsimp only at s0 s1 s2 s6 s7 s8 s9 r16384 s14 s15 s16 s17 s18 r90144 r90192 s20 r73728
     have hi' : ¬ ((O.length : Nat) : Int) < (O.length : Nat) := by omega
     dsimp only at qI qD u2 qV
     obtain ⟨v, s19, v0, v1⟩ := qV
     have R2 : ro so gu = some (rowL O) := (qI.hF.kp so gu hg2 hne).trans hr
     have em : v.tmod m = v % m := Int.tmod_eq_emod_of_nonneg v0
     have e0 : 0 ≤ v % m := Int.emod_nonneg _ (by omega)
     have e1 : v % m < m := Int.emod_lt_of_pos _ (by omega)
     have hmz : ¬ m = 0 := by omega
     simp (maxSteps := 10000000) (disch := first | assumption | omega) only [go_sem, ↓reduceIte, Nat.reduceEqDiff, reduceCtorEq, Nat.reduceAdd, Nat.reduceMul, Nat.reduceLeDiff, zc, Int.reduceToNat, s0, s1, s2, s6, s7, s8, s9, r16384, s14, s15, s16, s17, s18, r90144, r90192, s20, r73728, hi', R2, s19, em, y2]
     refine ⟨i64c (by omega), ?_, qD, ⟨fun j => if j = y then v % m else h j, congrArg (fun z => some (AV.row z)) (rws_ext h y _), all_ext (P := fun _ v => 0 ≤ v ∧ v < m) qc ⟨e0, e1⟩⟩⟩
     (repeat' first | assumption | refine ChI.al ?_ _ _ _ (by decide) (by decide) rfl | refine ChI.wr ?_ _ _ _ (by decide) (by decide) (by omega) | refine ChI.src ?_ _ ?_)
   ·rintro sl ro gn ⟨s0, s1, s2, s6, s7, s8, s9, r16384, s14, s15, s16, qI, qD, qR, u2⟩
    dsimp only at s0 s1 s2 s6 s7 s8 s9 r16384 s14 s15 s16
    have hy' : ¬ ((n : Nat) : Int) < (n : Nat) := by omega
    dsimp only at qI qD qR u2
    obtain ⟨h, qR, qc⟩ := qR
    have u6 := qI.hF.up 127024
    have u7 := qI.hF.up 127040
    rcases qD with ⟨hx0, q2⟩ | ⟨hx0, q2, q3, q4⟩
    ·subst hx0
     simp (maxSteps := 10000000) (disch := first | assumption | omega) only [go_sem, ↓reduceIte, Nat.reduceEqDiff, reduceCtorEq, Nat.reduceAdd, Nat.reduceMul, Nat.reduceLeDiff, zc, Int.reduceToNat, s0, s1, s2, s6, s7, s8, s9, r16384, s14, s15, s16, hy', qR, q2, x2]
     refine ⟨i64c (by omega), ?_, fun _ => h, .inr ⟨rfl, by omega⟩, fun i hi j hj => qc j hj⟩
     (repeat' first | assumption | refine ChI.al ?_ _ _ _ (by decide) (by decide) rfl | refine ChI.wr ?_ _ _ _ (by decide) (by decide) (by omega) | refine ChI.src ?_ _ ?_)
    ·simp (maxSteps := 10000000) (disch := first | assumption | omega) only [go_sem, ↓reduceIte, Nat.reduceEqDiff, reduceCtorEq, Nat.reduceAdd, Nat.reduceMul, Nat.reduceLeDiff, zc, Int.reduceToNat, s0, s1, s2, s6, s7, s8, s9, r16384, s14, s15, s16, hy', qR, q2, q3, x2]
     refine ⟨i64c (by omega), ?_, fun p => if p = x then h else C p, .inr (congrArg (fun z => some (AV.row z)) (mat_snoc C h n x)), fun p hp q hq => ?_⟩
     ·(repeat' first | assumption | refine ChI.al ?_ _ _ _ (by decide) (by decide) rfl | refine ChI.wr ?_ _ _ _ (by decide) (by decide) (by omega) | refine ChI.src ?_ _ ?_)
     ·dsimp only
      by_cases e : p = x
      ·rw [if_pos e]; exact qc q hq
      ·rw [if_neg e]; exact qCb p (by omega) q hq
  ·rintro sl ro gn ⟨s0, s1, s2, s6, s7, s8, s9, r16384, s14, qI, qC⟩
   dsimp only at s0 s1 s2 s6 s7 s8 s9 r16384 s14
   have hx' : ¬ ((n : Nat) : Int) < (n : Nat) := by omega
   dsimp only at qI qC
   obtain ⟨C, qD, qCb⟩ := qC
   have hA := qI.hA
   rcases qD with ⟨hx0, q2⟩ | ⟨hx0, q2, q3, q4⟩
   ·have := pfx_pos1 (O := O) (i := O.length) hge1
    omega
   ·have hB := qI.hB
    have hC := qI.hC
    simp (maxSteps := 10000000) (disch := first | assumption | omega) only [go_sem, ↓reduceIte, Nat.reduceEqDiff, reduceCtorEq, Nat.reduceAdd, Nat.reduceMul, Nat.reduceLeDiff, zc, Int.reduceToNat, s0, s1, s2, s6, s7, s8, s9, r16384, s14, hx', q2, q3, hA, hB, hC]
    refine RETS_D (Ue s6) (upr_same _ _ _ _) rfl ⟨qI.hF.wr 4096 _ _ (by decide) (by omega), by rw [upr_col (by decide)]; exact qI.hS, C, _, _, _, rfl, Nat.lt_succ_self _, by rw [qI.k1]; exact Nat.le_refl _, Nat.lt_succ_self _, by rw [qI.k2]; exact Nat.le_refl _, q4, Nat.le_refl _, ?_, ?_, ?_, qCb⟩
    ·rw [upr_col (by decide)]; exact hB
    ·rw [upr_col (by decide)]; exact hC
    ·rw [upr_col (by decide)]; exact q3
end
end Go.Proofs.YtmchdjiigfiabaaGreat
/- Cocycles, drawn. -/
namespace Go.Proofs.YtmchdjiigfiabaaGreat
open Go.RowKit
set_option maxRecDepth 1000000
structure CoV (O : List Int) (M : Int) (F : Nat → Nat → Nat → Int) (n : Nat) : Prop where
 o : OrdP O
 l : O.length ≤ 4
 e : (n : Int) = pfx O O.length
 n8 : n ≤ 8
 m : 1 ≤ M ∧ M ≤ 1000
 b : ∀ x, x < n → ∀ y, y < n → ∀ z, z < n → 0 ≤ F x y z ∧ F x y z < M
theorem CoV.g {O : List Int} {M : Int} {F : Nat → Nat → Nat → Int} {n : Nat} (h : CoV O M F n) : GrpP O := h.o.grp (by have := h.l; omega) (by have := h.e; have := h.n8; omega)
theorem CoV.pos {O : List Int} {M : Int} {F : Nat → Nat → Nat → Int} {n : Nat} (h : CoV O M F n) : 1 ≤ n := by have := h.e; have := pfx_pos1 h.o.2; omega
theorem CoV.cyc {n : Nat} {k : Int} (h : 1 ≤ n ∧ n ≤ 8) : CoV [(n : Int)] n (cyF n k) n := by
 refine ⟨⟨by simp, fun i hi => ?_⟩, by simp, by simp [pfx, atI], h.2, by omega, fun x _ y _ z _ => ?_⟩
 ·have : i = 0 := by simpa using hi
  subst this
  show (1 : Int) ≤ n
  omega
 ·unfold cyF
  split
  ·exact ⟨Int.emod_nonneg _ (by omega), Int.emod_lt_of_pos _ (by omega)⟩
  ·omega
theorem CoV.mix {n m : Nat} {k : Int} (hn : 1 ≤ n) (hm : 1 ≤ m) (h8 : n * m ≤ 8) : CoV [(n : Int), (m : Int)] (Nat.gcd n m : Nat) (mxF m k (Nat.gcd n m)) (n * m) := by
 have hn8 : n ≤ 8 := Nat.le_trans (Nat.le_mul_of_pos_right _ hm) h8
 have g1 : 1 ≤ Nat.gcd n m := Nat.gcd_pos_of_pos_left _ hn
 have g2 : Nat.gcd n m ≤ n := Nat.gcd_le_left _ hn
 refine ⟨⟨by simp, fun i hi => ?_⟩, by simp, by simp [pfx, atI], h8, by omega, fun x _ y _ z _ => ?_⟩
 ·have : i = 0 ∨ i = 1 := by
   have : i < 2 := by simpa using hi
   omega
  rcases this with rfl | rfl
  ·show (1 : Int) ≤ n
   omega
  ·show (1 : Int) ≤ m
   omega
 ·unfold mxF
  split
  ·exact ⟨Int.emod_nonneg _ (by omega), Int.emod_lt_of_pos _ (by omega)⟩
  ·omega
theorem CoV.tri : CoV [2, 2, 2] 2 trF 8 := by
 refine ⟨⟨by decide, by decide⟩, by decide, by decide, by decide, by decide, fun x hx y hy z hz => ?_⟩
 have : ∀ x, x < 8 → ∀ y, y < 8 → ∀ z, z < 8 → 0 ≤ trF x y z ∧ trF x y z < 2 := by decide
 exact this x hx y hy z hz
theorem CoV.cob {O : List Int} {M : Int} {F : List (List Int)} {n : Nat} (ho : OrdP O) (hl : O.length ≤ 4) (hn : (n : Int) = pfx O O.length) (h8 : n ≤ 8) (hm : 1 ≤ M ∧ M ≤ 1000) : CoV O M (cobF O M F) n :=
 ⟨ho, hl, hn, h8, hm, fun x _ y _ z _ => by unfold cobF; exact ⟨Int.emod_nonneg _ (by omega), Int.emod_lt_of_pos _ (by omega)⟩⟩
theorem CoV.sum {O : List Int} {M : Int} {F F' : Nat → Nat → Nat → Int} {n : Nat} (h : CoV O M F n) : CoV O M (smF F F' M) n := by
 have hm := h.m
 exact ⟨h.o, h.l, h.e, h.n8, h.m, fun x _ y _ z _ => by unfold smF; exact ⟨Int.emod_nonneg _ (by omega), Int.emod_lt_of_pos _ (by omega)⟩⟩
theorem Sq.mat {n : Nat} {m : Int} {G : Nat → Nat → Int} (h : ∀ x, x < n → ∀ y, y < n → 0 ≤ G x y ∧ G x y < m) : Sq n m (matL G n n) :=
 ⟨matL_len G, fun i hi => by rw [matL_row hi, zfe], fun i hi j hj => by rw [matL_at hi hj]; exact h i hi j hj⟩
def L17 : List Nat := [24672, 41024, 53376, 61440, 69840]
def W17 : List Nat := [8288, 8256, 24608, 8192, 24576, 45072, 49232, 53280, 4096, 8208, 20528, 24672, 24673, 41024, 41025, 53376, 53377, 61440, 61441, 69824, 69825, 69840, 69841]
def RCo (gn : Nat → Nat) (r : AV) (ro' : Ro) (gn' : Nat → Nat) : Prop := ∃ (O : List Int) (M : Int) (F : Nat → Nat → Nat → Int) (n so uo uv : Nat), r = .agg [.ref so uo [] 0 O.length, i64 M, .ref (so + 1) uv [] 0 n] ∧ so ∈ L17 ∧ gn so < uo ∧ uo ≤ gn' so ∧ gn (so + 1) < uv ∧ uv ≤ gn' (so + 1) ∧ ro' so uo = some (rowL O) ∧ ro' (so + 1) uv = some (cubeA F n) ∧ CoV O M F n
section
variable {a : AV} {bs : List Int} {g : Nat} {rb : Ro} {gb : Nat → Nat}
theorem nrL_cubQ (F : Nat → Nat → Nat → Int) (n : Nat) : noRefL (rws (fun i => .row (rws (fun j => .row (rws (fun k => i64 (F i j k)) n)) n)) n) = true := noRefL_rws _ _ fun _ => noRef_row _ (noRefL_rws _ _ fun _ => noRef_row _ (noRefL_rws _ _ fun _ => rfl))
attribute [go_sem] nrL_cubQ nrL_mat
theorem noI_cc (O : List Int) (m : Int) (F : Nat → Nat → Nat → Int) (n : Nat) : noI (.agg [rowL O, i64 m, cubeA F n]) = true := by
 show (noI (rowL O) && (true && (noI (cubeA F n) && true))) = true
 rw [noI_rowL, noI_cube]; rfl
theorem off_at {W : List Nat} {g : Nat} {ro ro' : Ro} {gn gn' : Nat → Nat} (h : Frm W g ro gn ro' gn') {s u : Nat} {v : Option AV} (hs : s ∉ W) (hv : ro s u = v) : ro' s u = v := by rw [(h.off s hs).1]; exact hv
set_option maxHeartbeats 8000000 in
theorem sDraw17 (hc : Cod a bs) (hs : Src a bs (rb 8288 g)) : InS Tryz.prog 65 [.ptr 8288 g [] 0] rb gb
  (fun r ro' gn' => Frm W17 g rb gb ro' gn' ∧ Src a bs (ro' 8288 g) ∧ RCo gb r ro' gn') := by
 have hS0 := hs
 refine in_ofS (fn := Tryz.f65) (code := bodyOf Tryz.f65) Tryz.func65 rfl (by kernel_rfl) ?_
 intro sl hs
 have s0 : sl 0 = .ptr 8288 g [] 0 := hs 0
 dsimp only [Tryz.f65, bodyOf, Option.getD]
 refine Yaa ?_
 refine CLL_inS rfl (sNext hc hS0 (n := 5) (by omega)) ?_
 rintro _ _ _ ⟨v, rfl, -, hv, rfl, w, rfl, hw⟩
 obtain ⟨v0, v1⟩ := hv (by omega)
 have hcyc : (v = 0 ∨ v = 1) ∨ v = 2 ∨ v = 3 ∨ v = 4 := by omega
 rcases hcyc with hv01 | rfl | rfl | rfl
 ·rcases hv01 with rfl | rfl
  ·refine Yaa ?_
   refine CLL_inS rfl (sNext hc (Ue hw) (n := 8) (by omega)) ?_
   rintro _ _ _ ⟨y, rfl, -, hy, hgE, w2, rfl, hw2⟩
   dsimp only at hgE
   subst hgE
   obtain ⟨y0, y1⟩ := hy (by omega)
   obtain ⟨y, rfl⟩ := Int.eq_ofNat_of_zero_le y0
   have eN : (1 : Int) + (y : Int) = ((1 + y : Nat) : Int) := by omega
   have hN : 1 ≤ 1 + y ∧ 1 + y ≤ 8 := by omega
   refine Yca ?_
   generalize 1 + y = N at hN
   refine CLL_inS rfl (sNext hc (Ue hw2) (n := (N : Int)) (by omega)) ?_
   rintro _ _ _ ⟨k, rfl, -, hk, hgE, w3, rfl, hw3⟩
   dsimp only at hgE
   subst hgE
   obtain ⟨k0, k1⟩ := hk (by omega)
   refine Yaa ?_
   refine CLL_pure _ (cCyc (n := N) (k := k) (by omega) (by omega) (by omega)) rfl rfl rfl ?_
   refine Yaa ?_
   have HW := hw3
   have CV := CoV.cyc (n := N) (k := k) hN
   refine CLL_inS rfl (sNext hc (Ue HW) (n := 2) (by omega)) ?_
   rintro _ _ _ ⟨x, rfl, -, hx, hgE, w9, rfl, hw9⟩
   dsimp only at hgE
   subst hgE
   by_cases hx0 : x = 0
   ·refine Yao ?_
    refine CLLD_inS [⟨some [8208], []⟩, ⟨some [8208], []⟩, ⟨some [8208], []⟩, ⟨some [8208], []⟩, ⟨some [8208], []⟩, e0, ⟨some [8208], []⟩, ⟨some [8208], []⟩, ⟨some [41025], []⟩, ⟨some [8208], []⟩, ⟨some [8208], []⟩, ⟨some [], WPr⟩, ⟨some [41024, 8192], [69824, 69825]⟩, ⟨some [41024, 41025, 69824, 69825], [69840, 69841]⟩, ⟨some [8208, 69840, 69841], [8208]⟩] (inX_frm (W := WPr) (g := g) (a := a) (bs := bs) (R := []) (by decide) (fun ro1 gn1 h1 h2 => sPairing hc (by rw [h1 8288 (.inr (by decide))]; simp only [↓za, ↓reduceIte, Nat.reduceEqDiff, zb, reduceCtorEq]; exact hw9) (by have := CV.n8; omega) CV.m) RPr.loc (by kernel_rfl) (.inr (aftB_ok (by kernel_rfl)))) rfl ?_ rfl (by kernel_rfl) rfl
    ·rintro _ ro2 gn2 ⟨hF2, hS2, G, u, rfl, hu1, hu2, hG, hb⟩
     dsimp only at hF2 hu1
     have e1 := off_at hF2 (s := 8208) (u := gb 8208 + 1) (by decide) Ur
     have e2 := off_at hF2 (s := 4096) (u := gb 4096 + 1) (by decide) Ur
     have e3 := off_at hF2 (s := 41024) (u := gb 41024 + 1) (by decide) Ur
     have e4 := off_at hF2 (s := 41025) (u := gb 41025 + 1) (by decide) Ur
     have hsq := Sq.mat fun x hx y hy => ⟨(hb x hx y hy).1, (hb x hx y hy).2.1⟩
     refine Ybw ?_
     have hcb := fun F : List (List Int) => CoV.cob (F := F) CV.o CV.l CV.e CV.n8 CV.m
     refine CLLG_q _ (cCobL CV.g CV.e (isLL_imm _) hsq CV.m) (.cons (exq_refL e3 rfl (by decide)) (.cons (exq_sc _ _ _ (by decide)) (.cons (exq_mat hG (by decide)) .nil))) rfl (noI_cc _ _ _ _) ?_
     refine Yal ?_
     refine CLLG_q _ (cSum7 (isL_imm [(N : Int)]) (isL_imm [(N : Int)]) (Nat.le_trans CV.l (by decide)) (isLLL_immC (cyF N k) _) (isLLL_immC (cobF [(N : Int)] (N : Int) (matL G N N)) _) (Nat.le_trans CV.n8 (by decide)) CV.m CV.b (hcb _).b) (.cons (exq_agg (.cons (exq_refL (Ue e3) rfl (by decide)) (.cons (exq_sc _ _ _ (by decide)) (.cons (exq_cube (Ue e4) (by decide)) .nil)))) (.cons (exq_agg (.cons (exq_refL (xs := [(N : Int)]) Ur rfl (by decide)) (.cons (exq_sc _ _ _ (by decide)) (.cons (exq_cube Ur (by decide)) .nil)))) .nil)) rfl (noI_cc _ _ _ _) ?_
     refine Yal ?_
     refine FING_of rfl ?_
     refine Ycb ?_
     have hF3 : Frm W17 g rb gb ro2 gn2 := Frm.trans KPt (hF2.monoB (W' := W17) (by decide))
     have g1 := hF3.up 69840
     have g2 := hF3.up 69841
     refine RETS_C Ur (upr_same _ _ _ _) rfl ⟨KPt, by simp only [↓za, ↓reduceIte, Nat.reduceEqDiff, zb, reduceCtorEq]; exact hS2, [(N : Int)], (N : Int), smF (cyF N k) (cobF [(N : Int)] (N : Int) (matL G N N)) (N : Int), N, 69840, _, _, rfl, by decide, Nat.lt_succ_of_le g1, ?_, Nat.lt_succ_of_le g2, ?_, ?_, ?_, CV.sum⟩
     all_goals simp only [↓za, ↓reduceIte, Nat.reduceEqDiff, zb, reduceCtorEq]
     all_goals first | exact Nat.le_refl _ | exact rfl
   ·refine Yau ?_
    refine RETS_C Ur (upr_same _ _ _ _) rfl ⟨KPt, by simp only [↓za, ↓reduceIte, Nat.reduceEqDiff, zb, reduceCtorEq]; exact hw9, [(N : Int)], (N : Int), (cyF N k), N, 41024, _, _, rfl, by decide, Nat.lt_succ_self _, ?_, Nat.lt_succ_self _, ?_, ?_, ?_, CV⟩
    all_goals simp only [↓za, ↓reduceIte, Nat.reduceEqDiff, zb, reduceCtorEq]
    all_goals first | exact Nat.le_refl _ | exact rfl
  ·refine Yaa ?_
   refine CLL_inS rfl (sNext hc (Ue hw) (n := 8) (by omega)) ?_
   rintro _ _ _ ⟨y, rfl, -, hy, hgE, w2, rfl, hw2⟩
   dsimp only at hgE
   subst hgE
   obtain ⟨y0, y1⟩ := hy (by omega)
   obtain ⟨y, rfl⟩ := Int.eq_ofNat_of_zero_le y0
   have eN : (1 : Int) + (y : Int) = ((1 + y : Nat) : Int) := by omega
   have hN : 1 ≤ 1 + y ∧ 1 + y ≤ 8 := by omega
   refine Yca ?_
   generalize 1 + y = N at hN
   refine CLL_inS rfl (sNext hc (Ue hw2) (n := (N : Int)) (by omega)) ?_
   rintro _ _ _ ⟨k, rfl, -, hk, hgE, w3, rfl, hw3⟩
   dsimp only at hgE
   subst hgE
   obtain ⟨k0, k1⟩ := hk (by omega)
   refine Yaa ?_
   refine CLL_pure _ (cCyc (n := N) (k := k) (by omega) (by omega) (by omega)) rfl rfl rfl ?_
   refine Yaa ?_
   have HW := hw3
   have CV := CoV.cyc (n := N) (k := k) hN
   refine CLL_inS rfl (sNext hc (Ue HW) (n := 2) (by omega)) ?_
   rintro _ _ _ ⟨x, rfl, -, hx, hgE, w9, rfl, hw9⟩
   dsimp only at hgE
   subst hgE
   by_cases hx0 : x = 0
   ·refine Yao ?_
    refine CLLD_inS [⟨some [8208], []⟩, ⟨some [8208], []⟩, ⟨some [8208], []⟩, ⟨some [8208], []⟩, ⟨some [8208], []⟩, e0, ⟨some [8208], []⟩, ⟨some [8208], []⟩, ⟨some [41025], []⟩, ⟨some [8208], []⟩, ⟨some [8208], []⟩, ⟨some [], WPr⟩, ⟨some [41024, 8192], [69824, 69825]⟩, ⟨some [41024, 41025, 69824, 69825], [69840, 69841]⟩, ⟨some [8208, 69840, 69841], [8208]⟩] (inX_frm (W := WPr) (g := g) (a := a) (bs := bs) (R := []) (by decide) (fun ro1 gn1 h1 h2 => sPairing hc (by rw [h1 8288 (.inr (by decide))]; simp only [↓za, ↓reduceIte, Nat.reduceEqDiff, zb, reduceCtorEq]; exact hw9) (by have := CV.n8; omega) CV.m) RPr.loc (by kernel_rfl) (.inr (aftB_ok (by kernel_rfl)))) rfl ?_ rfl (by kernel_rfl) rfl
    ·rintro _ ro2 gn2 ⟨hF2, hS2, G, u, rfl, hu1, hu2, hG, hb⟩
     dsimp only at hF2 hu1
     have e1 := off_at hF2 (s := 8208) (u := gb 8208 + 1) (by decide) Ur
     have e2 := off_at hF2 (s := 4096) (u := gb 4096 + 1) (by decide) Ur
     have e3 := off_at hF2 (s := 41024) (u := gb 41024 + 1) (by decide) Ur
     have e4 := off_at hF2 (s := 41025) (u := gb 41025 + 1) (by decide) Ur
     have hsq := Sq.mat fun x hx y hy => ⟨(hb x hx y hy).1, (hb x hx y hy).2.1⟩
     refine Ybw ?_
     have hcb := fun F : List (List Int) => CoV.cob (F := F) CV.o CV.l CV.e CV.n8 CV.m
     refine CLLG_q _ (cCobL CV.g CV.e (isLL_imm _) hsq CV.m) (.cons (exq_refL e3 rfl (by decide)) (.cons (exq_sc _ _ _ (by decide)) (.cons (exq_mat hG (by decide)) .nil))) rfl (noI_cc _ _ _ _) ?_
     refine Yal ?_
     refine CLLG_q _ (cSum7 (isL_imm [(N : Int)]) (isL_imm [(N : Int)]) (Nat.le_trans CV.l (by decide)) (isLLL_immC (cyF N k) _) (isLLL_immC (cobF [(N : Int)] (N : Int) (matL G N N)) _) (Nat.le_trans CV.n8 (by decide)) CV.m CV.b (hcb _).b) (.cons (exq_agg (.cons (exq_refL (Ue e3) rfl (by decide)) (.cons (exq_sc _ _ _ (by decide)) (.cons (exq_cube (Ue e4) (by decide)) .nil)))) (.cons (exq_agg (.cons (exq_refL (xs := [(N : Int)]) Ur rfl (by decide)) (.cons (exq_sc _ _ _ (by decide)) (.cons (exq_cube Ur (by decide)) .nil)))) .nil)) rfl (noI_cc _ _ _ _) ?_
     refine Yal ?_
     refine FING_of rfl ?_
     refine Ycb ?_
     have hF3 : Frm W17 g rb gb ro2 gn2 := Frm.trans KPt (hF2.monoB (W' := W17) (by decide))
     have g1 := hF3.up 69840
     have g2 := hF3.up 69841
     refine RETS_C Ur (upr_same _ _ _ _) rfl ⟨KPt, by simp only [↓za, ↓reduceIte, Nat.reduceEqDiff, zb, reduceCtorEq]; exact hS2, [(N : Int)], (N : Int), smF (cyF N k) (cobF [(N : Int)] (N : Int) (matL G N N)) (N : Int), N, 69840, _, _, rfl, by decide, Nat.lt_succ_of_le g1, ?_, Nat.lt_succ_of_le g2, ?_, ?_, ?_, CV.sum⟩
     all_goals simp only [↓za, ↓reduceIte, Nat.reduceEqDiff, zb, reduceCtorEq]
     all_goals first | exact Nat.le_refl _ | exact rfl
   ·refine Yau ?_
    refine RETS_C Ur (upr_same _ _ _ _) rfl ⟨KPt, by simp only [↓za, ↓reduceIte, Nat.reduceEqDiff, zb, reduceCtorEq]; exact hw9, [(N : Int)], (N : Int), (cyF N k), N, 41024, _, _, rfl, by decide, Nat.lt_succ_self _, ?_, Nat.lt_succ_self _, ?_, ?_, ?_, CV⟩
    all_goals simp only [↓za, ↓reduceIte, Nat.reduceEqDiff, zb, reduceCtorEq]
    all_goals first | exact Nat.le_refl _ | exact rfl
 ·refine Yaa ?_
  refine CLL_inS rfl (sNext hc (Ue hw) (n := 4) (by omega)) ?_
  rintro _ _ _ ⟨y, rfl, -, hy, hgE, w2, rfl, hw2⟩
  dsimp only at hgE
  subst hgE
  obtain ⟨y0, y1⟩ := hy (by omega)
  obtain ⟨y, rfl⟩ := Int.eq_ofNat_of_zero_le y0
  have eN : (1 : Int) + (y : Int) = ((1 + y : Nat) : Int) := by omega
  have hN : 1 ≤ 1 + y ∧ 1 + y ≤ 4 := by omega
  have e8 : Int.tdiv 8 ((1 + y : Nat) : Int) = ((8 / (1 + y) : Nat) : Int) := tdv 8 (1 + y)
  have w8 : wrF ((8 / (1 + y) : Nat) : Int) = (8 / (1 + y) : Nat) := wrfN (by have := Nat.div_le_self 8 (1 + y); omega)
  have n0 : ¬ ((1 + y : Nat) : Int) = 0 := by omega
  simp (maxSteps := 10000000) (disch := first | assumption | omega) only [go_sem, ↓reduceIte, Nat.reduceEqDiff, reduceCtorEq, Nat.reduceAdd, Nat.reduceMul, Nat.reduceLeDiff, zc, Int.reduceToNat, s0, eN, e8, w8, n0]
  generalize 1 + y = N at hN
  have d1 : 1 ≤ 8 / N := (Nat.le_div_iff_mul_le (by omega)).2 (by omega)
  have d2 : 8 / N ≤ 8 := Nat.div_le_self 8 N
  have d3 : N * (8 / N) ≤ 8 := Nat.mul_div_le 8 N
  generalize 8 / N = D at d1 d2 d3
  refine CLL_inS rfl (sNext hc (Ue hw2) (n := (D : Int)) (by omega)) ?_
  rintro _ _ _ ⟨z, rfl, -, hz, hgE, w3, rfl, hw3⟩
  dsimp only at hgE
  subst hgE
  obtain ⟨z0, z1⟩ := hz (by omega)
  obtain ⟨z, rfl⟩ := Int.eq_ofNat_of_zero_le z0
  have eM : (1 : Int) + (z : Int) = ((1 + z : Nat) : Int) := by omega
  have hM : 1 ≤ 1 + z ∧ 1 + z ≤ D := by omega
  simp (maxSteps := 10000000) (disch := first | assumption | omega) only [go_sem, ↓reduceIte, Nat.reduceEqDiff, reduceCtorEq, Nat.reduceAdd, Nat.reduceMul, Nat.reduceLeDiff, zc, Int.reduceToNat, s0, eM]
  generalize 1 + z = Q at hM
  have h8 : N * Q ≤ 8 := Nat.le_trans (Nat.mul_le_mul_left N hM.2) d3
  refine CLL_inS rfl (sNext hc (Ue hw3) (n := 4) (by omega)) ?_
  rintro _ _ _ ⟨k, rfl, -, hk, hgE, w4, rfl, hw4⟩
  dsimp only at hgE
  subst hgE
  obtain ⟨k0, k1⟩ := hk (by omega)
  refine Yaa ?_
  refine CLL_pure _ (cMix (n := N) (m := Q) (k := k) (by omega) (by omega) h8 (by omega)) rfl rfl rfl ?_
  refine Yaa ?_
  have HW := hw4
  have CV := CoV.mix (n := N) (m := Q) (k := k) (by omega) (by omega) h8
  refine CLL_inS rfl (sNext hc (Ue HW) (n := 2) (by omega)) ?_
  rintro _ _ _ ⟨x, rfl, -, hx, hgE, w9, rfl, hw9⟩
  dsimp only at hgE
  subst hgE
  by_cases hx0 : x = 0
  ·refine Yao ?_
   refine CLLD_inS [⟨some [8208], []⟩, ⟨some [8208], []⟩, ⟨some [8208], []⟩, ⟨some [8208], []⟩, ⟨some [8208], []⟩, e0, ⟨some [8208], []⟩, ⟨some [8208], []⟩, ⟨some [53377], []⟩, ⟨some [8208], []⟩, ⟨some [8208], []⟩, ⟨some [], WPr⟩, ⟨some [53376, 8192], [69824, 69825]⟩, ⟨some [53376, 53377, 69824, 69825], [69840, 69841]⟩, ⟨some [8208, 69840, 69841], [8208]⟩] (inX_frm (W := WPr) (g := g) (a := a) (bs := bs) (R := []) (by decide) (fun ro1 gn1 h1 h2 => sPairing hc (by rw [h1 8288 (.inr (by decide))]; simp only [↓za, ↓reduceIte, Nat.reduceEqDiff, zb, reduceCtorEq]; exact hw9) (by have := CV.n8; omega) CV.m) RPr.loc (by kernel_rfl) (.inr (aftB_ok (by kernel_rfl)))) rfl ?_ rfl (by kernel_rfl) rfl
   ·rintro _ ro2 gn2 ⟨hF2, hS2, G, u, rfl, hu1, hu2, hG, hb⟩
    dsimp only at hF2 hu1
    have e1 := off_at hF2 (s := 8208) (u := gb 8208 + 1) (by decide) Ur
    have e2 := off_at hF2 (s := 4096) (u := gb 4096 + 1) (by decide) Ur
    have e3 := off_at hF2 (s := 53376) (u := gb 53376 + 1) (by decide) Ur
    have e4 := off_at hF2 (s := 53377) (u := gb 53377 + 1) (by decide) Ur
    have hsq := Sq.mat fun x hx y hy => ⟨(hb x hx y hy).1, (hb x hx y hy).2.1⟩
    refine Ybw ?_
    have hcb := fun F : List (List Int) => CoV.cob (F := F) CV.o CV.l CV.e CV.n8 CV.m
    refine CLLG_q _ (cCobL CV.g CV.e (isLL_imm _) hsq CV.m) (.cons (exq_refL e3 rfl (by decide)) (.cons (exq_sc _ _ _ (by decide)) (.cons (exq_mat hG (by decide)) .nil))) rfl (noI_cc _ _ _ _) ?_
    refine Yal ?_
    refine CLLG_q _ (cSum7 (isL_imm [(N : Int), (Q : Int)]) (isL_imm [(N : Int), (Q : Int)]) (Nat.le_trans CV.l (by decide)) (isLLL_immC (mxF Q k (Nat.gcd N Q)) _) (isLLL_immC (cobF [(N : Int), (Q : Int)] ((Nat.gcd N Q : Nat) : Int) (matL G (N * Q) (N * Q))) _) (Nat.le_trans CV.n8 (by decide)) CV.m CV.b (hcb _).b) (.cons (exq_agg (.cons (exq_refL (Ue e3) rfl (by decide)) (.cons (exq_sc _ _ _ (by decide)) (.cons (exq_cube (Ue e4) (by decide)) .nil)))) (.cons (exq_agg (.cons (exq_refL (xs := [(N : Int), (Q : Int)]) Ur rfl (by decide)) (.cons (exq_sc _ _ _ (by decide)) (.cons (exq_cube Ur (by decide)) .nil)))) .nil)) rfl (noI_cc _ _ _ _) ?_
    refine Yal ?_
    refine FING_of rfl ?_
    refine Ycb ?_
    have hF3 : Frm W17 g rb gb ro2 gn2 := Frm.trans KPt (hF2.monoB (W' := W17) (by decide))
    have g1 := hF3.up 69840
    have g2 := hF3.up 69841
    refine RETS_C Ur (upr_same _ _ _ _) rfl ⟨KPt, by simp only [↓za, ↓reduceIte, Nat.reduceEqDiff, zb, reduceCtorEq]; exact hS2, [(N : Int), (Q : Int)], ((Nat.gcd N Q : Nat) : Int), smF (mxF Q k (Nat.gcd N Q)) (cobF [(N : Int), (Q : Int)] ((Nat.gcd N Q : Nat) : Int) (matL G (N * Q) (N * Q))) ((Nat.gcd N Q : Nat) : Int), (N * Q), 69840, _, _, rfl, by decide, Nat.lt_succ_of_le g1, ?_, Nat.lt_succ_of_le g2, ?_, ?_, ?_, CV.sum⟩
    all_goals simp only [↓za, ↓reduceIte, Nat.reduceEqDiff, zb, reduceCtorEq]
    all_goals first | exact Nat.le_refl _ | exact rfl
  ·refine Yau ?_
   refine RETS_C Ur (upr_same _ _ _ _) rfl ⟨KPt, by simp only [↓za, ↓reduceIte, Nat.reduceEqDiff, zb, reduceCtorEq]; exact hw9, [(N : Int), (Q : Int)], ((Nat.gcd N Q : Nat) : Int), (mxF Q k (Nat.gcd N Q)), (N * Q), 53376, _, _, rfl, by decide, Nat.lt_succ_self _, ?_, Nat.lt_succ_self _, ?_, ?_, ?_, CV⟩
   all_goals simp only [↓za, ↓reduceIte, Nat.reduceEqDiff, zb, reduceCtorEq]
   all_goals first | exact Nat.le_refl _ | exact rfl
 ·refine Yaa ?_
  refine CLL_pure _ cTri rfl rfl rfl ?_
  refine Yaa ?_
  have HW := hw
  have CV := CoV.tri
  refine CLL_inS rfl (sNext hc (Ue HW) (n := 2) (by omega)) ?_
  rintro _ _ _ ⟨x, rfl, -, hx, hgE, w9, rfl, hw9⟩
  dsimp only at hgE
  subst hgE
  by_cases hx0 : x = 0
  ·refine Yao ?_
   refine CLLD_inS [⟨some [8208], []⟩, ⟨some [8208], []⟩, ⟨some [8208], []⟩, ⟨some [8208], []⟩, ⟨some [8208], []⟩, e0, ⟨some [8208], []⟩, ⟨some [8208], []⟩, ⟨some [61441], []⟩, ⟨some [8208], []⟩, ⟨some [8208], []⟩, ⟨some [], WPr⟩, ⟨some [61440, 8192], [69824, 69825]⟩, ⟨some [61440, 61441, 69824, 69825], [69840, 69841]⟩, ⟨some [8208, 69840, 69841], [8208]⟩] (inX_frm (W := WPr) (g := g) (a := a) (bs := bs) (R := []) (by decide) (fun ro1 gn1 h1 h2 => sPairing hc (by rw [h1 8288 (.inr (by decide))]; simp only [↓za, ↓reduceIte, Nat.reduceEqDiff, zb, reduceCtorEq]; exact hw9) (by have := CV.n8; omega) CV.m) RPr.loc (by kernel_rfl) (.inr (aftB_ok (by kernel_rfl)))) rfl ?_ rfl (by kernel_rfl) rfl
   ·rintro _ ro2 gn2 ⟨hF2, hS2, G, u, rfl, hu1, hu2, hG, hb⟩
    dsimp only at hF2 hu1
    have e1 := off_at hF2 (s := 8208) (u := gb 8208 + 1) (by decide) Ur
    have e2 := off_at hF2 (s := 4096) (u := gb 4096 + 1) (by decide) Ur
    have e3 := off_at hF2 (s := 61440) (u := gb 61440 + 1) (by decide) Ur
    have e4 := off_at hF2 (s := 61441) (u := gb 61441 + 1) (by decide) Ur
    have hsq := Sq.mat fun x hx y hy => ⟨(hb x hx y hy).1, (hb x hx y hy).2.1⟩
    refine Ybw ?_
    have hcb := fun F : List (List Int) => CoV.cob (F := F) CV.o CV.l CV.e CV.n8 CV.m
    refine CLLG_q _ (cCobL CV.g CV.e (isLL_imm _) hsq CV.m) (.cons (exq_refL e3 rfl (by decide)) (.cons (exq_sc _ _ _ (by decide)) (.cons (exq_mat hG (by decide)) .nil))) rfl (noI_cc _ _ _ _) ?_
    refine Yal ?_
    refine CLLG_q _ (cSum7 (isL_imm [2, 2, 2]) (isL_imm [2, 2, 2]) (Nat.le_trans CV.l (by decide)) (isLLL_immC trF _) (isLLL_immC (cobF [2, 2, 2] 2 (matL G 8 8)) _) (Nat.le_trans CV.n8 (by decide)) CV.m CV.b (hcb _).b) (.cons (exq_agg (.cons (exq_refL (Ue e3) rfl (by decide)) (.cons (exq_sc _ _ _ (by decide)) (.cons (exq_cube (Ue e4) (by decide)) .nil)))) (.cons (exq_agg (.cons (exq_refL (xs := [2, 2, 2]) Ur rfl (by decide)) (.cons (exq_sc _ _ _ (by decide)) (.cons (exq_cube Ur (by decide)) .nil)))) .nil)) rfl (noI_cc _ _ _ _) ?_
    refine Yal ?_
    refine FING_of rfl ?_
    refine Ycb ?_
    have hF3 : Frm W17 g rb gb ro2 gn2 := Frm.trans KPt (hF2.monoB (W' := W17) (by decide))
    have g1 := hF3.up 69840
    have g2 := hF3.up 69841
    refine RETS_C Ur (upr_same _ _ _ _) rfl ⟨KPt, by simp only [↓za, ↓reduceIte, Nat.reduceEqDiff, zb, reduceCtorEq]; exact hS2, [2, 2, 2], 2, smF trF (cobF [2, 2, 2] 2 (matL G 8 8)) 2, 8, 69840, _, _, rfl, by decide, Nat.lt_succ_of_le g1, ?_, Nat.lt_succ_of_le g2, ?_, ?_, ?_, CV.sum⟩
    all_goals simp only [↓za, ↓reduceIte, Nat.reduceEqDiff, zb, reduceCtorEq]
    all_goals first | exact Nat.le_refl _ | exact rfl
  ·refine Yau ?_
   refine RETS_C Ur (upr_same _ _ _ _) rfl ⟨KPt, by simp only [↓za, ↓reduceIte, Nat.reduceEqDiff, zb, reduceCtorEq]; exact hw9, [2, 2, 2], 2, trF, 8, 61440, _, _, rfl, by decide, Nat.lt_succ_self _, ?_, Nat.lt_succ_self _, ?_, ?_, ?_, CV⟩
   all_goals simp only [↓za, ↓reduceIte, Nat.reduceEqDiff, zb, reduceCtorEq]
   all_goals first | exact Nat.le_refl _ | exact rfl
 ·refine Yaa ?_
  refine CLL_inS rfl (sOrders hc (Ue hw) (m := 8) (by omega)) ?_
  rintro _ ro2 gn2 ⟨hF2, hS2, O, u, rfl, hu1, hu2, hO, hP, hp8, hO4⟩
  dsimp only at hF2 hu1
  have e2 := off_at hF2 (s := 4096) (u := gb 4096 + 1) (by decide) Ur
  have hF3 : Frm W17 g rb gb ro2 gn2 := Frm.trans KPt (hF2.monoB (W' := W17) (by decide))
  have hG : GrpP O := hP.grp (by omega) (by omega)
  have pp := pfx_pos1 hP.2
  obtain ⟨N, hN⟩ := Int.eq_ofNat_of_zero_le (show 0 ≤ pfx O O.length by omega)
  have en : l6s O = N := by unfold l6s; rw [if_pos hp8]; exact hN
  have cs := cL7s (isL_imm O) (Nat.le_trans hO4 (by decide)) hP.2
  rw [en] at cs
  refine Yaa ?_
  refine CLL_q _ cs (.cons (exq_refL hO rfl (by decide)) .nil) rfl rfl rfl ?_
  refine Yaa ?_
  refine CLL_inS rfl (sPick hc (Ue hS2) (xs := [1, 2, 3, 4, 5, 7, 12]) Ur (by decide) (by decide) (by decide)) ?_
  rintro _ _ _ ⟨k, hk, rfl, hgE, w3, rfl, hw3⟩
  dsimp only at hgE
  subst hgE
  have hM : ∀ k, k < 7 → 1 ≤ atI [1, 2, 3, 4, 5, 7, 12] k ∧ atI [1, 2, 3, 4, 5, 7, 12] k ≤ 1000 := by decide
  have hM := hM k hk
  generalize atI [1, 2, 3, 4, 5, 7, 12] k = M at hM
  refine Yaa ?_
  refine CLL_inS rfl (sPairing hc (Ue hw3) (n := N) (by omega) hM) ?_
  rintro _ ro4 gn4 ⟨hF4, hS4, G, u4, rfl, hu3, hu4, hG4, hb4⟩
  dsimp only at hF4 hu3
  have e3 := off_at hF4 (s := 4096) (u := gb 4096 + 1) (by decide) (Ue e2)
  have e4 := off_at hF4 (s := 8256) (u := u) (by decide) (Ue hO)
  have hF5 : Frm W17 g rb gb ro4 gn4 := Frm.trans KPt (hF4.monoB (W' := W17) (by decide))
  have hsq := Sq.mat fun x hx y hy => ⟨(hb4 x hx y hy).1, (hb4 x hx y hy).2.1⟩
  refine Yaa ?_
  refine CLL_q _ (cCobL hG hN.symm (isLL_imm _) hsq hM) (.cons (exq_refL e4 rfl (by decide)) (.cons (exq_sc _ _ _ (by decide)) (.cons (exq_mat hG4 (by decide)) .nil))) rfl rfl (noI_cc _ _ _ _) ?_
  simp (maxSteps := 10000000) (disch := first | assumption | omega) only [go_sem, ↓reduceIte, Nat.reduceEqDiff, reduceCtorEq, Nat.reduceAdd, Nat.reduceMul, Nat.reduceLeDiff, zc, Int.reduceToNat, s0, e3, e4]
  have g1 := hF5.up 24672
  have g2 := hF5.up 24673
  refine RETS_C Ur (upr_same _ _ _ _) rfl ⟨KPt, by simp only [↓za, ↓reduceIte, Nat.reduceEqDiff, zb, reduceCtorEq]; exact hS4, O, M, cobF O M (matL G N N), N, 24672, _, _, rfl, by decide, Nat.lt_succ_of_le g1, ?_, Nat.lt_succ_of_le g2, ?_, ?_, ?_, CoV.cob hP hO4 hN.symm (by omega) hM⟩
  all_goals simp only [↓za, ↓reduceIte, Nat.reduceEqDiff, zb, reduceCtorEq]
  all_goals first | exact Nat.le_refl _ | exact rfl
end
end Go.Proofs.YtmchdjiigfiabaaGreat
