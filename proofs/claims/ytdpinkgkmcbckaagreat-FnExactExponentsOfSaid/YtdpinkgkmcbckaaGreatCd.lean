/- Texts joined: Ci1 Ci2 Ci3 Ci4 Ci5 Ci6. -/
import Derived.TacticsIn
import Derived.TacticsInMore
import Derived.WalkKit
import Derived.Test.YtdpinkgkmcbckaaGreatCa
import Derived.Test.YtdpinkgkmcbckaaGreatCb
import Derived.Test.YtdpinkgkmcbckaaGreatCc
set_option linter.all false
/- Characters by the program: matrices, the polynomial. -/
namespace Go.Proofs.YtdpinkgkmcbckaaGreat
open Go.RowKit
set_option maxRecDepth 1000000
def mlC (n : Nat) (A B : Nat → Nat → Int) (i j : Nat) : Int := sm (fun k => A i k * B k j) n % 55441
theorem num_mlC (n : Nat) (A B : Nat → Nat → Int) : numM (mlC n A B) := fun _ _ => num_mod _
theorem numLL_mt {n m : Nat} {A : Nat → Nat → Int} (hA : numM A) : numLL (matL A n m) := fun i j => by
 by_cases hi : i < n
 ·by_cases hj : j < m
  ·rw [matL_at hi hj]; exact hA i j
  ·rw [matL_row hi]
   have : atI (rws (fun j => A i j) m) j = 0 := by unfold atI; rw [List.getD_eq_getElem?_getD, List.getElem?_eq_none (by rw [zfe]; omega)]; rfl
   rw [this]; unfold num; decide
 ·have : row (matL A n m) i = [] := by unfold row; rw [List.getD_eq_getElem?_getD, List.getElem?_eq_none (by rw [matL_len2]; omega)]; rfl
  rw [this]
  show num (atI [] j)
  unfold num atI
  simp
theorem cMlC {a b : AV} {n : Nat} {A B : Nat → Nat → Int} (ha : isLL a (matL A n n)) (hb : isLL b (matL B n n)) (h0 : 0 < n) (hn : n ≤ 65536) (hA : numM A) (hB : numM B) : CallOK Tryz.prog 114 [a, b] (matA (mlC n A B) n n) := by
 have hN : n ≤ maxN := Nat.le_trans hn (by decide)
 have h := c92 ha hb (by rw [matL_len2]; exact h0) (by rw [matL_len2]; exact hN) (by rw [matL_len2]; exact hN) (fun i hi => by rw [matL_len2] at hi ⊢; rw [matL_row2 hi]) (fun i hi => by rw [matL_len2] at hi ⊢; rw [matL_row2 hi]; exact Nat.le_refl _) (numLL_mt hA) (numLL_mt hB)
 have e : rowLL (tms (matL A n n) (matL B n n)) = matA (mlC n A B) n n := by
  show rowLL (matL (fun i j => tmE (matL A n n) (matL B n n) i j) (matL A n n).length (matL B n n).length) = _
  rw [rowLL_mat, matL_len2, matL_len2]
  refine mat_congr fun i j hi hj => ?_
  unfold tmE mlC
  rw [matL_len2]
  exact congrArg (· % 55441) (sm_congr fun k hk => by rw [matL_at hi hk, matL_at hk hj])
 rw [e] at h; exact h
theorem cLessU {a : AV} {n : Nat} {A : Nat → Nat → Int} {v : Int} (ha : isLL a (matL A n n)) (hn : n ≤ 65536) (hA : numM A) (hv : num v) : CallOK Tryz.prog 26 [a, i64 v] (matA (lsM A v) n n) := by
 have hN : n ≤ 4294967296 := by omega
 have hl : (matL A n n).length = n := matL_len2 _ _ _
 refine call_of (fn := Tryz.f26) (code := bodyOf Tryz.f26) Tryz.func26 rfl (by kernel_rfl) (noRef_mat _ _ _) ?_
 intro sl hs
 have s0 : sl 0 = a := hs 0
 have s1 : sl 1 = i64 v := hs 1
 dsimp only [Tryz.f26, bodyOf, Option.getD]
 simp (maxSteps := 10000000) (disch := first | assumption | omega) only [go_sem, ↓reduceIte, Nat.reduceEqDiff, reduceCtorEq, Nat.reduceAdd, Nat.reduceMul, Nat.reduceLeDiff, zc, Int.reduceToNat, s0, s1, isLL_len ha, hl]
 refine WK_for (fun i st => st.sl 0 = a ∧ st.sl 1 = i64 v ∧ st.sl 10 = a ∧ st.sl 11 = i64 (n : Nat) ∧ st.sl 12 = i64 (i : Int) ∧ st.sl 5 = .ref 8192 (st.gn 8192) [] 0 i ∧ st.ro 8192 (st.gn 8192) = some (.row (rws (fun i => .row (rws (fun j => i64 (lsM A v i j)) n)) i))) n ?_ ?_ ?_
 ·refine Yak ?_
  rfl
 ·rintro i sl ro gn hi ⟨s0, s1, s10, s11, s12, s5, r8192⟩
  dsimp only at s0 s1 s10 s11 s12 s5 r8192
  have hi' : (i : Int) < (n : Nat) := by omega
  have hi2 : i + 1 ≤ 4294967296 := by omega
  have hr := isLL_row ha (k := i) (by rw [hl]; exact hi)
  have lr : (row (matL A n n) i).length = n := matL_row2 hi
  have er : row (matL A n n) i = rws (fun j => A i j) n := matL_row hi
  have nv := hA i i
  unfold num at nv hv
  have c := cCloP hr (by rw [lr]; unfold maxN; omega) (by omega)
  have cm := cModI (x := A i i - v) (by omega) (by omega)
  simp (maxSteps := 10000000) (disch := first | assumption | omega) only [go_sem, ↓reduceIte, Nat.reduceEqDiff, reduceCtorEq, Nat.reduceAdd, Nat.reduceMul, Nat.reduceLeDiff, zc, Int.reduceToNat, s0, s1, s10, s11, s12, s5, r8192, hi', hi, hl]
  refine CLL_pure _ c PUt rfl rfl ?_
  rw [er]
  simp (maxSteps := 10000000) (disch := first | assumption | omega) only [go_sem, ↓reduceIte, Nat.reduceEqDiff, reduceCtorEq, Nat.reduceAdd, Nat.reduceMul, Nat.reduceLeDiff, zc, Int.reduceToNat, s0, s1, s10, s11, s12, s5, r8192, hi', hi, impE_row, List.length_map, zfe, rws_map, rws_get, hi]
  refine CLL_pure _ cm PUt rfl rfl ?_
  simp (maxSteps := 10000000) (disch := first | assumption | omega) only [go_sem, ↓reduceIte, Nat.reduceEqDiff, reduceCtorEq, Nat.reduceAdd, Nat.reduceMul, Nat.reduceLeDiff, zc, Int.reduceToNat, s0, s1, s10, s11, s12, s5, r8192, hi', hi, rws_get, hi, rws_set, hi2]
  refine ⟨i64c (by omega), ?_⟩
  have e : (AV.row (rws (fun j => if j = i then AV.sc (Value.int IntKind.i64 ((A i i - v) % 55441)) else i64 (A i j)) n)) = .row (rws (fun j => i64 (lsM A v i j)) n) := congrArg AV.row (rws_congr fun j _ => by unfold lsM; split <;> rfl)
  rw [e]
  exact congrArg (fun z => some (AV.row z)) (zfm (fun i => AV.row (rws (fun j => i64 (lsM A v i j)) n)) i)
 ·rintro sl ro gn ⟨s0, s1, s10, s11, s12, s5, r8192⟩
  dsimp only at s0 s1 s10 s11 s12 s5 r8192
  have hi' : ¬ ((n : Nat) : Int) < (n : Nat) := by omega
  simp (maxSteps := 10000000) (disch := first | assumption | omega) only [go_sem, ↓reduceIte, Nat.reduceEqDiff, reduceCtorEq, Nat.reduceAdd, Nat.reduceMul, Nat.reduceLeDiff, zc, Int.reduceToNat, s0, s1, s10, s11, s12, s5, r8192, hi']
  exact Yao
def flm (A : Nat → Nat → Int) (n : Nat) : Nat → (Nat → Nat → Int) × Int
 | 0 => (fun _ _ => 0, 1)
 | k + 1 => (lsM (mlC n A (flm A n k).1) (-(flm A n k).2 % 55441), qt (-(sm (fun i => mlC n A (lsM (mlC n A (flm A n k).1) (-(flm A n k).2 % 55441)) i i) n % 55441) % 55441) ((k + 1 : Nat) : Int))
theorem num_qt (a b : Int) : num (qt a b) := num_mod _
theorem num_flm (A : Nat → Nat → Int) (n : Nat) : ∀ k, numM (flm A n k).1 ∧ num (flm A n k).2
 | 0 => ⟨fun _ _ => by show num 0; unfold num; decide, by show num 1; unfold num; decide⟩
 | k + 1 => ⟨num_lsM (num_mlC _ _ _) _, num_qt _ _⟩
def chL (A : Nat → Nat → Int) (n : Nat) : List Int := rws (fun j => (flm A n (n - j)).2) (n + 1)
theorem flm_fad (A : Nat → Nat → Int) {n : Nat} (hn : n ≤ 16) : Fad A n (fun k => (flm A n k).1) (fun k => (flm A n k).2) where
 m0 := fun x y _ _ => MM.rfl
 c0 := MM.rfl
 ms := fun k hk x y hx hy => by
  show MM (lsM (mlC n A (flm A n k).1) (-(flm A n k).2 % 55441) x y) _
  unfold lsM
  by_cases e : y = x
  ·subst e
   rw [if_pos rfl, if_pos rfl]
   refine (MM.mod _).trans ((MM.sub (MM.mod _) (MM.mod _)).trans (MM.of_eq ?_))
   omega
  ·rw [if_neg e, if_neg (fun h => e h.symm), Int.add_zero]
   exact MM.mod _
 cs := fun k hk => by
  show MM (((k + 1 : Nat) : Int) * qt (-(sm (fun i => mlC n A (flm A n (k + 1)).1 i i) n % 55441) % 55441) ((k + 1 : Nat) : Int)) _
  have hb : num ((k + 1 : Nat) : Int) := by unfold num; omega
  have e1 := inv_mul hb (by omega)
  generalize ((k + 1 : Nat) : Int) = b at *
  have e2 : MM (-(sm (fun i => mlC n A (flm A n (k + 1)).1 i i) n % 55441) % 55441) (-sm (fun i => sm (fun z => A i z * (flm A n (k + 1)).1 z i) n) n) :=
   (MM.mod _).trans ((MM.mod _).trans (sm_MM fun i _ => MM.mod _)).neg
  generalize -(sm (fun i => mlC n A (flm A n (k + 1)).1 i i) n % 55441) % 55441 = t at e2 ⊢
  refine MM.trans ?_ e2
  have e3 : MM (b * qt t b) (b * (t * pw b 55439)) := MM.mul MM.rfl (MM.mod _)
  refine e3.trans ?_
  have e4 : b * (t * pw b 55439) = t * (pw b 55439 * b) := by rw [Int.mul_left_comm, Int.mul_comm b]
  rw [e4]
  exact (MM.mul MM.rfl e1).trans (MM.of_eq (Int.mul_one _))
theorem hv_mu (c : Nat → Int) (v : Int) : ∀ m : Nat, MM (hv v (rws (fun j => c (m - j)) (m + 1))) (muH c v (m + 1))
 | 0 => by
  show MM ((0 * v + c 0) % 55441) (v * 0 + c 0)
  refine (MM.mod _).trans (MM.of_eq ?_)
  omega
 | m + 1 => by
  have e : rws (fun j => c (m + 1 - j)) (m + 1 + 1) = c (m + 1) :: rws (fun j => c (m - j)) (m + 1) := by
   unfold rws
   rw [List.range_succ_eq_map, List.map_cons, List.map_map]
   congr 1
   refine List.map_congr_left fun j _ => ?_
   show c (m + 1 - (j + 1)) = c (m - j)
   congr 1
   omega
  rw [e]
  show MM ((hv v (rws (fun j => c (m - j)) (m + 1)) * v + c (m + 1)) % 55441) (v * muH c v (m + 1) + c (m + 1))
  refine (MM.mod _).trans (MM.add ((MM.mul (hv_mu c v m) MM.rfl).trans (MM.of_eq (Int.mul_comm _ _))) MM.rfl)
theorem chL_root {A : Nat → Nat → Int} {n : Nat} {v : Int} (hn : n ≤ 16) (h : Eig A n v) : hv v (chL A n) = 0 := by
 obtain ⟨w, ⟨x, hx, h0⟩, hw⟩ := h
 have h1 := fad_root (flm_fad A hn) hn hw hx h0
 exact mm_zero ((hv_mu (fun k => (flm A n k).2) v n).trans h1) (num_hv _ _)
theorem chL_mon (A : Nat → Nat → Int) (n : Nat) : Mon (chL A n) := by
 unfold Mon chL rws
 rw [List.range_succ, List.map_append]
 simp
 rfl
theorem chL_len (A : Nat → Nat → Int) (n : Nat) : (chL A n).length = n + 1 := zfe _ _
theorem cTrM {a : AV} {n : Nat} {M : Nat → Nat → Int} (ha : isLL a (matL M n n)) (hn : n ≤ 65536) (hM : numM M) : CallOK Tryz.prog 115 [a] (i64 (sm (fun i => M i i) n % 55441)) := by
 have c := cTrI ha (by rw [matL_len2]; exact hn) (fun i hi => by rw [matL_len2] at hi; rw [matL_row2 hi]; exact hi) (numLL_mt hM)
 rw [matL_len2, sm_congr (g := fun i => M i i) fun i hi => matL_at hi hi] at c
 exact c
theorem cPoly {a : AV} {n : Nat} {A : Nat → Nat → Int} (ha : isLL a (matL A n n)) (h0 : 0 < n) (hn : n ≤ 1000) (hA : numM A) : CallOK Tryz.prog 95 [a] (rowL (chL A n)) := by
 have hN : n ≤ 4294967296 := by omega
 have hl : (matL A n n).length = n := matL_len2 _ _ _
 have e0 : rowL (chL A n) = .row (rws (fun j => i64 (flm A n (n - j)).2) (n + 1)) := by unfold chL; simp only [rowL, rws_map]
 have hz := c126m (n := n) (m := n) hN hN
 refine call_of (fn := Tryz.f95) (code := bodyOf Tryz.f95) Tryz.func95 rfl (by kernel_rfl) (noRef_rowL _) ?_
 intro sl hs
 have s0 : sl 0 = a := hs 0
 rw [e0]
 have en : (n : Int) + 1 = ((n + 1 : Nat) : Int) := by omega
 have hm' : ((n + 1 : Nat) : Int) ≤ ((4294967296 : Nat) : Int) := by omega
 dsimp only [Tryz.f95, bodyOf, Option.getD]
 simp (maxSteps := 10000000) (disch := first | assumption | omega) only [go_sem, ↓reduceIte, Nat.reduceEqDiff, reduceCtorEq, Nat.reduceAdd, Nat.reduceMul, Nat.reduceLeDiff, zc, Int.reduceToNat, s0, isLL_len ha, hl, en, kMake, Int.natCast_nonneg, Int.le_refl, Int.toNat_natCast, hm', List.length_replicate, List.getD_cons_zero, rep_rws, rws_set]
 refine CLL_pure _ hz PUt rfl rfl ?_
 simp (maxSteps := 10000000) (disch := first | assumption | omega) only [go_sem, ↓reduceIte, Nat.reduceEqDiff, reduceCtorEq, Nat.reduceAdd, Nat.reduceMul, Nat.reduceLeDiff, zc, Int.reduceToNat, s0, impE_row, zfe]
 refine WK_for (fun k st => st.sl 0 = a ∧ st.sl 3 = i64 (n : Nat) ∧ st.sl 4 = .ref 12320 1 [] 0 (n + 1) ∧ st.ro 12320 1 = some (.row (rws (fun j => i64 (if n - k ≤ j then (flm A n (n - j)).2 else 0)) (n + 1))) ∧ st.sl 6 = i64 ((k : Int) + 1) ∧ ((k = 0 ∧ st.sl 5 = .ref 20512 1 [] 0 n ∧ st.ro 20512 1 = some (matA (fun _ _ => 0) n n)) ∨ (0 < k ∧ st.sl 5 = .ref 37056 (st.gn 37056) [] 0 n ∧ st.ro 37056 (st.gn 37056) = some (matA (flm A n k).1 n n)))) n ?_ ?_ ?_
 ·refine Yaj ?_
  refine ⟨congrArg (fun z => some (AV.row z)) (rws_congr fun j hj => ?_), i64c (by omega), .inl trivial⟩
  by_cases e : j = n
  ·subst e
   rw [if_pos rfl, if_pos (by omega), Nat.sub_self]
   rfl
  ·rw [if_neg e, if_neg (by omega)]
 ·rintro k sl ro gn hk ⟨s0, s3, s4, r12320, s6, q⟩
  dsimp only at s0 s3 s4 r12320 s6
  have hk' : (k : Int) < (n : Nat) := by omega
  dsimp only at q
  have nk := (num_flm A n k).2
  have nk' := nk
  unfold num at nk'
  have f1 : (k : Int) + 1 ≤ (n : Int) := by omega
  have f2 : (n : Int) - ((k : Int) + 1) = ((n - (k + 1) : Nat) : Int) := by omega
  have f3 : ((n - (k + 1) : Nat) : Int) + 1 = ((n - k : Nat) : Int) := by omega
  have f4 : (if n - k ≤ n - k then (flm A n (n - (n - k))).2 else 0) = (flm A n k).2 := by rw [if_pos (Nat.le_refl _)]; congr 1; congr 1; omega
  have f5 : n - k < n + 1 := by omega
  have f6 : n - (k + 1) < n + 1 := by omega
  have f7 : ((k : Int) + 1) = ((k + 1 : Nat) : Int) := by omega
  have cmod := cModI (x := 0 - (flm A n k).2) (by omega) (by omega)
  have nl : num (-(flm A n k).2 % 55441) := num_mod _
  have n2 : num (sm (fun i => mlC n A (lsM (mlC n A (flm A n k).1) (-(flm A n k).2 % 55441)) i i) n % 55441) := num_mod _
  have n2' := n2
  unfold num at n2'
  have cmod2 := cModI (x := 0 - sm (fun i => mlC n A (lsM (mlC n A (flm A n k).1) (-(flm A n k).2 % 55441)) i i) n % 55441) (by omega) (by omega)
  have n3 : num (-(sm (fun i => mlC n A (lsM (mlC n A (flm A n k).1) (-(flm A n k).2 % 55441)) i i) n % 55441) % 55441) := num_mod _
  have cdv := c65 (a := -(sm (fun i => mlC n A (lsM (mlC n A (flm A n k).1) (-(flm A n k).2 % 55441)) i i) n % 55441) % 55441) (b := ((k + 1 : Nat) : Int)) n3.1 n3.2 (by omega) (by omega)
  rcases q with ⟨k0, q5, qr⟩ | ⟨k0, q5, qr⟩
  ·have qr' : ro 20512 1 = some (matA (flm A n k).1 n n) := by rw [k0]; exact qr
   simp (maxSteps := 10000000) (disch := first | assumption | omega) only [go_sem, ↓reduceIte, Nat.reduceEqDiff, reduceCtorEq, Nat.reduceAdd, Nat.reduceMul, Nat.reduceLeDiff, zc, Int.reduceToNat, s0, s3, s4, r12320, s6, hk', hk, eq_true f1, q5, qr']
   refine CLLD_q _ (cMlC ha (isLL_mat (flm A n k).1 n n) h0 (by omega) hA (num_flm A n k).1) AXt rfl (noI_mat _ _ _) ?_
   simp (maxSteps := 10000000) (disch := first | assumption | omega) only [go_sem, ↓reduceIte, Nat.reduceEqDiff, reduceCtorEq, Nat.reduceAdd, Nat.reduceMul, Nat.reduceLeDiff, zc, Int.reduceToNat, s0, s3, s4, r12320, s6, hk', hk, qr', impE_row, zfe, f2, f3, rws_get, f5, f4]
   refine CLLD_pure _ cmod rfl rfl ?_
   simp (maxSteps := 10000000) (disch := first | assumption | omega) only [go_sem, ↓reduceIte, Nat.reduceEqDiff, reduceCtorEq, Nat.reduceAdd, Nat.reduceMul, Nat.reduceLeDiff, zc, Int.reduceToNat, s0, s3, s4, r12320, s6, hk', hk, Int.zero_sub, qr']
   refine CLLD_q _ (cLessU (isLL_mat (mlC n A (flm A n k).1) n n) (by omega) (num_mlC _ _ _) nl) AXt rfl (noI_mat _ _ _) ?_
   refine Yax ?_
   refine FIN_of (by kernel_rfl) ?_
   simp (maxSteps := 10000000) (disch := first | assumption | omega) only [go_sem, ↓reduceIte, Nat.reduceEqDiff, reduceCtorEq, Nat.reduceAdd, Nat.reduceMul, Nat.reduceLeDiff, zc, Int.reduceToNat, s0, s3, s4, r12320, s6, hk', hk, qr', f2]
   refine CLL_q _ (cMlC ha (isLL_mat (lsM (mlC n A (flm A n k).1) (-(flm A n k).2 % 55441)) n n) h0 (by omega) hA (num_lsM (num_mlC _ _ _) _)) AXt rfl rfl (noI_mat _ _ _) ?_
   refine Yax ?_
   refine CLL_q _ (cTrM (isLL_mat (mlC n A (lsM (mlC n A (flm A n k).1) (-(flm A n k).2 % 55441))) n n) (by omega) (num_mlC _ _ _)) AXt rfl rfl rfl ?_
   simp (maxSteps := 10000000) (disch := first | assumption | omega) only [go_sem, ↓reduceIte, Nat.reduceEqDiff, reduceCtorEq, Nat.reduceAdd, Nat.reduceMul, Nat.reduceLeDiff, zc, Int.reduceToNat, s0, s3, s4, r12320, s6, hk', hk]
   refine CLL_pure _ cmod2 rfl rfl rfl ?_
   simp (maxSteps := 10000000) (disch := first | assumption | omega) only [go_sem, ↓reduceIte, Nat.reduceEqDiff, reduceCtorEq, Nat.reduceAdd, Nat.reduceMul, Nat.reduceLeDiff, zc, Int.reduceToNat, s0, s3, s4, r12320, s6, hk', hk, Int.zero_sub, f7]
   refine CLL_pure _ cdv rfl rfl rfl ?_
   simp (maxSteps := 10000000) (disch := first | assumption | omega) only [go_sem, ↓reduceIte, Nat.reduceEqDiff, reduceCtorEq, Nat.reduceAdd, Nat.reduceMul, Nat.reduceLeDiff, zc, Int.reduceToNat, s0, s3, s4, r12320, s6, hk', hk, rws_set, f6, f7]
   refine ⟨congrArg (fun z => some (AV.row z)) (rws_congr fun j hj => ?_), by first | exact .inr ⟨by omega, rfl⟩ | exact .inr rfl⟩
   by_cases e : j = n - (k + 1)
   ·rw [if_pos e, if_pos (by omega)]
    have e2 : n - j = k + 1 := by omega
    rw [e2]
    rfl
   ·rw [if_neg e]
    by_cases e3 : n - k ≤ j
    ·rw [if_pos e3, if_pos (by omega)]
    ·rw [if_neg e3, if_neg (by omega)]
  ·simp (maxSteps := 10000000) (disch := first | assumption | omega) only [go_sem, ↓reduceIte, Nat.reduceEqDiff, reduceCtorEq, Nat.reduceAdd, Nat.reduceMul, Nat.reduceLeDiff, zc, Int.reduceToNat, s0, s3, s4, r12320, s6, hk', hk, eq_true f1, q5, qr]
   refine CLLD_q _ (cMlC ha (isLL_mat (flm A n k).1 n n) h0 (by omega) hA (num_flm A n k).1) AXt rfl (noI_mat _ _ _) ?_
   simp (maxSteps := 10000000) (disch := first | assumption | omega) only [go_sem, ↓reduceIte, Nat.reduceEqDiff, reduceCtorEq, Nat.reduceAdd, Nat.reduceMul, Nat.reduceLeDiff, zc, Int.reduceToNat, s0, s3, s4, r12320, s6, hk', hk, qr, impE_row, zfe, f2, f3, rws_get, f5, f4]
   refine CLLD_pure _ cmod rfl rfl ?_
   simp (maxSteps := 10000000) (disch := first | assumption | omega) only [go_sem, ↓reduceIte, Nat.reduceEqDiff, reduceCtorEq, Nat.reduceAdd, Nat.reduceMul, Nat.reduceLeDiff, zc, Int.reduceToNat, s0, s3, s4, r12320, s6, hk', hk, Int.zero_sub, qr]
   refine CLLD_q _ (cLessU (isLL_mat (mlC n A (flm A n k).1) n n) (by omega) (num_mlC _ _ _) nl) AXt rfl (noI_mat _ _ _) ?_
   refine Yax ?_
   refine FIN_of (by kernel_rfl) ?_
   simp (maxSteps := 10000000) (disch := first | assumption | omega) only [go_sem, ↓reduceIte, Nat.reduceEqDiff, reduceCtorEq, Nat.reduceAdd, Nat.reduceMul, Nat.reduceLeDiff, zc, Int.reduceToNat, s0, s3, s4, r12320, s6, hk', hk, qr, f2]
   refine CLL_q _ (cMlC ha (isLL_mat (lsM (mlC n A (flm A n k).1) (-(flm A n k).2 % 55441)) n n) h0 (by omega) hA (num_lsM (num_mlC _ _ _) _)) AXt rfl rfl (noI_mat _ _ _) ?_
   refine Yax ?_
   refine CLL_q _ (cTrM (isLL_mat (mlC n A (lsM (mlC n A (flm A n k).1) (-(flm A n k).2 % 55441))) n n) (by omega) (num_mlC _ _ _)) AXt rfl rfl rfl ?_
   simp (maxSteps := 10000000) (disch := first | assumption | omega) only [go_sem, ↓reduceIte, Nat.reduceEqDiff, reduceCtorEq, Nat.reduceAdd, Nat.reduceMul, Nat.reduceLeDiff, zc, Int.reduceToNat, s0, s3, s4, r12320, s6, hk', hk]
   refine CLL_pure _ cmod2 rfl rfl rfl ?_
   simp (maxSteps := 10000000) (disch := first | assumption | omega) only [go_sem, ↓reduceIte, Nat.reduceEqDiff, reduceCtorEq, Nat.reduceAdd, Nat.reduceMul, Nat.reduceLeDiff, zc, Int.reduceToNat, s0, s3, s4, r12320, s6, hk', hk, Int.zero_sub, f7]
   refine CLL_pure _ cdv rfl rfl rfl ?_
   simp (maxSteps := 10000000) (disch := first | assumption | omega) only [go_sem, ↓reduceIte, Nat.reduceEqDiff, reduceCtorEq, Nat.reduceAdd, Nat.reduceMul, Nat.reduceLeDiff, zc, Int.reduceToNat, s0, s3, s4, r12320, s6, hk', hk, rws_set, f6, f7]
   refine ⟨congrArg (fun z => some (AV.row z)) (rws_congr fun j hj => ?_), by first | exact .inr ⟨by omega, rfl⟩ | exact .inr rfl⟩
   by_cases e : j = n - (k + 1)
   ·rw [if_pos e, if_pos (by omega)]
    have e2 : n - j = k + 1 := by omega
    rw [e2]
    rfl
   ·rw [if_neg e]
    by_cases e3 : n - k ≤ j
    ·rw [if_pos e3, if_pos (by omega)]
    ·rw [if_neg e3, if_neg (by omega)]
 ·rintro sl ro gn ⟨s0, s3, s4, r12320, s6, q⟩
  dsimp only at s0 s3 s4 r12320 s6
  have hk' : ¬ ((n : Nat) : Int) < (n : Nat) := by omega
  have f1 : ¬ (n : Int) + 1 ≤ (n : Int) := by omega
  have e : rws (fun j => i64 (if n - n ≤ j then (flm A n (n - j)).2 else 0)) (n + 1) = rws (fun j => i64 (flm A n (n - j)).2) (n + 1) := rws_congr fun j _ => by rw [if_pos (by omega)]
  rw [e] at r12320
  simp (maxSteps := 10000000) (disch := first | assumption | omega) only [go_sem, ↓reduceIte, Nat.reduceEqDiff, reduceCtorEq, Nat.reduceAdd, Nat.reduceMul, Nat.reduceLeDiff, zc, Int.reduceToNat, s0, s3, s4, r12320, s6, hk', eq_false f1]
  simp only [zr, zb, retR, resL, outT, outL, zes, zez, oneV, zcp, zed, zfi, Ro.dl, St.ev, zhk, ↓za, ↓reduceIte, Nat.reduceEqDiff, Nat.reduceAdd, Nat.reduceLeDiff, r12320]
end Go.Proofs.YtdpinkgkmcbckaaGreat
/- Characters by the program: values of polynomials, quotients. -/
namespace Go.Proofs.YtdpinkgkmcbckaaGreat
open Go.RowKit
set_option maxRecDepth 1000000
attribute [local go_sem] Oper.semAt_some
theorem asg_in {l k : Nat} {t : Array Value} {u v : Value} {W : World} {K : Act → World → Prop} {id : Nat} {ty : TypeId} {ps : String} (h1 : 10 < t.size) (h2 : 11 < t.size) (hK : K { tmps := ((t.setIfInBounds 10 u).setIfInBounds 11 v).setIfInBounds 7 v, defers := [] } W) :
  (Code.region id #[{ dst := some 7, op := Op.assign (Operand.tmp 11), type := ty, pos := ps, after := #[], guard := none }] false).wpIn (Fence.wide.inRound l) k Tryz.prog (Exit.then K fun _ _ _ => False) { tmps := (t.setIfInBounds 10 u).setIfInBounds 11 v, defers := [] } W := by
 have hg : ((t.setIfInBounds 10 u).setIfInBounds 11 v).getD 11 undef = v := by simp [Array.getD, h2]
 gi_wp2
 exact hK
theorem inBack {ro : Ro} {gn : Nat → Nat} {zs : List Int} :
  InOK Tryz.prog 116 [immL zs] ro gn (.fn 121 [.ptr 4096 (gn 4096 + 1) [] 0]) (upr ro 4096 (gn 4096 + 1) (.bx [immL zs])) (upg gn 4096 (gn 4096 + 1)) := by
 refine in_of (fn := Tryz.f116) (code := bodyOf Tryz.f116) Tryz.func116 rfl (by kernel_rfl) ?_
 intro sl hs'
 have s0 : sl 0 = immL zs := hs' 0
 dsimp only [Tryz.f116, bodyOf, Option.getD]
 simp (maxSteps := 10000000) (disch := first | omega | assumption) only [go_sem, ↓reduceIte, Nat.reduceEqDiff, reduceCtorEq, Nat.reduceAdd, Nat.reduceMul, Nat.reduceLeDiff, zc, ti3, ti4, s0]
 refine ⟨.inr rfl, ⟨_, rfl, ?_⟩, rfl, rfl⟩
 simp only [↓za, ↓reduceIte, Nat.reduceEqDiff, zb, reduceCtorEq, oneOrA]
def vfo (z : Int) (zs : List Int) (pre : List Nat) : Int := pre.foldl (fun acc x => (acc * z + atI zs x) % 55441) 0
theorem vfo_app (z : Int) (zs : List Int) (pre : List Nat) (x : Nat) : vfo z zs (pre ++ [x]) = (vfo z zs pre * z + atI zs x) % 55441 := by
 unfold vfo
 rw [List.foldl_append]
 rfl
theorem num_vfo (z : Int) (zs : List Int) : ∀ pre, num (vfo z zs pre) := by
 intro pre
 rcases List.eq_nil_or_concat pre with e | ⟨p, x, e⟩
 ·subst e
  show num 0
  unfold num
  decide
 ·subst e
  rw [List.concat_eq_append, vfo_app]
  exact num_mod _
theorem dwn_map (n : Nat) : dwn (n + 1) (n + 1) = (dwn n n).map (· + 1) ++ [0] := by
 rw [dwn_succ]
 have e : n + 1 - 1 - n = 0 := by omega
 rw [e]
 congr 1
 unfold dwn
 rw [List.map_map]
 refine List.map_congr_left fun j hj => ?_
 have := List.mem_range.1 hj
 show n + 1 - 1 - j = n - 1 - j + 1
 omega
theorem vfo_hv (z : Int) : ∀ zs : List Int, vfo z zs (dwn zs.length zs.length) = hv z zs
 | [] => rfl
 | c :: cs => by
  have ih := vfo_hv z cs
  show vfo z (c :: cs) (dwn (cs.length + 1) (cs.length + 1)) = (hv z cs * z + c) % 55441
  rw [dwn_map, vfo_app, ← ih]
  have e : vfo z (c :: cs) ((dwn cs.length cs.length).map (· + 1)) = vfo z cs (dwn cs.length cs.length) := by
   unfold vfo
   rw [List.foldl_map]
   rfl
  rw [e]
  rfl
def InvV (st0 : St) (z : Int) (zs : List Int) (pre : List Nat) (st : St) : Prop :=
 st.sl = st0.sl ∧ st.ro 4096 (st0.gn 4096) = some (.bx [immL zs]) ∧ st.ro 4096 1 = some (.bx [i64 z]) ∧ st.ro 8192 1 = some (.bx [i64 (vfo z zs pre)])
theorem cVal {a : AV} {z : Int} {zs : List Int} (ha : isL a zs) (h0 : 0 < zs.length) (hl : zs.length ≤ 1000000) (nz : num z) (ns : numL zs) : CallOK Tryz.prog 96 [a, i64 z] (i64 (hv z zs)) := by
 obtain rfl : a = immL zs := by
  rcases ha with h | ⟨h, _⟩
  ·exact h
  ·subst h; exact absurd h0 (Nat.lt_irrefl _)
 refine call_ofG (ti := ti0) (fun f => Nat.beq f 116) (tiG_ok _) mixed0 (fn := Tryz.f96) (code := bodyOf Tryz.f96) Tryz.func96 rfl (by kernel_rfl) rfl ?_
 intro sl hs
 have s0 : sl 0 = immL zs := hs 0
 have s1 : sl 1 = i64 z := hs 1
 dsimp only [Tryz.f96, bodyOf, Option.getD]
 refine Yaa ?_
 refine CLL_in rfl _ _ _ (inBack (zs := zs)) ?_
 simp (maxSteps := 10000000) (disch := first | assumption | omega) only [go_sem, ↓reduceIte, Nat.reduceEqDiff, reduceCtorEq, Nat.reduceAdd, Nat.reduceMul, Nat.reduceLeDiff, zc, Int.reduceToNat]
 generalize hst : St.mk _ _ _ = st0
 have s9 : st0.sl 9 = .fn 121 [.ptr 4096 (st0.gn 4096) [] 0] := by rw [← hst]; simp only [↓za, ↓reduceIte, Nat.reduceEqDiff, zb, reduceCtorEq]
 have s3 : st0.sl 3 = .ptr 4096 1 [] 0 := by rw [← hst]; simp only [↓za, ↓reduceIte, Nat.reduceEqDiff, zb, reduceCtorEq]
 have s5 : st0.sl 5 = .ptr 8192 1 [] 0 := by rw [← hst]; simp only [↓za, ↓reduceIte, Nat.reduceEqDiff, zb, reduceCtorEq]
 have b1 : st0.ro 4096 (st0.gn 4096) = some (.bx [immL zs]) := by rw [← hst]; simp only [↓za, ↓reduceIte, Nat.reduceEqDiff, zb, reduceCtorEq]
 have b2 : st0.ro 4096 1 = some (.bx [i64 z]) := by rw [← hst]; simp only [↓za, ↓reduceIte, Nat.reduceEqDiff, zb, reduceCtorEq]
 have b3 : st0.ro 8192 1 = some (.bx [i64 (vfo z zs [])]) := by rw [← hst]; simp only [↓za, ↓reduceIte, Nat.reduceEqDiff, zb, reduceCtorEq]; rfl
 clear hst
 refine WK_rf _ (semC_back (ta := 7) (zs := zs) (by omega) (by decide) s9 (InvV st0 z zs) ⟨rfl, b1, b2, b3⟩ (fun pre st h => ⟨h.1, h.2.1⟩) (by kernel_rfl) (fun k h => by simpa [dstOK] using h) (fun l k t u v W K h1 h2 hK => asg_in h1 h2 hK) ?_) ?_
 ·rintro pre x ⟨sl, ro, gn⟩ ⟨q0, q1, q2, q3⟩ hlen
  dsimp only at q0 q1 q2 q3
  have nv := num_vfo z zs pre
  have nx := ns x
  unfold num at nv nx nz
  have hm := mulB nv.1 (show vfo z zs pre ≤ 55440 by omega) nz.1 (show z ≤ 55440 by omega)
  have ht : Int.tmod (vfo z zs pre * z + atI zs x) 55441 = (vfo z zs pre * z + atI zs x) % 55441 := Int.tmod_eq_emod_of_nonneg (by omega)
  refine wk_ok (X := XX) _ ?_
  show WK XX _ [] _ _
  simp (maxSteps := 10000000) (disch := first | assumption | omega) only [go_sem, ↓reduceIte, Nat.reduceEqDiff, reduceCtorEq, Nat.reduceAdd, Nat.reduceMul, Nat.reduceLeDiff, zc, Int.reduceToNat, s3, s5, q2, q3, ht]
  refine ⟨rfl, ?_, ?_, ?_⟩
  ·simp only [↓za, ↓reduceIte, Nat.reduceEqDiff, zb, reduceCtorEq]; exact q1
  ·simp only [↓za, ↓reduceIte, Nat.reduceEqDiff, zb, reduceCtorEq]; exact q2
  ·simp only [↓za, ↓reduceIte, Nat.reduceEqDiff, zb, reduceCtorEq]; rw [vfo_app]
 ·rintro e ⟨sl', ro', gn'⟩ ⟨rfl, q0, q1, q2, q3⟩
  dsimp only at q0 q1 q2 q3
  subst q0
  rw [vfo_hv] at q3
  simp (maxSteps := 10000000) (disch := first | assumption | omega) only [go_sem, ↓reduceIte, Nat.reduceEqDiff, reduceCtorEq, Nat.reduceAdd, Nat.reduceMul, Nat.reduceLeDiff, zc, Int.reduceToNat, s3, s5, q2, q3]
  exact Yac
theorem dvp_rws (r : Int) : ∀ P : List Int, dvp r P = rws (fun j => hv r (P.drop (j + 1))) (P.length - 1)
 | [] => rfl
 | [_] => rfl
 | c :: d :: cs => by
  have ih := dvp_rws r (d :: cs)
  show hv r (d :: cs) :: dvp r (d :: cs) = rws (fun j => hv r ((c :: d :: cs).drop (j + 1))) (cs.length + 1)
  rw [ih]
  unfold rws
  rw [List.range_succ_eq_map, List.map_cons, List.map_map]
  rfl
theorem drop_at {P : List Int} {j : Nat} (h : j < P.length) : P.drop j = atI P j :: P.drop (j + 1) := by
 rw [List.drop_eq_getElem_cons h]
 congr 1
 unfold atI
 rw [List.getD_eq_getElem?_getD, List.getElem?_eq_getElem h]
 rfl
theorem cDiv {a : AV} {r : Int} {P : List Int} (ha : isL a P) (h0 : 1 < P.length) (hl : P.length ≤ 1000000) (nr : num r) (nP : numL P) : CallOK Tryz.prog 97 [a, i64 r] (rowL (dvp r P)) := by
 have e0 : rowL (dvp r P) = .row (rws (fun j => i64 (hv r (P.drop (j + 1)))) (P.length - 1)) := by rw [dvp_rws]; simp only [rowL, rws_map]
 have e1 : (P.length : Int) - 1 = ((P.length - 1 : Nat) : Int) := by omega
 have e2 : ((P.length - 1 : Nat) : Int) - 1 = (P.length : Int) - 2 := by omega
 have hm' : ((P.length - 1 : Nat) : Int) ≤ ((4294967296 : Nat) : Int) := by omega
 refine call_of (fn := Tryz.f97) (code := bodyOf Tryz.f97) Tryz.func97 rfl (by kernel_rfl) (noRef_rowL _) ?_
 intro sl hs
 have s0 : sl 0 = a := hs 0
 have s1 : sl 1 = i64 r := hs 1
 rw [e0]
 dsimp only [Tryz.f97, bodyOf, Option.getD]
 simp (maxSteps := 10000000) (disch := first | assumption | omega) only [go_sem, ↓reduceIte, Nat.reduceEqDiff, reduceCtorEq, Nat.reduceAdd, Nat.reduceMul, Nat.reduceLeDiff, zc, Int.reduceToNat, s0, s1, isL_len ha, e1, e2, kMake, Int.natCast_nonneg, Int.le_refl, Int.toNat_natCast, hm', List.length_replicate, List.getD_cons_zero, rep_rws]
 refine WK_for (fun i st => st.sl 0 = a ∧ st.sl 1 = i64 r ∧ st.sl 5 = .ref 8240 1 [] 0 (P.length - 1) ∧ st.ro 8240 1 = some (.row (rws (fun j => i64 (if P.length - 1 - i ≤ j then hv r (P.drop (j + 1)) else 0)) (P.length - 1))) ∧ st.sl 6 = i64 (hv r (P.drop (P.length - i))) ∧ st.sl 7 = i64 ((P.length : Int) - 2 - (i : Int))) ((P.length - 1)) ?_ ?_ ?_
 ·refine Yak ?_
  refine ⟨congrArg (fun z => some (AV.row z)) (rws_congr fun j hj => by rw [if_neg (by omega)]), ?_, i64c (by omega)⟩
  rw [Nat.sub_zero, List.drop_length]
  rfl
 ·rintro i sl ro gn hi ⟨s0, s1, s5, r8240, s6, s7⟩
  dsimp only at s0 s1 s5 r8240 s6 s7
  have hi' : (i : Int) < ((P.length - 1) : Nat) := by omega
  have g1 : (0 : Int) ≤ (P.length : Int) - 2 - (i : Int) := by omega
  have g2 : (P.length : Int) - 2 - (i : Int) + 1 = ((P.length - 1 - i : Nat) : Int) := by omega
  have g3 : (P.length : Int) - 2 - (i : Int) = ((P.length - 2 - i : Nat) : Int) := by omega
  have g4 : P.length - 1 - i < P.length := by omega
  have nv := num_hv r (P.drop (P.length - i))
  have nx := nP (P.length - 1 - i)
  unfold num at nv nx nr
  have hm := mulB nv.1 (show hv r (P.drop (P.length - i)) ≤ 55440 by omega) nr.1 (show r ≤ 55440 by omega)
  have ht : Int.tmod (hv r (P.drop (P.length - i)) * r + atI P (P.length - 1 - i)) 55441 = (hv r (P.drop (P.length - i)) * r + atI P (P.length - 1 - i)) % 55441 := Int.tmod_eq_emod_of_nonneg (by omega)
  have eh : (hv r (P.drop (P.length - i)) * r + atI P (P.length - 1 - i)) % 55441 = hv r (P.drop (P.length - (i + 1))) := by
   have a1 : P.length - (i + 1) = P.length - 1 - i := by omega
   rw [a1, drop_at g4]
   have a2 : P.length - 1 - i + 1 = P.length - i := by omega
   rw [a2]
   rfl
  simp (maxSteps := 10000000) (disch := first | assumption | omega) only [go_sem, ↓reduceIte, Nat.reduceEqDiff, reduceCtorEq, Nat.reduceAdd, Nat.reduceMul, Nat.reduceLeDiff, zc, Int.reduceToNat, s0, s1, s5, r8240, s6, s7, hi', hi, eq_true g1, g2, isL_idx ha g4, ht, eh]
  have g5 : P.length - 2 - i < P.length - 1 := by omega
  simp (maxSteps := 10000000) (disch := first | assumption | omega) only [go_sem, ↓reduceIte, Nat.reduceEqDiff, reduceCtorEq, Nat.reduceAdd, Nat.reduceMul, Nat.reduceLeDiff, zc, Int.reduceToNat, s0, s1, s5, r8240, s6, s7, hi', hi, g3, g5, rws_set]
  refine ⟨congrArg (fun z => some (AV.row z)) (rws_congr fun j hj => ?_), i64c (by omega)⟩
  by_cases e : j = P.length - 2 - i
  ·rw [if_pos e, if_pos (by omega)]
   have e5 : P.length - (i + 1) = j + 1 := by omega
   rw [e5]
  ·rw [if_neg e]
   by_cases e6 : P.length - 1 - i ≤ j
   ·rw [if_pos e6, if_pos (by omega)]
   ·rw [if_neg e6, if_neg (by omega)]
 ·rintro sl ro gn ⟨s0, s1, s5, r8240, s6, s7⟩
  dsimp only at s0 s1 s5 r8240 s6 s7
  have hi' : ¬ (((P.length - 1) : Nat) : Int) < ((P.length - 1) : Nat) := by omega
  have g1 : ¬ (0 : Int) ≤ (P.length : Int) - 2 - ((P.length - 1 : Nat) : Int) := by omega
  have e5 : rws (fun j => i64 (if P.length - 1 - (P.length - 1) ≤ j then hv r (P.drop (j + 1)) else 0)) (P.length - 1) = rws (fun j => i64 (hv r (P.drop (j + 1)))) (P.length - 1) := rws_congr fun j _ => by rw [if_pos (by omega)]
  rw [e5] at r8240
  simp (maxSteps := 10000000) (disch := first | assumption | omega) only [go_sem, ↓reduceIte, Nat.reduceEqDiff, reduceCtorEq, Nat.reduceAdd, Nat.reduceMul, Nat.reduceLeDiff, zc, Int.reduceToNat, s0, s1, s5, r8240, s6, s7, hi', eq_false g1]
  simp only [zr, zb, retR, resL, outT, outL, zes, zez, oneV, zcp, zed, zfi, Ro.dl, St.ev, zhk, ↓za, ↓reduceIte, Nat.reduceEqDiff, Nat.reduceAdd, Nat.reduceLeDiff, r8240]
end Go.Proofs.YtdpinkgkmcbckaaGreat
/- Characters by the program: eigenvalues. -/
namespace Go.Proofs.YtdpinkgkmcbckaaGreat
open Go.RowKit
set_option maxRecDepth 1000000
structure PQ (L P out : List Int) (z : Nat) : Prop where
 sum : out ++ evl (55441 - z) (z : Int) P = L
 mon : Mon P
 nP : numL P
 lP : P.length ≤ 1000
 lo : out.length ≤ z
theorem evl_short {f : Nat} {z : Int} {P : List Int} (h : ¬ 1 < P.length) : evl f z P = [] := by
 cases f with
 | zero => rfl
 | succ f => unfold evl; rw [if_neg h]
theorem PQ.stop {L P out : List Int} {z : Nat} (h : PQ L P out z) (h1 : ¬ 1 < P.length) : out = L := by
 have := h.sum
 rw [evl_short h1, List.append_nil] at this
 exact this
theorem PQ.full {L P out : List Int} (h : PQ L P out 55441) : out = L := by
 have := h.sum
 rw [show 55441 - 55441 = 0 from rfl] at this
 simpa [evl] using this
theorem PQ.skip {L P out : List Int} {z : Nat} (h : PQ L P out z) (hz : z < 55441) (h1 : 1 < P.length) (h0 : ¬ hv (z : Int) P = 0) : PQ L P out (z + 1) := by
 have := h.sum
 obtain ⟨k, hk⟩ : ∃ k, 55441 - z = k + 1 := ⟨55440 - z, by omega⟩
 rw [hk] at this
 unfold evl at this
 rw [if_pos h1, if_neg h0] at this
 have e : 55441 - (z + 1) = k := by omega
 exact ⟨by rw [e]; exact this, h.mon, h.nP, h.lP, by have := h.lo; omega⟩
theorem numL_dvp (r : Int) (P : List Int) : numL (dvp r P) := by
 rw [dvp_rws]
 intro j
 by_cases hj : j < P.length - 1
 ·rw [atI_rws _ hj]; exact num_hv _ _
 ·have : atI (rws (fun j => hv r (P.drop (j + 1))) (P.length - 1)) j = 0 := by unfold atI; rw [List.getD_eq_getElem?_getD, List.getElem?_eq_none (by rw [zfe]; omega)]; rfl
  rw [this]
  unfold num
  decide
structure PSt (z : Int) (P0 P : List Int) : Prop where
 st : strp z P = strp z P0
 mon : Mon P
 nP : numL P
 lP : P.length ≤ P0.length
theorem PSt.next {z : Int} {P0 P : List Int} (h : PSt z P0 P) (h1 : 1 < P.length) (h0 : hv z P = 0) : PSt z P0 (dvp z P) :=
 ⟨by rw [← strp_step h1 h0]; exact h.st, mon_dvp z P h.mon h1, numL_dvp _ _, by rw [dvp_len]; have := h.lP; omega⟩
theorem PQ.take {L P out : List Int} {z : Nat} (h : PQ L P out z) (hz : z < 55441) (h1 : 1 < P.length) (h0 : hv (z : Int) P = 0) {P' : List Int} (hs : PSt (z : Int) P P') (hstop : ¬ (1 < P'.length ∧ hv (z : Int) P' = 0)) : PQ L P' (out ++ [(z : Int)]) (z + 1) := by
 have := h.sum
 obtain ⟨k, hk⟩ : ∃ k, 55441 - z = k + 1 := ⟨55440 - z, by omega⟩
 rw [hk] at this
 unfold evl at this
 rw [if_pos h1, if_pos h0] at this
 have e : 55441 - (z + 1) = k := by omega
 have e2 : strp (z : Int) P = P' := by rw [← hs.st, strp_stop hstop]
 rw [e2] at this
 refine ⟨?_, hs.mon, hs.nP, Nat.le_trans hs.lP h.lP, by have := h.lo; simp; omega⟩
 rw [e, List.append_assoc]
 exact this
theorem mon_pos {P : List Int} (h : Mon P) : 0 < P.length := by
 cases P with
 | nil => simp [Mon] at h
 | cons _ _ => simp
theorem cEigI {a : AV} {n : Nat} {A : Nat → Nat → Int} (ha : isLL a (matL A n n)) (h0 : 0 < n) (hn : n ≤ 900) (hA : numM A) : CallOK Tryz.prog 49 [a] (rowL (evl 55441 0 (chL A n))) := by
 have cp := cPoly ha h0 (by omega) hA
 have hlen := chL_len A n
 have nch : numL (chL A n) := fun j => by
  unfold chL
  by_cases hj : j < n + 1
  ·rw [atI_rws _ hj]; exact (num_flm A n _).2
  ·have : atI (rws (fun j => (flm A n (n - j)).2) (n + 1)) j = 0 := by unfold atI; rw [List.getD_eq_getElem?_getD, List.getElem?_eq_none (by rw [zfe]; omega)]; rfl
   rw [this]
   unfold num
   decide
 generalize hL : evl 55441 0 (chL A n) = L
 refine call_of (fn := Tryz.f49) (code := bodyOf Tryz.f49) Tryz.func49 rfl (by kernel_rfl) (noRef_rowL _) ?_
 intro sl hs
 have s0 : sl 0 = a := hs 0
 dsimp only [Tryz.f49, bodyOf, Option.getD]
 refine Yad ?_
 refine CLL_pure _ cp PUt rfl rfl ?_
 simp (maxSteps := 10000000) (disch := first | assumption | omega) only [go_sem, ↓reduceIte, Nat.reduceEqDiff, reduceCtorEq, Nat.reduceAdd, Nat.reduceMul, Nat.reduceLeDiff, zc, Int.reduceToNat, s0, impE_row, List.length_map]
 refine WK_for (fun z st => st.sl 5 = i64 (z : Int) ∧ (∃ P out, (st.sl 3 = .ref 8192 (st.gn 8192) [] 0 out.length ∧ st.ro 8192 (st.gn 8192) = some (rowL out)) ∧ ((st.sl 4 = .ref 8224 1 [] 0 P.length ∧ st.ro 8224 1 = some (rowL P)) ∨ (st.sl 4 = .ref 36896 (st.gn 36896) [] 0 P.length ∧ st.ro 36896 (st.gn 36896) = some (rowL P))) ∧ PQ L P out z)) 55441 ?_ ?_ ?_
 ·refine Yaj ?_
  exact ⟨rfl, chL A n, [], ⟨rfl, rfl⟩, .inl ⟨rfl, rfl⟩, ⟨by rw [List.nil_append]; exact hL, chL_mon A n, nch, by omega, Nat.le_refl _⟩⟩
 ·rintro z sl ro gn hz ⟨s5, q⟩
  dsimp only at s5
  have hz' : (z : Int) < (55441 : Nat) := by omega
  dsimp only at q
  obtain ⟨P, out, ⟨p3, p8⟩, pa, hq⟩ := q
  have nz : num (z : Int) := by unfold num; omega
  have lP := hq.lP
  have lo := hq.lo
  have lo2 : out.length + 1 ≤ 4294967296 := by omega
  rcases pa with ⟨p4, pr⟩ | ⟨p4, pr⟩
  ·by_cases hP1 : 1 < P.length
   ·have hP1' : (1 : Int) < (P.length : Nat) := by omega
    simp (maxSteps := 10000000) (disch := first | assumption | omega) only [go_sem, ↓reduceIte, Nat.reduceEqDiff, reduceCtorEq, Nat.reduceAdd, Nat.reduceMul, Nat.reduceLeDiff, zc, Int.reduceToNat, s5, hz', hz, eq_true hz', p4, pr, p3, p8, eq_true hP1']
    refine CLL_q _ (cVal (isL_imm P) (by omega) (by omega) nz hq.nP) (.cons (exq_refL pr rfl (by decide)) (.cons (exq_sc _ _ _ (by decide)) .nil)) rfl rfl rfl ?_
    by_cases hz0 : hv (z : Int) P = 0
    ·simp (maxSteps := 10000000) (disch := first | assumption | omega) only [go_sem, ↓reduceIte, Nat.reduceEqDiff, reduceCtorEq, Nat.reduceAdd, Nat.reduceMul, Nat.reduceLeDiff, zc, Int.reduceToNat, s5, hz', hz, hz0, p4, pr, p3, p8, lo2]
     refine WK_for (fun j st => st.sl 5 = i64 (z : Int) ∧ (∃ P', (st.sl 3 = .ref 8192 (st.gn 8192) [] 0 (out.length + 1) ∧ st.ro 8192 (st.gn 8192) = some (rowL (out ++ [(z : Int)]))) ∧ ((st.sl 4 = .ref 8224 1 [] 0 P'.length ∧ st.ro 8224 1 = some (rowL P')) ∨ (st.sl 4 = .ref 36896 (st.gn 36896) [] 0 P'.length ∧ st.ro 36896 (st.gn 36896) = some (rowL P'))) ∧ PSt (z : Int) P P' ∧ P'.length + j = P.length)) P.length ?_ ?_ ?_
     ·simp only [↓za, ↓reduceIte, Nat.reduceEqDiff, zb, reduceCtorEq, rws_zero, s5, hz', hz]
      refine ⟨P, ?_, by first | exact .inl ⟨p4, pr⟩ | exact .inr ⟨p4, pr⟩, ⟨rfl, hq.mon, hq.nP, Nat.le_refl _⟩, rfl⟩
      rw [List.take_of_length_le (by rw [List.length_map]; exact Nat.le_refl _)]
      show _ = some (AV.row ((out ++ [(z : Int)]).map i64))
      rw [List.map_append]
      rfl
     ·rintro j sl ro gn hj ⟨s5, q2⟩
      dsimp only at s5
      have hj' : (j : Int) < (P.length : Nat) := by omega
      dsimp only at q2
      obtain ⟨P', ⟨t3, t8⟩, pa', hs', hj2⟩ := q2
      have lP' := hs'.lP
      rcases pa' with ⟨t4, tr⟩ | ⟨t4, tr⟩
      ·by_cases hP2 : 1 < P'.length
       ·have hP2' : (1 : Int) < (P'.length : Nat) := by omega
        refine Yay ?_
        refine CLL_q _ (cVal (isL_imm P') (by omega) (by omega) nz hs'.nP) (.cons (exq_refL tr rfl (by decide)) (.cons (exq_sc _ _ _ (by decide)) .nil)) rfl rfl rfl ?_
        by_cases hz2 : hv (z : Int) P' = 0
        ·refine Ybh ?_
         refine CLL_q _ (cDiv (isL_imm P') hP2 (by omega) nz hs'.nP) (.cons (exq_refL tr rfl (by decide)) (.cons (exq_sc _ _ _ (by decide)) .nil)) rfl rfl (noI_rowL _) ?_
         refine Ybc ?_
         exact ⟨dvp (z : Int) P', ⟨by first | exact t3 | rfl | trivial, by first | exact t8 | rfl | trivial⟩, .inr ⟨rfl, rfl⟩, hs'.next hP2 hz2, by rw [dvp_len]; omega⟩
        ·refine Yaz ?_
         exact ⟨i64c (by omega), P', out ++ [(z : Int)], ⟨by rw [List.length_append]; rfl, rfl⟩, by first | exact .inl ⟨rfl, rfl⟩ | exact .inl ⟨rfl, tr⟩ | exact .inr ⟨rfl, rfl⟩ | exact .inr ⟨rfl, tr⟩, hq.take hz hP1 hz0 hs' fun h => hz2 h.2⟩
       ·have hP2' : ¬ (1 : Int) < (P'.length : Nat) := by omega
        refine Yav ?_
        exact ⟨i64c (by omega), P', out ++ [(z : Int)], ⟨by rw [List.length_append]; rfl, rfl⟩, by first | exact .inl ⟨rfl, rfl⟩ | exact .inl ⟨rfl, tr⟩ | exact .inr ⟨rfl, rfl⟩ | exact .inr ⟨rfl, tr⟩, hq.take hz hP1 hz0 hs' fun h => hP2 h.1⟩
      ·by_cases hP2 : 1 < P'.length
       ·have hP2' : (1 : Int) < (P'.length : Nat) := by omega
        refine Yay ?_
        refine CLL_q _ (cVal (isL_imm P') (by omega) (by omega) nz hs'.nP) (.cons (exq_refL tr rfl (by decide)) (.cons (exq_sc _ _ _ (by decide)) .nil)) rfl rfl rfl ?_
        by_cases hz2 : hv (z : Int) P' = 0
        ·refine Ybh ?_
         refine CLL_q _ (cDiv (isL_imm P') hP2 (by omega) nz hs'.nP) (.cons (exq_refL tr rfl (by decide)) (.cons (exq_sc _ _ _ (by decide)) .nil)) rfl rfl (noI_rowL _) ?_
         refine Ybc ?_
         exact ⟨dvp (z : Int) P', ⟨by first | exact t3 | rfl | trivial, by first | exact t8 | rfl | trivial⟩, .inr ⟨rfl, rfl⟩, hs'.next hP2 hz2, by rw [dvp_len]; omega⟩
        ·refine Yaz ?_
         exact ⟨i64c (by omega), P', out ++ [(z : Int)], ⟨by rw [List.length_append]; rfl, rfl⟩, by first | exact .inl ⟨rfl, rfl⟩ | exact .inl ⟨rfl, tr⟩ | exact .inr ⟨rfl, rfl⟩ | exact .inr ⟨rfl, tr⟩, hq.take hz hP1 hz0 hs' fun h => hz2 h.2⟩
       ·have hP2' : ¬ (1 : Int) < (P'.length : Nat) := by omega
        refine Yav ?_
        exact ⟨i64c (by omega), P', out ++ [(z : Int)], ⟨by rw [List.length_append]; rfl, rfl⟩, by first | exact .inl ⟨rfl, rfl⟩ | exact .inl ⟨rfl, tr⟩ | exact .inr ⟨rfl, rfl⟩ | exact .inr ⟨rfl, tr⟩, hq.take hz hP1 hz0 hs' fun h => hP2 h.1⟩
     ·rintro sl ro gn ⟨s5, q2⟩
      dsimp only at s5
      have hj' : ¬ ((P.length : Nat) : Int) < (P.length : Nat) := by omega
      dsimp only at q2
      obtain ⟨P', ⟨t3, t8⟩, pa', hs', hj2⟩ := q2
      exact absurd (mon_pos hs'.mon) (by omega)
    ·simp (maxSteps := 10000000) (disch := first | assumption | omega) only [go_sem, ↓reduceIte, Nat.reduceEqDiff, reduceCtorEq, Nat.reduceAdd, Nat.reduceMul, Nat.reduceLeDiff, zc, Int.reduceToNat, s5, hz', hz, eq_false hz0, p4, pr, p3, p8]
     exact ⟨i64c (by omega), P, out, ⟨rfl, rfl⟩, by first | exact .inl ⟨rfl, rfl⟩ | exact .inl ⟨rfl, pr⟩ | exact .inr ⟨rfl, rfl⟩ | exact .inr ⟨rfl, pr⟩, hq.skip hz hP1 hz0⟩
   ·have hP1' : ¬ (1 : Int) < (P.length : Nat) := by omega
    have eL := hq.stop hP1
    subst eL
    simp (maxSteps := 10000000) (disch := first | assumption | omega) only [go_sem, ↓reduceIte, Nat.reduceEqDiff, reduceCtorEq, Nat.reduceAdd, Nat.reduceMul, Nat.reduceLeDiff, zc, Int.reduceToNat, s5, hz', hz, eq_true hz', p4, pr, p3, p8, eq_false hP1', undef]
    exact Ybs
  ·by_cases hP1 : 1 < P.length
   ·have hP1' : (1 : Int) < (P.length : Nat) := by omega
    simp (maxSteps := 10000000) (disch := first | assumption | omega) only [go_sem, ↓reduceIte, Nat.reduceEqDiff, reduceCtorEq, Nat.reduceAdd, Nat.reduceMul, Nat.reduceLeDiff, zc, Int.reduceToNat, s5, hz', hz, eq_true hz', p4, pr, p3, p8, eq_true hP1']
    refine CLL_q _ (cVal (isL_imm P) (by omega) (by omega) nz hq.nP) (.cons (exq_refL pr rfl (by decide)) (.cons (exq_sc _ _ _ (by decide)) .nil)) rfl rfl rfl ?_
    by_cases hz0 : hv (z : Int) P = 0
    ·simp (maxSteps := 10000000) (disch := first | assumption | omega) only [go_sem, ↓reduceIte, Nat.reduceEqDiff, reduceCtorEq, Nat.reduceAdd, Nat.reduceMul, Nat.reduceLeDiff, zc, Int.reduceToNat, s5, hz', hz, hz0, p4, pr, p3, p8, lo2]
     refine WK_for (fun j st => st.sl 5 = i64 (z : Int) ∧ (∃ P', (st.sl 3 = .ref 8192 (st.gn 8192) [] 0 (out.length + 1) ∧ st.ro 8192 (st.gn 8192) = some (rowL (out ++ [(z : Int)]))) ∧ ((st.sl 4 = .ref 8224 1 [] 0 P'.length ∧ st.ro 8224 1 = some (rowL P')) ∨ (st.sl 4 = .ref 36896 (st.gn 36896) [] 0 P'.length ∧ st.ro 36896 (st.gn 36896) = some (rowL P'))) ∧ PSt (z : Int) P P' ∧ P'.length + j = P.length)) P.length ?_ ?_ ?_
     ·simp only [↓za, ↓reduceIte, Nat.reduceEqDiff, zb, reduceCtorEq, rws_zero, s5, hz', hz]
      refine ⟨P, ?_, by first | exact .inl ⟨p4, pr⟩ | exact .inr ⟨p4, pr⟩, ⟨rfl, hq.mon, hq.nP, Nat.le_refl _⟩, rfl⟩
      rw [List.take_of_length_le (by rw [List.length_map]; exact Nat.le_refl _)]
      show _ = some (AV.row ((out ++ [(z : Int)]).map i64))
      rw [List.map_append]
      rfl
     ·rintro j sl ro gn hj ⟨s5, q2⟩
      dsimp only at s5
      have hj' : (j : Int) < (P.length : Nat) := by omega
      dsimp only at q2
      obtain ⟨P', ⟨t3, t8⟩, pa', hs', hj2⟩ := q2
      have lP' := hs'.lP
      rcases pa' with ⟨t4, tr⟩ | ⟨t4, tr⟩
      ·by_cases hP2 : 1 < P'.length
       ·have hP2' : (1 : Int) < (P'.length : Nat) := by omega
        refine Yay ?_
        refine CLL_q _ (cVal (isL_imm P') (by omega) (by omega) nz hs'.nP) (.cons (exq_refL tr rfl (by decide)) (.cons (exq_sc _ _ _ (by decide)) .nil)) rfl rfl rfl ?_
        by_cases hz2 : hv (z : Int) P' = 0
        ·refine Ybh ?_
         refine CLL_q _ (cDiv (isL_imm P') hP2 (by omega) nz hs'.nP) (.cons (exq_refL tr rfl (by decide)) (.cons (exq_sc _ _ _ (by decide)) .nil)) rfl rfl (noI_rowL _) ?_
         refine Ybc ?_
         exact ⟨dvp (z : Int) P', ⟨by first | exact t3 | rfl | trivial, by first | exact t8 | rfl | trivial⟩, .inr ⟨rfl, rfl⟩, hs'.next hP2 hz2, by rw [dvp_len]; omega⟩
        ·refine Yaz ?_
         exact ⟨i64c (by omega), P', out ++ [(z : Int)], ⟨by rw [List.length_append]; rfl, rfl⟩, by first | exact .inl ⟨rfl, rfl⟩ | exact .inl ⟨rfl, tr⟩ | exact .inr ⟨rfl, rfl⟩ | exact .inr ⟨rfl, tr⟩, hq.take hz hP1 hz0 hs' fun h => hz2 h.2⟩
       ·have hP2' : ¬ (1 : Int) < (P'.length : Nat) := by omega
        refine Yav ?_
        exact ⟨i64c (by omega), P', out ++ [(z : Int)], ⟨by rw [List.length_append]; rfl, rfl⟩, by first | exact .inl ⟨rfl, rfl⟩ | exact .inl ⟨rfl, tr⟩ | exact .inr ⟨rfl, rfl⟩ | exact .inr ⟨rfl, tr⟩, hq.take hz hP1 hz0 hs' fun h => hP2 h.1⟩
      ·by_cases hP2 : 1 < P'.length
       ·have hP2' : (1 : Int) < (P'.length : Nat) := by omega
        refine Yay ?_
        refine CLL_q _ (cVal (isL_imm P') (by omega) (by omega) nz hs'.nP) (.cons (exq_refL tr rfl (by decide)) (.cons (exq_sc _ _ _ (by decide)) .nil)) rfl rfl rfl ?_
        by_cases hz2 : hv (z : Int) P' = 0
        ·refine Ybh ?_
         refine CLL_q _ (cDiv (isL_imm P') hP2 (by omega) nz hs'.nP) (.cons (exq_refL tr rfl (by decide)) (.cons (exq_sc _ _ _ (by decide)) .nil)) rfl rfl (noI_rowL _) ?_
         refine Ybc ?_
         exact ⟨dvp (z : Int) P', ⟨by first | exact t3 | rfl | trivial, by first | exact t8 | rfl | trivial⟩, .inr ⟨rfl, rfl⟩, hs'.next hP2 hz2, by rw [dvp_len]; omega⟩
        ·refine Yaz ?_
         exact ⟨i64c (by omega), P', out ++ [(z : Int)], ⟨by rw [List.length_append]; rfl, rfl⟩, by first | exact .inl ⟨rfl, rfl⟩ | exact .inl ⟨rfl, tr⟩ | exact .inr ⟨rfl, rfl⟩ | exact .inr ⟨rfl, tr⟩, hq.take hz hP1 hz0 hs' fun h => hz2 h.2⟩
       ·have hP2' : ¬ (1 : Int) < (P'.length : Nat) := by omega
        refine Yav ?_
        exact ⟨i64c (by omega), P', out ++ [(z : Int)], ⟨by rw [List.length_append]; rfl, rfl⟩, by first | exact .inl ⟨rfl, rfl⟩ | exact .inl ⟨rfl, tr⟩ | exact .inr ⟨rfl, rfl⟩ | exact .inr ⟨rfl, tr⟩, hq.take hz hP1 hz0 hs' fun h => hP2 h.1⟩
     ·rintro sl ro gn ⟨s5, q2⟩
      dsimp only at s5
      have hj' : ¬ ((P.length : Nat) : Int) < (P.length : Nat) := by omega
      dsimp only at q2
      obtain ⟨P', ⟨t3, t8⟩, pa', hs', hj2⟩ := q2
      exact absurd (mon_pos hs'.mon) (by omega)
    ·simp (maxSteps := 10000000) (disch := first | assumption | omega) only [go_sem, ↓reduceIte, Nat.reduceEqDiff, reduceCtorEq, Nat.reduceAdd, Nat.reduceMul, Nat.reduceLeDiff, zc, Int.reduceToNat, s5, hz', hz, eq_false hz0, p4, pr, p3, p8]
     exact ⟨i64c (by omega), P, out, ⟨rfl, rfl⟩, by first | exact .inl ⟨rfl, rfl⟩ | exact .inl ⟨rfl, pr⟩ | exact .inr ⟨rfl, rfl⟩ | exact .inr ⟨rfl, pr⟩, hq.skip hz hP1 hz0⟩
   ·have hP1' : ¬ (1 : Int) < (P.length : Nat) := by omega
    have eL := hq.stop hP1
    subst eL
    simp (maxSteps := 10000000) (disch := first | assumption | omega) only [go_sem, ↓reduceIte, Nat.reduceEqDiff, reduceCtorEq, Nat.reduceAdd, Nat.reduceMul, Nat.reduceLeDiff, zc, Int.reduceToNat, s5, hz', hz, eq_true hz', p4, pr, p3, p8, eq_false hP1', undef]
    exact Ybs
 ·rintro sl ro gn ⟨s5, q⟩
  dsimp only at s5
  have hz' : ¬ ((55441 : Nat) : Int) < (55441 : Nat) := by omega
  dsimp only at q
  obtain ⟨P, out, ⟨p3, p8⟩, pa, hq⟩ := q
  have eL := hq.full
  subst eL
  rcases pa with ⟨p4, pr⟩ | ⟨p4, pr⟩
  ·simp (maxSteps := 10000000) (disch := first | assumption | omega) only [go_sem, ↓reduceIte, Nat.reduceEqDiff, reduceCtorEq, Nat.reduceAdd, Nat.reduceMul, Nat.reduceLeDiff, zc, Int.reduceToNat, s5, hz', hz', p4, pr, p3, p8, undef]
   exact Ybs
  ·simp (maxSteps := 10000000) (disch := first | assumption | omega) only [go_sem, ↓reduceIte, Nat.reduceEqDiff, reduceCtorEq, Nat.reduceAdd, Nat.reduceMul, Nat.reduceLeDiff, zc, Int.reduceToNat, s5, hz', hz', p4, pr, p3, p8, undef]
   exact Ybs
end Go.Proofs.YtdpinkgkmcbckaaGreat
/- Characters by the program: conditions in common. -/
namespace Go.Proofs.YtdpinkgkmcbckaaGreat
open Go.RowKit
set_option maxRecDepth 1000000
theorem rws_app3 {α : Type} (f g : Nat → α) (n m : Nat) : rws f n ++ rws g m = rws (fun j => if j < n then f j else g (j - n)) (n + m) := by
 apply List.ext_getElem?
 intro j
 by_cases h : j < n
 ·rw [List.getElem?_append_left (by rw [zfe]; exact h), rws_get _ _ _ h, rws_get _ _ _ (by omega), if_pos h]
 ·rw [List.getElem?_append_right (by rw [zfe]; omega), zfe]
  by_cases h2 : j < n + m
  ·rw [rws_get _ _ _ (by omega), rws_get _ _ _ h2, if_neg h]
  ·rw [List.getElem?_eq_none (by rw [zfe]; omega), List.getElem?_eq_none (by rw [zfe]; omega)]
theorem stk_rows (r n w : Nat) (R L : Nat → Nat → Int) : rws (fun i => AV.row (rws (fun j => i64 (R i j)) w)) r ++ rws (fun i => AV.row (rws (fun j => i64 (L i j)) w)) n = rws (fun i => AV.row (rws (fun j => i64 (stk r R L i j)) w)) (r + n) := by
 rw [rws_app3]
 refine rws_congr fun i _ => ?_
 unfold stk
 by_cases h : i < r
 ·rw [if_pos h]; simp only [if_pos h]
 ·rw [if_neg h]; simp only [if_neg h]
theorem imp_tR {b : Nat} {gn : Nat → Nat} {cs : List AV} {v : Value} : impE b gn (.tup [.row cs, .sc v]) = ⟨.tup [.ref b (gn b + 1) [] 0 cs.length, .sc v], none, [], [(b, .row cs)]⟩ := nr _
theorem noI_tM (f : Nat → Nat → Int) (n m : Nat) (v : Int) : noI (.tup [matA f n m, i64 v]) = true := by
 have h := noI_mat f n m
 show (noI (matA f n m) && (noI (i64 v) && true)) = true
 rw [h]
 rfl
theorem rows_all1 {f : Nat → List AV} {n : Nat} (h : 0 < n) : (rws (fun i => AV.row (f i)) n).all zez = false := by
 obtain ⟨m, rfl⟩ : ∃ m, n = m + 1 := ⟨n - 1, by omega⟩
 unfold rws
 rw [List.range_succ_eq_map, List.map_cons, List.all_cons]
 rfl
theorem rows_all2 {f : Nat → List AV} {n : Nat} : ((rws (fun i => AV.row (f i)) n).all fun a => zez a || zey a) = true := List.all_eq_true.2 fun x hx => by
 unfold rws at hx
 obtain ⟨y, -, rfl⟩ := List.mem_map.1 hx
 rfl
theorem cHas {a b : AV} {K n : Nat} {T : Nat → Nat → Nat → Int} {vs : List Int} (ha : isLLL a (rws (fun k => matL (T k) n n) K)) (hb : isL b vs) (hK : 0 < K) (hv : K ≤ vs.length) (hKm : K ≤ 1000) (h0 : 0 < n) (hn : n ≤ 1000) (hT : ∀ k, numM (T k)) (nv : numL vs) :
  CallOK Tryz.prog 51 [a, b] (bo (decide ((cmn n (fun k => lsM (T k) (atI vs k)) K).2 < n))) := by
 have hl : (rws (fun k => matL (T k) n n) K).length = K := zfe _ _
 have nL : ∀ k, numM (lsM (T k) (atI vs k)) := fun k => num_lsM (hT k) _
 refine call_of (fn := Tryz.f51) (code := bodyOf Tryz.f51) Tryz.func51 rfl (by kernel_rfl) (rfl) ?_
 intro sl hs
 have s0 : sl 0 = a := hs 0
 have s1 : sl 1 = b := hs 1
 dsimp only [Tryz.f51, bodyOf, Option.getD]
 simp (maxSteps := 10000000) (disch := first | assumption | omega) only [go_sem, ↓reduceIte, Nat.reduceEqDiff, reduceCtorEq, Nat.reduceAdd, Nat.reduceMul, Nat.reduceLeDiff, zc, Int.reduceToNat, s0, s1, hl]
 refine WK_for (fun k st => st.sl 0 = a ∧ st.sl 1 = b ∧ st.sl 9 = a ∧ st.sl 10 = i64 (K : Nat) ∧ st.sl 11 = i64 (k : Int) ∧ (((st.sl 5 = .ref 8192 (st.gn 8192) [] 0 (cmn n (fun k => lsM (T k) (atI vs k)) k).2 ∧ st.ro 8192 (st.gn 8192) = some (matA (cmn n (fun k => lsM (T k) (atI vs k)) k).1 (cmn n (fun k => lsM (T k) (atI vs k)) k).2 n)) ∨ (st.sl 5 = .ref 28688 (st.gn 28688) [] 0 (cmn n (fun k => lsM (T k) (atI vs k)) k).2 ∧ st.ro 28688 (st.gn 28688) = some (matA (cmn n (fun k => lsM (T k) (atI vs k)) k).1 (cmn n (fun k => lsM (T k) (atI vs k)) k).2 n))))) K ?_ ?_ ?_
 ·refine Yak ?_
  exact ⟨rfl, .inl ⟨rfl, rfl⟩⟩
 ·rintro k sl ro gn hk ⟨s0, s1, s9, s10, s11, q⟩
  dsimp only at s0 s1 s9 s10 s11
  have hk' : (k : Int) < (K : Nat) := by omega
  dsimp only at q
  have hm := isLLL_mat ha (k := k) (by rw [hl]; exact hk)
  have em : mat (rws (fun k => matL (T k) n n) K) k = matL (T k) n n := by unfold mat; rw [List.getD_eq_getElem?_getD, rws_get _ _ _ hk]; rfl
  rw [em] at hm
  have c1 : k < vs.length := by omega
  have cl := cLessU (v := atI vs k) hm (by omega) (hT k) (nv k)
  have hr := cmn_le (n := n) nL k
  have hrn : (cmn n (fun k => lsM (T k) (atI vs k)) k).2 + n ≤ 4294967296 := by omega
  have hA1 := rows_all1 (f := fun i => rws (fun j => i64 (lsM (T k) (atI vs k) i j)) n) h0
  have hA2 := rows_all2 (f := fun i => rws (fun j => i64 (lsM (T k) (atI vs k) i j)) n) (n := n)
  rcases q with ⟨p5, pr⟩ | ⟨p5, pr⟩
  ·simp (maxSteps := 10000000) (disch := first | assumption | omega) only [go_sem, ↓reduceIte, Nat.reduceEqDiff, reduceCtorEq, Nat.reduceAdd, Nat.reduceMul, Nat.reduceLeDiff, zc, Int.reduceToNat, s0, s1, s9, s10, s11, hk', hk, c1, p5, pr]
   refine CLL_pure _ cl PUt rfl rfl ?_
   simp (maxSteps := 10000000) (disch := first | assumption | omega) only [go_sem, ↓reduceIte, Nat.reduceEqDiff, reduceCtorEq, Nat.reduceAdd, Nat.reduceMul, Nat.reduceLeDiff, zc, Int.reduceToNat, s0, s1, s9, s10, s11, hk', hk, impE_row, zfe, p5, pr, hrn, hA1, ↓hA2]
   rw [stk_rows]
   refine CLL_q _ (cReduce (isLL_mat (stk (cmn n (fun k => lsM (T k) (atI vs k)) k).2 (cmn n (fun k => lsM (T k) (atI vs k)) k).1 (lsM (T k) (atI vs k))) ((cmn n (fun k => lsM (T k) (atI vs k)) k).2 + n) n) (by omega) (by omega) h0 (by omega) (num_stk (num_cmn nL k) (nL k))) AXt rfl rfl (noI_tM _ _ _ _) ?_
   simp (maxSteps := 10000000) (disch := first | assumption | omega) only [go_sem, ↓reduceIte, Nat.reduceEqDiff, reduceCtorEq, Nat.reduceAdd, Nat.reduceMul, Nat.reduceLeDiff, zc, Int.reduceToNat, s0, s1, s9, s10, s11, hk', hk, imp_tR, zfe]
   refine ⟨i64c (by omega), .inr ⟨?_, ?_⟩⟩
   ·rfl
   ·rfl
  ·simp (maxSteps := 10000000) (disch := first | assumption | omega) only [go_sem, ↓reduceIte, Nat.reduceEqDiff, reduceCtorEq, Nat.reduceAdd, Nat.reduceMul, Nat.reduceLeDiff, zc, Int.reduceToNat, s0, s1, s9, s10, s11, hk', hk, c1, p5, pr]
   refine CLL_pure _ cl PUt rfl rfl ?_
   simp (maxSteps := 10000000) (disch := first | assumption | omega) only [go_sem, ↓reduceIte, Nat.reduceEqDiff, reduceCtorEq, Nat.reduceAdd, Nat.reduceMul, Nat.reduceLeDiff, zc, Int.reduceToNat, s0, s1, s9, s10, s11, hk', hk, impE_row, zfe, p5, pr, hrn, hA1, ↓hA2]
   rw [stk_rows]
   refine CLL_q _ (cReduce (isLL_mat (stk (cmn n (fun k => lsM (T k) (atI vs k)) k).2 (cmn n (fun k => lsM (T k) (atI vs k)) k).1 (lsM (T k) (atI vs k))) ((cmn n (fun k => lsM (T k) (atI vs k)) k).2 + n) n) (by omega) (by omega) h0 (by omega) (num_stk (num_cmn nL k) (nL k))) AXt rfl rfl (noI_tM _ _ _ _) ?_
   simp (maxSteps := 10000000) (disch := first | assumption | omega) only [go_sem, ↓reduceIte, Nat.reduceEqDiff, reduceCtorEq, Nat.reduceAdd, Nat.reduceMul, Nat.reduceLeDiff, zc, Int.reduceToNat, s0, s1, s9, s10, s11, hk', hk, imp_tR, zfe]
   refine ⟨i64c (by omega), .inr ⟨?_, ?_⟩⟩
   ·rfl
   ·rfl
 ·rintro sl ro gn ⟨s0, s1, s9, s10, s11, q⟩
  dsimp only at s0 s1 s9 s10 s11
  have hk' : ¬ ((K : Nat) : Int) < (K : Nat) := by omega
  dsimp only at q
  have hm := isLLL_mat ha (k := 0) (by rw [hl]; exact hK)
  have em : mat (rws (fun k => matL (T k) n n) K) 0 = matL (T 0) n n := by unfold mat; rw [List.getD_eq_getElem?_getD, rws_get _ _ _ hK]; rfl
  rw [em] at hm
  have lm : (matL (T 0) n n).length = n := matL_len2 _ _ _
  rcases q with ⟨p5, pr⟩ | ⟨p5, pr⟩
  ·simp (maxSteps := 10000000) (disch := first | assumption | omega) only [go_sem, ↓reduceIte, Nat.reduceEqDiff, reduceCtorEq, Nat.reduceAdd, Nat.reduceMul, Nat.reduceLeDiff, zc, Int.reduceToNat, s0, s1, s9, s10, s11, hk', hl, p5, pr, hm, lm, isLL_len hm]
   refine Yab ?_
   exact decide_eq_decide.2 Int.ofNat_lt
  ·simp (maxSteps := 10000000) (disch := first | assumption | omega) only [go_sem, ↓reduceIte, Nat.reduceEqDiff, reduceCtorEq, Nat.reduceAdd, Nat.reduceMul, Nat.reduceLeDiff, zc, Int.reduceToNat, s0, s1, s9, s10, s11, hk', hl, p5, pr, hm, lm, isLL_len hm]
   refine Yab ?_
   exact decide_eq_decide.2 Int.ofNat_lt
end Go.Proofs.YtdpinkgkmcbckaaGreat
/- Characters by the program: which lists are characters. -/
namespace Go.Proofs.YtdpinkgkmcbckaaGreat
open Go.RowKit
set_option maxRecDepth 1000000
def chE1 (T : List (List (List Int))) (xs : List Int) (i j : Nat) : Prop := sm (fun k => at3 T i j k * atI xs k) T.length % 55441 = atI xs i * atI xs j % 55441
def chP (T : List (List (List Int))) (xs : List Int) : Prop := (∀ i, i < T.length → ∀ j, j < T.length → chE1 T xs i j) ∧ atI xs 0 = 1
theorem numL_row {T : List (List (List Int))} (hT : CubeP T) (i j : Nat) : numL (row (mat T i) j) := fun k => by
 have h := at3_bnd hT i j k
 have e : atI (row (mat T i) j) k = at3 T i j k := rfl
 unfold num
 rw [e]
 omega
theorem cIsCh {c a : AV} {T : List (List (List Int))} {xs : List Int} (hc : isLLL c T) (hT : CubeP T) (ha : isL a xs) (hl : xs.length = T.length) (nx : numL xs) {t : Bool} (ht : t = true ↔ chP T xs) :
  CallOK Tryz.prog 54 [.agg [c], a] (bo t) := by
 obtain ⟨t1, t16, hcu⟩ := id hT
 refine call_of (fn := Tryz.f54) (code := bodyOf Tryz.f54) Tryz.func54 rfl (by kernel_rfl) (rfl) ?_
 intro sl hs
 have s0 : sl 0 = .agg [c] := hs 0
 have s1 : sl 1 = a := hs 1
 dsimp only [Tryz.f54, bodyOf, Option.getD]
 simp (maxSteps := 10000000) (disch := first | assumption | omega) only [go_sem, ↓reduceIte, Nat.reduceEqDiff, reduceCtorEq, Nat.reduceAdd, Nat.reduceMul, Nat.reduceLeDiff, zc, Int.reduceToNat, s0, s1, isLLL_len hc, ti33, ti31]
 refine WK_for (fun i st => st.sl 1 = a ∧ st.sl 2 = .ptr 4096 1 [] 0 ∧ st.ro 4096 1 = some (.bx [c]) ∧ st.sl 10 = c ∧ st.sl 11 = i64 (T.length : Nat) ∧ st.sl 12 = i64 (i : Int) ∧ (∀ i', i' < i → ∀ j, j < T.length → chE1 T xs i' j)) T.length ?_ ?_ ?_
 ·refine Yak ?_
  exact ⟨rfl, fun i' h => absurd h (Nat.not_lt_zero _)⟩
 ·rintro i sl ro gn hi ⟨s1, s2, r4096, s10, s11, s12, q⟩
  dsimp only at s1 s2 r4096 s10 s11 s12
  have hi' : (i : Int) < (T.length : Nat) := by omega
  have hm := isLLL_mat hc hi
  have lm : (mat T i).length = T.length := (hcu i hi).1
  have hxi : i < xs.length := by omega
  simp (maxSteps := 10000000) (disch := first | assumption | omega) only [go_sem, ↓reduceIte, Nat.reduceEqDiff, reduceCtorEq, Nat.reduceAdd, Nat.reduceMul, Nat.reduceLeDiff, zc, Int.reduceToNat, s1, s2, r4096, s10, s11, s12, hi', hi, isLL_len hm, lm]
  refine WK_for (fun j st => st.sl 1 = a ∧ st.sl 2 = .ptr 4096 1 [] 0 ∧ st.ro 4096 1 = some (.bx [c]) ∧ st.sl 10 = c ∧ st.sl 11 = i64 (T.length : Nat) ∧ st.sl 12 = i64 (i : Int) ∧ st.sl 5 = i64 (i : Int) ∧ st.sl 17 = atA c i ∧ st.sl 18 = i64 (T.length : Nat) ∧ st.sl 19 = i64 (j : Int) ∧ (∀ j', j' < j → chE1 T xs i j')) T.length ?_ ?_ ?_
  ·simp only [↓za, ↓reduceIte, Nat.reduceEqDiff, zb, reduceCtorEq, rws_zero, s1, s2, r4096, s10, s11, s12, hi', hi]
   exact ⟨rfl, fun j' h => absurd h (Nat.not_lt_zero _)⟩
  ·rintro j sl ro gn hj ⟨s1, s2, r4096, s10, s11, s12, s5, s17, s18, s19, q2⟩
   dsimp only at s1 s2 r4096 s10 s11 s12 s5 s17 s18 s19
   have hj' : (j : Int) < (T.length : Nat) := by omega
   have hjm : j < (mat T i).length := by omega
   have hr := isLL_row hm hjm
   have lr : (row (mat T i) j).length = T.length := ((hcu i hi).2 j hj).1
   have hxj : j < xs.length := by omega
   have cd := c119 hr ha (by rw [lr]; unfold maxN; omega) (by omega) (numL_row hT i j) nx
   rw [lr] at cd
   have ni := nx i
   have nj := nx j
   unfold num at ni nj
   have hmul := mulB ni.1 (show atI xs i ≤ 55440 by omega) nj.1 (show atI xs j ≤ 55440 by omega)
   have htm : Int.tmod (atI xs i * atI xs j) 55441 = atI xs i * atI xs j % 55441 := Int.tmod_eq_emod_of_nonneg (by omega)
   by_cases he : sm (fun k => at3 T i j k * atI xs k) T.length % 55441 = atI xs i * atI xs j % 55441
   ·refine Yck ?_
    refine CLLD_pure _ cd PUt rfl ?_
    simp (maxSteps := 10000000) (disch := first | assumption | omega) only [go_sem, ↓reduceIte, Nat.reduceEqDiff, reduceCtorEq, Nat.reduceAdd, Nat.reduceMul, Nat.reduceLeDiff, zc, Int.reduceToNat, s1, s2, r4096, s10, s11, s12, s5, s17, s18, s19, hj', hj, isL_idx ha hxi, isL_idx ha hxj, htm, eq_true he]
    refine FIN_of (by kernel_rfl) ?_
    simp (maxSteps := 10000000) (disch := first | assumption | omega) only [go_sem, ↓reduceIte, Nat.reduceEqDiff, reduceCtorEq, Nat.reduceAdd, Nat.reduceMul, Nat.reduceLeDiff, zc, Int.reduceToNat, s1, s2, r4096, s10, s11, s12, s5, s17, s18, s19, hj', hj]
    refine ⟨i64c (by omega), fun j' hj' => ?_⟩
    rcases Nat.lt_or_eq_of_le (Nat.le_of_lt_succ hj') with h | h
    ·exact q2 j' h
    ·rw [h]; exact he
   ·have ht' : t = false := by
     cases t with
     | false => rfl
     | true => exact absurd ((ht.1 rfl).1 i hi j hj) he
    subst ht'
    refine Yck ?_
    refine CLLD_pure _ cd PUt rfl ?_
    simp (maxSteps := 10000000) (disch := first | assumption | omega) only [go_sem, ↓reduceIte, Nat.reduceEqDiff, reduceCtorEq, Nat.reduceAdd, Nat.reduceMul, Nat.reduceLeDiff, zc, Int.reduceToNat, s1, s2, r4096, s10, s11, s12, s5, s17, s18, s19, hj', hj, isL_idx ha hxi, isL_idx ha hxj, htm, eq_false he]
    refine FIN_of (by kernel_rfl) ?_
    simp (maxSteps := 10000000) (disch := first | assumption | omega) only [go_sem, ↓reduceIte, Nat.reduceEqDiff, reduceCtorEq, Nat.reduceAdd, Nat.reduceMul, Nat.reduceLeDiff, zc, Int.reduceToNat, s1, s2, r4096, s10, s11, s12, s5, s17, s18, s19, hj', hj]
    exact Yac
  ·rintro sl ro gn ⟨s1, s2, r4096, s10, s11, s12, s5, s17, s18, s19, q2⟩
   dsimp only at s1 s2 r4096 s10 s11 s12 s5 s17 s18 s19
   have hj' : ¬ ((T.length : Nat) : Int) < (T.length : Nat) := by omega
   simp (maxSteps := 10000000) (disch := first | assumption | omega) only [go_sem, ↓reduceIte, Nat.reduceEqDiff, reduceCtorEq, Nat.reduceAdd, Nat.reduceMul, Nat.reduceLeDiff, zc, Int.reduceToNat, s1, s2, r4096, s10, s11, s12, s5, s17, s18, s19, hj']
   refine ⟨i64c (by omega), fun i' hi' => ?_⟩
   rcases Nat.lt_or_eq_of_le (Nat.le_of_lt_succ hi') with h | h
   ·exact q i' h
   ·rw [h]; exact q2
 ·rintro sl ro gn ⟨s1, s2, r4096, s10, s11, s12, q⟩
  dsimp only at s1 s2 r4096 s10 s11 s12
  have hi' : ¬ ((T.length : Nat) : Int) < (T.length : Nat) := by omega
  have hx0 : 0 < xs.length := by omega
  by_cases h1 : atI xs 0 = 1
  ·have ht' : t = true := ht.2 ⟨q, h1⟩
   subst ht'
   simp (maxSteps := 10000000) (disch := first | assumption | omega) only [go_sem, ↓reduceIte, Nat.reduceEqDiff, reduceCtorEq, Nat.reduceAdd, Nat.reduceMul, Nat.reduceLeDiff, zc, Int.reduceToNat, s1, s2, r4096, s10, s11, s12, hi', isL_idx0 ha hx0, eq_true h1]
   exact Yac
  ·have ht' : t = false := by
    cases t with
    | false => rfl
    | true => exact absurd (ht.1 rfl).2 h1
   subst ht'
   simp (maxSteps := 10000000) (disch := first | assumption | omega) only [go_sem, ↓reduceIte, Nat.reduceEqDiff, reduceCtorEq, Nat.reduceAdd, Nat.reduceMul, Nat.reduceLeDiff, zc, Int.reduceToNat, s1, s2, r4096, s10, s11, s12, hi', isL_idx0 ha hx0, eq_false h1]
   exact Yac
theorem cNumOf {a : AV} {n : Nat} {A : Nat → Nat → Int} (ha : isLL a (matL A n n)) (hn : n ≤ 65536) (hA : numM A) : CallOK Tryz.prog 27 [a] (matA A n n) := by
 have hl : (matL A n n).length = n := matL_len2 _ _ _
 refine call_of (fn := Tryz.f27) (code := bodyOf Tryz.f27) Tryz.func27 rfl (by kernel_rfl) (noRef_mat _ _ _) ?_
 intro sl hs
 have s0 : sl 0 = a := hs 0
 dsimp only [Tryz.f27, bodyOf, Option.getD]
 simp (maxSteps := 10000000) (disch := first | assumption | omega) only [go_sem, ↓reduceIte, Nat.reduceEqDiff, reduceCtorEq, Nat.reduceAdd, Nat.reduceMul, Nat.reduceLeDiff, zc, Int.reduceToNat, s0, isLL_len ha, hl]
 refine WK_for (fun i st => st.sl 10 = a ∧ st.sl 11 = i64 (n : Nat) ∧ st.sl 12 = i64 (i : Int) ∧ st.sl 3 = .ref 8192 (st.gn 8192) [] 0 i ∧ st.ro 8192 (st.gn 8192) = some (.row (rws (fun i => .row (rws (fun j => i64 (A i j)) n)) i))) n ?_ ?_ ?_
 ·refine Yaj ?_
  rfl
 ·rintro i sl ro gn hi ⟨s10, s11, s12, s3, r8192⟩
  dsimp only at s10 s11 s12 s3 r8192
  have hi' : (i : Int) < (n : Nat) := by omega
  have hi2 : i + 1 ≤ 4294967296 := by omega
  have hr := isLL_row ha (k := i) (by rw [hl]; exact hi)
  have lr : (row (matL A n n) i).length = n := matL_row2 hi
  have er : ∀ j, j < n → atI (row (matL A n n) i) j = A i j := fun j hj => matL_at hi hj
  simp (maxSteps := 10000000) (disch := first | assumption | omega) only [go_sem, ↓reduceIte, Nat.reduceEqDiff, reduceCtorEq, Nat.reduceAdd, Nat.reduceMul, Nat.reduceLeDiff, zc, Int.reduceToNat, s10, s11, s12, s3, r8192, hi', hi, hl, isL_len hr, lr]
  refine WK_for (fun j st => st.sl 10 = a ∧ st.sl 11 = i64 (n : Nat) ∧ st.sl 12 = i64 (i : Int) ∧ st.sl 3 = .ref 8192 (st.gn 8192) [] 0 i ∧ st.ro 8192 (st.gn 8192) = some (.row (rws (fun i => .row (rws (fun j => i64 (A i j)) n)) i)) ∧ st.sl 17 = atA a i ∧ st.sl 18 = i64 (n : Nat) ∧ st.sl 19 = i64 (j : Int) ∧ st.sl 6 = .ref 24576 (st.gn 24576) [] 0 j ∧ st.ro 24576 (st.gn 24576) = some (.row (rws (fun j => i64 (A i j)) j))) n ?_ ?_ ?_
  ·simp only [↓za, ↓reduceIte, Nat.reduceEqDiff, zb, reduceCtorEq, rws_zero, s10, s11, s12, s3, r8192, hi', hi]
   rfl
  ·rintro j sl ro gn hj ⟨s10, s11, s12, s3, r8192, s17, s18, s19, s6, r24576⟩
   dsimp only at s10 s11 s12 s3 r8192 s17 s18 s19 s6 r24576
   have hj' : (j : Int) < (n : Nat) := by omega
   have hj2 : j + 1 ≤ 4294967296 := by omega
   have nv := hA i j
   have nv' := nv
   unfold num at nv'
   have cm := cModI (x := A i j) (by omega) (by omega)
   rw [Int.emod_eq_of_lt nv'.1 nv'.2] at cm
   simp (maxSteps := 10000000) (disch := first | assumption | omega) only [go_sem, ↓reduceIte, Nat.reduceEqDiff, reduceCtorEq, Nat.reduceAdd, Nat.reduceMul, Nat.reduceLeDiff, zc, Int.reduceToNat, s10, s11, s12, s3, r8192, s17, s18, s19, s6, r24576, hj', hj, isL_idx hr (show j < (row (matL A n n) i).length by omega), er j hj]
   refine CLL_pure _ cm PUt rfl rfl ?_
   simp (maxSteps := 10000000) (disch := first | assumption | omega) only [go_sem, ↓reduceIte, Nat.reduceEqDiff, reduceCtorEq, Nat.reduceAdd, Nat.reduceMul, Nat.reduceLeDiff, zc, Int.reduceToNat, s10, s11, s12, s3, r8192, s17, s18, s19, s6, r24576, hj', hj, hj2]
   exact i64c (by omega)
  ·rintro sl ro gn ⟨s10, s11, s12, s3, r8192, s17, s18, s19, s6, r24576⟩
   dsimp only at s10 s11 s12 s3 r8192 s17 s18 s19 s6 r24576
   have hj' : ¬ ((n : Nat) : Int) < (n : Nat) := by omega
   simp (maxSteps := 10000000) (disch := first | assumption | omega) only [go_sem, ↓reduceIte, Nat.reduceEqDiff, reduceCtorEq, Nat.reduceAdd, Nat.reduceMul, Nat.reduceLeDiff, zc, Int.reduceToNat, s10, s11, s12, s3, r8192, s17, s18, s19, s6, r24576, hj', hi2]
   exact i64c (by omega)
 ·rintro sl ro gn ⟨s10, s11, s12, s3, r8192⟩
  dsimp only at s10 s11 s12 s3 r8192
  have hi' : ¬ ((n : Nat) : Int) < (n : Nat) := by omega
  simp (maxSteps := 10000000) (disch := first | assumption | omega) only [go_sem, ↓reduceIte, Nat.reduceEqDiff, reduceCtorEq, Nat.reduceAdd, Nat.reduceMul, Nat.reduceLeDiff, zc, Int.reduceToNat, s10, s11, s12, s3, r8192, hi']
  exact Yao
end Go.Proofs.YtdpinkgkmcbckaaGreat
/- Characters by the program: what is no character goes. -/
namespace Go.Proofs.YtdpinkgkmcbckaaGreat
open Go.RowKit
set_option maxRecDepth 1000000
theorem exq_ptrc {n s g : Nat} {ro : Ro} {cs cs' : List AV} (h : ro s g = some (.bx cs)) (hc : exqL n ro cs cs') : exq (n + 1) ro (.ptr s g [] 0) (.iptr cs') := by
 refine ⟨fun j hj => ?_, fun hp => by simp [pureA] at hp⟩
 obtain ⟨j, rfl⟩ : ∃ i, j = i + 1 := ⟨j - 1, by omega⟩
 show (match ro.cells s g [] with | some cs => AV.iptr ((cs.drop 0).map (ex ro j)) | none => .dead) = _
 rw [zef, h]
 simp only [zei, List.drop_zero]
 rw [hc.mapE j (by omega)]
theorem cClo46 {c a : AV} {T : List (List (List Int))} {xs : List Int} (hc : isLLL c T) (hT : CubeP T) (ha : isL a xs) (hl : xs.length = T.length) (nx : numL xs) {t : Bool} (ht : t = true ↔ chP T xs) :
  CallOK Tryz.prog 53 [a, .iptr [c]] (bo (!t)) := by
 have ci := cIsCh hc hT ha hl nx ht
 refine call_of (fn := Tryz.f53) (code := bodyOf Tryz.f53) Tryz.func53 rfl (by kernel_rfl) (rfl) ?_
 intro sl hs
 have s0 : sl 0 = a := hs 0
 have s1 : sl 1 = .iptr [c] := hs 1
 dsimp only [Tryz.f53, bodyOf, Option.getD]
 simp (maxSteps := 10000000) (disch := first | assumption | omega) only [go_sem, ↓reduceIte, Nat.reduceEqDiff, reduceCtorEq, Nat.reduceAdd, Nat.reduceMul, Nat.reduceLeDiff, zc, Int.reduceToNat, s0, s1, ti33, ti31]
 refine CLL_pure _ ci PUt rfl rfl ?_
 cases t with
 | true =>
  refine Yaa ?_
  exact Yac
 | false =>
  refine Yaa ?_
  exact Yac
def kpt (dl : Nat → Bool) (j : Nat) : List Nat := (List.range j).filter fun r => !dl r
theorem kpt_succ (dl : Nat → Bool) (j : Nat) : kpt dl (j + 1) = if dl j = true then kpt dl j else kpt dl j ++ [j] := by
 unfold kpt
 rw [List.range_succ, List.filter_append]
 cases h : dl j <;> simp [h]
theorem kpt_len (dl : Nat → Bool) (j : Nat) : (kpt dl j).length ≤ j := by
 have := List.length_filter_le (fun r => !dl r) (List.range j)
 simpa [kpt] using this
theorem kpt_all {dl : Nat → Bool} {j : Nat} (h : ∀ r, r < j → dl r = false) : kpt dl j = List.range j := by
 unfold kpt
 exact List.filter_eq_self.2 fun r hr => by rw [h r (List.mem_range.1 hr)]; rfl
theorem kpt_lt {dl : Nat → Bool} {j r : Nat} (h : r ∈ kpt dl j) : r < j := List.mem_range.1 (List.mem_filter.1 h).1
theorem first_ex {dl : Nat → Bool} : ∀ {m : Nat}, (∃ k, k < m ∧ dl k = true) → ∃ k, k < m ∧ dl k = true ∧ ∀ j, j < k → dl j = false
 | 0, ⟨k, h, _⟩ => by omega
 | m + 1, ⟨k, h, h1⟩ => by
  by_cases e : ∃ k, k < m ∧ dl k = true
  ·obtain ⟨k', a, b, c⟩ := first_ex e
   exact ⟨k', by omega, b, c⟩
  ·have hk : k = m := by
    refine Decidable.byContradiction fun hne => e ⟨k, by omega, h1⟩
   subst hk
   exact ⟨k, h, h1, fun j hj => by
    cases hd : dl j with
    | false => rfl
    | true => exact absurd ⟨j, hj, hd⟩ e⟩
structure DelI (ro : Ro) (gn : Nat → Nat) (S g γ m w : Nat) (M : Nat → Nat → Int) (dl : Nat → Bool) (C : Nat → Nat) (j : Nat) : Prop where
 arr : ro S g = some (.bx (rws (fun i => .ref 5 (γ + C i) [] 0 w) m))
 rw : ∀ r, r < m → ro 5 (γ + r) = some (.row (rws (fun z => i64 (M r z)) w))
 gn5 : ∀ r, r < m → γ + r ≤ gn 5
 cl : ∀ i, i < (kpt dl j).length → (kpt dl j)[i]? = some (C i)
 ch : ∀ i, j ≤ i → C i = i
 ct : ∀ i, i < m → C i < m
theorem DelI.del {ro : Ro} {gn : Nat → Nat} {S g γ m w : Nat} {M : Nat → Nat → Int} {dl : Nat → Bool} {C : Nat → Nat} {j : Nat} (p : DelI ro gn S g γ m w M dl C j) (h : kpt dl (j + 1) = kpt dl j) : DelI ro gn S g γ m w M dl C (j + 1) :=
 ⟨p.arr, p.rw, p.gn5, fun i hi => by rw [h] at hi ⊢; exact p.cl i hi, fun i hi => p.ch i (by omega), p.ct⟩
theorem DelI.kp {ro : Ro} {gn : Nat → Nat} {S g γ m w : Nat} {M : Nat → Nat → Int} {dl : Nat → Bool} {C : Nat → Nat} {j : Nat} (hS : S ≠ 5) (p : DelI ro gn S g γ m w M dl C j) (hj : j < m) (hl : (kpt dl j).length ≤ j) (h : kpt dl (j + 1) = kpt dl j ++ [j]) :
  DelI (upr ro S g (.bx ((rws (fun i => AV.ref 5 (γ + C i) [] 0 w) m).set (kpt dl j).length (.ref 5 (γ + j) [] 0 w)))) gn S g γ m w M dl (fun i => if i = (kpt dl j).length then j else C i) (j + 1) := by
 refine ⟨?_, fun r hr => ?_, p.gn5, fun i hi => ?_, fun i hi => ?_, fun i hi => ?_⟩
 ·rw [upr_eq, rws_set]
  congr 2
  refine rws_congr fun i _ => ?_
  split <;> rfl
 ·rw [upr_ne (fun e => hS e.symm)]; exact p.rw r hr
 ·rw [h] at hi ⊢
  rw [List.length_append, List.length_singleton] at hi
  by_cases e : i = (kpt dl j).length
  ·rw [if_pos e, e, List.getElem?_append_right (Nat.le_refl _), Nat.sub_self]; rfl
  ·rw [if_neg e, List.getElem?_append_left (by omega)]; exact p.cl i (by omega)
 ·rw [if_neg (by omega)]; exact p.ch i (by omega)
 ·split
  ·exact hj
  ·exact p.ct i hi
theorem kpt_nodup (dl : Nat → Bool) (j : Nat) : (kpt dl j).Nodup := List.Nodup.sublist List.filter_sublist List.nodup_range
theorem kpt_mono (dl : Nat → Bool) (j : Nat) : ∀ m, (kpt dl (j + m)).length ≤ (kpt dl j).length + m
 | 0 => Nat.le_refl _
 | m + 1 => by
  have := kpt_mono dl j m
  rw [← Nat.add_assoc, kpt_succ]
  split
  ·omega
  ·rw [List.length_append, List.length_singleton]; omega
theorem kpt_short {dl : Nat → Bool} {m k : Nat} (hk : k < m) (h : dl k = true) : (kpt dl m).length < m := by
 have h1 := kpt_mono dl (k + 1) (m - (k + 1))
 rw [show k + 1 + (m - (k + 1)) = m from by omega, kpt_succ, if_pos h] at h1
 have := kpt_len dl k
 omega
theorem DelI.out {ro : Ro} {gn : Nat → Nat} {S g γ m w : Nat} {M : Nat → Nat → Int} {dl : Nat → Bool} {C : Nat → Nat} {cs : List AV} (hS : S ≠ 5) (p : DelI ro gn S g γ m w M dl C m) (hc : ∀ i, i < (kpt dl m).length → cs[i]? = some (.ref 5 (γ + C i) [] 0 w)) (hl : cs.length = m) (hk : (kpt dl m).length < m) :
  ∃ dls, zhk (upr ro S g (.bx cs)) (.ref S g [] 0 (kpt dl m).length) = some (.row ((kpt dl m).map fun i => .row (rws (fun z => i64 (M i z)) w)), dls) := by
 have e : cs.take (kpt dl m).length = (kpt dl m).map fun i => AV.ref 5 (γ + i) [] 0 w := by
  apply List.ext_getElem?
  intro i
  rw [List.getElem?_take, List.getElem?_map]
  split
  ·rename_i hi
   rw [hc i hi, p.cl i hi]; rfl
  ·rename_i hi
   rw [List.getElem?_eq_none (by omega)]; rfl
 have key := outL_arr (w := w) (σ := fun i => (5, γ + i)) (R := fun i => rws (fun j => i64 (M i j)) w) (kpt dl m) (ro := upr (upr ro S g (.bx cs)) S g .dead) (kpt_nodup dl m) (fun i j _ _ e => by simp only [Prod.mk.injEq, true_and] at e; omega) (fun i hi => by
  refine ⟨?_, zfe _ _⟩
  rw [upr_ne (fun e => hS e.symm), upr_ne (fun e => hS e.symm)]
  exact p.rw i (kpt_lt hi))
 refine ⟨(S, g) :: (kpt dl m).map fun i => (5, γ + i), ?_⟩
 simp only [zhk, upr_eq, hl]
 rw [if_neg (by omega), if_pos (Nat.le_of_lt hk), e, key]
theorem RETS_1 {ti : Nat → Option TI} {k : Nat} {Po : AV → Ro → (Nat → Nat) → Prop} {sl : Nat → AV} {ro : Ro} {gn : Nat → Nat} (v : AV) (h : sl k = v) (hp : Po v ro gn) : RETS ti [.tmp k] Po .ret ⟨sl, ro, gn⟩ := ⟨.inr rfl, [sl k], rfl, by show Po (sl k) ro gn; rw [h]; exact hp⟩
theorem in_ofS {f : Nat} {fn : Func} {code : Code} {args : List AV} {ro : Ro} {gn : Nat → Nat} {Po : AV → Ro → (Nat → Nat) → Prop} (hf : Tryz.prog.funcs[f]? = some fn) (hb : fn.body = some code)
  (hok : (!(fn.name == "runtime.NumGoroutine") && dstOK fn.ntmps code && decide (args.length ≤ fn.ntmps)) = true)
  (h : ∀ sl : Nat → AV, (∀ k, sl k = args.getD k (.sc undef)) → WK XX code [] (RETS ti0 fn.results.toList Po) ⟨sl, ro, gn⟩) : InS Tryz.prog f args ro gn Po :=
 in_ofGS _ (tiG_ok _) mixed0 hf hb hok h
theorem inDel {ro : Ro} {gn : Nat → Nat} {S g m w : Nat} {c : AV} {T : List (List (List Int))} {M : Nat → Nat → Int} {dl : Nat → Bool} (hS : S ≠ 5) (hS4 : S ≠ 4096) (hm0 : ro S g = some (matA M m w)) (hbx : ro 4096 1 = some (.bx [c])) (hc : isLLL c T) (hm : m ≤ 4000000000)
  (hd : ∀ a k, k < m → isL a (rws (fun j => M k j) w) → CallOK Tryz.prog 53 [a, .iptr [c]] (bo (dl k))) :
  InS Tryz.prog 52 [.ref S g [] 0 m, .fn 53 [.ptr 4096 1 [] 0]] ro gn
   (fun r ro' gn' => ∃ dls, r = .ref S g [] 0 (kpt dl m).length ∧ zhk ro' (.ref S g [] 0 (kpt dl m).length) = some (.row ((kpt dl m).map fun i => .row (rws (fun z => i64 (M i z)) w)), dls)) := by
 have hl : (matL M m w).length = m := matL_len2 _ _ _
 have hI : ∀ {z : Int}, ((∀ k, k < m → dl k = false) → z = -1) → (∀ k, k < m → dl k = true → (∀ j, j < k → dl j = false) → z = k) → CallOK Tryz.prog 56 [immLL (matL M m w), .fn 53 [.iptr [c]]] (i64 z) := fun {z} h1 h2 =>
  c148 (isLL_mat M m w) (by rw [hl]; unfold maxN; omega) rfl PUt (p := dl) (fun k hk => by
   rw [hl] at hk
   have := isLL_row (isLL_mat M m w) (k := k) (by rw [hl]; exact hk)
   rw [matL_row hk] at this
   exact hd _ k hk this) (fun h => h1 fun k hk => h k (by rw [hl]; exact hk)) (fun k hk h3 h4 => h2 k (by rw [hl] at hk; exact hk) h3 h4)
 refine in_ofS (fn := Tryz.f52) (code := bodyOf Tryz.f52) Tryz.func52 rfl (by kernel_rfl) ?_
 intro sl hs
 have s0 : sl 0 = .ref S g [] 0 m := hs 0
 have s1 : sl 1 = .fn 53 [.ptr 4096 1 [] 0] := hs 1
 dsimp only [Tryz.f52, bodyOf, Option.getD]
 by_cases hex : ∃ k, k < m ∧ dl k = true
 ·obtain ⟨k0, hk0, hd0, hf0⟩ := first_ex hex
  have ci := hI (z := (k0 : Nat)) (fun h => by rw [h k0 hk0] at hd0; cases hd0) (fun k hk h1 h2 => by
   rcases Nat.lt_trichotomy k k0 with h | h | h
   ·rw [hf0 k h] at h1; cases h1
   ·rw [h]
   ·rw [h2 k0 h] at hd0; cases hd0)
  have hne : ¬ ((k0 : Nat) : Int) = -1 := by omega
  simp (maxSteps := 10000000) (disch := first | assumption | omega) only [go_sem, ↓reduceIte, Nat.reduceEqDiff, reduceCtorEq, Nat.reduceAdd, Nat.reduceMul, Nat.reduceLeDiff, zc, Int.reduceToNat, s0, s1, hm0]
  refine CLL_q _ ci (.cons (exq_mat hm0 (by decide)) (.cons (exq_fn (.cons (exq_ptrc hbx (.cons (exq_LLL hc (by decide)) .nil)) .nil)) .nil)) rfl rfl rfl ?_
  simp (maxSteps := 10000000) (disch := first | assumption | omega) only [go_sem, ↓reduceIte, Nat.reduceEqDiff, reduceCtorEq, Nat.reduceAdd, Nat.reduceMul, Nat.reduceLeDiff, zc, Int.reduceToNat, s0, s1, eq_false hne]
  refine WK_forG (fun k st => st.sl 0 = .ref S g [] 0 m ∧ st.sl 1 = .fn 53 [.ptr 4096 1 [] 0] ∧ st.sl 5 = i64 ((kpt dl (k0 + 1 + k)).length : Nat) ∧ st.sl 6 = i64 ((k0 + 1 + k : Nat) : Int) ∧ st.ro 4096 1 = some (.bx [c]) ∧ ∃ C, DelI st.ro st.gn S g (gn 5 + 1) m w M dl C (k0 + 1 + k)) (m - k0 - 1) (Arr.unp (S := S) (g := g) (b := 5) (n := m) (w := w) (M := M) hS (Ue hm0)).1 ?_ ?_ ?_
  ·have A := (Arr.unp (st := ⟨sl, ro, gn⟩) (S := S) (g := g) (b := 5) (n := m) (w := w) (M := M) hS hm0).2
   have k1 : kpt dl (k0 + 1) = List.range k0 := by rw [kpt_succ, if_pos hd0, kpt_all hf0]
   have e4 : (unp ⟨sl, ro, gn⟩ S g 5 m fun i => rws (fun j => i64 (M i j)) w).ro 4096 1 = some (.bx [c]) := (unp_other (fun e => hS4 e.symm) (by decide)).trans hbx
   simp only [unp_sl, ↓za, ↓reduceIte, Nat.reduceEqDiff, zb, reduceCtorEq, s0, s1]
   refine ⟨?_, ?_, ?_, fun i => i, ?_, ?_, ?_, ?_, ?_, ?_⟩
   ·rw [Nat.add_zero, k1, List.length_range]
   ·exact i64c (by omega)
   ·exact e4
   ·exact A.arr
   ·exact A.rw
   ·exact A.gnn
   ·intro i hi
    rw [Nat.add_zero, k1] at hi ⊢
    rw [List.length_range] at hi
    rw [List.getElem?_range hi]
   ·exact fun i _ => rfl
   ·exact fun i h => h
  ·rintro k sl ro gn hk ⟨s0, s1, s5, s6, h4, C, p⟩
   dsimp only at s0 s1 s5 s6 h4 p
   have hj : k0 + 1 + k < m := by omega
   have hj' : ((k0 + 1 + k : Nat) : Int) < (m : Nat) := by omega
   have hC := p.ch (k0 + 1 + k) (Nat.le_refl _)
   have pa := p.arr
   have pr := p.rw (k0 + 1 + k) hj
   have hkl := kpt_len dl (k0 + 1 + k)
   have cd := hd _ (k0 + 1 + k) hj (isL_imm (rws (fun j => M (k0 + 1 + k) j) w))
   generalize hJ : k0 + 1 + k = J at *
   simp (maxSteps := 10000000) (disch := first | assumption | omega) only [go_sem, ↓reduceIte, Nat.reduceEqDiff, reduceCtorEq, Nat.reduceAdd, Nat.reduceMul, Nat.reduceLeDiff, zc, Int.reduceToNat, s0, s1, s5, s6, pa, rws_get, zfe, hj, hj', hC]
   refine CLL_q _ cd (.cons (exq_refL (by rw [pr, rowL, rws_map]) (zfe _ _).symm (by decide)) (.cons (exq_ptrc h4 (.cons (exq_LLL hc (by decide)) .nil)) .nil)) rfl rfl rfl ?_
   cases hdj : dl J with
   | true =>
    have ek : kpt dl (J + 1) = kpt dl J := by rw [kpt_succ, if_pos hdj]
    simp (maxSteps := 10000000) (disch := first | assumption | omega) only [go_sem, ↓reduceIte, Nat.reduceEqDiff, reduceCtorEq, Nat.reduceAdd, Nat.reduceMul, Nat.reduceLeDiff, zc, Int.reduceToNat, s0, s1, s5, s6]
    have eJ : k0 + 1 + (k + 1) = J + 1 := by omega
    rw [eJ, ek]
    exact ⟨rfl, i64c (by omega), h4, C, p.del ek⟩
   | false =>
    have ek : kpt dl (J + 1) = kpt dl J ++ [J] := by rw [kpt_succ, hdj]; rfl
    have hlm : (kpt dl J).length < m := by omega
    have hlm' : ((kpt dl J).length : Int) < (m : Nat) := by omega
    have hlm2 : (kpt dl J).length + 1 ≤ m := hlm
    simp (maxSteps := 10000000) (disch := first | assumption | omega) only [go_sem, ↓reduceIte, Nat.reduceEqDiff, reduceCtorEq, Nat.reduceAdd, Nat.reduceMul, Nat.reduceLeDiff, zc, Int.reduceToNat, s0, s1, s5, s6, pa, pr, zfe, hlm, hlm', hlm2]
    have eJ : k0 + 1 + (k + 1) = J + 1 := by omega
    rw [eJ, ek, List.length_append, List.length_singleton]
    have q := p.kp hS hj hkl ek
    exact ⟨i64c (by omega), i64c (by omega), (if_neg fun e => hS4 e.1.symm).trans h4, _, q⟩
  ·generalize gn 5 = gn5
   rintro sl ro gn ⟨s0, s1, s5, s6, h4, C, p⟩
   dsimp only at s0 s1 s5 s6 h4 p
   have eJ : k0 + 1 + (m - k0 - 1) = m := by omega
   rw [eJ] at s5 s6 p
   have hj' : ¬ ((m : Nat) : Int) < (m : Nat) := by omega
   have pa := p.arr
   have hks := kpt_short hk0 hd0
   have hks1 : (kpt dl m).length ≤ m := by omega
   have hks2 : (kpt dl m).length + (m - (kpt dl m).length) ≤ m := by omega
   have hks3 : 0 < m - (kpt dl m).length := by omega
   simp (maxSteps := 10000000) (disch := first | assumption | omega) only [go_sem, ↓reduceIte, Nat.reduceEqDiff, reduceCtorEq, Nat.reduceAdd, Nat.reduceMul, Nat.reduceLeDiff, zc, Int.reduceToNat, s0, s1, s5, s6, pa, zfe, hj', hks1, hks2, hks3, kClr1, List.getD_cons_zero, Option.map_some, Option.map_none, kSlice_lo, kSlice_hi]
   refine RETS_1 (.ref S g [] 0 (kpt dl m).length) Ur ?_
   obtain ⟨dls, h⟩ := p.out hS (cs := setL (kpt dl m).length (List.replicate (m - (kpt dl m).length) (AV.sc (Value.slice none 0 0))) (rws (fun i => AV.ref 5 (gn5 + 1 + C i) [] 0 w) m)) (fun i hi => by
    rw [getElem?_setL, if_pos hi, rws_get _ _ _ (by omega)]) (by rw [length_setL, zfe]) hks
   exact ⟨dls, rfl, h⟩
 ·have hf : ∀ k, k < m → dl k = false := fun k hk => by
   cases h : dl k with
   | false => rfl
   | true => exact absurd ⟨k, hk, h⟩ hex
  have ci := hI (z := -1) (fun _ => rfl) (fun k hk h1 _ => by rw [hf k hk] at h1; cases h1)
  simp (maxSteps := 10000000) (disch := first | assumption | omega) only [go_sem, ↓reduceIte, Nat.reduceEqDiff, reduceCtorEq, Nat.reduceAdd, Nat.reduceMul, Nat.reduceLeDiff, zc, Int.reduceToNat, s0, s1, hm0]
  refine CLL_q _ ci (.cons (exq_mat hm0 (by decide)) (.cons (exq_fn (.cons (exq_ptrc hbx (.cons (exq_LLL hc (by decide)) .nil)) .nil)) .nil)) rfl rfl rfl ?_
  refine Yaa ?_
  rw [kpt_all hf, List.length_range]
  refine RETS_1 (.ref S g [] 0 m) Ur ⟨[(S, g)], rfl, ?_⟩
  simp only [zhk, hm0, zes]
  rw [zfe, if_pos rfl]
  rfl
end Go.Proofs.YtdpinkgkmcbckaaGreat
