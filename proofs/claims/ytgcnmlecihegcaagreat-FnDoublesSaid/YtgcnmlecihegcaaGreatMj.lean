/- Texts joined: F3 F4 F5. -/
import Derived.Test.YtgcnmlecihegcaaGreatMi
set_option linter.all false
/- Matrices in memory; the program's diagonal, scaled matrices, Gauss sums; the conditions 0 and 3. -/
namespace Go.Proofs.YtgcnmlecihegcaaGreat
open Go.RowKit
set_option maxRecDepth 1000000
abbrev matA (f : Nat → Nat → Int) (n m : Nat) : AV := .row (rws (fun i => .row (rws (fun j => i64 (f i j)) m)) n)
def upd2 (f : Nat → Nat → Int) (i j : Nat) (v : Int) : Nat → Nat → Int := fun x y => if x = i ∧ y = j then v else f x y
def matL (f : Nat → Nat → Int) (n m : Nat) : List (List Int) := rws (fun i => rws (fun j => f i j) m) n
theorem matL_row {f : Nat → Nat → Int} {n m i : Nat} (h : i < n) : row (matL f n m) i = rws (fun j => f i j) m := row_rws _ h
theorem matL_at {f : Nat → Nat → Int} {n m i j : Nat} (hi : i < n) (hj : j < m) : atI (row (matL f n m) i) j = f i j := by rw [matL_row hi, atI_rws _ hj]
theorem rowLL_mat (f : Nat → Nat → Int) (n m : Nat) : rowLL (matL f n m) = matA f n m := by simp only [rowLL, rowL, matL, rws_map]
theorem noRef_mat (f : Nat → Nat → Int) (n m : Nat) : noRef (matA f n m) = true := noRef_row _ (noRefL_rws _ _ fun _ => noRef_row _ (noRefL_rws _ _ fun _ => rfl))
theorem noI_mat (f : Nat → Nat → Int) (n m : Nat) : noI (matA f n m) = true := noI_row _ (noIL_map _ (fun _ => noI_row _ (noIL_map _ (fun _ => rfl) _)) _)
theorem mat_congr {f g : Nat → Nat → Int} {n m : Nat} (h : ∀ i j, i < n → j < m → f i j = g i j) : matA f n m = matA g n m :=
 congrArg AV.row (rws_congr fun x hx => congrArg AV.row (rws_congr fun y hy => by rw [h x y hx hy]))
theorem bx1_rws {f : Nat → List AV} {n i : Nat} (h : i < n) : bx1 (some (.row (rws (fun i => .row (f i)) n))) i = false := bx1_row (rws_get _ _ _ h)
theorem wr1_mat {f : Nat → Nat → Int} {n m i j : Nat} {v : Int} {ro : Ro} {s g : Nat} (hi : i < n) (hj : j < m) : wr1 (some (.row (rws (fun i => .row (rws (fun j => i64 (f i j)) m)) n))) ro s g i j [i64 v] = upr ro s g (matA (upd2 f i j v) n m) := by
 rw [wr1_row (rws_get _ _ _ hi), setL, setL, rws_set, rws_set]
 refine congrArg (upr ro s g) (congrArg AV.row (rws_congr fun x hx => ?_))
 by_cases hxi : x = i
 · subst hxi
   rw [if_pos rfl]
   refine congrArg AV.row (rws_congr fun y hy => ?_)
   by_cases hyj : y = j
   · subst hyj; rw [if_pos rfl]; simp [upd2]
   · rw [if_neg hyj]; simp [upd2, hyj]
 · rw [if_neg hxi]
   refine congrArg AV.row (rws_congr fun y hy => ?_)
   simp [upd2, hxi]
theorem exq_mat {n : Nat} {ro : Ro} {s g k m : Nat} {f : Nat → Nat → Int} (h : ro s g = some (matA f k m)) (hn : 3 ≤ n) : exq n ro (.ref s g [] 0 k) (immLL (matL f k m)) := by
 have := exq_refLL (ro := ro) (s := s) (g := g) (m := k) (n := n) (xs := matL f k m) (by rw [h, rowLL_mat]) (by simp only [matL, zfe]) hn
 exact this
theorem isLL_mat (f : Nat → Nat → Int) (n m : Nat) : isLL (immLL (matL f n m)) (matL f n m) := isLL_imm _
theorem noRef_isL {a : AV} {xs : List Int} (h : isL a xs) : noRef a = true := by
 rcases h with rfl | ⟨_, rfl⟩
 · simpa only [noRef] using zhi xs
 · rfl
theorem noRef_isLL {a : AV} {xs : List (List Int)} (h : isLL a xs) : noRef a = true := by
 rcases h with ⟨ds, rfl, hd⟩ | ⟨_, rfl⟩
 · simpa only [noRef] using isLs_nr hd
 · rfl
theorem noRef_isLLL {a : AV} {xs : List (List (List Int))} (h : isLLL a xs) : noRef a = true := by
 rcases h with ⟨ds, rfl, hd⟩ | ⟨_, rfl⟩
 · simpa only [noRef] using isLLs_nr hd
 · rfl
theorem nrL_rowL (xss : List (List Int)) : noRefL (xss.map rowL) = true := zhj xss
theorem nrL_mat (f : Nat → Nat → Int) (n m : Nat) : noRefL (rws (fun i => .row (rws (fun j => i64 (f i j)) m)) n) = true := noRefL_rws _ _ fun _ => noRef_row _ (noRefL_rws _ _ fun _ => rfl)
theorem nrL_rwi (f : Nat → Int) (n : Nat) : noRefL (rws (fun i => i64 (f i)) n) = true := noRefL_rws _ _ fun _ => rfl
theorem noRefL_n : noRefL [] = true := rfl
theorem noRefL_c (a : AV) (l : List AV) : noRefL (a :: l) = (noRef a && noRefL l) := by simp only [noRefL]
theorem noRef_s (v : Value) : noRef (.sc v) = true := nr _
theorem pureL_n : pureL [] = true := nr _
theorem pureL_c (a : AV) (l : List AV) : pureL (a :: l) = (pureA a && pureL l) := by simp only [pureL]
theorem pureA_ref (s g : Nat) (p : List Nat) (o n : Nat) : pureA (.ref s g p o n) = false := nr _
theorem pureA_ptr (s g : Nat) (p : List Nat) (o : Nat) : pureA (.ptr s g p o) = false := nr _
theorem pureA_sc (v : Value) : pureA (.sc v) = true := nr _
theorem pureA_agg (l : List AV) : pureA (.agg l) = pureL l := by simp only [pureA]
theorem sitesL_n : zdz [] = [] := nr _
theorem sitesL_c (a : AV) (l : List AV) : zdz (a :: l) = zdy a ++ zdz l := by simp only [zdz]
attribute [go_sem] isL_sh isLL_sh isLLL_sh isL_pure isLL_pure isLLL_pure noRef_isL noRef_isLL noRef_isLLL nrL_rowL nrL_mat nrL_rwi noRefL_n noRefL_c noRef_s pureL_n pureL_c pureA_ref pureA_ptr pureA_sc pureA_agg sitesL_n sitesL_c
attribute [go_sem] inO_row rowO_row isBx_one wr_one bx1_rws wr1_mat impE_row List.length_map tms_len
theorem c126m {n m : Nat} (hn : n ≤ maxN) (hm : m ≤ maxN) : CallOK Tryz.prog 154 [i64 n, i64 m] (matA (fun _ _ => 0) n m) := by
 have := c126 hn hm
 rwa [show rws (fun _ => rws (fun _ => (0 : Int)) m) n = matL (fun _ _ => 0) n m from rfl, rowLL_mat] at this
def dgE (T : List Int) (k : Nat) (i j : Nat) : Int := if i = j ∧ i < k then atI T i else 0
theorem c143 {a : AV} {T : List Int} (ha : isL a T) (hT : T.length ≤ maxN) : CallOK Tryz.prog 146 [a] (matA (dgE T T.length) T.length T.length) := by
 have hT' : T.length ≤ 4294967296 := hT
 refine call_of (fn := Tryz.f146) (code := bodyOf Tryz.f146) Tryz.func146 rfl (by kernel_rfl) (noRef_mat _ _ _) ?_
 intro sl hs
 have s0 : sl 0 = a := hs 0
 dsimp only [Tryz.f146, bodyOf, Option.getD]
 simp (maxSteps := 10000000) (disch := first | assumption | omega) only [go_sem, ↓reduceIte, Nat.reduceEqDiff, reduceCtorEq, Nat.reduceAdd, Nat.reduceMul, Nat.reduceLeDiff, zfu, Int.mul_def, Int.add_def, zfv, cond_false, cond_true, isub, Int.reduceToNat, s0]
 refine CLL_pure _ (c126m hT hT) rfl rfl rfl ?_
 simp (maxSteps := 10000000) (disch := first | assumption | omega) only [go_sem, ↓reduceIte, Nat.reduceEqDiff, reduceCtorEq, Nat.reduceAdd, Nat.reduceMul, Nat.reduceLeDiff, zfu, Int.mul_def, Int.add_def, zfv, cond_false, cond_true, isub, Int.reduceToNat, s0]
 refine WK_for (fun i st => st.sl 11 = a ∧ st.sl 12 = i64 (T.length : Int) ∧ st.sl 13 = i64 (i : Int) ∧ st.sl 3 = .ref 8256 1 [] 0 T.length ∧ st.ro 8256 1 = some (matA (dgE T i) T.length T.length)) T.length ?_ ?_ ?_
 · simp only [↓zcy, ↓zcz, ↓zda, ↓zdb, ↓reduceIte, Nat.reduceEqDiff, and_true, true_and, and_self, ne_eq, not_false_eq_true, eq_self, false_and, and_false, reduceCtorEq, rws_zero, s0]
   refine ⟨rfl, congrArg some (mat_congr fun x y _ _ => ?_)⟩
   simp [dgE]
 · rintro i sl ro gn hi ⟨s11, s12, s13, s3, r8256⟩
   dsimp only at s11 s12 s13 s3 r8256
   have hi' : (i : Int) < (T.length : Nat) := by omega
   simp (maxSteps := 10000000) (disch := first | assumption | omega) only [go_sem, ↓reduceIte, Nat.reduceEqDiff, reduceCtorEq, Nat.reduceAdd, Nat.reduceMul, Nat.reduceLeDiff, zfu, Int.mul_def, Int.add_def, zfv, cond_false, cond_true, isub, Int.reduceToNat, s11, s12, s13, s3, r8256, hi', hi]
   refine ⟨i64c (by omega), congrArg some (mat_congr fun x y _ _ => ?_)⟩
   unfold upd2 dgE
   by_cases h : x = i ∧ y = i
   · rw [if_pos h, if_pos ⟨by omega, by omega⟩, h.1]
   · rw [if_neg h]
     have e : (x = y ∧ x < i) ↔ (x = y ∧ x < i + 1) := by omega
     simp only [e]
 · rintro sl ro gn ⟨s11, s12, s13, s3, r8256⟩
   dsimp only at s11 s12 s13 s3 r8256
   have hi' : ¬ ((T.length : Nat) : Int) < (T.length : Nat) := by omega
   simp (maxSteps := 10000000) (disch := first | assumption | omega) only [go_sem, ↓reduceIte, Nat.reduceEqDiff, reduceCtorEq, Nat.reduceAdd, Nat.reduceMul, Nat.reduceLeDiff, zfu, Int.mul_def, Int.add_def, zfv, cond_false, cond_true, isub, Int.reduceToNat, s11, s12, s13, s3, r8256, hi']
   simp only [zbj, zbk, retR, resL, outT, zes, zez, oneV, ↓zcy, ↓zcz, ↓reduceIte, Nat.reduceEqDiff, Option.some.injEq, AV.sc.injEq, Value.bool.injEq, Value.int.injEq, outL, outT, zft, zcp, zed, zef, zei, zeh, List.length_cons, List.length_nil, Nat.reduceAdd, Nat.zero_add, Nat.reduceLeDiff, List.drop_zero, List.take_succ_cons, List.take_zero, zfi, zfh, Ro.dl, zdb, zda, zfe, and_self, and_true, true_and, eq_self, List.append_nil, List.nil_append, List.cons_append, ne_eq, not_false_eq_true, and_false, false_and, Bool.false_eq_true, St.ev, zes, zfn, zhk, List.length_map, r8256]
def sclL (S : List (List Int)) (w : Int) : List (List Int) := rws (fun i => rws (fun j => atI (row S i) j * w % 55441) (row S i).length) S.length
theorem c144 {a : AV} {S : List (List Int)} {w : Int} (ha : isLL a S) (hS : S.length ≤ maxN) (hr : ∀ i, i < S.length → (row S i).length ≤ maxN) (nS : numLL S) (hw : num w) : CallOK Tryz.prog 147 [a, i64 w] (rowLL (sclL S w)) := by
 have e0 : rowLL (sclL S w) = .row (rws (fun i => .row (rws (fun j => i64 (atI (row S i) j * w % 55441)) (row S i).length)) S.length) := by simp only [rowLL, rowL, sclL, rws_map]
 have hS' : S.length ≤ 4294967296 := hS
 rw [e0]
 refine call_of (fn := Tryz.f147) (code := bodyOf Tryz.f147) Tryz.func147 rfl (by kernel_rfl) (e0 ▸ noRef_rowLL _) ?_
 intro sl hs
 have s0 : sl 0 = a := hs 0
 have s1 : sl 1 = i64 w := hs 1
 dsimp only [Tryz.f147, bodyOf, Option.getD]
 simp (maxSteps := 10000000) (disch := first | assumption | omega) only [go_sem, ↓reduceIte, Nat.reduceEqDiff, reduceCtorEq, Nat.reduceAdd, Nat.reduceMul, Nat.reduceLeDiff, zfu, Int.mul_def, Int.add_def, zfv, cond_false, cond_true, isub, Int.reduceToNat, s0, s1]
 refine WK_for (fun i st => st.sl 1 = i64 w ∧ st.sl 12 = a ∧ st.sl 13 = i64 (S.length : Int) ∧ st.sl 14 = i64 (i : Int) ∧ st.sl 5 = .ref 8192 (st.gn 8192) [] 0 i ∧ st.ro 8192 (st.gn 8192) = some (.row (rws (fun x => .row (rws (fun j => i64 (atI (row S x) j * w % 55441)) (row S x).length)) i))) S.length ?_ ?_ ?_
 · simp only [↓zcy, ↓zcz, ↓zda, ↓zdb, ↓reduceIte, Nat.reduceEqDiff, and_true, true_and, and_self, ne_eq, not_false_eq_true, eq_self, false_and, and_false, reduceCtorEq, rws_zero, s0, s1]
   rfl
 · rintro i sl ro gn hi ⟨s1, s12, s13, s14, s5, r8192⟩
   dsimp only at s1 s12 s13 s14 s5 r8192
   have hi' : (i : Int) < (S.length : Nat) := by omega
   have h1 := isLL_row ha hi
   have h2 := hr i hi
   have h2' : (row S i).length ≤ 4294967296 := h2
   simp (maxSteps := 10000000) (disch := first | assumption | omega) only [go_sem, ↓reduceIte, Nat.reduceEqDiff, reduceCtorEq, Nat.reduceAdd, Nat.reduceMul, Nat.reduceLeDiff, zfu, Int.mul_def, Int.add_def, zfv, cond_false, cond_true, isub, Int.reduceToNat, s1, s12, s13, s14, s5, r8192, hi', hi]
   refine WK_for (fun j st => st.sl 1 = i64 w ∧ st.sl 12 = a ∧ st.sl 13 = i64 (S.length : Int) ∧ st.sl 14 = i64 (i : Int) ∧ st.sl 5 = .ref 8192 (st.gn 8192) [] 0 i ∧ st.ro 8192 (st.gn 8192) = some (.row (rws (fun x => .row (rws (fun j => i64 (atI (row S x) j * w % 55441)) (row S x).length)) i)) ∧ st.sl 19 = atA a i ∧ st.sl 20 = i64 ((row S i).length : Int) ∧ st.sl 21 = i64 (j : Int) ∧ st.sl 8 = .ref 24576 (st.gn 24576) [] 0 j ∧ st.ro 24576 (st.gn 24576) = some (.row (rws (fun y => i64 (atI (row S i) y * w % 55441)) j))) ((row S i).length) ?_ ?_ ?_
   · simp only [↓zcy, ↓zcz, ↓zda, ↓zdb, ↓reduceIte, Nat.reduceEqDiff, and_true, true_and, and_self, ne_eq, not_false_eq_true, eq_self, false_and, and_false, reduceCtorEq, rws_zero, s1, s12, s13, s14, s5, r8192, hi', hi]
     rfl
   · rintro j sl ro gn hj ⟨s1, s12, s13, s14, s5, r8192, s19, s20, s21, s8, r24576⟩
     dsimp only at s1 s12 s13 s14 s5 r8192 s19 s20 s21 s8 r24576
     have hj' : (j : Int) < ((row S i).length : Nat) := by omega
     have b1 := num_mul (nS i j) hw
     simp (maxSteps := 10000000) (disch := first | assumption | omega) only [go_sem, ↓reduceIte, Nat.reduceEqDiff, reduceCtorEq, Nat.reduceAdd, Nat.reduceMul, Nat.reduceLeDiff, zfu, Int.mul_def, Int.add_def, zfv, cond_false, cond_true, isub, Int.reduceToNat, s1, s12, s13, s14, s5, r8192, s19, s20, s21, s8, r24576, hj', hj, Int.tmod_eq_emod_of_nonneg, zfm]
     exact i64c (by omega)
   · rintro sl ro gn ⟨s1, s12, s13, s14, s5, r8192, s19, s20, s21, s8, r24576⟩
     dsimp only at s1 s12 s13 s14 s5 r8192 s19 s20 s21 s8 r24576
     have hj' : ¬ (((row S i).length : Nat) : Int) < ((row S i).length : Nat) := by omega
     simp (maxSteps := 10000000) (disch := first | assumption | omega) only [go_sem, ↓reduceIte, Nat.reduceEqDiff, reduceCtorEq, Nat.reduceAdd, Nat.reduceMul, Nat.reduceLeDiff, zfu, Int.mul_def, Int.add_def, zfv, cond_false, cond_true, isub, Int.reduceToNat, s1, s12, s13, s14, s5, r8192, s19, s20, s21, s8, r24576, hj', zfm]
     exact i64c (by omega)
 · rintro sl ro gn ⟨s1, s12, s13, s14, s5, r8192⟩
   dsimp only at s1 s12 s13 s14 s5 r8192
   have hi' : ¬ ((S.length : Nat) : Int) < (S.length : Nat) := by omega
   simp (maxSteps := 10000000) (disch := first | assumption | omega) only [go_sem, ↓reduceIte, Nat.reduceEqDiff, reduceCtorEq, Nat.reduceAdd, Nat.reduceMul, Nat.reduceLeDiff, zfu, Int.mul_def, Int.add_def, zfv, cond_false, cond_true, isub, Int.reduceToNat, s1, s12, s13, s14, s5, r8192, hi']
   simp only [zbj, zbk, retR, resL, outT, zes, zez, oneV, ↓zcy, ↓zcz, ↓reduceIte, Nat.reduceEqDiff, Option.some.injEq, AV.sc.injEq, Value.bool.injEq, Value.int.injEq, outL, outT, zft, zcp, zed, zef, zei, zeh, List.length_cons, List.length_nil, Nat.reduceAdd, Nat.zero_add, Nat.reduceLeDiff, List.drop_zero, List.take_succ_cons, List.take_zero, zfi, zfh, Ro.dl, zdb, zda, zfe, and_self, and_true, true_and, eq_self, List.append_nil, List.nil_append, List.cons_append, ne_eq, not_false_eq_true, and_false, false_and, Bool.false_eq_true, St.ev, zes, zfn, zhk, List.length_map, r8192]
theorem c145 {a b c : AV} {S : List (List Int)} {T t : List Int} (hb : isL b T) (ha : isLL a S) (hc : isL c t) (h0 : 0 < S.length) (hl : (row S 0).length ≤ t.length) (hm : (row S 0).length ≤ maxN) (nS : numLL S) (nt : numL t) : CallOK Tryz.prog 50 [.agg [a, b], c] (i64 (sm (gsT S t) (row S 0).length % 55441)) := by
 have hm' : (row S 0).length ≤ 4294967296 := hm
 have h1 := isLL_row ha h0
 refine call_of (fn := Tryz.f50) (code := bodyOf Tryz.f50) Tryz.func50 rfl (by kernel_rfl) (rfl) ?_
 intro sl hs
 have s0 : sl 0 = .agg [a, b] := hs 0
 have s1 : sl 1 = c := hs 1
 dsimp only [Tryz.f50, bodyOf, Option.getD]
 simp (maxSteps := 10000000) (disch := first | assumption | omega) only [go_sem, ↓reduceIte, Nat.reduceEqDiff, reduceCtorEq, Nat.reduceAdd, Nat.reduceMul, Nat.reduceLeDiff, zfu, Int.mul_def, Int.add_def, zfv, cond_false, cond_true, isub, Int.reduceToNat, s0, s1]
 refine WK_for (fun k st => st.sl 1 = c ∧ st.sl 11 = atA a 0 ∧ st.sl 12 = i64 ((row S 0).length : Int) ∧ st.sl 13 = i64 (k : Int) ∧ st.sl 5 = i64 (sm (gsT S t) k)) ((row S 0).length) ?_ ?_ ?_
 · simp only [↓zcy, ↓zcz, ↓zda, ↓zdb, ↓reduceIte, Nat.reduceEqDiff, and_true, true_and, and_self, ne_eq, not_false_eq_true, eq_self, false_and, and_false, reduceCtorEq, rws_zero, s0, s1]
   exact ⟨rfl, rfl⟩
 · rintro k sl ro gn hk ⟨s1, s11, s12, s13, s5⟩
   dsimp only at s1 s11 s12 s13 s5
   have hk' : (k : Int) < ((row S 0).length : Nat) := by omega
   have hb1 := num_mul (nS 0 k) (nS 0 k)
   have hb2 := num_mod (atI (row S 0) k * atI (row S 0) k)
   have hb3 := num_mul hb2 (nt k)
   have hb4 := sm_bnd (f := gsT S t) (B := 55440) (num_gsT S t) k
   have hb5 := num_gsT S t k
   have e1 : atI (row S 0) k * atI (row S 0) k % 55441 * atI t k % 55441 = gsT S t k := rfl
   unfold num at hb2
   simp (maxSteps := 10000000) (disch := first | assumption | omega) only [go_sem, ↓reduceIte, Nat.reduceEqDiff, reduceCtorEq, Nat.reduceAdd, Nat.reduceMul, Nat.reduceLeDiff, zfu, Int.mul_def, Int.add_def, zfv, cond_false, cond_true, isub, Int.reduceToNat, s1, s11, s12, s13, s5, hk', hk, Int.tmod_eq_emod_of_nonneg, e1]
   exact ⟨i64c (by omega), i64c rfl⟩
 · rintro sl ro gn ⟨s1, s11, s12, s13, s5⟩
   dsimp only at s1 s11 s12 s13 s5
   have hk' : ¬ (((row S 0).length : Nat) : Int) < ((row S 0).length : Nat) := by omega
   have hb4 := sm_bnd (f := gsT S t) (B := 55440) (num_gsT S t) (row S 0).length
   simp (maxSteps := 10000000) (disch := first | assumption | omega) only [go_sem, ↓reduceIte, Nat.reduceEqDiff, reduceCtorEq, Nat.reduceAdd, Nat.reduceMul, Nat.reduceLeDiff, zfu, Int.mul_def, Int.add_def, zfv, cond_false, cond_true, isub, Int.reduceToNat, s1, s11, s12, s13, s5, hk', Int.tmod_eq_emod_of_nonneg]
   simp only [zbj, zbk, retR, resL, outT, zes, zez, oneV, ↓zcy, ↓zcz, ↓reduceIte, Nat.reduceEqDiff, Option.some.injEq, AV.sc.injEq, Value.bool.injEq, Value.int.injEq, outL, outT, zft, zcp, zed, zef, zei, zeh, List.length_cons, List.length_nil, Nat.reduceAdd, Nat.zero_add, Nat.reduceLeDiff, List.drop_zero, List.take_succ_cons, List.take_zero, zfi, zfh, Ro.dl, zdb, zda, zfe, and_self, and_true, true_and, eq_self, List.append_nil, List.nil_append, List.cons_append, ne_eq, not_false_eq_true, and_false, false_and, Bool.false_eq_true, St.ev, zes, zfn, zhk, List.length_map]
def StaP (S : List (List Int)) (T : List Int) : Prop := S = trp S ∧ atI (row S 0) 0 = 1 ∧ atI T 0 = 1 ∧ (∀ i, i < T.length → atI (row S 0) i ≠ 0) ∧ (∀ i, i < T.length → atI T i ≠ 0)
theorem ix_neg {xs : List Int} {n : Int} : 0 ≤ ix xs n 0 ↔ ∃ j, j < xs.length ∧ atI xs j = n := by
 rcases ix_cases xs n with h | ⟨m, h, h1, h2⟩
 · rw [h]
   refine ⟨fun h => absurd h (by decide), ?_⟩
   rintro ⟨j, hj, he⟩
   have h3 : xs = rws (atI xs) xs.length := eq_of_atI (zfe _ _).symm fun j hj => (atI_rws _ hj).symm
   have := (ix_has (atI xs) xs.length n).2 ⟨j, hj, he⟩
   rw [← h3, h] at this
   exact absurd this (by decide)
 · rw [h]
   exact ⟨fun _ => ⟨m, h1, h2⟩, fun _ => by omega⟩
theorem c116 {a b : AV} {S : List (List Int)} {T : List Int} (ha : isLL a S) (hb : isL b T) (hs : Shp S T) {t : Bool} (ht : t = true ↔ StaP S T) : CallOK Tryz.prog 103 [.agg [a, b]] (bo t) := by
 obtain ⟨hpos, hmax, hlS, hlR, hnS, hnT⟩ := hs
 have hmax' : T.length ≤ 4294967296 := hmax
 have hlR0 := hlR 0 hpos
 have h0 := isLL_row ha (k := 0) (by omega)
 have cA := c120 ha (by omega) (by omega) (by omega) (fun i hi => by rw [hlR i (by omega), hlR0])
 have cB := c141 ha (isLL_imm (trp S)) (by omega) (fun i hi => by rw [hlR i (by omega)]; exact hmax)
 have cC := c142 (n := 0) h0 (by omega)
 have cD := c142 (n := 0) hb hmax
 have hC : (0 ≤ ix (row S 0) 0 0) ↔ ¬ (∀ i, i < T.length → atI (row S 0) i ≠ 0) := by
   rw [ix_neg, hlR0]
   exact ⟨fun ⟨j, hj, h⟩ hn => hn j hj h, fun h => by simpa [Classical.not_forall] using h⟩
 have hD : (0 ≤ ix T 0 0) ↔ ¬ (∀ i, i < T.length → atI T i ≠ 0) := by
   rw [ix_neg]
   exact ⟨fun ⟨j, hj, h⟩ hn => hn j hj h, fun h => by simpa [Classical.not_forall] using h⟩
 have h00 : 0 < S.length := by omega
 have htl : (trp S).length = (row S 0).length := trp_len S
 refine call_of (fn := Tryz.f103) (code := bodyOf Tryz.f103) Tryz.func103 rfl (by kernel_rfl) (rfl) ?_
 intro sl hs
 have s0 : sl 0 = .agg [a, b] := hs 0
 dsimp only [Tryz.f103, bodyOf, Option.getD]
 simp (maxSteps := 10000000) (disch := first | assumption | omega) only [go_sem, ↓reduceIte, Nat.reduceEqDiff, reduceCtorEq, Nat.reduceAdd, Nat.reduceMul, Nat.reduceLeDiff, zfu, Int.mul_def, Int.add_def, zfv, cond_false, cond_true, isub, Int.reduceToNat, s0]
 refine CLLD_pure _ cA (by simp (disch := assumption) only [pureL, pureA, isL_pure, isLL_pure, isLLL_pure, pureL_map, Bool.and_self, Bool.and_true]) rfl ?_
 simp (maxSteps := 10000000) (disch := first | assumption | omega) only [go_sem, ↓reduceIte, Nat.reduceEqDiff, reduceCtorEq, Nat.reduceAdd, Nat.reduceMul, Nat.reduceLeDiff, zfu, Int.mul_def, Int.add_def, zfv, cond_false, cond_true, isub, Int.reduceToNat, s0]
 by_cases q1 : S = trp S
 · rw [decide_eq_true q1] at cB
   refine CLLD_q _ cB (by repeat' first | exact exqL.nil | refine exqL.cons ?_ ?_ | exact exq_sc _ _ _ (by decide) | exact exq_L (by first | assumption | exact isL_imm _) (by decide) | exact exq_LL (by assumption) (by decide) | exact exq_LLL (by assumption) (by decide) | exact exq_refL (by first | assumption | (simp only [↓zcy, ↓zcz, ↓zda, ↓zdb, ↓reduceIte, Nat.reduceEqDiff, and_true, true_and, and_self, ne_eq, not_false_eq_true, eq_self, false_and, and_false, reduceCtorEq]; done) | (simp only [↓zcy, ↓zcz, ↓zda, ↓zdb, ↓reduceIte, Nat.reduceEqDiff, and_true, true_and, and_self, ne_eq, not_false_eq_true, eq_self, false_and, and_false, reduceCtorEq]; first | rfl | assumption)) (by first | rfl | (simp only [zfe, List.length_map, tms_len]; done)) (by decide) | exact exq_refLL (by first | assumption | (simp only [↓zcy, ↓zcz, ↓zda, ↓zdb, ↓reduceIte, Nat.reduceEqDiff, and_true, true_and, and_self, ne_eq, not_false_eq_true, eq_self, false_and, and_false, reduceCtorEq]; done) | (simp only [↓zcy, ↓zcz, ↓zda, ↓zdb, ↓reduceIte, Nat.reduceEqDiff, and_true, true_and, and_self, ne_eq, not_false_eq_true, eq_self, false_and, and_false, reduceCtorEq]; first | rfl | assumption)) (by first | rfl | (simp only [zfe, List.length_map, tms_len]; done)) (by decide) | exact exq_cube (by first | assumption | (simp only [↓zcy, ↓zcz, ↓zda, ↓zdb, ↓reduceIte, Nat.reduceEqDiff, and_true, true_and, and_self, ne_eq, not_false_eq_true, eq_self, false_and, and_false, reduceCtorEq]; done) | (simp only [↓zcy, ↓zcz, ↓zda, ↓zdb, ↓reduceIte, Nat.reduceEqDiff, and_true, true_and, and_self, ne_eq, not_false_eq_true, eq_self, false_and, and_false, reduceCtorEq]; first | rfl | assumption)) (by decide) | exact exq_mat (by first | assumption | (simp only [↓zcy, ↓zcz, ↓zda, ↓zdb, ↓reduceIte, Nat.reduceEqDiff, and_true, true_and, and_self, ne_eq, not_false_eq_true, eq_self, false_and, and_false, reduceCtorEq]; done) | (simp only [↓zcy, ↓zcz, ↓zda, ↓zdb, ↓reduceIte, Nat.reduceEqDiff, and_true, true_and, and_self, ne_eq, not_false_eq_true, eq_self, false_and, and_false, reduceCtorEq]; first | rfl | assumption)) (by decide) | refine exq_agg ?_) rfl rfl ?_
   by_cases q2 : atI (row S 0) 0 = 1
   · by_cases q3 : atI T 0 = 1
     · by_cases q4 : 0 ≤ ix (row S 0) 0 0
       · rw [decide_eq_true q4] at cC
         simp (maxSteps := 10000000) (disch := first | assumption | omega) only [go_sem, ↓reduceIte, Nat.reduceEqDiff, reduceCtorEq, Nat.reduceAdd, Nat.reduceMul, Nat.reduceLeDiff, zfu, Int.mul_def, Int.add_def, zfv, cond_false, cond_true, isub, Int.reduceToNat, s0, q2, q3]
         refine CLLD_pure _ cC (by simp (disch := assumption) only [pureL, pureA, isL_pure, isLL_pure, isLLL_pure, pureL_map, Bool.and_self, Bool.and_true]) rfl ?_
         simp (maxSteps := 10000000) (disch := first | assumption | omega) only [go_sem, ↓reduceIte, Nat.reduceEqDiff, reduceCtorEq, Nat.reduceAdd, Nat.reduceMul, Nat.reduceLeDiff, zfu, Int.mul_def, Int.add_def, zfv, cond_false, cond_true, isub, Int.reduceToNat, s0]
         refine FIN_of (by kernel_rfl) ?_
         simp (maxSteps := 10000000) (disch := first | assumption | omega) only [go_sem, ↓reduceIte, Nat.reduceEqDiff, reduceCtorEq, Nat.reduceAdd, Nat.reduceMul, Nat.reduceLeDiff, zfu, Int.mul_def, Int.add_def, zfv, cond_false, cond_true, isub, Int.reduceToNat, s0]
         simp only [zbj, zbk, retR, resL, outT, zes, zez, oneV, ↓zcy, ↓zcz, ↓reduceIte, Nat.reduceEqDiff, Option.some.injEq, AV.sc.injEq, Value.bool.injEq, Value.int.injEq, outL, outT, zft, zcp, zed, zef, zei, zeh, List.length_cons, List.length_nil, Nat.reduceAdd, Nat.zero_add, Nat.reduceLeDiff, List.drop_zero, List.take_succ_cons, List.take_zero, zfi, zfh, Ro.dl, zdb, zda, zfe, and_self, and_true, true_and, eq_self, List.append_nil, List.nil_append, List.cons_append, ne_eq, not_false_eq_true, and_false, false_and, Bool.false_eq_true, St.ev, zes, zfn, zhk, List.length_map]
         exact bool_false ht fun h => hC.1 q4 h.2.2.2.1
       · rw [decide_eq_false q4] at cC
         simp (maxSteps := 10000000) (disch := first | assumption | omega) only [go_sem, ↓reduceIte, Nat.reduceEqDiff, reduceCtorEq, Nat.reduceAdd, Nat.reduceMul, Nat.reduceLeDiff, zfu, Int.mul_def, Int.add_def, zfv, cond_false, cond_true, isub, Int.reduceToNat, s0, q2, q3]
         refine CLLD_pure _ cC (by simp (disch := assumption) only [pureL, pureA, isL_pure, isLL_pure, isLLL_pure, pureL_map, Bool.and_self, Bool.and_true]) rfl ?_
         simp (maxSteps := 10000000) (disch := first | assumption | omega) only [go_sem, ↓reduceIte, Nat.reduceEqDiff, reduceCtorEq, Nat.reduceAdd, Nat.reduceMul, Nat.reduceLeDiff, zfu, Int.mul_def, Int.add_def, zfv, cond_false, cond_true, isub, Int.reduceToNat, s0]
         refine CLLD_pure _ cD (by simp (disch := assumption) only [pureL, pureA, isL_pure, isLL_pure, isLLL_pure, pureL_map, Bool.and_self, Bool.and_true]) rfl ?_
         simp (maxSteps := 10000000) (disch := first | assumption | omega) only [go_sem, ↓reduceIte, Nat.reduceEqDiff, reduceCtorEq, Nat.reduceAdd, Nat.reduceMul, Nat.reduceLeDiff, zfu, Int.mul_def, Int.add_def, zfv, cond_false, cond_true, isub, Int.reduceToNat, s0]
         refine FIN_of (by kernel_rfl) ?_
         simp (maxSteps := 10000000) (disch := first | assumption | omega) only [go_sem, ↓reduceIte, Nat.reduceEqDiff, reduceCtorEq, Nat.reduceAdd, Nat.reduceMul, Nat.reduceLeDiff, zfu, Int.mul_def, Int.add_def, zfv, cond_false, cond_true, isub, Int.reduceToNat, s0]
         simp only [zbj, zbk, retR, resL, outT, zes, zez, oneV, ↓zcy, ↓zcz, ↓reduceIte, Nat.reduceEqDiff, Option.some.injEq, AV.sc.injEq, Value.bool.injEq, Value.int.injEq, outL, outT, zft, zcp, zed, zef, zei, zeh, List.length_cons, List.length_nil, Nat.reduceAdd, Nat.zero_add, Nat.reduceLeDiff, List.drop_zero, List.take_succ_cons, List.take_zero, zfi, zfh, Ro.dl, zdb, zda, zfe, and_self, and_true, true_and, eq_self, List.append_nil, List.nil_append, List.cons_append, ne_eq, not_false_eq_true, and_false, false_and, Bool.false_eq_true, St.ev, zes, zfn, zhk, List.length_map]
         refine Bool.eq_iff_iff.2 ?_
         rw [Bool.not_eq_true', decide_eq_false_iff_not, ht, hD, Classical.not_not]
         exact ⟨fun h => ⟨q1, q2, q3, Classical.not_not.1 (fun hn => q4 (hC.2 hn)), h⟩, fun h => h.2.2.2.2⟩
     · skip
       simp (maxSteps := 10000000) (disch := first | assumption | omega) only [go_sem, ↓reduceIte, Nat.reduceEqDiff, reduceCtorEq, Nat.reduceAdd, Nat.reduceMul, Nat.reduceLeDiff, zfu, Int.mul_def, Int.add_def, zfv, cond_false, cond_true, isub, Int.reduceToNat, s0, q2, q3]
       refine FIN_of (by kernel_rfl) ?_
       simp (maxSteps := 10000000) (disch := first | assumption | omega) only [go_sem, ↓reduceIte, Nat.reduceEqDiff, reduceCtorEq, Nat.reduceAdd, Nat.reduceMul, Nat.reduceLeDiff, zfu, Int.mul_def, Int.add_def, zfv, cond_false, cond_true, isub, Int.reduceToNat, s0]
       simp only [zbj, zbk, retR, resL, outT, zes, zez, oneV, ↓zcy, ↓zcz, ↓reduceIte, Nat.reduceEqDiff, Option.some.injEq, AV.sc.injEq, Value.bool.injEq, Value.int.injEq, outL, outT, zft, zcp, zed, zef, zei, zeh, List.length_cons, List.length_nil, Nat.reduceAdd, Nat.zero_add, Nat.reduceLeDiff, List.drop_zero, List.take_succ_cons, List.take_zero, zfi, zfh, Ro.dl, zdb, zda, zfe, and_self, and_true, true_and, eq_self, List.append_nil, List.nil_append, List.cons_append, ne_eq, not_false_eq_true, and_false, false_and, Bool.false_eq_true, St.ev, zes, zfn, zhk, List.length_map]
       exact bool_false ht fun h => q3 h.2.2.1
   · skip
     simp (maxSteps := 10000000) (disch := first | assumption | omega) only [go_sem, ↓reduceIte, Nat.reduceEqDiff, reduceCtorEq, Nat.reduceAdd, Nat.reduceMul, Nat.reduceLeDiff, zfu, Int.mul_def, Int.add_def, zfv, cond_false, cond_true, isub, Int.reduceToNat, s0, q2]
     refine FIN_of (by kernel_rfl) ?_
     simp (maxSteps := 10000000) (disch := first | assumption | omega) only [go_sem, ↓reduceIte, Nat.reduceEqDiff, reduceCtorEq, Nat.reduceAdd, Nat.reduceMul, Nat.reduceLeDiff, zfu, Int.mul_def, Int.add_def, zfv, cond_false, cond_true, isub, Int.reduceToNat, s0]
     simp only [zbj, zbk, retR, resL, outT, zes, zez, oneV, ↓zcy, ↓zcz, ↓reduceIte, Nat.reduceEqDiff, Option.some.injEq, AV.sc.injEq, Value.bool.injEq, Value.int.injEq, outL, outT, zft, zcp, zed, zef, zei, zeh, List.length_cons, List.length_nil, Nat.reduceAdd, Nat.zero_add, Nat.reduceLeDiff, List.drop_zero, List.take_succ_cons, List.take_zero, zfi, zfh, Ro.dl, zdb, zda, zfe, and_self, and_true, true_and, eq_self, List.append_nil, List.nil_append, List.cons_append, ne_eq, not_false_eq_true, and_false, false_and, Bool.false_eq_true, St.ev, zes, zfn, zhk, List.length_map]
     exact bool_false ht fun h => q2 h.2.1
 · rw [decide_eq_false q1] at cB
   refine CLLD_q _ cB (by repeat' first | exact exqL.nil | refine exqL.cons ?_ ?_ | exact exq_sc _ _ _ (by decide) | exact exq_L (by first | assumption | exact isL_imm _) (by decide) | exact exq_LL (by assumption) (by decide) | exact exq_LLL (by assumption) (by decide) | exact exq_refL (by first | assumption | (simp only [↓zcy, ↓zcz, ↓zda, ↓zdb, ↓reduceIte, Nat.reduceEqDiff, and_true, true_and, and_self, ne_eq, not_false_eq_true, eq_self, false_and, and_false, reduceCtorEq]; done) | (simp only [↓zcy, ↓zcz, ↓zda, ↓zdb, ↓reduceIte, Nat.reduceEqDiff, and_true, true_and, and_self, ne_eq, not_false_eq_true, eq_self, false_and, and_false, reduceCtorEq]; first | rfl | assumption)) (by first | rfl | (simp only [zfe, List.length_map, tms_len]; done)) (by decide) | exact exq_refLL (by first | assumption | (simp only [↓zcy, ↓zcz, ↓zda, ↓zdb, ↓reduceIte, Nat.reduceEqDiff, and_true, true_and, and_self, ne_eq, not_false_eq_true, eq_self, false_and, and_false, reduceCtorEq]; done) | (simp only [↓zcy, ↓zcz, ↓zda, ↓zdb, ↓reduceIte, Nat.reduceEqDiff, and_true, true_and, and_self, ne_eq, not_false_eq_true, eq_self, false_and, and_false, reduceCtorEq]; first | rfl | assumption)) (by first | rfl | (simp only [zfe, List.length_map, tms_len]; done)) (by decide) | exact exq_cube (by first | assumption | (simp only [↓zcy, ↓zcz, ↓zda, ↓zdb, ↓reduceIte, Nat.reduceEqDiff, and_true, true_and, and_self, ne_eq, not_false_eq_true, eq_self, false_and, and_false, reduceCtorEq]; done) | (simp only [↓zcy, ↓zcz, ↓zda, ↓zdb, ↓reduceIte, Nat.reduceEqDiff, and_true, true_and, and_self, ne_eq, not_false_eq_true, eq_self, false_and, and_false, reduceCtorEq]; first | rfl | assumption)) (by decide) | exact exq_mat (by first | assumption | (simp only [↓zcy, ↓zcz, ↓zda, ↓zdb, ↓reduceIte, Nat.reduceEqDiff, and_true, true_and, and_self, ne_eq, not_false_eq_true, eq_self, false_and, and_false, reduceCtorEq]; done) | (simp only [↓zcy, ↓zcz, ↓zda, ↓zdb, ↓reduceIte, Nat.reduceEqDiff, and_true, true_and, and_self, ne_eq, not_false_eq_true, eq_self, false_and, and_false, reduceCtorEq]; first | rfl | assumption)) (by decide) | refine exq_agg ?_) rfl rfl ?_
   simp (maxSteps := 10000000) (disch := first | assumption | omega) only [go_sem, ↓reduceIte, Nat.reduceEqDiff, reduceCtorEq, Nat.reduceAdd, Nat.reduceMul, Nat.reduceLeDiff, zfu, Int.mul_def, Int.add_def, zfv, cond_false, cond_true, isub, Int.reduceToNat, s0]
   refine FIN_of (by kernel_rfl) ?_
   simp (maxSteps := 10000000) (disch := first | assumption | omega) only [go_sem, ↓reduceIte, Nat.reduceEqDiff, reduceCtorEq, Nat.reduceAdd, Nat.reduceMul, Nat.reduceLeDiff, zfu, Int.mul_def, Int.add_def, zfv, cond_false, cond_true, isub, Int.reduceToNat, s0]
   simp only [zbj, zbk, retR, resL, outT, zes, zez, oneV, ↓zcy, ↓zcz, ↓reduceIte, Nat.reduceEqDiff, Option.some.injEq, AV.sc.injEq, Value.bool.injEq, Value.int.injEq, outL, outT, zft, zcp, zed, zef, zei, zeh, List.length_cons, List.length_nil, Nat.reduceAdd, Nat.zero_add, Nat.reduceLeDiff, List.drop_zero, List.take_succ_cons, List.take_zero, zfi, zfh, Ro.dl, zdb, zda, zfe, and_self, and_true, true_and, eq_self, List.append_nil, List.nil_append, List.cons_append, ne_eq, not_false_eq_true, and_false, false_and, Bool.false_eq_true, St.ev, zes, zfn, zhk, List.length_map]
   exact bool_false ht fun h => q1 h.1
def uE (S : List (List Int)) (T : List Int) (i j : Nat) : Int := atI (row S i) j * atI T j % 55441
theorem sm_one {f : Nat → Int} {j : Nat} : ∀ {n : Nat}, (∀ k, k < n → k ≠ j → f k = 0) → sm f n = if j < n then f j else 0
 | 0, _ => rfl
 | n + 1, h => by
   simp only [sm]
   rw [sm_one fun k hk => h k (by omega)]
   by_cases h1 : j < n
   · rw [if_pos h1, if_pos (by omega), h n (by omega) (by omega), Int.add_zero]
   · rw [if_neg h1]
     by_cases h2 : j = n
     · subst h2; rw [if_pos (by omega), Int.zero_add]
     · rw [if_neg (by omega), h n (by omega) (by omega)]; rfl
theorem tms_dg (S : List (List Int)) (T : List Int) (hS : S.length = T.length) : tms S (matL (dgE T T.length) T.length T.length) = matL (uE S T) T.length T.length := by
 have hl : (matL (dgE T T.length) T.length T.length).length = T.length := zfe _ _
 unfold tms
 rw [hl, hS]
 refine rws_congr fun i hi => rws_congr fun j hj => ?_
 unfold tmE uE
 rw [hl, sm_one (j := j) ?_, if_pos hj, matL_at hj hj]
 · simp [dgE, hj]
 · intro k hk hkj
   rw [matL_at hk hj]
   simp [dgE, hkj]
def uM (S : List (List Int)) (T : List Int) : List (List Int) := matL (uE S T) T.length T.length
def gsV (S : List (List Int)) (T : List Int) : Int := sm (gsT S T) T.length % 55441
def TurP (S : List (List Int)) (T : List Int) : Prop := tms (tms (uM S T) (uM S T)) (uM S T) = sclL (tms S S) (gsV S T)
theorem numLL_tms (A B : List (List Int)) : numLL (tms A B) := numLL_rws _ _ fun _ _ => numL_rws _ _ fun _ _ => num_mod _
theorem numLL_mat {f : Nat → Nat → Int} {n m : Nat} (h : ∀ i j, i < n → j < m → num (f i j)) : numLL (matL f n m) := numLL_rws _ _ fun i hi => numL_rws _ _ fun j hj => h i j hi hj
theorem c117 {a b : AV} {S : List (List Int)} {T : List Int} (ha : isLL a S) (hb : isL b T) (hs : Shp S T) : ∃ t : Bool, (t = true ↔ TurP S T) ∧ CallOK Tryz.prog 104 [.agg [a, b]] (bo t) := by
 classical
 refine ⟨decide (TurP S T), by simp, ?_⟩
 obtain ⟨hpos, hmax, hlS, hlR, hnS, hnT⟩ := hs
 have hmax' : T.length ≤ 4294967296 := hmax
 have hlR0 := hlR 0 hpos
 have h0 := isLL_row ha (k := 0) (by omega)
 have dl : (matL (dgE T T.length) T.length T.length).length = T.length := zfe _ _
 have ul : (uM S T).length = T.length := zfe _ _
 have ur : ∀ i, i < T.length → (row (uM S T) i).length = T.length := fun i hi => by unfold uM; rw [matL_row hi, zfe]
 have un : numLL (uM S T) := numLL_mat fun _ _ _ _ => num_mod _
 have cA := c143 hb hmax
 have cB := c92 ha (isLL_mat (dgE T T.length) T.length T.length) (by omega) (by omega) (by omega) (fun i hi => by rw [dl] at hi ⊢; rw [matL_row hi, zfe]) (fun i hi => by rw [dl, hlR i (by omega)]; omega) hnS (numLL_mat fun i j _ _ => by unfold dgE; split; exact hnT i; exact ⟨Int.le_refl _, by omega⟩)
 rw [tms_dg S T hlS] at cB
 have iu := isLL_imm (uM S T)
 have cC := c92 iu iu (by omega) (by omega) (by omega) (fun i hi => by rw [ul] at hi ⊢; exact ur i hi) (fun i hi => by rw [ul] at hi ⊢; rw [ur i hi]; omega) un un
 have ul2 : (tms (uM S T) (uM S T)).length = T.length := by rw [tms_len, ul]
 have ur2 : ∀ i, i < T.length → (row (tms (uM S T) (uM S T)) i).length = T.length := fun i hi => by rw [tms_row (by omega), zfe, ul]
 have cD := c92 (isLL_imm (tms (uM S T) (uM S T))) iu (by omega) (by omega) (by omega) (fun i hi => by rw [ul] at hi ⊢; exact ur i hi) (fun i hi => by rw [ul2] at hi; rw [ul, ur2 i hi]; omega) (numLL_tms _ _) un
 have cE := c92 ha ha (by omega) (by omega) (by omega) (fun i hi => by rw [hlR i (by omega)]; omega) (fun i hi => by rw [hlR i (by omega)]; omega) hnS hnS
 have cF := c145 hb ha hb (by omega) (by omega) (by omega) hnS hnT
 rw [hlR0] at cF
 have sl2 : (tms S S).length = T.length := by rw [tms_len, hlS]
 have sr2 : ∀ i, i < T.length → (row (tms S S) i).length = T.length := fun i hi => by rw [tms_row (by omega), zfe, hlS]
 have cG := c144 (w := gsV S T) (isLL_imm (tms S S)) (by omega) (fun i hi => by rw [sr2 i (by omega)]; exact hmax) (numLL_tms _ _) (num_mod _)
 have ul3 : (tms (tms (uM S T) (uM S T)) (uM S T)).length = T.length := by rw [tms_len, ul2]
 have ur3 : ∀ i, i < T.length → (row (tms (tms (uM S T) (uM S T)) (uM S T)) i).length = T.length := fun i hi => by rw [tms_row (by omega), zfe, ul]
 have cH := c141 (isLL_imm (tms (tms (uM S T) (uM S T)) (uM S T))) (isLL_imm (sclL (tms S S) (gsV S T))) (by omega) (fun i hi => by rw [ur3 i (by omega)]; exact hmax)
 have eg : sm (gsT S T) T.length % 55441 = gsV S T := rfl
 rw [eg] at cF
 have em : matL (uE S T) T.length T.length = uM S T := rfl
 rw [em] at cB
 have es : (sclL (tms S S) (gsV S T)).length = (tms S S).length := zfe _ _
 generalize hU : uM S T = U at *
 generalize hg : gsV S T = g at *
 refine call_of (fn := Tryz.f104) (code := bodyOf Tryz.f104) Tryz.func104 rfl (by kernel_rfl) (rfl) ?_
 intro sl hs
 have s0 : sl 0 = .agg [a, b] := hs 0
 dsimp only [Tryz.f104, bodyOf, Option.getD]
 simp (maxSteps := 10000000) (disch := first | assumption | omega) only [go_sem, ↓reduceIte, Nat.reduceEqDiff, reduceCtorEq, Nat.reduceAdd, Nat.reduceMul, Nat.reduceLeDiff, zfu, Int.mul_def, Int.add_def, zfv, cond_false, cond_true, isub, Int.reduceToNat, s0]
 refine CLLD_pure _ cA (by simp (disch := assumption) only [pureL, pureA, isL_pure, isLL_pure, isLLL_pure, pureL_map, Bool.and_self, Bool.and_true]) rfl ?_
 simp (maxSteps := 10000000) (disch := first | assumption | omega) only [go_sem, ↓reduceIte, Nat.reduceEqDiff, reduceCtorEq, Nat.reduceAdd, Nat.reduceMul, Nat.reduceLeDiff, zfu, Int.mul_def, Int.add_def, zfv, cond_false, cond_true, isub, Int.reduceToNat, s0, zfe]
 refine CLLD_q _ cB (by repeat' first | exact exqL.nil | refine exqL.cons ?_ ?_ | exact exq_sc _ _ _ (by decide) | exact exq_L (by first | assumption | exact isL_imm _) (by decide) | exact exq_LL (by assumption) (by decide) | exact exq_LLL (by assumption) (by decide) | exact exq_refL (by first | assumption | (simp only [↓zcy, ↓zcz, ↓zda, ↓zdb, ↓reduceIte, Nat.reduceEqDiff, and_true, true_and, and_self, ne_eq, not_false_eq_true, eq_self, false_and, and_false, reduceCtorEq]; done) | (simp only [↓zcy, ↓zcz, ↓zda, ↓zdb, ↓reduceIte, Nat.reduceEqDiff, and_true, true_and, and_self, ne_eq, not_false_eq_true, eq_self, false_and, and_false, reduceCtorEq]; first | rfl | assumption)) (by first | rfl | (simp only [zfe, List.length_map, tms_len]; done)) (by decide) | exact exq_refLL (by first | assumption | (simp only [↓zcy, ↓zcz, ↓zda, ↓zdb, ↓reduceIte, Nat.reduceEqDiff, and_true, true_and, and_self, ne_eq, not_false_eq_true, eq_self, false_and, and_false, reduceCtorEq]; done) | (simp only [↓zcy, ↓zcz, ↓zda, ↓zdb, ↓reduceIte, Nat.reduceEqDiff, and_true, true_and, and_self, ne_eq, not_false_eq_true, eq_self, false_and, and_false, reduceCtorEq]; first | rfl | assumption)) (by first | rfl | (simp only [zfe, List.length_map, tms_len]; done)) (by decide) | exact exq_cube (by first | assumption | (simp only [↓zcy, ↓zcz, ↓zda, ↓zdb, ↓reduceIte, Nat.reduceEqDiff, and_true, true_and, and_self, ne_eq, not_false_eq_true, eq_self, false_and, and_false, reduceCtorEq]; done) | (simp only [↓zcy, ↓zcz, ↓zda, ↓zdb, ↓reduceIte, Nat.reduceEqDiff, and_true, true_and, and_self, ne_eq, not_false_eq_true, eq_self, false_and, and_false, reduceCtorEq]; first | rfl | assumption)) (by decide) | exact exq_mat (by first | assumption | (simp only [↓zcy, ↓zcz, ↓zda, ↓zdb, ↓reduceIte, Nat.reduceEqDiff, and_true, true_and, and_self, ne_eq, not_false_eq_true, eq_self, false_and, and_false, reduceCtorEq]; done) | (simp only [↓zcy, ↓zcz, ↓zda, ↓zdb, ↓reduceIte, Nat.reduceEqDiff, and_true, true_and, and_self, ne_eq, not_false_eq_true, eq_self, false_and, and_false, reduceCtorEq]; first | rfl | assumption)) (by decide) | refine exq_agg ?_) rfl (noI_rowLL _) ?_
 simp (maxSteps := 10000000) (disch := first | assumption | omega) only [go_sem, ↓reduceIte, Nat.reduceEqDiff, reduceCtorEq, Nat.reduceAdd, Nat.reduceMul, Nat.reduceLeDiff, zfu, Int.mul_def, Int.add_def, zfv, cond_false, cond_true, isub, Int.reduceToNat, s0]
 refine FIN_of (by kernel_rfl) ?_
 simp (maxSteps := 10000000) (disch := first | assumption | omega) only [go_sem, ↓reduceIte, Nat.reduceEqDiff, reduceCtorEq, Nat.reduceAdd, Nat.reduceMul, Nat.reduceLeDiff, zfu, Int.mul_def, Int.add_def, zfv, cond_false, cond_true, isub, Int.reduceToNat, s0]
 refine CLLD_q _ cC (by repeat' first | exact exqL.nil | refine exqL.cons ?_ ?_ | exact exq_sc _ _ _ (by decide) | exact exq_L (by first | assumption | exact isL_imm _) (by decide) | exact exq_LL (by assumption) (by decide) | exact exq_LLL (by assumption) (by decide) | exact exq_refL (by first | assumption | (simp only [↓zcy, ↓zcz, ↓zda, ↓zdb, ↓reduceIte, Nat.reduceEqDiff, and_true, true_and, and_self, ne_eq, not_false_eq_true, eq_self, false_and, and_false, reduceCtorEq]; done) | (simp only [↓zcy, ↓zcz, ↓zda, ↓zdb, ↓reduceIte, Nat.reduceEqDiff, and_true, true_and, and_self, ne_eq, not_false_eq_true, eq_self, false_and, and_false, reduceCtorEq]; first | rfl | assumption)) (by first | rfl | (simp only [zfe, List.length_map, tms_len]; done)) (by decide) | exact exq_refLL (by first | assumption | (simp only [↓zcy, ↓zcz, ↓zda, ↓zdb, ↓reduceIte, Nat.reduceEqDiff, and_true, true_and, and_self, ne_eq, not_false_eq_true, eq_self, false_and, and_false, reduceCtorEq]; done) | (simp only [↓zcy, ↓zcz, ↓zda, ↓zdb, ↓reduceIte, Nat.reduceEqDiff, and_true, true_and, and_self, ne_eq, not_false_eq_true, eq_self, false_and, and_false, reduceCtorEq]; first | rfl | assumption)) (by first | rfl | (simp only [zfe, List.length_map, tms_len]; done)) (by decide) | exact exq_cube (by first | assumption | (simp only [↓zcy, ↓zcz, ↓zda, ↓zdb, ↓reduceIte, Nat.reduceEqDiff, and_true, true_and, and_self, ne_eq, not_false_eq_true, eq_self, false_and, and_false, reduceCtorEq]; done) | (simp only [↓zcy, ↓zcz, ↓zda, ↓zdb, ↓reduceIte, Nat.reduceEqDiff, and_true, true_and, and_self, ne_eq, not_false_eq_true, eq_self, false_and, and_false, reduceCtorEq]; first | rfl | assumption)) (by decide) | exact exq_mat (by first | assumption | (simp only [↓zcy, ↓zcz, ↓zda, ↓zdb, ↓reduceIte, Nat.reduceEqDiff, and_true, true_and, and_self, ne_eq, not_false_eq_true, eq_self, false_and, and_false, reduceCtorEq]; done) | (simp only [↓zcy, ↓zcz, ↓zda, ↓zdb, ↓reduceIte, Nat.reduceEqDiff, and_true, true_and, and_self, ne_eq, not_false_eq_true, eq_self, false_and, and_false, reduceCtorEq]; first | rfl | assumption)) (by decide) | refine exq_agg ?_) rfl (noI_rowLL _) ?_
 simp (maxSteps := 10000000) (disch := first | assumption | omega) only [go_sem, ↓reduceIte, Nat.reduceEqDiff, reduceCtorEq, Nat.reduceAdd, Nat.reduceMul, Nat.reduceLeDiff, zfu, Int.mul_def, Int.add_def, zfv, cond_false, cond_true, isub, Int.reduceToNat, s0]
 refine CLLD_q _ cD (by repeat' first | exact exqL.nil | refine exqL.cons ?_ ?_ | exact exq_sc _ _ _ (by decide) | exact exq_L (by first | assumption | exact isL_imm _) (by decide) | exact exq_LL (by assumption) (by decide) | exact exq_LLL (by assumption) (by decide) | exact exq_refL (by first | assumption | (simp only [↓zcy, ↓zcz, ↓zda, ↓zdb, ↓reduceIte, Nat.reduceEqDiff, and_true, true_and, and_self, ne_eq, not_false_eq_true, eq_self, false_and, and_false, reduceCtorEq]; done) | (simp only [↓zcy, ↓zcz, ↓zda, ↓zdb, ↓reduceIte, Nat.reduceEqDiff, and_true, true_and, and_self, ne_eq, not_false_eq_true, eq_self, false_and, and_false, reduceCtorEq]; first | rfl | assumption)) (by first | rfl | (simp only [zfe, List.length_map, tms_len]; done)) (by decide) | exact exq_refLL (by first | assumption | (simp only [↓zcy, ↓zcz, ↓zda, ↓zdb, ↓reduceIte, Nat.reduceEqDiff, and_true, true_and, and_self, ne_eq, not_false_eq_true, eq_self, false_and, and_false, reduceCtorEq]; done) | (simp only [↓zcy, ↓zcz, ↓zda, ↓zdb, ↓reduceIte, Nat.reduceEqDiff, and_true, true_and, and_self, ne_eq, not_false_eq_true, eq_self, false_and, and_false, reduceCtorEq]; first | rfl | assumption)) (by first | rfl | (simp only [zfe, List.length_map, tms_len]; done)) (by decide) | exact exq_cube (by first | assumption | (simp only [↓zcy, ↓zcz, ↓zda, ↓zdb, ↓reduceIte, Nat.reduceEqDiff, and_true, true_and, and_self, ne_eq, not_false_eq_true, eq_self, false_and, and_false, reduceCtorEq]; done) | (simp only [↓zcy, ↓zcz, ↓zda, ↓zdb, ↓reduceIte, Nat.reduceEqDiff, and_true, true_and, and_self, ne_eq, not_false_eq_true, eq_self, false_and, and_false, reduceCtorEq]; first | rfl | assumption)) (by decide) | exact exq_mat (by first | assumption | (simp only [↓zcy, ↓zcz, ↓zda, ↓zdb, ↓reduceIte, Nat.reduceEqDiff, and_true, true_and, and_self, ne_eq, not_false_eq_true, eq_self, false_and, and_false, reduceCtorEq]; done) | (simp only [↓zcy, ↓zcz, ↓zda, ↓zdb, ↓reduceIte, Nat.reduceEqDiff, and_true, true_and, and_self, ne_eq, not_false_eq_true, eq_self, false_and, and_false, reduceCtorEq]; first | rfl | assumption)) (by decide) | refine exq_agg ?_) rfl (noI_rowLL _) ?_
 simp (maxSteps := 10000000) (disch := first | assumption | omega) only [go_sem, ↓reduceIte, Nat.reduceEqDiff, reduceCtorEq, Nat.reduceAdd, Nat.reduceMul, Nat.reduceLeDiff, zfu, Int.mul_def, Int.add_def, zfv, cond_false, cond_true, isub, Int.reduceToNat, s0]
 refine CLLD_pure _ cE (by simp (disch := assumption) only [pureL, pureA, isL_pure, isLL_pure, isLLL_pure, pureL_map, Bool.and_self, Bool.and_true]) rfl ?_
 simp (maxSteps := 10000000) (disch := first | assumption | omega) only [go_sem, ↓reduceIte, Nat.reduceEqDiff, reduceCtorEq, Nat.reduceAdd, Nat.reduceMul, Nat.reduceLeDiff, zfu, Int.mul_def, Int.add_def, zfv, cond_false, cond_true, isub, Int.reduceToNat, s0]
 refine CLLD_pure _ cF (by simp (disch := assumption) only [pureL, pureA, isL_pure, isLL_pure, isLLL_pure, pureL_map, Bool.and_self, Bool.and_true]) rfl ?_
 simp (maxSteps := 10000000) (disch := first | assumption | omega) only [go_sem, ↓reduceIte, Nat.reduceEqDiff, reduceCtorEq, Nat.reduceAdd, Nat.reduceMul, Nat.reduceLeDiff, zfu, Int.mul_def, Int.add_def, zfv, cond_false, cond_true, isub, Int.reduceToNat, s0]
 refine CLLD_q _ cG (by repeat' first | exact exqL.nil | refine exqL.cons ?_ ?_ | exact exq_sc _ _ _ (by decide) | exact exq_L (by first | assumption | exact isL_imm _) (by decide) | exact exq_LL (by assumption) (by decide) | exact exq_LLL (by assumption) (by decide) | exact exq_refL (by first | assumption | (simp only [↓zcy, ↓zcz, ↓zda, ↓zdb, ↓reduceIte, Nat.reduceEqDiff, and_true, true_and, and_self, ne_eq, not_false_eq_true, eq_self, false_and, and_false, reduceCtorEq]; done) | (simp only [↓zcy, ↓zcz, ↓zda, ↓zdb, ↓reduceIte, Nat.reduceEqDiff, and_true, true_and, and_self, ne_eq, not_false_eq_true, eq_self, false_and, and_false, reduceCtorEq]; first | rfl | assumption)) (by first | rfl | (simp only [zfe, List.length_map, tms_len]; done)) (by decide) | exact exq_refLL (by first | assumption | (simp only [↓zcy, ↓zcz, ↓zda, ↓zdb, ↓reduceIte, Nat.reduceEqDiff, and_true, true_and, and_self, ne_eq, not_false_eq_true, eq_self, false_and, and_false, reduceCtorEq]; done) | (simp only [↓zcy, ↓zcz, ↓zda, ↓zdb, ↓reduceIte, Nat.reduceEqDiff, and_true, true_and, and_self, ne_eq, not_false_eq_true, eq_self, false_and, and_false, reduceCtorEq]; first | rfl | assumption)) (by first | rfl | (simp only [zfe, List.length_map, tms_len]; done)) (by decide) | exact exq_cube (by first | assumption | (simp only [↓zcy, ↓zcz, ↓zda, ↓zdb, ↓reduceIte, Nat.reduceEqDiff, and_true, true_and, and_self, ne_eq, not_false_eq_true, eq_self, false_and, and_false, reduceCtorEq]; done) | (simp only [↓zcy, ↓zcz, ↓zda, ↓zdb, ↓reduceIte, Nat.reduceEqDiff, and_true, true_and, and_self, ne_eq, not_false_eq_true, eq_self, false_and, and_false, reduceCtorEq]; first | rfl | assumption)) (by decide) | exact exq_mat (by first | assumption | (simp only [↓zcy, ↓zcz, ↓zda, ↓zdb, ↓reduceIte, Nat.reduceEqDiff, and_true, true_and, and_self, ne_eq, not_false_eq_true, eq_self, false_and, and_false, reduceCtorEq]; done) | (simp only [↓zcy, ↓zcz, ↓zda, ↓zdb, ↓reduceIte, Nat.reduceEqDiff, and_true, true_and, and_self, ne_eq, not_false_eq_true, eq_self, false_and, and_false, reduceCtorEq]; first | rfl | assumption)) (by decide) | refine exq_agg ?_) rfl (noI_rowLL _) ?_
 simp (maxSteps := 10000000) (disch := first | assumption | omega) only [go_sem, ↓reduceIte, Nat.reduceEqDiff, reduceCtorEq, Nat.reduceAdd, Nat.reduceMul, Nat.reduceLeDiff, zfu, Int.mul_def, Int.add_def, zfv, cond_false, cond_true, isub, Int.reduceToNat, s0]
 refine CLLD_q _ cH (by repeat' first | exact exqL.nil | refine exqL.cons ?_ ?_ | exact exq_sc _ _ _ (by decide) | exact exq_L (by first | assumption | exact isL_imm _) (by decide) | exact exq_LL (by assumption) (by decide) | exact exq_LLL (by assumption) (by decide) | exact exq_refL (by first | assumption | (simp only [↓zcy, ↓zcz, ↓zda, ↓zdb, ↓reduceIte, Nat.reduceEqDiff, and_true, true_and, and_self, ne_eq, not_false_eq_true, eq_self, false_and, and_false, reduceCtorEq]; done) | (simp only [↓zcy, ↓zcz, ↓zda, ↓zdb, ↓reduceIte, Nat.reduceEqDiff, and_true, true_and, and_self, ne_eq, not_false_eq_true, eq_self, false_and, and_false, reduceCtorEq]; first | rfl | assumption)) (by first | rfl | (simp only [zfe, List.length_map, tms_len]; done)) (by decide) | exact exq_refLL (by first | assumption | (simp only [↓zcy, ↓zcz, ↓zda, ↓zdb, ↓reduceIte, Nat.reduceEqDiff, and_true, true_and, and_self, ne_eq, not_false_eq_true, eq_self, false_and, and_false, reduceCtorEq]; done) | (simp only [↓zcy, ↓zcz, ↓zda, ↓zdb, ↓reduceIte, Nat.reduceEqDiff, and_true, true_and, and_self, ne_eq, not_false_eq_true, eq_self, false_and, and_false, reduceCtorEq]; first | rfl | assumption)) (by first | rfl | (simp only [zfe, List.length_map, tms_len]; done)) (by decide) | exact exq_cube (by first | assumption | (simp only [↓zcy, ↓zcz, ↓zda, ↓zdb, ↓reduceIte, Nat.reduceEqDiff, and_true, true_and, and_self, ne_eq, not_false_eq_true, eq_self, false_and, and_false, reduceCtorEq]; done) | (simp only [↓zcy, ↓zcz, ↓zda, ↓zdb, ↓reduceIte, Nat.reduceEqDiff, and_true, true_and, and_self, ne_eq, not_false_eq_true, eq_self, false_and, and_false, reduceCtorEq]; first | rfl | assumption)) (by decide) | exact exq_mat (by first | assumption | (simp only [↓zcy, ↓zcz, ↓zda, ↓zdb, ↓reduceIte, Nat.reduceEqDiff, and_true, true_and, and_self, ne_eq, not_false_eq_true, eq_self, false_and, and_false, reduceCtorEq]; done) | (simp only [↓zcy, ↓zcz, ↓zda, ↓zdb, ↓reduceIte, Nat.reduceEqDiff, and_true, true_and, and_self, ne_eq, not_false_eq_true, eq_self, false_and, and_false, reduceCtorEq]; first | rfl | assumption)) (by decide) | refine exq_agg ?_) rfl rfl ?_
 simp (maxSteps := 10000000) (disch := first | assumption | omega) only [go_sem, ↓reduceIte, Nat.reduceEqDiff, reduceCtorEq, Nat.reduceAdd, Nat.reduceMul, Nat.reduceLeDiff, zfu, Int.mul_def, Int.add_def, zfv, cond_false, cond_true, isub, Int.reduceToNat, s0]
 refine FIN_of (by kernel_rfl) ?_
 simp (maxSteps := 10000000) (disch := first | assumption | omega) only [go_sem, ↓reduceIte, Nat.reduceEqDiff, reduceCtorEq, Nat.reduceAdd, Nat.reduceMul, Nat.reduceLeDiff, zfu, Int.mul_def, Int.add_def, zfv, cond_false, cond_true, isub, Int.reduceToNat, s0]
 simp only [zbj, zbk, retR, resL, outT, zes, zez, oneV, ↓zcy, ↓zcz, ↓reduceIte, Nat.reduceEqDiff, Option.some.injEq, AV.sc.injEq, Value.bool.injEq, Value.int.injEq, outL, outT, zft, zcp, zed, zef, zei, zeh, List.length_cons, List.length_nil, Nat.reduceAdd, Nat.zero_add, Nat.reduceLeDiff, List.drop_zero, List.take_succ_cons, List.take_zero, zfi, zfh, Ro.dl, zdb, zda, zfe, and_self, and_true, true_and, eq_self, List.append_nil, List.nil_append, List.cons_append, ne_eq, not_false_eq_true, and_false, false_and, Bool.false_eq_true, St.ev, zes, zfn, zhk, List.length_map]
 simp only [TurP, hU, hg]
end Go.Proofs.YtgcnmlecihegcaaGreat
/- The program's rings: faults. -/
namespace Go.Proofs.YtgcnmlecihegcaaGreat
open Go.RowKit
set_option maxRecDepth 1000000
theorem c166 {i k : Nat} : CallOK Tryz.prog 150 [i64 i, i64 k] (i64 (dlt i k)) := by
 refine call_of (fn := Tryz.f150) (code := bodyOf Tryz.f150) Tryz.func150 rfl (by kernel_rfl) (rfl) ?_
 intro sl hs
 have s0 : sl 0 = i64 i := hs 0
 have s1 : sl 1 = i64 k := hs 1
 dsimp only [Tryz.f150, bodyOf, Option.getD]
 simp (maxSteps := 10000000) (disch := first | assumption | omega) only [go_sem, ↓reduceIte, Nat.reduceEqDiff, reduceCtorEq, Nat.reduceAdd, Nat.reduceMul, Nat.reduceLeDiff, zfu, Int.mul_def, Int.add_def, zfv, cond_false, cond_true, isub, Int.reduceToNat, s0, s1]
 refine ⟨fun h => ?_, fun h => ?_⟩
 · skip
   simp only [zbj, zbk, retR, resL, outT, zes, zez, oneV, ↓zcy, ↓zcz, ↓reduceIte, Nat.reduceEqDiff, Option.some.injEq, AV.sc.injEq, Value.bool.injEq, Value.int.injEq, outL, outT, zft, zcp, zed, zef, zei, zeh, List.length_cons, List.length_nil, Nat.reduceAdd, Nat.zero_add, Nat.reduceLeDiff, List.drop_zero, List.take_succ_cons, List.take_zero, zfi, zfh, Ro.dl, zdb, zda, zfe, and_self, and_true, true_and, eq_self, List.append_nil, List.nil_append, List.cons_append, ne_eq, not_false_eq_true, and_false, false_and, Bool.false_eq_true, St.ev, zes, zfn, zhk, List.length_map]
   unfold dlt; rw [if_pos (by omega)]
 · skip
   simp only [zbj, zbk, retR, resL, outT, zes, zez, oneV, ↓zcy, ↓zcz, ↓reduceIte, Nat.reduceEqDiff, Option.some.injEq, AV.sc.injEq, Value.bool.injEq, Value.int.injEq, outL, outT, zft, zcp, zed, zef, zei, zeh, List.length_cons, List.length_nil, Nat.reduceAdd, Nat.zero_add, Nat.reduceLeDiff, List.drop_zero, List.take_succ_cons, List.take_zero, zfi, zfh, Ro.dl, zdb, zda, zfe, and_self, and_true, true_and, eq_self, List.append_nil, List.nil_append, List.cons_append, ne_eq, not_false_eq_true, and_false, false_and, Bool.false_eq_true, St.ev, zes, zfn, zhk, List.length_map]
   unfold dlt; rw [if_neg (by omega)]
theorem c167 {a : AV} {T : List (List (List Int))} (ha : isLLL a T) (hc : CubeP T) {i : Nat} (hi : i < T.length) : CallOK Tryz.prog 139 [.agg [a], i64 i] (i64 (dlT T i)) := by
 obtain ⟨h1, h2, h3⟩ := hc
 obtain ⟨hl, hr⟩ := h3 i hi
 have hm := isLLL_mat ha hi
 refine call_of (fn := Tryz.f139) (code := bodyOf Tryz.f139) Tryz.func139 rfl (by kernel_rfl) (rfl) ?_
 intro sl hs
 have s0 : sl 0 = .agg [a] := hs 0
 have s1 : sl 1 = i64 i := hs 1
 dsimp only [Tryz.f139, bodyOf, Option.getD]
 simp (maxSteps := 10000000) (disch := first | assumption | omega) only [go_sem, ↓reduceIte, Nat.reduceEqDiff, reduceCtorEq, Nat.reduceAdd, Nat.reduceMul, Nat.reduceLeDiff, zfu, Int.mul_def, Int.add_def, zfv, cond_false, cond_true, isub, Int.reduceToNat, s0, s1]
 refine WK_for (fun j st => st.sl 12 = atA a i ∧ st.sl 13 = i64 (T.length : Int) ∧ st.sl 14 = i64 (j : Int) ∧ ((st.sl 5 = i64 (-1) ∧ ∀ k, k < j → at3 T i k 0 = 0) ∨ ∃ x : Nat, st.sl 5 = i64 x ∧ x < j ∧ at3 T i x 0 = 1 ∧ ∀ k, k < j → k ≠ x → at3 T i k 0 = 0)) T.length ?_ ?_ ?_
 · simp only [↓zcy, ↓zcz, ↓zda, ↓zdb, ↓reduceIte, Nat.reduceEqDiff, and_true, true_and, and_self, ne_eq, not_false_eq_true, eq_self, false_and, and_false, reduceCtorEq, rws_zero, s0, s1]
   exact ⟨i64c (by omega), rfl, .inl fun j hj => absurd hj (Nat.not_lt_zero _)⟩
 · rintro j sl ro gn hj ⟨s12, s13, s14, q⟩
   dsimp only at s12 s13 s14
   have hj' : (j : Int) < (T.length : Nat) := by omega
   dsimp only at q
   have hl2 := (hr j hj).1
   have hrow := isLL_row hm (k := j) (by omega)
   have hpos : 0 < (row (mat T i) j).length := by omega
   by_cases h0 : atI (row (mat T i) j) 0 = 0
   · skip
     simp (maxSteps := 10000000) (disch := first | assumption | omega) only [go_sem, ↓reduceIte, Nat.reduceEqDiff, reduceCtorEq, Nat.reduceAdd, Nat.reduceMul, Nat.reduceLeDiff, zfu, Int.mul_def, Int.add_def, zfv, cond_false, cond_true, isub, Int.reduceToNat, s12, s13, s14, hj', hj, h0]
     refine ⟨i64c (by omega), ?_⟩
     rcases q with ⟨s5, hq⟩ | ⟨x, s5, hx, hx1, hq⟩
     · exact .inl ⟨s5, ltS hq h0⟩
     · refine .inr ⟨x, s5, by omega, hx1, ltS hq fun _ => h0⟩
   · rcases q with ⟨s5, hq⟩ | ⟨x, s5, hx, hx1, hq⟩
     · by_cases hf : atI (row (mat T i) j) 0 = 1
       · skip
         simp (maxSteps := 10000000) (disch := first | assumption | omega) only [go_sem, ↓reduceIte, Nat.reduceEqDiff, reduceCtorEq, Nat.reduceAdd, Nat.reduceMul, Nat.reduceLeDiff, zfu, Int.mul_def, Int.add_def, zfv, cond_false, cond_true, isub, Int.reduceToNat, s12, s13, s14, hj', hj, hf, s5]
         exact ⟨i64c (by omega), .inr ⟨j, rfl, by omega, hf, fun k hk hne => hq k (by omega)⟩⟩
       · skip
         simp (maxSteps := 10000000) (disch := first | assumption | omega) only [go_sem, ↓reduceIte, Nat.reduceEqDiff, reduceCtorEq, Nat.reduceAdd, Nat.reduceMul, Nat.reduceLeDiff, zfu, Int.mul_def, Int.add_def, zfv, cond_false, cond_true, isub, Int.reduceToNat, s12, s13, s14, hj', hj, h0, hf, s5]
         simp only [zbj, zbk, retR, resL, outT, zes, zez, oneV, ↓zcy, ↓zcz, ↓reduceIte, Nat.reduceEqDiff, Option.some.injEq, AV.sc.injEq, Value.bool.injEq, Value.int.injEq, outL, outT, zft, zcp, zed, zef, zei, zeh, List.length_cons, List.length_nil, Nat.reduceAdd, Nat.zero_add, Nat.reduceLeDiff, List.drop_zero, List.take_succ_cons, List.take_zero, zfi, zfh, Ro.dl, zdb, zda, zfe, and_self, and_true, true_and, eq_self, List.append_nil, List.nil_append, List.cons_append, ne_eq, not_false_eq_true, and_false, false_and, Bool.false_eq_true, St.ev, zes, zfn, zhk, List.length_map]
         refine (du_no ?_).symm
         rintro ⟨y, hy1, hy2, hy3⟩
         by_cases e : j = y
         · subst e; exact hf hy2
         · exact h0 (hy3 j hj e)
     · have e : dlT T i = -1 := by
         refine du_no ?_
         rintro ⟨y, hy1, hy2, hy3⟩
         by_cases e : j = y
         · subst e
           have h9 : at3 T i x 0 = 0 := hy3 x (by omega) (by omega)
           omega
         · exact h0 (hy3 j hj e)
       have hx0 : ¬ (x : Int) < 0 := by omega
       simp (maxSteps := 10000000) (disch := first | assumption | omega) only [go_sem, ↓reduceIte, Nat.reduceEqDiff, reduceCtorEq, Nat.reduceAdd, Nat.reduceMul, Nat.reduceLeDiff, zfu, Int.mul_def, Int.add_def, zfv, cond_false, cond_true, isub, Int.reduceToNat, s12, s13, s14, hj', hj, h0, s5, hx0]
       simp only [zbj, zbk, retR, resL, outT, zes, zez, oneV, ↓zcy, ↓zcz, ↓reduceIte, Nat.reduceEqDiff, Option.some.injEq, AV.sc.injEq, Value.bool.injEq, Value.int.injEq, outL, outT, zft, zcp, zed, zef, zei, zeh, List.length_cons, List.length_nil, Nat.reduceAdd, Nat.zero_add, Nat.reduceLeDiff, List.drop_zero, List.take_succ_cons, List.take_zero, zfi, zfh, Ro.dl, zdb, zda, zfe, and_self, and_true, true_and, eq_self, List.append_nil, List.nil_append, List.cons_append, ne_eq, not_false_eq_true, and_false, false_and, Bool.false_eq_true, St.ev, zes, zfn, zhk, List.length_map, e]
 · rintro sl ro gn ⟨s12, s13, s14, q⟩
   dsimp only at s12 s13 s14
   have hj' : ¬ ((T.length : Nat) : Int) < (T.length : Nat) := by omega
   dsimp only at q
   rcases q with ⟨s5, hq⟩ | ⟨x, s5, hx, hx1, hq⟩
   · skip
     simp (maxSteps := 10000000) (disch := first | assumption | omega) only [go_sem, ↓reduceIte, Nat.reduceEqDiff, reduceCtorEq, Nat.reduceAdd, Nat.reduceMul, Nat.reduceLeDiff, zfu, Int.mul_def, Int.add_def, zfv, cond_false, cond_true, isub, Int.reduceToNat, s12, s13, s14, hj', s5]
     simp only [zbj, zbk, retR, resL, outT, zes, zez, oneV, ↓zcy, ↓zcz, ↓reduceIte, Nat.reduceEqDiff, Option.some.injEq, AV.sc.injEq, Value.bool.injEq, Value.int.injEq, outL, outT, zft, zcp, zed, zef, zei, zeh, List.length_cons, List.length_nil, Nat.reduceAdd, Nat.zero_add, Nat.reduceLeDiff, List.drop_zero, List.take_succ_cons, List.take_zero, zfi, zfh, Ro.dl, zdb, zda, zfe, and_self, and_true, true_and, eq_self, List.append_nil, List.nil_append, List.cons_append, ne_eq, not_false_eq_true, and_false, false_and, Bool.false_eq_true, St.ev, zes, zfn, zhk, List.length_map]
     refine (du_no ?_).symm
     rintro ⟨y, hy1, hy2, hy3⟩
     have h9 : at3 T i y 0 = 1 := hy2
     have := hq y hy1
     omega
   · skip
     simp (maxSteps := 10000000) (disch := first | assumption | omega) only [go_sem, ↓reduceIte, Nat.reduceEqDiff, reduceCtorEq, Nat.reduceAdd, Nat.reduceMul, Nat.reduceLeDiff, zfu, Int.mul_def, Int.add_def, zfv, cond_false, cond_true, isub, Int.reduceToNat, s12, s13, s14, hj', s5]
     simp only [zbj, zbk, retR, resL, outT, zes, zez, oneV, ↓zcy, ↓zcz, ↓reduceIte, Nat.reduceEqDiff, Option.some.injEq, AV.sc.injEq, Value.bool.injEq, Value.int.injEq, outL, outT, zft, zcp, zed, zef, zei, zeh, List.length_cons, List.length_nil, Nat.reduceAdd, Nat.zero_add, Nat.reduceLeDiff, List.drop_zero, List.take_succ_cons, List.take_zero, zfi, zfh, Ro.dl, zdb, zda, zfe, and_self, and_true, true_and, eq_self, List.append_nil, List.nil_append, List.cons_append, ne_eq, not_false_eq_true, and_false, false_and, Bool.false_eq_true, St.ev, zes, zfn, zhk, List.length_map]
     exact (du_is (f := fun j => at3 T i j 0) ⟨hx, hx1, hq⟩).symm
theorem c161 {a : AV} {T : List (List (List Int))} (ha : isLLL a T) (hc : CubeP T) : CallOK Tryz.prog 119 [.agg [a]] (optA (F1 T)) := by
 have hc0 := hc
 obtain ⟨h1, h2, h3⟩ := hc
 refine call_of (fn := Tryz.f119) (code := bodyOf Tryz.f119) Tryz.func119 rfl (by kernel_rfl) (noRef_optA _) ?_
 intro sl hs
 have s0 : sl 0 = .agg [a] := hs 0
 have hT0 : 0 < T.length := by omega
 have hm0 := isLLL_mat ha hT0
 have hlm : (mat T 0).length = T.length := (h3 0 hT0).1
 dsimp only [Tryz.f119, bodyOf, Option.getD]
 simp (maxSteps := 10000000) (disch := first | assumption | omega) only [go_sem, ↓reduceIte, Nat.reduceEqDiff, reduceCtorEq, Nat.reduceAdd, Nat.reduceMul, Nat.reduceLeDiff, zfu, Int.mul_def, Int.add_def, zfv, cond_false, cond_true, isub, Int.reduceToNat, s0]
 refine WK_for (fun i st => st.sl 1 = .ptr 4096 1 [] 0 ∧ st.ro 4096 1 = some (.bx [a]) ∧ st.sl 7 = i64 (T.length : Int) ∧ st.sl 8 = i64 (i : Int) ∧ (∀ x, x < i → (fnd T.length fun k => p1 T x k) = none)) T.length ?_ ?_ ?_
 · simp only [↓zcy, ↓zcz, ↓zda, ↓zdb, ↓reduceIte, Nat.reduceEqDiff, and_true, true_and, and_self, ne_eq, not_false_eq_true, eq_self, false_and, and_false, reduceCtorEq, rws_zero, s0]
   exact ⟨rfl, lt0⟩
 · rintro i sl ro gn hi ⟨s1, r4096, s7, s8, q⟩
   dsimp only at s1 r4096 s7 s8
   have hi' : (i : Int) < (T.length : Nat) := by omega
   simp (maxSteps := 10000000) (disch := first | assumption | omega) only [go_sem, ↓reduceIte, Nat.reduceEqDiff, reduceCtorEq, Nat.reduceAdd, Nat.reduceMul, Nat.reduceLeDiff, zfu, Int.mul_def, Int.add_def, zfv, cond_false, cond_true, isub, Int.reduceToNat, s1, r4096, s7, s8, hi', hi]
   obtain ⟨hli, hri⟩ := h3 i hi
   have hmi := isLLL_mat ha hi
   refine WK_for (fun k st => st.sl 1 = .ptr 4096 1 [] 0 ∧ st.ro 4096 1 = some (.bx [a]) ∧ st.sl 7 = i64 (T.length : Int) ∧ st.sl 8 = i64 (i : Int) ∧ st.sl 3 = i64 (i : Int) ∧ st.sl 13 = i64 (T.length : Int) ∧ st.sl 14 = i64 (k : Int) ∧ (∀ x, x < k → p1 T i x = none)) T.length ?_ ?_ ?_
   · simp only [↓zcy, ↓zcz, ↓zda, ↓zdb, ↓reduceIte, Nat.reduceEqDiff, and_true, true_and, and_self, ne_eq, not_false_eq_true, eq_self, false_and, and_false, reduceCtorEq, rws_zero, s1, r4096, s7, s8, hi', hi]
     exact ⟨rfl, lt0⟩
   · rintro k sl ro gn hk ⟨s1, r4096, s7, s8, s3, s13, s14, qq⟩
     dsimp only at s1 r4096 s7 s8 s3 s13 s14
     have hk' : (k : Int) < (T.length : Nat) := by omega
     have hr0 := isLL_row hm0 (k := i) (by omega)
     have hr1 := isLL_row hmi (k := 0) (by omega)
     have hl0 : (row (mat T 0) i).length = T.length := ((h3 0 hT0).2 i hi).1
     have hl1 : (row (mat T i) 0).length = T.length := (hri 0 hT0).1
     have hd : (atI (row (mat T 0) i) k = dlt i k ∧ atI (row (mat T i) 0) k = dlt i k → p1 T i k = none) ∧ (¬ (at3 T 0 i k = dlt i k ∧ at3 T i 0 k = dlt i k) → F1 T = some [0, (i : Int), (k : Int)]) :=
       ⟨fun h => if_pos h, fun h => fnd_some (k := i) (fnd_some (k := k) (if_neg h) qq hk) q hi⟩
     by_cases ha1 : atI (row (mat T 0) i) k = dlt i k
     · have ha1' := eq_true ha1
       by_cases hb1 : atI (row (mat T i) 0) k = dlt i k
       · have hb1' := eq_true hb1
         simp (maxSteps := 10000000) (disch := first | assumption | omega) only [go_sem, ↓reduceIte, Nat.reduceEqDiff, reduceCtorEq, Nat.reduceAdd, Nat.reduceMul, Nat.reduceLeDiff, zfu, Int.mul_def, Int.add_def, zfv, cond_false, cond_true, isub, Int.reduceToNat, s1, r4096, s7, s8, s3, s13, s14, hk', hk]
         refine CLLD_pure _ c166 (by simp (disch := assumption) only [pureL, pureA, isL_pure, isLL_pure, isLLL_pure, pureL_map, Bool.and_self, Bool.and_true]) rfl ?_
         simp (maxSteps := 10000000) (disch := first | assumption | omega) only [go_sem, ↓reduceIte, Nat.reduceEqDiff, reduceCtorEq, Nat.reduceAdd, Nat.reduceMul, Nat.reduceLeDiff, zfu, Int.mul_def, Int.add_def, zfv, cond_false, cond_true, isub, Int.reduceToNat, s1, r4096, s7, s8, s3, s13, s14, hk', hk, ha1']
         refine CLLD_pure _ c166 (by simp (disch := assumption) only [pureL, pureA, isL_pure, isLL_pure, isLLL_pure, pureL_map, Bool.and_self, Bool.and_true]) rfl ?_
         simp (maxSteps := 10000000) (disch := first | assumption | omega) only [go_sem, ↓reduceIte, Nat.reduceEqDiff, reduceCtorEq, Nat.reduceAdd, Nat.reduceMul, Nat.reduceLeDiff, zfu, Int.mul_def, Int.add_def, zfv, cond_false, cond_true, isub, Int.reduceToNat, s1, r4096, s7, s8, s3, s13, s14, hk', hk, hb1']
         refine FIN_of (by kernel_rfl) ?_
         simp (maxSteps := 10000000) (disch := first | assumption | omega) only [go_sem, ↓reduceIte, Nat.reduceEqDiff, reduceCtorEq, Nat.reduceAdd, Nat.reduceMul, Nat.reduceLeDiff, zfu, Int.mul_def, Int.add_def, zfv, cond_false, cond_true, isub, Int.reduceToNat, s1, r4096, s7, s8, s3, s13, s14, hk', hk]
         exact ⟨i64c (by omega), ltS qq (hd.1 ⟨ha1, hb1⟩)⟩
       · skip
         simp (maxSteps := 10000000) (disch := first | assumption | omega) only [go_sem, ↓reduceIte, Nat.reduceEqDiff, reduceCtorEq, Nat.reduceAdd, Nat.reduceMul, Nat.reduceLeDiff, zfu, Int.mul_def, Int.add_def, zfv, cond_false, cond_true, isub, Int.reduceToNat, s1, r4096, s7, s8, s3, s13, s14, hk', hk]
         refine CLLD_pure _ c166 (by simp (disch := assumption) only [pureL, pureA, isL_pure, isLL_pure, isLLL_pure, pureL_map, Bool.and_self, Bool.and_true]) rfl ?_
         simp (maxSteps := 10000000) (disch := first | assumption | omega) only [go_sem, ↓reduceIte, Nat.reduceEqDiff, reduceCtorEq, Nat.reduceAdd, Nat.reduceMul, Nat.reduceLeDiff, zfu, Int.mul_def, Int.add_def, zfv, cond_false, cond_true, isub, Int.reduceToNat, s1, r4096, s7, s8, s3, s13, s14, hk', hk, ha1']
         refine CLLD_pure _ c166 (by simp (disch := assumption) only [pureL, pureA, isL_pure, isLL_pure, isLLL_pure, pureL_map, Bool.and_self, Bool.and_true]) rfl ?_
         simp (maxSteps := 10000000) (disch := first | assumption | omega) only [go_sem, ↓reduceIte, Nat.reduceEqDiff, reduceCtorEq, Nat.reduceAdd, Nat.reduceMul, Nat.reduceLeDiff, zfu, Int.mul_def, Int.add_def, zfv, cond_false, cond_true, isub, Int.reduceToNat, s1, r4096, s7, s8, s3, s13, s14, hk', hk, hb1]
         refine FIN_of (by kernel_rfl) ?_
         simp (maxSteps := 10000000) (disch := first | assumption | omega) only [go_sem, ↓reduceIte, Nat.reduceEqDiff, reduceCtorEq, Nat.reduceAdd, Nat.reduceMul, Nat.reduceLeDiff, zfu, Int.mul_def, Int.add_def, zfv, cond_false, cond_true, isub, Int.reduceToNat, s1, r4096, s7, s8, s3, s13, s14, hk', hk]
         simp only [zbj, zbk, retR, resL, outT, zes, zez, oneV, ↓zcy, ↓zcz, ↓reduceIte, Nat.reduceEqDiff, Option.some.injEq, AV.sc.injEq, Value.bool.injEq, Value.int.injEq, outL, outT, zft, zcp, zed, zef, zei, zeh, List.length_cons, List.length_nil, Nat.reduceAdd, Nat.zero_add, Nat.reduceLeDiff, List.drop_zero, List.take_succ_cons, List.take_zero, zfi, zfh, Ro.dl, zdb, zda, zfe, and_self, and_true, true_and, eq_self, List.append_nil, List.nil_append, List.cons_append, ne_eq, not_false_eq_true, and_false, false_and, Bool.false_eq_true, St.ev, zes, zfn, zhk, List.length_map, hd.2 (fun h => hb1 h.2)]
         rfl
     · skip
       simp (maxSteps := 10000000) (disch := first | assumption | omega) only [go_sem, ↓reduceIte, Nat.reduceEqDiff, reduceCtorEq, Nat.reduceAdd, Nat.reduceMul, Nat.reduceLeDiff, zfu, Int.mul_def, Int.add_def, zfv, cond_false, cond_true, isub, Int.reduceToNat, s1, r4096, s7, s8, s3, s13, s14, hk', hk]
       refine CLLD_pure _ c166 (by simp (disch := assumption) only [pureL, pureA, isL_pure, isLL_pure, isLLL_pure, pureL_map, Bool.and_self, Bool.and_true]) rfl ?_
       simp (maxSteps := 10000000) (disch := first | assumption | omega) only [go_sem, ↓reduceIte, Nat.reduceEqDiff, reduceCtorEq, Nat.reduceAdd, Nat.reduceMul, Nat.reduceLeDiff, zfu, Int.mul_def, Int.add_def, zfv, cond_false, cond_true, isub, Int.reduceToNat, s1, r4096, s7, s8, s3, s13, s14, hk', hk, ha1]
       refine FIN_of (by kernel_rfl) ?_
       simp (maxSteps := 10000000) (disch := first | assumption | omega) only [go_sem, ↓reduceIte, Nat.reduceEqDiff, reduceCtorEq, Nat.reduceAdd, Nat.reduceMul, Nat.reduceLeDiff, zfu, Int.mul_def, Int.add_def, zfv, cond_false, cond_true, isub, Int.reduceToNat, s1, r4096, s7, s8, s3, s13, s14, hk', hk]
       simp only [zbj, zbk, retR, resL, outT, zes, zez, oneV, ↓zcy, ↓zcz, ↓reduceIte, Nat.reduceEqDiff, Option.some.injEq, AV.sc.injEq, Value.bool.injEq, Value.int.injEq, outL, outT, zft, zcp, zed, zef, zei, zeh, List.length_cons, List.length_nil, Nat.reduceAdd, Nat.zero_add, Nat.reduceLeDiff, List.drop_zero, List.take_succ_cons, List.take_zero, zfi, zfh, Ro.dl, zdb, zda, zfe, and_self, and_true, true_and, eq_self, List.append_nil, List.nil_append, List.cons_append, ne_eq, not_false_eq_true, and_false, false_and, Bool.false_eq_true, St.ev, zes, zfn, zhk, List.length_map, hd.2 (fun h => ha1 h.1)]
       rfl
   · rintro sl ro gn ⟨s1, r4096, s7, s8, s3, s13, s14, qq⟩
     dsimp only at s1 r4096 s7 s8 s3 s13 s14
     have hk' : ¬ ((T.length : Nat) : Int) < (T.length : Nat) := by omega
     simp (maxSteps := 10000000) (disch := first | assumption | omega) only [go_sem, ↓reduceIte, Nat.reduceEqDiff, reduceCtorEq, Nat.reduceAdd, Nat.reduceMul, Nat.reduceLeDiff, zfu, Int.mul_def, Int.add_def, zfv, cond_false, cond_true, isub, Int.reduceToNat, s1, r4096, s7, s8, s3, s13, s14, hk']
     exact ⟨i64c (by omega), ltS q (fnd_none.2 qq)⟩
 · rintro sl ro gn ⟨s1, r4096, s7, s8, q⟩
   dsimp only at s1 r4096 s7 s8
   have hi' : ¬ ((T.length : Nat) : Int) < (T.length : Nat) := by omega
   have hF1 : F1 T = none := fnd_none.2 q
   simp (maxSteps := 10000000) (disch := first | assumption | omega) only [go_sem, ↓reduceIte, Nat.reduceEqDiff, reduceCtorEq, Nat.reduceAdd, Nat.reduceMul, Nat.reduceLeDiff, zfu, Int.mul_def, Int.add_def, zfv, cond_false, cond_true, isub, Int.reduceToNat, s1, r4096, s7, s8, hi']
   simp only [zbj, zbk, retR, resL, outT, zes, zez, oneV, ↓zcy, ↓zcz, ↓reduceIte, Nat.reduceEqDiff, Option.some.injEq, AV.sc.injEq, Value.bool.injEq, Value.int.injEq, outL, outT, zft, zcp, zed, zef, zei, zeh, List.length_cons, List.length_nil, Nat.reduceAdd, Nat.zero_add, Nat.reduceLeDiff, List.drop_zero, List.take_succ_cons, List.take_zero, zfi, zfh, Ro.dl, zdb, zda, zfe, and_self, and_true, true_and, eq_self, List.append_nil, List.nil_append, List.cons_append, ne_eq, not_false_eq_true, and_false, false_and, Bool.false_eq_true, St.ev, zes, zfn, zhk, List.length_map, hF1]
   rfl
def F2Z (T : List (List (List Int))) (z : Int) : Prop := (F2 T = none ∧ z = -1) ∨ ∃ i : Nat, F2 T = some [1, (i : Int)] ∧ z = i
theorem fnd_ex {α : Type} {p : Nat → Option α} {v : α} : ∀ {n : Nat}, fnd n p = some v → ∃ k, k < n ∧ p k = some v
 | 0, h => by cases h
 | n + 1, h => by
   simp only [fnd] at h
   cases hf : fnd n p with
   | some w =>
     rw [hf] at h
     obtain ⟨k, hk, e⟩ := fnd_ex (p := p) (n := n) (v := v) (by rw [hf]; exact h)
     exact ⟨k, by omega, e⟩
   | none =>
     rw [hf] at h
     exact ⟨n, by omega, h⟩
theorem F2Z_ex (T : List (List (List Int))) : ∃ z, F2Z T z := by
 cases h : F2 T with
 | none => exact ⟨-1, .inl ⟨h, rfl⟩⟩
 | some v =>
   obtain ⟨k, hk, e⟩ := fnd_ex h
   unfold p2 at e
   split at e
   · cases e; exact ⟨k, .inr ⟨k, h, rfl⟩⟩
   · cases e
theorem c162 {a : AV} {T : List (List (List Int))} (ha : isLLL a T) (hc : CubeP T) {z : Int} (hz : F2Z T z) : CallOK Tryz.prog 120 [.agg [a]] (i64 z) := by
 have hc0 := hc
 obtain ⟨h1, h2, h3⟩ := hc
 refine call_of (fn := Tryz.f120) (code := bodyOf Tryz.f120) Tryz.func120 rfl (by kernel_rfl) (rfl) ?_
 intro sl hs
 have s0 : sl 0 = .agg [a] := hs 0
 dsimp only [Tryz.f120, bodyOf, Option.getD]
 simp (maxSteps := 10000000) (disch := first | assumption | omega) only [go_sem, ↓reduceIte, Nat.reduceEqDiff, reduceCtorEq, Nat.reduceAdd, Nat.reduceMul, Nat.reduceLeDiff, zfu, Int.mul_def, Int.add_def, zfv, cond_false, cond_true, isub, Int.reduceToNat, s0]
 refine WK_for (fun i st => st.sl 1 = .ptr 4096 1 [] 0 ∧ st.ro 4096 1 = some (.bx [a]) ∧ st.sl 7 = i64 (T.length : Int) ∧ st.sl 8 = i64 (i : Int) ∧ (∀ x, x < i → p2 T x = none)) T.length ?_ ?_ ?_
 · simp only [↓zcy, ↓zcz, ↓zda, ↓zdb, ↓reduceIte, Nat.reduceEqDiff, and_true, true_and, and_self, ne_eq, not_false_eq_true, eq_self, false_and, and_false, reduceCtorEq, rws_zero, s0]
   exact ⟨rfl, lt0⟩
 · rintro i sl ro gn hi ⟨s1, r4096, s7, s8, q⟩
   dsimp only at s1 r4096 s7 s8
   have hi' : (i : Int) < (T.length : Nat) := by omega
   have hF : p2 T i = some [1, (i : Int)] → (i : Int) = z := fun h => by
     have e : F2 T = some [1, (i : Int)] := fnd_some (k := i) h q hi
     rcases hz with ⟨e2, _⟩ | ⟨j, e2, e3⟩
     · rw [e] at e2; cases e2
     · rw [e] at e2
       simp only [Option.some.injEq, List.cons.injEq, and_true, true_and] at e2
       omega
   simp (maxSteps := 10000000) (disch := first | assumption | omega) only [go_sem, ↓reduceIte, Nat.reduceEqDiff, reduceCtorEq, Nat.reduceAdd, Nat.reduceMul, Nat.reduceLeDiff, zfu, Int.mul_def, Int.add_def, zfv, cond_false, cond_true, isub, Int.reduceToNat, s1, r4096, s7, s8, hi', hi]
   refine CLL_pure _ (c167 ha hc0 hi) (by simp (disch := assumption) only [pureL, pureA, isL_pure, isLL_pure, isLLL_pure, pureL_map, Bool.and_self, Bool.and_true]) rfl rfl ?_
   by_cases hd : dlT T i < 0
   · skip
     simp (maxSteps := 10000000) (disch := first | assumption | omega) only [go_sem, ↓reduceIte, Nat.reduceEqDiff, reduceCtorEq, Nat.reduceAdd, Nat.reduceMul, Nat.reduceLeDiff, zfu, Int.mul_def, Int.add_def, zfv, cond_false, cond_true, isub, Int.reduceToNat, s1, r4096, s7, s8, hi', hi, hd]
     simp only [zbj, zbk, retR, resL, outT, zes, zez, oneV, ↓zcy, ↓zcz, ↓reduceIte, Nat.reduceEqDiff, Option.some.injEq, AV.sc.injEq, Value.bool.injEq, Value.int.injEq, outL, outT, zft, zcp, zed, zef, zei, zeh, List.length_cons, List.length_nil, Nat.reduceAdd, Nat.zero_add, Nat.reduceLeDiff, List.drop_zero, List.take_succ_cons, List.take_zero, zfi, zfh, Ro.dl, zdb, zda, zfe, and_self, and_true, true_and, eq_self, List.append_nil, List.nil_append, List.cons_append, ne_eq, not_false_eq_true, and_false, false_and, Bool.false_eq_true, St.ev, zes, zfn, zhk, List.length_map]
     exact hF (if_pos (.inl hd))
   · obtain ⟨m, hm, hmT⟩ := dlT_nat hd
     rw [hm]
     have hm0 : ¬ (m : Int) < 0 := by omega
     by_cases hd2 : dlT T m = i
     · have e : p2 T i = none := if_neg (by rw [hm, Int.toNat_natCast]; intro h; rcases h with h | h; omega; exact h hd2)
       simp (maxSteps := 10000000) (disch := first | assumption | omega) only [go_sem, ↓reduceIte, Nat.reduceEqDiff, reduceCtorEq, Nat.reduceAdd, Nat.reduceMul, Nat.reduceLeDiff, zfu, Int.mul_def, Int.add_def, zfv, cond_false, cond_true, isub, Int.reduceToNat, s1, r4096, s7, s8, hi', hi, hm0]
       refine CLL_pure _ (c167 ha hc0 hmT) (by simp (disch := assumption) only [pureL, pureA, isL_pure, isLL_pure, isLLL_pure, pureL_map, Bool.and_self, Bool.and_true]) rfl rfl ?_
       simp (maxSteps := 10000000) (disch := first | assumption | omega) only [go_sem, ↓reduceIte, Nat.reduceEqDiff, reduceCtorEq, Nat.reduceAdd, Nat.reduceMul, Nat.reduceLeDiff, zfu, Int.mul_def, Int.add_def, zfv, cond_false, cond_true, isub, Int.reduceToNat, s1, r4096, s7, s8, hi', hi, hd2]
       exact ⟨i64c (by omega), ltS q e⟩
     · skip
       simp (maxSteps := 10000000) (disch := first | assumption | omega) only [go_sem, ↓reduceIte, Nat.reduceEqDiff, reduceCtorEq, Nat.reduceAdd, Nat.reduceMul, Nat.reduceLeDiff, zfu, Int.mul_def, Int.add_def, zfv, cond_false, cond_true, isub, Int.reduceToNat, s1, r4096, s7, s8, hi', hi, hm0]
       refine CLL_pure _ (c167 ha hc0 hmT) (by simp (disch := assumption) only [pureL, pureA, isL_pure, isLL_pure, isLLL_pure, pureL_map, Bool.and_self, Bool.and_true]) rfl rfl ?_
       simp (maxSteps := 10000000) (disch := first | assumption | omega) only [go_sem, ↓reduceIte, Nat.reduceEqDiff, reduceCtorEq, Nat.reduceAdd, Nat.reduceMul, Nat.reduceLeDiff, zfu, Int.mul_def, Int.add_def, zfv, cond_false, cond_true, isub, Int.reduceToNat, s1, r4096, s7, s8, hi', hi, hd2]
       simp only [zbj, zbk, retR, resL, outT, zes, zez, oneV, ↓zcy, ↓zcz, ↓reduceIte, Nat.reduceEqDiff, Option.some.injEq, AV.sc.injEq, Value.bool.injEq, Value.int.injEq, outL, outT, zft, zcp, zed, zef, zei, zeh, List.length_cons, List.length_nil, Nat.reduceAdd, Nat.zero_add, Nat.reduceLeDiff, List.drop_zero, List.take_succ_cons, List.take_zero, zfi, zfh, Ro.dl, zdb, zda, zfe, and_self, and_true, true_and, eq_self, List.append_nil, List.nil_append, List.cons_append, ne_eq, not_false_eq_true, and_false, false_and, Bool.false_eq_true, St.ev, zes, zfn, zhk, List.length_map]
       exact hF (if_pos (.inr (by rw [hm, Int.toNat_natCast]; exact hd2)))
 · rintro sl ro gn ⟨s1, r4096, s7, s8, q⟩
   dsimp only at s1 r4096 s7 s8
   have hi' : ¬ ((T.length : Nat) : Int) < (T.length : Nat) := by omega
   have hF2 : F2 T = none := fnd_none.2 q
   simp (maxSteps := 10000000) (disch := first | assumption | omega) only [go_sem, ↓reduceIte, Nat.reduceEqDiff, reduceCtorEq, Nat.reduceAdd, Nat.reduceMul, Nat.reduceLeDiff, zfu, Int.mul_def, Int.add_def, zfv, cond_false, cond_true, isub, Int.reduceToNat, s1, r4096, s7, s8, hi']
   simp only [zbj, zbk, retR, resL, outT, zes, zez, oneV, ↓zcy, ↓zcz, ↓reduceIte, Nat.reduceEqDiff, Option.some.injEq, AV.sc.injEq, Value.bool.injEq, Value.int.injEq, outL, outT, zft, zcp, zed, zef, zei, zeh, List.length_cons, List.length_nil, Nat.reduceAdd, Nat.zero_add, Nat.reduceLeDiff, List.drop_zero, List.take_succ_cons, List.take_zero, zfi, zfh, Ro.dl, zdb, zda, zfe, and_self, and_true, true_and, eq_self, List.append_nil, List.nil_append, List.cons_append, ne_eq, not_false_eq_true, and_false, false_and, Bool.false_eq_true, St.ev, zes, zfn, zhk, List.length_map]
   rcases hz with ⟨_, e⟩ | ⟨j, e2, _⟩
   · exact e.symm
   · rw [hF2] at e2; cases e2
theorem c168 {a : AV} {T : List (List (List Int))} (ha : isLLL a T) (hc : CubeP T) : CallOK Tryz.prog 151 [.agg [a]] (rowL (rws (dlT T) T.length)) := by
 have e0 : rowL (rws (dlT T) T.length) = .row (rws (fun x => i64 (dlT T x)) T.length) := by simp only [rowL, rws_map]
 have hc0 := hc
 obtain ⟨h1, h2, h3⟩ := hc
 rw [e0]
 refine call_of (fn := Tryz.f151) (code := bodyOf Tryz.f151) Tryz.func151 rfl (by kernel_rfl) (e0 ▸ noRef_rowL _) ?_
 intro sl hs
 have s0 : sl 0 = .agg [a] := hs 0
 dsimp only [Tryz.f151, bodyOf, Option.getD]
 simp (maxSteps := 10000000) (disch := first | assumption | omega) only [go_sem, ↓reduceIte, Nat.reduceEqDiff, reduceCtorEq, Nat.reduceAdd, Nat.reduceMul, Nat.reduceLeDiff, zfu, Int.mul_def, Int.add_def, zfv, cond_false, cond_true, isub, Int.reduceToNat, s0]
 refine WK_for (fun i st => st.sl 1 = .ptr 4096 1 [] 0 ∧ st.ro 4096 1 = some (.bx [a]) ∧ st.sl 8 = i64 (T.length : Int) ∧ st.sl 9 = i64 (i : Int) ∧ st.sl 3 = .ref 8192 (st.gn 8192) [] 0 i ∧ st.ro 8192 (st.gn 8192) = some (.row (rws (fun x => i64 (dlT T x)) i))) T.length ?_ ?_ ?_
 · simp only [↓zcy, ↓zcz, ↓zda, ↓zdb, ↓reduceIte, Nat.reduceEqDiff, and_true, true_and, and_self, ne_eq, not_false_eq_true, eq_self, false_and, and_false, reduceCtorEq, rws_zero, s0]
   rfl
 · rintro i sl ro gn hi ⟨s1, r4096, s8, s9, s3, r8192⟩
   dsimp only at s1 r4096 s8 s9 s3 r8192
   have hi' : (i : Int) < (T.length : Nat) := by omega
   simp (maxSteps := 10000000) (disch := first | assumption | omega) only [go_sem, ↓reduceIte, Nat.reduceEqDiff, reduceCtorEq, Nat.reduceAdd, Nat.reduceMul, Nat.reduceLeDiff, zfu, Int.mul_def, Int.add_def, zfv, cond_false, cond_true, isub, Int.reduceToNat, s1, r4096, s8, s9, s3, r8192, hi', hi]
   refine CLL_pure _ (c167 ha hc0 hi) (by simp (disch := assumption) only [pureL, pureA, isL_pure, isLL_pure, isLLL_pure, pureL_map, Bool.and_self, Bool.and_true]) rfl rfl ?_
   simp (maxSteps := 10000000) (disch := first | assumption | omega) only [go_sem, ↓reduceIte, Nat.reduceEqDiff, reduceCtorEq, Nat.reduceAdd, Nat.reduceMul, Nat.reduceLeDiff, zfu, Int.mul_def, Int.add_def, zfv, cond_false, cond_true, isub, Int.reduceToNat, s1, r4096, s8, s9, s3, r8192, hi', hi, zfm]
   exact i64c (by omega)
 · rintro sl ro gn ⟨s1, r4096, s8, s9, s3, r8192⟩
   dsimp only at s1 r4096 s8 s9 s3 r8192
   have hi' : ¬ ((T.length : Nat) : Int) < (T.length : Nat) := by omega
   simp (maxSteps := 10000000) (disch := first | assumption | omega) only [go_sem, ↓reduceIte, Nat.reduceEqDiff, reduceCtorEq, Nat.reduceAdd, Nat.reduceMul, Nat.reduceLeDiff, zfu, Int.mul_def, Int.add_def, zfv, cond_false, cond_true, isub, Int.reduceToNat, s1, r4096, s8, s9, s3, r8192, hi']
   simp only [zbj, zbk, retR, resL, outT, zes, zez, oneV, ↓zcy, ↓zcz, ↓reduceIte, Nat.reduceEqDiff, Option.some.injEq, AV.sc.injEq, Value.bool.injEq, Value.int.injEq, outL, outT, zft, zcp, zed, zef, zei, zeh, List.length_cons, List.length_nil, Nat.reduceAdd, Nat.zero_add, Nat.reduceLeDiff, List.drop_zero, List.take_succ_cons, List.take_zero, zfi, zfh, Ro.dl, zdb, zda, zfe, and_self, and_true, true_and, eq_self, List.append_nil, List.nil_append, List.cons_append, ne_eq, not_false_eq_true, and_false, false_and, Bool.false_eq_true, St.ev, zes, zfn, zhk, List.length_map, r8192]
theorem c163 {a : AV} {T : List (List (List Int))} (ha : isLLL a T) (hc : CubeP T) (hF2 : F2 T = none) : CallOK Tryz.prog 121 [.agg [a]] (optA (F3 T)) := by
 have hc0 := hc
 obtain ⟨h1, h2, h3⟩ := hc
 have q := fnd_none.1 hF2
 have hdl : ∀ i, i < T.length → ∃ m : Nat, dlT T i = m ∧ m < T.length := fun i hi => by
   refine dlT_nat fun h => ?_
   have := q i hi
   unfold p2 at this
   rw [if_pos (.inl h)] at this
   cases this
 clear q
 have e0 : rowL (rws (dlT T) T.length) = .row (rws (fun x => i64 (dlT T x)) T.length) := by simp only [rowL, rws_map]
 have c168' := c168 ha hc0
 rw [e0] at c168'
 refine call_of (fn := Tryz.f121) (code := bodyOf Tryz.f121) Tryz.func121 rfl (by kernel_rfl) (noRef_optA _) ?_
 intro sl hs
 have s0 : sl 0 = .agg [a] := hs 0
 dsimp only [Tryz.f121, bodyOf, Option.getD]
 simp (maxSteps := 10000000) (disch := first | assumption | omega) only [go_sem, ↓reduceIte, Nat.reduceEqDiff, reduceCtorEq, Nat.reduceAdd, Nat.reduceMul, Nat.reduceLeDiff, zfu, Int.mul_def, Int.add_def, zfv, cond_false, cond_true, isub, Int.reduceToNat, s0]
 refine CLL_pure _ c168' (by simp (disch := assumption) only [pureL, pureA, isL_pure, isLL_pure, isLLL_pure, pureL_map, Bool.and_self, Bool.and_true]) rfl rfl ?_
 simp (maxSteps := 10000000) (disch := first | assumption | omega) only [go_sem, ↓reduceIte, Nat.reduceEqDiff, reduceCtorEq, Nat.reduceAdd, Nat.reduceMul, Nat.reduceLeDiff, zfu, Int.mul_def, Int.add_def, zfv, cond_false, cond_true, isub, Int.reduceToNat, s0]
 refine WK_for (fun i st => st.sl 1 = .ptr 4096 1 [] 0 ∧ st.ro 4096 1 = some (.bx [a]) ∧ st.sl 3 = .ref 8208 1 [] 0 T.length ∧ st.ro 8208 1 = some (.row (rws (fun x => i64 (dlT T x)) T.length)) ∧ st.sl 12 = i64 (T.length : Int) ∧ st.sl 13 = i64 (i : Int) ∧ (∀ x, x < i → (fnd T.length fun j => fnd T.length fun k => p3 T x j k) = none)) T.length ?_ ?_ ?_
 · simp only [↓zcy, ↓zcz, ↓zda, ↓zdb, ↓reduceIte, Nat.reduceEqDiff, and_true, true_and, and_self, ne_eq, not_false_eq_true, eq_self, false_and, and_false, reduceCtorEq, rws_zero, s0]
   exact ⟨rfl, lt0⟩
 · rintro i sl ro gn hi ⟨s1, r4096, s3, r8208, s12, s13, q⟩
   dsimp only at s1 r4096 s3 r8208 s12 s13
   have hi' : (i : Int) < (T.length : Nat) := by omega
   simp (maxSteps := 10000000) (disch := first | assumption | omega) only [go_sem, ↓reduceIte, Nat.reduceEqDiff, reduceCtorEq, Nat.reduceAdd, Nat.reduceMul, Nat.reduceLeDiff, zfu, Int.mul_def, Int.add_def, zfv, cond_false, cond_true, isub, Int.reduceToNat, s1, r4096, s3, r8208, s12, s13, hi', hi]
   refine WK_for (fun j st => st.sl 1 = .ptr 4096 1 [] 0 ∧ st.ro 4096 1 = some (.bx [a]) ∧ st.sl 3 = .ref 8208 1 [] 0 T.length ∧ st.ro 8208 1 = some (.row (rws (fun x => i64 (dlT T x)) T.length)) ∧ st.sl 12 = i64 (T.length : Int) ∧ st.sl 13 = i64 (i : Int) ∧ st.sl 4 = i64 (i : Int) ∧ st.sl 18 = i64 (T.length : Int) ∧ st.sl 19 = i64 (j : Int) ∧ (∀ x, x < j → (fnd T.length fun k => p3 T i x k) = none)) T.length ?_ ?_ ?_
   · simp only [↓zcy, ↓zcz, ↓zda, ↓zdb, ↓reduceIte, Nat.reduceEqDiff, and_true, true_and, and_self, ne_eq, not_false_eq_true, eq_self, false_and, and_false, reduceCtorEq, rws_zero, s1, r4096, s3, r8208, s12, s13, hi', hi]
     exact ⟨rfl, lt0⟩
   · rintro j sl ro gn hj ⟨s1, r4096, s3, r8208, s12, s13, s4, s18, s19, qq⟩
     dsimp only at s1 r4096 s3 r8208 s12 s13 s4 s18 s19
     have hj' : (j : Int) < (T.length : Nat) := by omega
     simp (maxSteps := 10000000) (disch := first | assumption | omega) only [go_sem, ↓reduceIte, Nat.reduceEqDiff, reduceCtorEq, Nat.reduceAdd, Nat.reduceMul, Nat.reduceLeDiff, zfu, Int.mul_def, Int.add_def, zfv, cond_false, cond_true, isub, Int.reduceToNat, s1, r4096, s3, r8208, s12, s13, s4, s18, s19, hj', hj]
     refine WK_for (fun k st => st.sl 1 = .ptr 4096 1 [] 0 ∧ st.ro 4096 1 = some (.bx [a]) ∧ st.sl 3 = .ref 8208 1 [] 0 T.length ∧ st.ro 8208 1 = some (.row (rws (fun x => i64 (dlT T x)) T.length)) ∧ st.sl 12 = i64 (T.length : Int) ∧ st.sl 13 = i64 (i : Int) ∧ st.sl 4 = i64 (i : Int) ∧ st.sl 18 = i64 (T.length : Int) ∧ st.sl 19 = i64 (j : Int) ∧ st.sl 5 = i64 (j : Int) ∧ st.sl 24 = i64 (T.length : Int) ∧ st.sl 25 = i64 (k : Int) ∧ (∀ x, x < k → p3 T i j x = none)) T.length ?_ ?_ ?_
     · simp only [↓zcy, ↓zcz, ↓zda, ↓zdb, ↓reduceIte, Nat.reduceEqDiff, and_true, true_and, and_self, ne_eq, not_false_eq_true, eq_self, false_and, and_false, reduceCtorEq, rws_zero, s1, r4096, s3, r8208, s12, s13, s4, s18, s19, hj', hj]
       exact ⟨rfl, lt0⟩
     · rintro k sl ro gn hk ⟨s1, r4096, s3, r8208, s12, s13, s4, s18, s19, s5, s24, s25, qqq⟩
       dsimp only at s1 r4096 s3 r8208 s12 s13 s4 s18 s19 s5 s24 s25
       have hk' : (k : Int) < (T.length : Nat) := by omega
       obtain ⟨di, hdi, hdi2⟩ := hdl i hi
       obtain ⟨dj, hdj, hdj2⟩ := hdl j hj
       have hA := isLLL_mat ha hi
       have hB := isLLL_mat ha hdi2
       have hC := isLLL_mat ha hk
       have hA1 := (h3 i hi).1
       have hB1 := (h3 di hdi2).1
       have hC1 := (h3 k hk).1
       have hA2 := isLL_row hA (k := j) (by omega)
       have hB2 := isLL_row hB (k := k) (by omega)
       have hC2 := isLL_row hC (k := dj) (by omega)
       have hA3 := ((h3 i hi).2 j hj).1
       have hB3 := ((h3 di hdi2).2 k hk).1
       have hC3 := ((h3 k hk).2 dj hdj2).1
       have hd : (at3 T i j k = at3 T di k j ∧ at3 T i j k = at3 T k dj i → p3 T i j k = none) ∧ (¬ (at3 T i j k = at3 T di k j ∧ at3 T i j k = at3 T k dj i) → F3 T = some [2, (i : Int), (j : Int), (k : Int)]) := by
         have e1 : (dlT T i).toNat = di := by omega
         have e2 : (dlT T j).toNat = dj := by omega
         refine ⟨fun h => if_pos (by rw [e1, e2]; exact h), fun h => (fnd_some (k := i) (fnd_some (k := j) (fnd_some (k := k) (if_neg (by rw [e1, e2]; exact h)) qqq hk) qq hj) q hi)⟩
       obtain ⟨hd1, hd2⟩ := hd
       by_cases ha1 : atI (row (mat T i) j) k = atI (row (mat T di) k) j
       · have ha1' := eq_true ha1
         by_cases hb1 : atI (row (mat T i) j) k = atI (row (mat T k) dj) i
         · have hb1' := eq_true hb1
           simp (maxSteps := 10000000) (disch := first | assumption | omega) only [go_sem, ↓reduceIte, Nat.reduceEqDiff, reduceCtorEq, Nat.reduceAdd, Nat.reduceMul, Nat.reduceLeDiff, zfu, Int.mul_def, Int.add_def, zfv, cond_false, cond_true, isub, Int.reduceToNat, s1, r4096, s3, r8208, s12, s13, s4, s18, s19, s5, s24, s25, hk', hk, ha1', hb1', hdi, hdj]
           refine FIN_of (by kernel_rfl) ?_
           simp (maxSteps := 10000000) (disch := first | assumption | omega) only [go_sem, ↓reduceIte, Nat.reduceEqDiff, reduceCtorEq, Nat.reduceAdd, Nat.reduceMul, Nat.reduceLeDiff, zfu, Int.mul_def, Int.add_def, zfv, cond_false, cond_true, isub, Int.reduceToNat, s1, r4096, s3, r8208, s12, s13, s4, s18, s19, s5, s24, s25, hk', hk]
           exact ⟨i64c (by omega), ltS qqq (hd1 ⟨ha1, hb1⟩)⟩
         · skip
           simp (maxSteps := 10000000) (disch := first | assumption | omega) only [go_sem, ↓reduceIte, Nat.reduceEqDiff, reduceCtorEq, Nat.reduceAdd, Nat.reduceMul, Nat.reduceLeDiff, zfu, Int.mul_def, Int.add_def, zfv, cond_false, cond_true, isub, Int.reduceToNat, s1, r4096, s3, r8208, s12, s13, s4, s18, s19, s5, s24, s25, hk', hk, ha1', hb1, hdi, hdj]
           refine FIN_of (by kernel_rfl) ?_
           simp (maxSteps := 10000000) (disch := first | assumption | omega) only [go_sem, ↓reduceIte, Nat.reduceEqDiff, reduceCtorEq, Nat.reduceAdd, Nat.reduceMul, Nat.reduceLeDiff, zfu, Int.mul_def, Int.add_def, zfv, cond_false, cond_true, isub, Int.reduceToNat, s1, r4096, s3, r8208, s12, s13, s4, s18, s19, s5, s24, s25, hk', hk]
           simp only [zbj, zbk, retR, resL, outT, zes, zez, oneV, ↓zcy, ↓zcz, ↓reduceIte, Nat.reduceEqDiff, Option.some.injEq, AV.sc.injEq, Value.bool.injEq, Value.int.injEq, outL, outT, zft, zcp, zed, zef, zei, zeh, List.length_cons, List.length_nil, Nat.reduceAdd, Nat.zero_add, Nat.reduceLeDiff, List.drop_zero, List.take_succ_cons, List.take_zero, zfi, zfh, Ro.dl, zdb, zda, zfe, and_self, and_true, true_and, eq_self, List.append_nil, List.nil_append, List.cons_append, ne_eq, not_false_eq_true, and_false, false_and, Bool.false_eq_true, St.ev, zes, zfn, zhk, List.length_map, hd2 (fun h => hb1 h.2)]
           rfl
       · skip
         simp (maxSteps := 10000000) (disch := first | assumption | omega) only [go_sem, ↓reduceIte, Nat.reduceEqDiff, reduceCtorEq, Nat.reduceAdd, Nat.reduceMul, Nat.reduceLeDiff, zfu, Int.mul_def, Int.add_def, zfv, cond_false, cond_true, isub, Int.reduceToNat, s1, r4096, s3, r8208, s12, s13, s4, s18, s19, s5, s24, s25, hk', hk, ha1, hdi, hdj]
         refine FIN_of (by kernel_rfl) ?_
         simp (maxSteps := 10000000) (disch := first | assumption | omega) only [go_sem, ↓reduceIte, Nat.reduceEqDiff, reduceCtorEq, Nat.reduceAdd, Nat.reduceMul, Nat.reduceLeDiff, zfu, Int.mul_def, Int.add_def, zfv, cond_false, cond_true, isub, Int.reduceToNat, s1, r4096, s3, r8208, s12, s13, s4, s18, s19, s5, s24, s25, hk', hk]
         simp only [zbj, zbk, retR, resL, outT, zes, zez, oneV, ↓zcy, ↓zcz, ↓reduceIte, Nat.reduceEqDiff, Option.some.injEq, AV.sc.injEq, Value.bool.injEq, Value.int.injEq, outL, outT, zft, zcp, zed, zef, zei, zeh, List.length_cons, List.length_nil, Nat.reduceAdd, Nat.zero_add, Nat.reduceLeDiff, List.drop_zero, List.take_succ_cons, List.take_zero, zfi, zfh, Ro.dl, zdb, zda, zfe, and_self, and_true, true_and, eq_self, List.append_nil, List.nil_append, List.cons_append, ne_eq, not_false_eq_true, and_false, false_and, Bool.false_eq_true, St.ev, zes, zfn, zhk, List.length_map, hd2 (fun h => ha1 h.1)]
         rfl
     · rintro sl ro gn ⟨s1, r4096, s3, r8208, s12, s13, s4, s18, s19, s5, s24, s25, qqq⟩
       dsimp only at s1 r4096 s3 r8208 s12 s13 s4 s18 s19 s5 s24 s25
       have hk' : ¬ ((T.length : Nat) : Int) < (T.length : Nat) := by omega
       simp (maxSteps := 10000000) (disch := first | assumption | omega) only [go_sem, ↓reduceIte, Nat.reduceEqDiff, reduceCtorEq, Nat.reduceAdd, Nat.reduceMul, Nat.reduceLeDiff, zfu, Int.mul_def, Int.add_def, zfv, cond_false, cond_true, isub, Int.reduceToNat, s1, r4096, s3, r8208, s12, s13, s4, s18, s19, s5, s24, s25, hk']
       exact ⟨i64c (by omega), ltS qq (fnd_none.2 qqq)⟩
   · rintro sl ro gn ⟨s1, r4096, s3, r8208, s12, s13, s4, s18, s19, qq⟩
     dsimp only at s1 r4096 s3 r8208 s12 s13 s4 s18 s19
     have hj' : ¬ ((T.length : Nat) : Int) < (T.length : Nat) := by omega
     simp (maxSteps := 10000000) (disch := first | assumption | omega) only [go_sem, ↓reduceIte, Nat.reduceEqDiff, reduceCtorEq, Nat.reduceAdd, Nat.reduceMul, Nat.reduceLeDiff, zfu, Int.mul_def, Int.add_def, zfv, cond_false, cond_true, isub, Int.reduceToNat, s1, r4096, s3, r8208, s12, s13, s4, s18, s19, hj']
     exact ⟨i64c (by omega), ltS q (fnd_none.2 qq)⟩
 · rintro sl ro gn ⟨s1, r4096, s3, r8208, s12, s13, q⟩
   dsimp only at s1 r4096 s3 r8208 s12 s13
   have hi' : ¬ ((T.length : Nat) : Int) < (T.length : Nat) := by omega
   have e : F3 T = none := fnd_none.2 q
   simp (maxSteps := 10000000) (disch := first | assumption | omega) only [go_sem, ↓reduceIte, Nat.reduceEqDiff, reduceCtorEq, Nat.reduceAdd, Nat.reduceMul, Nat.reduceLeDiff, zfu, Int.mul_def, Int.add_def, zfv, cond_false, cond_true, isub, Int.reduceToNat, s1, r4096, s3, r8208, s12, s13, hi']
   simp only [zbj, zbk, retR, resL, outT, zes, zez, oneV, ↓zcy, ↓zcz, ↓reduceIte, Nat.reduceEqDiff, Option.some.injEq, AV.sc.injEq, Value.bool.injEq, Value.int.injEq, outL, outT, zft, zcp, zed, zef, zei, zeh, List.length_cons, List.length_nil, Nat.reduceAdd, Nat.zero_add, Nat.reduceLeDiff, List.drop_zero, List.take_succ_cons, List.take_zero, zfi, zfh, Ro.dl, zdb, zda, zfe, and_self, and_true, true_and, eq_self, List.append_nil, List.nil_append, List.cons_append, ne_eq, not_false_eq_true, and_false, false_and, Bool.false_eq_true, St.ev, zes, zfn, zhk, List.length_map, e]
   rfl
end Go.Proofs.YtgcnmlecihegcaaGreat
/- The program's rings: brackets; what is a ring. -/
namespace Go.Proofs.YtgcnmlecihegcaaGreat
open Go.RowKit
set_option maxRecDepth 1000000
theorem c164 {a : AV} {T : List (List (List Int))} (ha : isLLL a T) (hc : CubeP T) : CallOK Tryz.prog 122 [.agg [a]] (optA (F4 T)) := by
 have hc0 := hc
 obtain ⟨h1, h2, h3⟩ := hc
 refine call_of (fn := Tryz.f122) (code := bodyOf Tryz.f122) Tryz.func122 rfl (by kernel_rfl) (noRef_optA _) ?_
 intro sl hs
 have s0 : sl 0 = .agg [a] := hs 0
 dsimp only [Tryz.f122, bodyOf, Option.getD]
 simp (maxSteps := 10000000) (disch := first | assumption | omega) only [go_sem, ↓reduceIte, Nat.reduceEqDiff, reduceCtorEq, Nat.reduceAdd, Nat.reduceMul, Nat.reduceLeDiff, zfu, Int.mul_def, Int.add_def, zfv, cond_false, cond_true, isub, Int.reduceToNat, s0]
 refine WK_for (fun i st => st.sl 1 = .ptr 4096 1 [] 0 ∧ st.ro 4096 1 = some (.bx [a]) ∧ st.sl 13 = a ∧ st.sl 14 = i64 (T.length : Int) ∧ st.sl 15 = i64 (i : Int) ∧ (∀ x, x < i → (fnd T.length fun j => fnd T.length fun k => fnd T.length fun l => p4 T x j k l) = none)) T.length ?_ ?_ ?_
 · simp only [↓zcy, ↓zcz, ↓zda, ↓zdb, ↓reduceIte, Nat.reduceEqDiff, and_true, true_and, and_self, ne_eq, not_false_eq_true, eq_self, false_and, and_false, reduceCtorEq, rws_zero, s0]
   exact ⟨rfl, lt0⟩
 · rintro i sl ro gn hi ⟨s1, r4096, s13, s14, s15, q⟩
   dsimp only at s1 r4096 s13 s14 s15
   have hi' : (i : Int) < (T.length : Nat) := by omega
   simp (maxSteps := 10000000) (disch := first | assumption | omega) only [go_sem, ↓reduceIte, Nat.reduceEqDiff, reduceCtorEq, Nat.reduceAdd, Nat.reduceMul, Nat.reduceLeDiff, zfu, Int.mul_def, Int.add_def, zfv, cond_false, cond_true, isub, Int.reduceToNat, s1, r4096, s13, s14, s15, hi', hi]
   have hA := isLLL_mat ha hi
   refine WK_for (fun j st => st.sl 1 = .ptr 4096 1 [] 0 ∧ st.ro 4096 1 = some (.bx [a]) ∧ st.sl 13 = a ∧ st.sl 14 = i64 (T.length : Int) ∧ st.sl 15 = i64 (i : Int) ∧ st.sl 3 = i64 (i : Int) ∧ st.sl 4 = atA a i ∧ st.sl 21 = a ∧ st.sl 22 = i64 (T.length : Int) ∧ st.sl 23 = i64 (j : Int) ∧ (∀ x, x < j → (fnd T.length fun k => fnd T.length fun l => p4 T i x k l) = none)) T.length ?_ ?_ ?_
   · simp only [↓zcy, ↓zcz, ↓zda, ↓zdb, ↓reduceIte, Nat.reduceEqDiff, and_true, true_and, and_self, ne_eq, not_false_eq_true, eq_self, false_and, and_false, reduceCtorEq, rws_zero, s1, r4096, s13, s14, s15, hi', hi]
     exact ⟨rfl, lt0⟩
   · rintro j sl ro gn hj ⟨s1, r4096, s13, s14, s15, s3, s4, s21, s22, s23, qq⟩
     dsimp only at s1 r4096 s13 s14 s15 s3 s4 s21 s22 s23
     have hj' : (j : Int) < (T.length : Nat) := by omega
     simp (maxSteps := 10000000) (disch := first | assumption | omega) only [go_sem, ↓reduceIte, Nat.reduceEqDiff, reduceCtorEq, Nat.reduceAdd, Nat.reduceMul, Nat.reduceLeDiff, zfu, Int.mul_def, Int.add_def, zfv, cond_false, cond_true, isub, Int.reduceToNat, s1, r4096, s13, s14, s15, s3, s4, s21, s22, s23, hj', hj]
     have hB := isLLL_mat ha hj
     refine WK_for (fun k st => st.sl 1 = .ptr 4096 1 [] 0 ∧ st.ro 4096 1 = some (.bx [a]) ∧ st.sl 13 = a ∧ st.sl 14 = i64 (T.length : Int) ∧ st.sl 15 = i64 (i : Int) ∧ st.sl 3 = i64 (i : Int) ∧ st.sl 4 = atA a i ∧ st.sl 21 = a ∧ st.sl 22 = i64 (T.length : Int) ∧ st.sl 23 = i64 (j : Int) ∧ st.sl 5 = i64 (j : Int) ∧ st.sl 6 = atA a j ∧ st.sl 30 = i64 (T.length : Int) ∧ st.sl 31 = i64 (k : Int) ∧ (∀ x, x < k → (fnd T.length fun l => p4 T i j x l) = none)) T.length ?_ ?_ ?_
     · simp only [↓zcy, ↓zcz, ↓zda, ↓zdb, ↓reduceIte, Nat.reduceEqDiff, and_true, true_and, and_self, ne_eq, not_false_eq_true, eq_self, false_and, and_false, reduceCtorEq, rws_zero, s1, r4096, s13, s14, s15, s3, s4, s21, s22, s23, hj', hj]
       exact ⟨rfl, lt0⟩
     · rintro k sl ro gn hk ⟨s1, r4096, s13, s14, s15, s3, s4, s21, s22, s23, s5, s6, s30, s31, q3⟩
       dsimp only at s1 r4096 s13 s14 s15 s3 s4 s21 s22 s23 s5 s6 s30 s31
       have hk' : (k : Int) < (T.length : Nat) := by omega
       simp (maxSteps := 10000000) (disch := first | assumption | omega) only [go_sem, ↓reduceIte, Nat.reduceEqDiff, reduceCtorEq, Nat.reduceAdd, Nat.reduceMul, Nat.reduceLeDiff, zfu, Int.mul_def, Int.add_def, zfv, cond_false, cond_true, isub, Int.reduceToNat, s1, r4096, s13, s14, s15, s3, s4, s21, s22, s23, s5, s6, s30, s31, hk', hk]
       refine WK_for (fun l st => st.sl 1 = .ptr 4096 1 [] 0 ∧ st.ro 4096 1 = some (.bx [a]) ∧ st.sl 13 = a ∧ st.sl 14 = i64 (T.length : Int) ∧ st.sl 15 = i64 (i : Int) ∧ st.sl 3 = i64 (i : Int) ∧ st.sl 4 = atA a i ∧ st.sl 21 = a ∧ st.sl 22 = i64 (T.length : Int) ∧ st.sl 23 = i64 (j : Int) ∧ st.sl 5 = i64 (j : Int) ∧ st.sl 6 = atA a j ∧ st.sl 30 = i64 (T.length : Int) ∧ st.sl 31 = i64 (k : Int) ∧ st.sl 7 = i64 (k : Int) ∧ st.sl 36 = i64 (T.length : Int) ∧ st.sl 37 = i64 (l : Int) ∧ (∀ x, x < l → p4 T i j k x = none)) T.length ?_ ?_ ?_
       · simp only [↓zcy, ↓zcz, ↓zda, ↓zdb, ↓reduceIte, Nat.reduceEqDiff, and_true, true_and, and_self, ne_eq, not_false_eq_true, eq_self, false_and, and_false, reduceCtorEq, rws_zero, s1, r4096, s13, s14, s15, s3, s4, s21, s22, s23, s5, s6, s30, s31, hk', hk]
         exact ⟨rfl, lt0⟩
       · rintro l sl ro gn hl ⟨s1, r4096, s13, s14, s15, s3, s4, s21, s22, s23, s5, s6, s30, s31, s7, s36, s37, q4⟩
         dsimp only at s1 r4096 s13 s14 s15 s3 s4 s21 s22 s23 s5 s6 s30 s31 s7 s36 s37
         have hl' : (l : Int) < (T.length : Nat) := by omega
         simp (maxSteps := 10000000) (disch := first | assumption | omega) only [go_sem, ↓reduceIte, Nat.reduceEqDiff, reduceCtorEq, Nat.reduceAdd, Nat.reduceMul, Nat.reduceLeDiff, zfu, Int.mul_def, Int.add_def, zfv, cond_false, cond_true, isub, Int.reduceToNat, s1, r4096, s13, s14, s15, s3, s4, s21, s22, s23, s5, s6, s30, s31, s7, s36, s37, hl', hl]
         refine WK_for (fun m st => st.sl 1 = .ptr 4096 1 [] 0 ∧ st.ro 4096 1 = some (.bx [a]) ∧ st.sl 13 = a ∧ st.sl 14 = i64 (T.length : Int) ∧ st.sl 15 = i64 (i : Int) ∧ st.sl 3 = i64 (i : Int) ∧ st.sl 4 = atA a i ∧ st.sl 21 = a ∧ st.sl 22 = i64 (T.length : Int) ∧ st.sl 23 = i64 (j : Int) ∧ st.sl 5 = i64 (j : Int) ∧ st.sl 6 = atA a j ∧ st.sl 30 = i64 (T.length : Int) ∧ st.sl 31 = i64 (k : Int) ∧ st.sl 7 = i64 (k : Int) ∧ st.sl 36 = i64 (T.length : Int) ∧ st.sl 37 = i64 (l : Int) ∧ st.sl 8 = i64 (l : Int) ∧ st.sl 9 = i64 (sm (lft T i j k l) m) ∧ st.sl 10 = i64 (sm (rgt T i j k l) m) ∧ st.sl 42 = i64 (T.length : Int) ∧ st.sl 43 = i64 (m : Int)) T.length ?_ ?_ ?_
         · simp only [↓zcy, ↓zcz, ↓zda, ↓zdb, ↓reduceIte, Nat.reduceEqDiff, and_true, true_and, and_self, ne_eq, not_false_eq_true, eq_self, false_and, and_false, reduceCtorEq, rws_zero, s1, r4096, s13, s14, s15, s3, s4, s21, s22, s23, s5, s6, s30, s31, s7, s36, s37, hl', hl]
           exact ⟨rfl, rfl, rfl⟩
         · rintro m sl ro gn hm ⟨s1, r4096, s13, s14, s15, s3, s4, s21, s22, s23, s5, s6, s30, s31, s7, s36, s37, s8, s9, s10, s42, s43⟩
           dsimp only at s1 r4096 s13 s14 s15 s3 s4 s21 s22 s23 s5 s6 s30 s31 s7 s36 s37 s8 s9 s10 s42 s43
           have hm' : (m : Int) < (T.length : Nat) := by omega
           have hC := isLLL_mat ha hm
           have hA1 := (h3 i hi).1
           have hB1 := (h3 j hj).1
           have hC1 := (h3 m hm).1
           have hA2 := isLL_row hA (k := j) (by omega)
           have hA3 := isLL_row hA (k := m) (by omega)
           have hB2 := isLL_row hB (k := k) (by omega)
           have hC2 := isLL_row hC (k := k) (by omega)
           have hA4 := ((h3 i hi).2 j hj).1
           have hA5 := ((h3 i hi).2 m hm).1
           have hB4 := ((h3 j hj).2 k hk).1
           have hC4 := ((h3 m hm).2 k hk).1
           have b1 := sm_bnd (lft_bnd hc0 i j k l) m
           have b2 := sm_bnd (rgt_bnd hc0 i j k l) m
           have b3 : 0 ≤ atI (row (mat T i) j) m * atI (row (mat T m) k) l ∧ _ := lft_bnd hc0 i j k l m
           have b4 : 0 ≤ atI (row (mat T j) k) m * atI (row (mat T i) m) l ∧ _ := rgt_bnd hc0 i j k l m
           have b5 : atI (row (mat T i) j) m * atI (row (mat T m) k) l ≤ 1000000 := (lft_bnd hc0 i j k l m).2
           have b6 : atI (row (mat T j) k) m * atI (row (mat T i) m) l ≤ 1000000 := (rgt_bnd hc0 i j k l m).2
           simp (maxSteps := 10000000) (disch := first | assumption | omega) only [go_sem, ↓reduceIte, Nat.reduceEqDiff, reduceCtorEq, Nat.reduceAdd, Nat.reduceMul, Nat.reduceLeDiff, zfu, Int.mul_def, Int.add_def, zfv, cond_false, cond_true, isub, Int.reduceToNat, s1, r4096, s13, s14, s15, s3, s4, s21, s22, s23, s5, s6, s30, s31, s7, s36, s37, s8, s9, s10, s42, s43, hm', hm]
           refine FIN_of (by kernel_rfl) ?_
           simp (maxSteps := 10000000) (disch := first | assumption | omega) only [go_sem, ↓reduceIte, Nat.reduceEqDiff, reduceCtorEq, Nat.reduceAdd, Nat.reduceMul, Nat.reduceLeDiff, zfu, Int.mul_def, Int.add_def, zfv, cond_false, cond_true, isub, Int.reduceToNat, s1, r4096, s13, s14, s15, s3, s4, s21, s22, s23, s5, s6, s30, s31, s7, s36, s37, s8, s9, s10, s42, s43, hm', hm]
           refine FIN_of (by kernel_rfl) ?_
           simp (maxSteps := 10000000) (disch := first | assumption | omega) only [go_sem, ↓reduceIte, Nat.reduceEqDiff, reduceCtorEq, Nat.reduceAdd, Nat.reduceMul, Nat.reduceLeDiff, zfu, Int.mul_def, Int.add_def, zfv, cond_false, cond_true, isub, Int.reduceToNat, s1, r4096, s13, s14, s15, s3, s4, s21, s22, s23, s5, s6, s30, s31, s7, s36, s37, s8, s9, s10, s42, s43, hm', hm]
           exact ⟨i64c rfl, i64c rfl, i64c (by omega)⟩
         · rintro sl ro gn ⟨s1, r4096, s13, s14, s15, s3, s4, s21, s22, s23, s5, s6, s30, s31, s7, s36, s37, s8, s9, s10, s42, s43⟩
           dsimp only at s1 r4096 s13 s14 s15 s3 s4 s21 s22 s23 s5 s6 s30 s31 s7 s36 s37 s8 s9 s10 s42 s43
           have hm' : ¬ ((T.length : Nat) : Int) < (T.length : Nat) := by omega
           have hd : (sm (lft T i j k l) T.length = sm (rgt T i j k l) T.length → p4 T i j k l = none) ∧ (¬ sm (lft T i j k l) T.length = sm (rgt T i j k l) T.length → F4 T = some [3, (i : Int), (j : Int), (k : Int), (l : Int)]) :=
             ⟨fun h => if_pos h, fun h => (fnd_some (k := i) (fnd_some (k := j) (fnd_some (k := k) (fnd_some (k := l) (if_neg h) q4 hl) q3 hk) qq hj) q hi)⟩
           simp (maxSteps := 10000000) (disch := first | assumption | omega) only [go_sem, ↓reduceIte, Nat.reduceEqDiff, reduceCtorEq, Nat.reduceAdd, Nat.reduceMul, Nat.reduceLeDiff, zfu, Int.mul_def, Int.add_def, zfv, cond_false, cond_true, isub, Int.reduceToNat, s1, r4096, s13, s14, s15, s3, s4, s21, s22, s23, s5, s6, s30, s31, s7, s36, s37, s8, s9, s10, s42, s43, hm']
           refine ⟨fun h => ?_, fun h => ?_⟩
           · exact ⟨i64c (by omega), ltS q4 (hd.1 h)⟩
           · skip
             simp only [zbj, zbk, retR, resL, outT, zes, zez, oneV, ↓zcy, ↓zcz, ↓reduceIte, Nat.reduceEqDiff, Option.some.injEq, AV.sc.injEq, Value.bool.injEq, Value.int.injEq, outL, outT, zft, zcp, zed, zef, zei, zeh, List.length_cons, List.length_nil, Nat.reduceAdd, Nat.zero_add, Nat.reduceLeDiff, List.drop_zero, List.take_succ_cons, List.take_zero, zfi, zfh, Ro.dl, zdb, zda, zfe, and_self, and_true, true_and, eq_self, List.append_nil, List.nil_append, List.cons_append, ne_eq, not_false_eq_true, and_false, false_and, Bool.false_eq_true, St.ev, zes, zfn, zhk, List.length_map, hd.2 h]
             rfl
       · rintro sl ro gn ⟨s1, r4096, s13, s14, s15, s3, s4, s21, s22, s23, s5, s6, s30, s31, s7, s36, s37, q4⟩
         dsimp only at s1 r4096 s13 s14 s15 s3 s4 s21 s22 s23 s5 s6 s30 s31 s7 s36 s37
         have hl' : ¬ ((T.length : Nat) : Int) < (T.length : Nat) := by omega
         simp (maxSteps := 10000000) (disch := first | assumption | omega) only [go_sem, ↓reduceIte, Nat.reduceEqDiff, reduceCtorEq, Nat.reduceAdd, Nat.reduceMul, Nat.reduceLeDiff, zfu, Int.mul_def, Int.add_def, zfv, cond_false, cond_true, isub, Int.reduceToNat, s1, r4096, s13, s14, s15, s3, s4, s21, s22, s23, s5, s6, s30, s31, s7, s36, s37, hl']
         exact ⟨i64c (by omega), ltS q3 (fnd_none.2 q4)⟩
     · rintro sl ro gn ⟨s1, r4096, s13, s14, s15, s3, s4, s21, s22, s23, s5, s6, s30, s31, q3⟩
       dsimp only at s1 r4096 s13 s14 s15 s3 s4 s21 s22 s23 s5 s6 s30 s31
       have hk' : ¬ ((T.length : Nat) : Int) < (T.length : Nat) := by omega
       simp (maxSteps := 10000000) (disch := first | assumption | omega) only [go_sem, ↓reduceIte, Nat.reduceEqDiff, reduceCtorEq, Nat.reduceAdd, Nat.reduceMul, Nat.reduceLeDiff, zfu, Int.mul_def, Int.add_def, zfv, cond_false, cond_true, isub, Int.reduceToNat, s1, r4096, s13, s14, s15, s3, s4, s21, s22, s23, s5, s6, s30, s31, hk']
       exact ⟨i64c (by omega), ltS qq (fnd_none.2 q3)⟩
   · rintro sl ro gn ⟨s1, r4096, s13, s14, s15, s3, s4, s21, s22, s23, qq⟩
     dsimp only at s1 r4096 s13 s14 s15 s3 s4 s21 s22 s23
     have hj' : ¬ ((T.length : Nat) : Int) < (T.length : Nat) := by omega
     simp (maxSteps := 10000000) (disch := first | assumption | omega) only [go_sem, ↓reduceIte, Nat.reduceEqDiff, reduceCtorEq, Nat.reduceAdd, Nat.reduceMul, Nat.reduceLeDiff, zfu, Int.mul_def, Int.add_def, zfv, cond_false, cond_true, isub, Int.reduceToNat, s1, r4096, s13, s14, s15, s3, s4, s21, s22, s23, hj']
     exact ⟨i64c (by omega), ltS q (fnd_none.2 qq)⟩
 · rintro sl ro gn ⟨s1, r4096, s13, s14, s15, q⟩
   dsimp only at s1 r4096 s13 s14 s15
   have hi' : ¬ ((T.length : Nat) : Int) < (T.length : Nat) := by omega
   have e : F4 T = none := fnd_none.2 q
   simp (maxSteps := 10000000) (disch := first | assumption | omega) only [go_sem, ↓reduceIte, Nat.reduceEqDiff, reduceCtorEq, Nat.reduceAdd, Nat.reduceMul, Nat.reduceLeDiff, zfu, Int.mul_def, Int.add_def, zfv, cond_false, cond_true, isub, Int.reduceToNat, s1, r4096, s13, s14, s15, hi']
   simp only [zbj, zbk, retR, resL, outT, zes, zez, oneV, ↓zcy, ↓zcz, ↓reduceIte, Nat.reduceEqDiff, Option.some.injEq, AV.sc.injEq, Value.bool.injEq, Value.int.injEq, outL, outT, zft, zcp, zed, zef, zei, zeh, List.length_cons, List.length_nil, Nat.reduceAdd, Nat.zero_add, Nat.reduceLeDiff, List.drop_zero, List.take_succ_cons, List.take_zero, zfi, zfh, Ro.dl, zdb, zda, zfe, and_self, and_true, true_and, eq_self, List.append_nil, List.nil_append, List.cons_append, ne_eq, not_false_eq_true, and_false, false_and, Bool.false_eq_true, St.ev, zes, zfn, zhk, List.length_map, e]
   rfl
section
variable {ro : Ro} {s g o n : Nat} {p : List Nat} {cs : List AV} {a1 : Nat} {a2 : Bool} {a3 : List Value} {e : Nat} {a5 : List (Nat × Nat)} {a6 : Option IntKind} {a7 a8 : Bool}
theorem kB_neR : kBin0 (some ⟨a1, a2, a3, some e, a5, a6, a7, a8⟩) ro .neq (.ref s g p o n) (.sc (.slice none 0 0)) = if (ro.cells s g p).isSome = true then some ⟨bo true, none, [], []⟩ else none := nr _
theorem kB_eqR : kBin0 (some ⟨a1, a2, a3, some e, a5, a6, a7, a8⟩) ro .eql (.ref s g p o n) (.sc (.slice none 0 0)) = if (ro.cells s g p).isSome = true then some ⟨bo false, none, [], []⟩ else none := nr _
theorem kB_neI : kBin0 (some ⟨a1, a2, a3, some e, a5, a6, a7, a8⟩) ro .neq (.imm cs) (.sc (.slice none 0 0)) = some ⟨bo true, none, [], []⟩ := nr _
theorem kB_eqI : kBin0 (some ⟨a1, a2, a3, some e, a5, a6, a7, a8⟩) ro .eql (.imm cs) (.sc (.slice none 0 0)) = some ⟨bo false, none, [], []⟩ := nr _
theorem kB_neN : kBin0 (some ⟨a1, a2, a3, some e, a5, a6, a7, a8⟩) ro .neq (.sc (.slice none 0 0)) (.sc (.slice none 0 0)) = some ⟨bo false, none, [], []⟩ := nr _
theorem kB_eqN : kBin0 (some ⟨a1, a2, a3, some e, a5, a6, a7, a8⟩) ro .eql (.sc (.slice none 0 0)) (.sc (.slice none 0 0)) = some ⟨bo true, none, [], []⟩ := nr _
theorem kBin_ref (i : Option TI) (op : BinOp) (y : AV) : kBin i ro op (.ref s g p o n) y = kBin0 i ro op (.ref s g p o n) y := nr _
theorem kBin_imm (i : Option TI) (op : BinOp) (y : AV) : kBin i ro op (.imm cs) y = kBin0 i ro op (.imm cs) y := nr _
theorem kBin_nil (i : Option TI) (op : BinOp) (y : AV) : kBin i ro op (.sc (.slice none 0 0)) (.sc (.slice none 0 0)) = kBin0 i ro op (.sc (.slice none 0 0)) (.sc (.slice none 0 0)) := nr _
end
attribute [go_sem] kB_neR kB_eqR kB_neI kB_eqI kB_neN kB_eqN kBin_ref kBin_imm kBin_nil
theorem c146 {a : AV} {T : List (List (List Int))} (ha : isLLL a T) (hc : CubeP T) : CallOK Tryz.prog 76 [.agg [a]] (optA (RF T)) := by
 have c1 := c161 ha hc
 have c4 := c164 ha hc
 obtain ⟨z, hz⟩ := F2Z_ex T
 have c2 := c162 ha hc hz
 refine call_of (fn := Tryz.f76) (code := bodyOf Tryz.f76) Tryz.func76 rfl (by kernel_rfl) (noRef_optA _) ?_
 intro sl hs
 have s0 : sl 0 = .agg [a] := hs 0
 cases h1 : F1 T with
 | some v =>
   rw [h1] at c1
   dsimp only [Tryz.f76, bodyOf, Option.getD]
   simp (maxSteps := 10000000) (disch := first | assumption | omega) only [go_sem, ↓reduceIte, Nat.reduceEqDiff, reduceCtorEq, Nat.reduceAdd, Nat.reduceMul, Nat.reduceLeDiff, zfu, Int.mul_def, Int.add_def, zfv, cond_false, cond_true, isub, Int.reduceToNat, s0]
   refine CLL_pure _ c1 (by simp (disch := assumption) only [pureL, pureA, isL_pure, isLL_pure, isLLL_pure, pureL_map, Bool.and_self, Bool.and_true]) rfl rfl ?_
   simp (maxSteps := 10000000) (disch := first | assumption | omega) only [go_sem, ↓reduceIte, Nat.reduceEqDiff, reduceCtorEq, Nat.reduceAdd, Nat.reduceMul, Nat.reduceLeDiff, zfu, Int.mul_def, Int.add_def, zfv, cond_false, cond_true, isub, Int.reduceToNat, s0, optA]
   simp only [zbj, zbk, retR, resL, outT, zes, zez, oneV, ↓zcy, ↓zcz, ↓reduceIte, Nat.reduceEqDiff, Option.some.injEq, AV.sc.injEq, Value.bool.injEq, Value.int.injEq, outL, outT, zft, zcp, zed, zef, zei, zeh, List.length_cons, List.length_nil, Nat.reduceAdd, Nat.zero_add, Nat.reduceLeDiff, List.drop_zero, List.take_succ_cons, List.take_zero, zfi, zfh, Ro.dl, zdb, zda, zfe, and_self, and_true, true_and, eq_self, List.append_nil, List.nil_append, List.cons_append, ne_eq, not_false_eq_true, and_false, false_and, Bool.false_eq_true, St.ev, zes, zfn, zhk, List.length_map, RF1 h1, optA]
 | none =>
   rw [h1] at c1
   dsimp only [Tryz.f76, bodyOf, Option.getD]
   simp (maxSteps := 10000000) (disch := first | assumption | omega) only [go_sem, ↓reduceIte, Nat.reduceEqDiff, reduceCtorEq, Nat.reduceAdd, Nat.reduceMul, Nat.reduceLeDiff, zfu, Int.mul_def, Int.add_def, zfv, cond_false, cond_true, isub, Int.reduceToNat, s0]
   refine CLL_pure _ c1 (by simp (disch := assumption) only [pureL, pureA, isL_pure, isLL_pure, isLLL_pure, pureL_map, Bool.and_self, Bool.and_true]) rfl rfl ?_
   simp (maxSteps := 10000000) (disch := first | assumption | omega) only [go_sem, ↓reduceIte, Nat.reduceEqDiff, reduceCtorEq, Nat.reduceAdd, Nat.reduceMul, Nat.reduceLeDiff, zfu, Int.mul_def, Int.add_def, zfv, cond_false, cond_true, isub, Int.reduceToNat, s0, optA]
   refine CLL_pure _ c2 (by simp (disch := assumption) only [pureL, pureA, isL_pure, isLL_pure, isLLL_pure, pureL_map, Bool.and_self, Bool.and_true]) rfl rfl ?_
   rcases hz with ⟨h2, rfl⟩ | ⟨i, h2, rfl⟩
   · have c3 := c163 ha hc h2
     cases h3 : F3 T with
     | some v =>
       rw [h3] at c3
       simp (maxSteps := 10000000) (disch := first | assumption | omega) only [go_sem, ↓reduceIte, Nat.reduceEqDiff, reduceCtorEq, Nat.reduceAdd, Nat.reduceMul, Nat.reduceLeDiff, zfu, Int.mul_def, Int.add_def, zfv, cond_false, cond_true, isub, Int.reduceToNat, s0]
       refine CLL_pure _ c3 (by simp (disch := assumption) only [pureL, pureA, isL_pure, isLL_pure, isLLL_pure, pureL_map, Bool.and_self, Bool.and_true]) rfl rfl ?_
       simp (maxSteps := 10000000) (disch := first | assumption | omega) only [go_sem, ↓reduceIte, Nat.reduceEqDiff, reduceCtorEq, Nat.reduceAdd, Nat.reduceMul, Nat.reduceLeDiff, zfu, Int.mul_def, Int.add_def, zfv, cond_false, cond_true, isub, Int.reduceToNat, s0, optA]
       simp only [zbj, zbk, retR, resL, outT, zes, zez, oneV, ↓zcy, ↓zcz, ↓reduceIte, Nat.reduceEqDiff, Option.some.injEq, AV.sc.injEq, Value.bool.injEq, Value.int.injEq, outL, outT, zft, zcp, zed, zef, zei, zeh, List.length_cons, List.length_nil, Nat.reduceAdd, Nat.zero_add, Nat.reduceLeDiff, List.drop_zero, List.take_succ_cons, List.take_zero, zfi, zfh, Ro.dl, zdb, zda, zfe, and_self, and_true, true_and, eq_self, List.append_nil, List.nil_append, List.cons_append, ne_eq, not_false_eq_true, and_false, false_and, Bool.false_eq_true, St.ev, zes, zfn, zhk, List.length_map, RF3 h1 h2 h3, optA]
     | none =>
       rw [h3] at c3
       rw [RF4 h1 h2 h3]
       simp (maxSteps := 10000000) (disch := first | assumption | omega) only [go_sem, ↓reduceIte, Nat.reduceEqDiff, reduceCtorEq, Nat.reduceAdd, Nat.reduceMul, Nat.reduceLeDiff, zfu, Int.mul_def, Int.add_def, zfv, cond_false, cond_true, isub, Int.reduceToNat, s0]
       refine CLL_pure _ c3 (by simp (disch := assumption) only [pureL, pureA, isL_pure, isLL_pure, isLLL_pure, pureL_map, Bool.and_self, Bool.and_true]) rfl rfl ?_
       simp (maxSteps := 10000000) (disch := first | assumption | omega) only [go_sem, ↓reduceIte, Nat.reduceEqDiff, reduceCtorEq, Nat.reduceAdd, Nat.reduceMul, Nat.reduceLeDiff, zfu, Int.mul_def, Int.add_def, zfv, cond_false, cond_true, isub, Int.reduceToNat, s0, optA]
       cases h4 : F4 T with
       | some v =>
         rw [h4] at c4
         refine CLL_pure _ c4 (by simp (disch := assumption) only [pureL, pureA, isL_pure, isLL_pure, isLLL_pure, pureL_map, Bool.and_self, Bool.and_true]) rfl rfl ?_
         simp (maxSteps := 10000000) (disch := first | assumption | omega) only [go_sem, ↓reduceIte, Nat.reduceEqDiff, reduceCtorEq, Nat.reduceAdd, Nat.reduceMul, Nat.reduceLeDiff, zfu, Int.mul_def, Int.add_def, zfv, cond_false, cond_true, isub, Int.reduceToNat, s0, optA]
         simp only [zbj, zbk, retR, resL, outT, zes, zez, oneV, ↓zcy, ↓zcz, ↓reduceIte, Nat.reduceEqDiff, Option.some.injEq, AV.sc.injEq, Value.bool.injEq, Value.int.injEq, outL, outT, zft, zcp, zed, zef, zei, zeh, List.length_cons, List.length_nil, Nat.reduceAdd, Nat.zero_add, Nat.reduceLeDiff, List.drop_zero, List.take_succ_cons, List.take_zero, zfi, zfh, Ro.dl, zdb, zda, zfe, and_self, and_true, true_and, eq_self, List.append_nil, List.nil_append, List.cons_append, ne_eq, not_false_eq_true, and_false, false_and, Bool.false_eq_true, St.ev, zes, zfn, zhk, List.length_map, optA]
       | none =>
         rw [h4] at c4
         refine CLL_pure _ c4 (by simp (disch := assumption) only [pureL, pureA, isL_pure, isLL_pure, isLLL_pure, pureL_map, Bool.and_self, Bool.and_true]) rfl rfl ?_
         simp (maxSteps := 10000000) (disch := first | assumption | omega) only [go_sem, ↓reduceIte, Nat.reduceEqDiff, reduceCtorEq, Nat.reduceAdd, Nat.reduceMul, Nat.reduceLeDiff, zfu, Int.mul_def, Int.add_def, zfv, cond_false, cond_true, isub, Int.reduceToNat, s0, optA]
         simp only [zbj, zbk, retR, resL, outT, zes, zez, oneV, ↓zcy, ↓zcz, ↓reduceIte, Nat.reduceEqDiff, Option.some.injEq, AV.sc.injEq, Value.bool.injEq, Value.int.injEq, outL, outT, zft, zcp, zed, zef, zei, zeh, List.length_cons, List.length_nil, Nat.reduceAdd, Nat.zero_add, Nat.reduceLeDiff, List.drop_zero, List.take_succ_cons, List.take_zero, zfi, zfh, Ro.dl, zdb, zda, zfe, and_self, and_true, true_and, eq_self, List.append_nil, List.nil_append, List.cons_append, ne_eq, not_false_eq_true, and_false, false_and, Bool.false_eq_true, St.ev, zes, zfn, zhk, List.length_map, optA]
   · skip
     simp (maxSteps := 10000000) (disch := first | assumption | omega) only [go_sem, ↓reduceIte, Nat.reduceEqDiff, reduceCtorEq, Nat.reduceAdd, Nat.reduceMul, Nat.reduceLeDiff, zfu, Int.mul_def, Int.add_def, zfv, cond_false, cond_true, isub, Int.reduceToNat, s0]
     simp only [zbj, zbk, retR, resL, outT, zes, zez, oneV, ↓zcy, ↓zcz, ↓reduceIte, Nat.reduceEqDiff, Option.some.injEq, AV.sc.injEq, Value.bool.injEq, Value.int.injEq, outL, outT, zft, zcp, zed, zef, zei, zeh, List.length_cons, List.length_nil, Nat.reduceAdd, Nat.zero_add, Nat.reduceLeDiff, List.drop_zero, List.take_succ_cons, List.take_zero, zfi, zfh, Ro.dl, zdb, zda, zfe, and_self, and_true, true_and, eq_self, List.append_nil, List.nil_append, List.cons_append, ne_eq, not_false_eq_true, and_false, false_and, Bool.false_eq_true, St.ev, zes, zfn, zhk, List.length_map, RF2 h1 h2, optA]
     rfl
theorem exq_fn {n f : Nat} {ro : Ro} {cs cs' : List AV} (h : exqL n ro cs cs') : exq (n + 1) ro (.fn f cs) (.fn f cs') := by
 refine ⟨fun k hk => ?_, fun hp => by rw [h.pureE (by simpa only [pureA] using hp)]⟩
 obtain ⟨j, rfl⟩ : ∃ j, k = j + 1 := ⟨k - 1, by omega⟩
 show AV.fn f (cs.map (ex ro j)) = _
 rw [h.mapE j (by omega)]
theorem exq_ptr {n s g : Nat} {ro : Ro} {v : Value} (h : ro s g = some (.bx [.sc v])) (hn : 2 ≤ n) : exq n ro (.ptr s g [] 0) (.iptr [.sc v]) := by
 refine ⟨fun k hk => ?_, fun hp => by simp [pureA] at hp⟩
 obtain ⟨j, rfl⟩ : ∃ j, k = j + 2 := ⟨k - 2, by omega⟩
 simp only [ex, zef, h, zei, List.drop_zero, List.map_cons, List.map_nil]
theorem c105g {a : AV} {T : List (List (List Int))} (ha : isLLL a T) (hT : T.length ≤ maxN) (hT2 : ∀ i, i < T.length → (mat T i).length ≤ maxN ∧ ∀ j, j < (mat T i).length → (row (mat T i) j).length ≤ maxN) {t : Bool} (ht : t = true ↔ CubeP T) : CallOK Tryz.prog 75 [.agg [a]] (bo t) := by
 have hT' : T.length ≤ 4294967296 := hT
 refine call_of (fn := Tryz.f75) (code := bodyOf Tryz.f75) Tryz.func75 rfl (by kernel_rfl) (rfl) ?_
 intro sl hs
 have s0 : sl 0 = .agg [a] := hs 0
 dsimp only [Tryz.f75, bodyOf, Option.getD]
 simp (maxSteps := 10000000) (disch := first | assumption | omega) only [go_sem, ↓reduceIte, Nat.reduceEqDiff, reduceCtorEq, Nat.reduceAdd, Nat.reduceMul, Nat.reduceLeDiff, zfu, Int.mul_def, Int.add_def, zfv, cond_false, cond_true, isub, Int.reduceToNat, s0]
 refine WK_for (fun i st => st.sl 1 = .ptr 4096 1 [] 0 ∧ st.ro 4096 1 = some (.bx [a]) ∧ st.sl 3 = .ptr 8240 1 [] 0 ∧ st.ro 8240 1 = some (.bx [i64 (T.length : Int)]) ∧ st.sl 10 = a ∧ st.sl 11 = i64 (T.length : Int) ∧ st.sl 12 = i64 (i : Int) ∧ (∀ x, x < i → (mat T x).length = T.length ∧ ∀ j, j < T.length → (row (mat T x) j).length = T.length ∧ ∀ k, k < T.length → 0 ≤ at3 T x j k ∧ at3 T x j k ≤ 1000)) T.length ?_ ?_ ?_
 · simp only [↓zcy, ↓zcz, ↓zda, ↓zdb, ↓reduceIte, Nat.reduceEqDiff, and_true, true_and, and_self, ne_eq, not_false_eq_true, eq_self, false_and, and_false, reduceCtorEq, rws_zero, s0]
   exact ⟨rfl, lt0⟩
 · rintro i sl ro gn hi ⟨s1, r4096, s3, r8240, s10, s11, s12, q⟩
   dsimp only at s1 r4096 s3 r8240 s10 s11 s12
   have hi' : (i : Int) < (T.length : Nat) := by omega
   have hm := isLLL_mat ha hi
   obtain ⟨hm1, hm2⟩ := hT2 i hi
   by_cases hl : (mat T i).length = T.length
   · by_cases hg : ∀ j, j < T.length → (row (mat T i) j).length = T.length ∧ ∀ k, k < T.length → 0 ≤ at3 T i j k ∧ at3 T i j k ≤ 1000
     · skip
       simp (maxSteps := 10000000) (disch := first | assumption | omega) only [go_sem, ↓reduceIte, Nat.reduceEqDiff, reduceCtorEq, Nat.reduceAdd, Nat.reduceMul, Nat.reduceLeDiff, zfu, Int.mul_def, Int.add_def, zfv, cond_false, cond_true, isub, Int.reduceToNat, s1, r4096, s3, r8240, s10, s11, s12, hi', hi]
       refine CLL_q _ (c127 (t := false) (g := 118) (caps := [.iptr [i64 (T.length : Nat)]]) (p := fun y => !(decide ((row (mat T i) y).length = T.length) && allW (row (mat T i) y) 0 1000)) hm hm1 rfl rfl (fun y hy => c128 (isLL_row hm hy) (hm2 y hy)) ?_) (.cons (exq_LL hm (by decide)) (.cons (exq_fn (.cons (exq_ptr r8240 (by decide)) .nil)) .nil)) rfl rfl rfl ?_
       · refine ⟨fun h => (by cases h), ?_⟩
         rintro ⟨y, hy, h⟩
         obtain ⟨g1, g2⟩ := hg y (by omega)
         have : allW (row (mat T i) y) 0 1000 = true := allW_iff.2 fun k hk => g2 k (by omega)
         simp [this, g1] at h
       · skip
         simp (maxSteps := 10000000) (disch := first | assumption | omega) only [go_sem, ↓reduceIte, Nat.reduceEqDiff, reduceCtorEq, Nat.reduceAdd, Nat.reduceMul, Nat.reduceLeDiff, zfu, Int.mul_def, Int.add_def, zfv, cond_false, cond_true, isub, Int.reduceToNat, s1, r4096, s3, r8240, s10, s11, s12, hi', hi]
         exact ⟨i64c (by omega), ltS q ⟨hl, hg⟩⟩
     · skip
       simp (maxSteps := 10000000) (disch := first | assumption | omega) only [go_sem, ↓reduceIte, Nat.reduceEqDiff, reduceCtorEq, Nat.reduceAdd, Nat.reduceMul, Nat.reduceLeDiff, zfu, Int.mul_def, Int.add_def, zfv, cond_false, cond_true, isub, Int.reduceToNat, s1, r4096, s3, r8240, s10, s11, s12, hi', hi]
       refine CLL_q _ (c127 (t := true) (g := 118) (caps := [.iptr [i64 (T.length : Nat)]]) (p := fun y => !(decide ((row (mat T i) y).length = T.length) && allW (row (mat T i) y) 0 1000)) hm hm1 rfl rfl (fun y hy => c128 (isLL_row hm hy) (hm2 y hy)) ?_) (.cons (exq_LL hm (by decide)) (.cons (exq_fn (.cons (exq_ptr r8240 (by decide)) .nil)) .nil)) rfl rfl rfl ?_
       · refine ⟨fun _ => ?_, fun _ => rfl⟩
         refine Classical.byContradiction fun hn => hg fun j hj => ?_
         have h1 : ¬ (!(decide ((row (mat T i) j).length = T.length) && allW (row (mat T i) j) 0 1000)) = true := fun h => hn ⟨j, by omega, h⟩
         simp only [Bool.not_eq_true', Bool.not_eq_false, Bool.and_eq_true, decide_eq_true_eq] at h1
         exact ⟨h1.1, fun k hk => allW_iff.1 h1.2 k (by omega)⟩
       · skip
         simp (maxSteps := 10000000) (disch := first | assumption | omega) only [go_sem, ↓reduceIte, Nat.reduceEqDiff, reduceCtorEq, Nat.reduceAdd, Nat.reduceMul, Nat.reduceLeDiff, zfu, Int.mul_def, Int.add_def, zfv, cond_false, cond_true, isub, Int.reduceToNat, s1, r4096, s3, r8240, s10, s11, s12, hi', hi]
         simp only [zbj, zbk, retR, resL, outT, zes, zez, oneV, ↓zcy, ↓zcz, ↓reduceIte, Nat.reduceEqDiff, Option.some.injEq, AV.sc.injEq, Value.bool.injEq, Value.int.injEq, outL, outT, zft, zcp, zed, zef, zei, zeh, List.length_cons, List.length_nil, Nat.reduceAdd, Nat.zero_add, Nat.reduceLeDiff, List.drop_zero, List.take_succ_cons, List.take_zero, zfi, zfh, Ro.dl, zdb, zda, zfe, and_self, and_true, true_and, eq_self, List.append_nil, List.nil_append, List.cons_append, ne_eq, not_false_eq_true, and_false, false_and, Bool.false_eq_true, St.ev, zes, zfn, zhk, List.length_map]
         exact bool_false ht fun h => hg (h.2.2 i hi).2
   · skip
     simp (maxSteps := 10000000) (disch := first | assumption | omega) only [go_sem, ↓reduceIte, Nat.reduceEqDiff, reduceCtorEq, Nat.reduceAdd, Nat.reduceMul, Nat.reduceLeDiff, zfu, Int.mul_def, Int.add_def, zfv, cond_false, cond_true, isub, Int.reduceToNat, s1, r4096, s3, r8240, s10, s11, s12, hi', hi]
     simp only [zbj, zbk, retR, resL, outT, zes, zez, oneV, ↓zcy, ↓zcz, ↓reduceIte, Nat.reduceEqDiff, Option.some.injEq, AV.sc.injEq, Value.bool.injEq, Value.int.injEq, outL, outT, zft, zcp, zed, zef, zei, zeh, List.length_cons, List.length_nil, Nat.reduceAdd, Nat.zero_add, Nat.reduceLeDiff, List.drop_zero, List.take_succ_cons, List.take_zero, zfi, zfh, Ro.dl, zdb, zda, zfe, and_self, and_true, true_and, eq_self, List.append_nil, List.nil_append, List.cons_append, ne_eq, not_false_eq_true, and_false, false_and, Bool.false_eq_true, St.ev, zes, zfn, zhk, List.length_map]
     exact bool_false ht fun h => hl (h.2.2 i hi).1
 · rintro sl ro gn ⟨s1, r4096, s3, r8240, s10, s11, s12, q⟩
   dsimp only at s1 r4096 s3 r8240 s10 s11 s12
   have hi' : ¬ ((T.length : Nat) : Int) < (T.length : Nat) := by omega
   by_cases h1 : (T.length : Int) < 1
   · skip
     simp (maxSteps := 10000000) (disch := first | assumption | omega) only [go_sem, ↓reduceIte, Nat.reduceEqDiff, reduceCtorEq, Nat.reduceAdd, Nat.reduceMul, Nat.reduceLeDiff, zfu, Int.mul_def, Int.add_def, zfv, cond_false, cond_true, isub, Int.reduceToNat, s1, r4096, s3, r8240, s10, s11, s12, hi']
     simp only [zbj, zbk, retR, resL, outT, zes, zez, oneV, ↓zcy, ↓zcz, ↓reduceIte, Nat.reduceEqDiff, Option.some.injEq, AV.sc.injEq, Value.bool.injEq, Value.int.injEq, outL, outT, zft, zcp, zed, zef, zei, zeh, List.length_cons, List.length_nil, Nat.reduceAdd, Nat.zero_add, Nat.reduceLeDiff, List.drop_zero, List.take_succ_cons, List.take_zero, zfi, zfh, Ro.dl, zdb, zda, zfe, and_self, and_true, true_and, eq_self, List.append_nil, List.nil_append, List.cons_append, ne_eq, not_false_eq_true, and_false, false_and, Bool.false_eq_true, St.ev, zes, zfn, zhk, List.length_map]
     exact bool_false ht fun h => by have := h.1; omega
   · by_cases h2 : (T.length : Int) ≤ 16
     · skip
       simp (maxSteps := 10000000) (disch := first | assumption | omega) only [go_sem, ↓reduceIte, Nat.reduceEqDiff, reduceCtorEq, Nat.reduceAdd, Nat.reduceMul, Nat.reduceLeDiff, zfu, Int.mul_def, Int.add_def, zfv, cond_false, cond_true, isub, Int.reduceToNat, s1, r4096, s3, r8240, s10, s11, s12, hi']
       simp only [zbj, zbk, retR, resL, outT, zes, zez, oneV, ↓zcy, ↓zcz, ↓reduceIte, Nat.reduceEqDiff, Option.some.injEq, AV.sc.injEq, Value.bool.injEq, Value.int.injEq, outL, outT, zft, zcp, zed, zef, zei, zeh, List.length_cons, List.length_nil, Nat.reduceAdd, Nat.zero_add, Nat.reduceLeDiff, List.drop_zero, List.take_succ_cons, List.take_zero, zfi, zfh, Ro.dl, zdb, zda, zfe, and_self, and_true, true_and, eq_self, List.append_nil, List.nil_append, List.cons_append, ne_eq, not_false_eq_true, and_false, false_and, Bool.false_eq_true, St.ev, zes, zfn, zhk, List.length_map]
       exact (ht.2 ⟨by omega, by omega, q⟩).symm
     · skip
       simp (maxSteps := 10000000) (disch := first | assumption | omega) only [go_sem, ↓reduceIte, Nat.reduceEqDiff, reduceCtorEq, Nat.reduceAdd, Nat.reduceMul, Nat.reduceLeDiff, zfu, Int.mul_def, Int.add_def, zfv, cond_false, cond_true, isub, Int.reduceToNat, s1, r4096, s3, r8240, s10, s11, s12, hi']
       simp only [zbj, zbk, retR, resL, outT, zes, zez, oneV, ↓zcy, ↓zcz, ↓reduceIte, Nat.reduceEqDiff, Option.some.injEq, AV.sc.injEq, Value.bool.injEq, Value.int.injEq, outL, outT, zft, zcp, zed, zef, zei, zeh, List.length_cons, List.length_nil, Nat.reduceAdd, Nat.zero_add, Nat.reduceLeDiff, List.drop_zero, List.take_succ_cons, List.take_zero, zfi, zfh, Ro.dl, zdb, zda, zfe, and_self, and_true, true_and, eq_self, List.append_nil, List.nil_append, List.cons_append, ne_eq, not_false_eq_true, and_false, false_and, Bool.false_eq_true, St.ev, zes, zfn, zhk, List.length_map]
       exact bool_false ht fun h => by have := h.2.1; omega
def RingP (T : List (List (List Int))) : Prop := CubeP T ∧ RF T = none
theorem c118 {a : AV} {T : List (List (List Int))} (ha : isLLL a T) (hT : T.length ≤ maxN) (hT2 : ∀ i, i < T.length → (mat T i).length ≤ maxN ∧ ∀ j, j < (mat T i).length → (row (mat T i) j).length ≤ maxN) {t : Bool} (ht : t = true ↔ RingP T) : CallOK Tryz.prog 35 [.agg [a]] (bo t) := by
 refine call_of (fn := Tryz.f35) (code := bodyOf Tryz.f35) Tryz.func35 rfl (by kernel_rfl) (rfl) ?_
 intro sl hs
 have s0 : sl 0 = .agg [a] := hs 0
 by_cases hc : CubeP T
 · have c1 := c146 ha hc
   dsimp only [Tryz.f35, bodyOf, Option.getD]
   simp (maxSteps := 10000000) (disch := first | assumption | omega) only [go_sem, ↓reduceIte, Nat.reduceEqDiff, reduceCtorEq, Nat.reduceAdd, Nat.reduceMul, Nat.reduceLeDiff, zfu, Int.mul_def, Int.add_def, zfv, cond_false, cond_true, isub, Int.reduceToNat, s0]
   refine CLL_pure _ (c105g (t := true) ha hT hT2 (by simp [hc])) (by simp (disch := assumption) only [pureL, pureA, isL_pure, isLL_pure, isLLL_pure, pureL_map, Bool.and_self, Bool.and_true]) rfl rfl ?_
   simp (maxSteps := 10000000) (disch := first | assumption | omega) only [go_sem, ↓reduceIte, Nat.reduceEqDiff, reduceCtorEq, Nat.reduceAdd, Nat.reduceMul, Nat.reduceLeDiff, zfu, Int.mul_def, Int.add_def, zfv, cond_false, cond_true, isub, Int.reduceToNat, s0]
   cases h : RF T with
   | none =>
     rw [h] at c1
     refine CLL_pure _ c1 (by simp (disch := assumption) only [pureL, pureA, isL_pure, isLL_pure, isLLL_pure, pureL_map, Bool.and_self, Bool.and_true]) rfl rfl ?_
     simp (maxSteps := 10000000) (disch := first | assumption | omega) only [go_sem, ↓reduceIte, Nat.reduceEqDiff, reduceCtorEq, Nat.reduceAdd, Nat.reduceMul, Nat.reduceLeDiff, zfu, Int.mul_def, Int.add_def, zfv, cond_false, cond_true, isub, Int.reduceToNat, s0, optA]
     simp only [zbj, zbk, retR, resL, outT, zes, zez, oneV, ↓zcy, ↓zcz, ↓reduceIte, Nat.reduceEqDiff, Option.some.injEq, AV.sc.injEq, Value.bool.injEq, Value.int.injEq, outL, outT, zft, zcp, zed, zef, zei, zeh, List.length_cons, List.length_nil, Nat.reduceAdd, Nat.zero_add, Nat.reduceLeDiff, List.drop_zero, List.take_succ_cons, List.take_zero, zfi, zfh, Ro.dl, zdb, zda, zfe, and_self, and_true, true_and, eq_self, List.append_nil, List.nil_append, List.cons_append, ne_eq, not_false_eq_true, and_false, false_and, Bool.false_eq_true, St.ev, zes, zfn, zhk, List.length_map]
     exact (ht.2 ⟨hc, h⟩).symm
   | some v =>
     rw [h] at c1
     refine CLL_pure _ c1 (by simp (disch := assumption) only [pureL, pureA, isL_pure, isLL_pure, isLLL_pure, pureL_map, Bool.and_self, Bool.and_true]) rfl rfl ?_
     simp (maxSteps := 10000000) (disch := first | assumption | omega) only [go_sem, ↓reduceIte, Nat.reduceEqDiff, reduceCtorEq, Nat.reduceAdd, Nat.reduceMul, Nat.reduceLeDiff, zfu, Int.mul_def, Int.add_def, zfv, cond_false, cond_true, isub, Int.reduceToNat, s0, optA]
     simp only [zbj, zbk, retR, resL, outT, zes, zez, oneV, ↓zcy, ↓zcz, ↓reduceIte, Nat.reduceEqDiff, Option.some.injEq, AV.sc.injEq, Value.bool.injEq, Value.int.injEq, outL, outT, zft, zcp, zed, zef, zei, zeh, List.length_cons, List.length_nil, Nat.reduceAdd, Nat.zero_add, Nat.reduceLeDiff, List.drop_zero, List.take_succ_cons, List.take_zero, zfi, zfh, Ro.dl, zdb, zda, zfe, and_self, and_true, true_and, eq_self, List.append_nil, List.nil_append, List.cons_append, ne_eq, not_false_eq_true, and_false, false_and, Bool.false_eq_true, St.ev, zes, zfn, zhk, List.length_map]
     exact bool_false ht fun h2 => by rw [h2.2] at h; cases h
 · skip
   dsimp only [Tryz.f35, bodyOf, Option.getD]
   simp (maxSteps := 10000000) (disch := first | assumption | omega) only [go_sem, ↓reduceIte, Nat.reduceEqDiff, reduceCtorEq, Nat.reduceAdd, Nat.reduceMul, Nat.reduceLeDiff, zfu, Int.mul_def, Int.add_def, zfv, cond_false, cond_true, isub, Int.reduceToNat, s0]
   refine CLL_pure _ (c105g (t := false) ha hT hT2 (by simp [hc])) (by simp (disch := assumption) only [pureL, pureA, isL_pure, isLL_pure, isLLL_pure, pureL_map, Bool.and_self, Bool.and_true]) rfl rfl ?_
   simp (maxSteps := 10000000) (disch := first | assumption | omega) only [go_sem, ↓reduceIte, Nat.reduceEqDiff, reduceCtorEq, Nat.reduceAdd, Nat.reduceMul, Nat.reduceLeDiff, zfu, Int.mul_def, Int.add_def, zfv, cond_false, cond_true, isub, Int.reduceToNat, s0]
   simp only [zbj, zbk, retR, resL, outT, zes, zez, oneV, ↓zcy, ↓zcz, ↓reduceIte, Nat.reduceEqDiff, Option.some.injEq, AV.sc.injEq, Value.bool.injEq, Value.int.injEq, outL, outT, zft, zcp, zed, zef, zei, zeh, List.length_cons, List.length_nil, Nat.reduceAdd, Nat.zero_add, Nat.reduceLeDiff, List.drop_zero, List.take_succ_cons, List.take_zero, zfi, zfh, Ro.dl, zdb, zda, zfe, and_self, and_true, true_and, eq_self, List.append_nil, List.nil_append, List.cons_append, ne_eq, not_false_eq_true, and_false, false_and, Bool.false_eq_true, St.ev, zes, zfn, zhk, List.length_map]
   exact bool_false ht fun h => hc h.1
theorem RF_ne {T : List (List (List Int))} {v : List Int} (h : RF T = some v) : 0 < v.length := by
 have g1 : ∀ {v}, F1 T = some v → 0 < v.length := fun h => by
   obtain ⟨i, _, h⟩ := fnd_ex h
   obtain ⟨k, _, h⟩ := fnd_ex h
   unfold p1 at h; split at h <;> cases h; exact Nat.succ_pos _
 have g2 : ∀ {v}, F2 T = some v → 0 < v.length := fun h => by
   obtain ⟨i, _, h⟩ := fnd_ex h
   unfold p2 at h; split at h <;> cases h; exact Nat.succ_pos _
 have g3 : ∀ {v}, F3 T = some v → 0 < v.length := fun h => by
   obtain ⟨i, _, h⟩ := fnd_ex h
   obtain ⟨j, _, h⟩ := fnd_ex h
   obtain ⟨k, _, h⟩ := fnd_ex h
   unfold p3 at h; split at h <;> cases h; exact Nat.succ_pos _
 have g4 : ∀ {v}, F4 T = some v → 0 < v.length := fun h => by
   obtain ⟨i, _, h⟩ := fnd_ex h
   obtain ⟨j, _, h⟩ := fnd_ex h
   obtain ⟨k, _, h⟩ := fnd_ex h
   obtain ⟨l, _, h⟩ := fnd_ex h
   unfold p4 at h; split at h <;> cases h; exact Nat.succ_pos _
 unfold RF at h
 split at h
 · rename_i h1; cases h; exact g1 h1
 · split at h
   · rename_i h1; cases h; exact g2 h1
   · split at h
     · rename_i h1; cases h; exact g3 h1
     · exact g4 h
section
variable {ro : Ro} {s g o n : Nat} {p : List Nat} {a1 : Nat} {a2 : Bool} {a3 : List Value} {e : Nat} {a5 : List (Nat × Nat)} {a6 : Option IntKind} {a7 a8 : Bool}
theorem kLen_ref : kLen1 (some ⟨a1, a2, a3, some e, a5, a6, a7, a8⟩) ro (.ref s g p o n) = if (ro.cells s g p).isSome = true then some ⟨i64 n, none, [], []⟩ else none := by
 simp only [kLen1, Option.isSome_some, true_and]
theorem kLen_nil : kLen1 (some ⟨a1, a2, a3, some e, a5, a6, a7, a8⟩) ro (.sc (.slice none 0 0)) = some ⟨i64 0, none, [], []⟩ := nr _
end
attribute [go_sem] kLen_ref kLen_nil
theorem c108 {a : AV} {T : List (List (List Int))} (ha : isLLL a T) {t : Bool} (ht : t = true ↔ RingP T) : CallOK Tryz.prog 29 [.agg [a]] (bo t) := by
 refine call_of (fn := Tryz.f29) (code := bodyOf Tryz.f29) Tryz.func29 rfl (by kernel_rfl) (rfl) ?_
 intro sl hs
 have s0 : sl 0 = .agg [a] := hs 0
 by_cases hc : CubeP T
 · have c1 := c131 ha hc
   dsimp only [Tryz.f29, bodyOf, Option.getD]
   simp (maxSteps := 10000000) (disch := first | assumption | omega) only [go_sem, ↓reduceIte, Nat.reduceEqDiff, reduceCtorEq, Nat.reduceAdd, Nat.reduceMul, Nat.reduceLeDiff, zfu, Int.mul_def, Int.add_def, zfv, cond_false, cond_true, isub, Int.reduceToNat, s0]
   refine CLL_pure _ (c130 (t := true) ha (by simp [hc])) (by simp (disch := assumption) only [pureL, pureA, isL_pure, isLL_pure, isLLL_pure, pureL_map, Bool.and_self, Bool.and_true]) rfl rfl ?_
   simp (maxSteps := 10000000) (disch := first | assumption | omega) only [go_sem, ↓reduceIte, Nat.reduceEqDiff, reduceCtorEq, Nat.reduceAdd, Nat.reduceMul, Nat.reduceLeDiff, zfu, Int.mul_def, Int.add_def, zfv, cond_false, cond_true, isub, Int.reduceToNat, s0]
   cases h : RF T with
   | none =>
     rw [h] at c1
     refine CLL_pure _ c1 (by simp (disch := assumption) only [pureL, pureA, isL_pure, isLL_pure, isLLL_pure, pureL_map, Bool.and_self, Bool.and_true]) rfl rfl ?_
     simp (maxSteps := 10000000) (disch := first | assumption | omega) only [go_sem, ↓reduceIte, Nat.reduceEqDiff, reduceCtorEq, Nat.reduceAdd, Nat.reduceMul, Nat.reduceLeDiff, zfu, Int.mul_def, Int.add_def, zfv, cond_false, cond_true, isub, Int.reduceToNat, s0, optA]
     simp only [zbj, zbk, retR, resL, outT, zes, zez, oneV, ↓zcy, ↓zcz, ↓reduceIte, Nat.reduceEqDiff, Option.some.injEq, AV.sc.injEq, Value.bool.injEq, Value.int.injEq, outL, outT, zft, zcp, zed, zef, zei, zeh, List.length_cons, List.length_nil, Nat.reduceAdd, Nat.zero_add, Nat.reduceLeDiff, List.drop_zero, List.take_succ_cons, List.take_zero, zfi, zfh, Ro.dl, zdb, zda, zfe, and_self, and_true, true_and, eq_self, List.append_nil, List.nil_append, List.cons_append, ne_eq, not_false_eq_true, and_false, false_and, Bool.false_eq_true, St.ev, zes, zfn, zhk, List.length_map]
     exact (ht.2 ⟨hc, h⟩).symm
   | some v =>
     have hv := RF_ne h
     rw [h] at c1
     refine CLL_pure _ c1 (by simp (disch := assumption) only [pureL, pureA, isL_pure, isLL_pure, isLLL_pure, pureL_map, Bool.and_self, Bool.and_true]) rfl rfl ?_
     simp (maxSteps := 10000000) (disch := first | assumption | omega) only [go_sem, ↓reduceIte, Nat.reduceEqDiff, reduceCtorEq, Nat.reduceAdd, Nat.reduceMul, Nat.reduceLeDiff, zfu, Int.mul_def, Int.add_def, zfv, cond_false, cond_true, isub, Int.reduceToNat, s0, optA]
     simp only [zbj, zbk, retR, resL, outT, zes, zez, oneV, ↓zcy, ↓zcz, ↓reduceIte, Nat.reduceEqDiff, Option.some.injEq, AV.sc.injEq, Value.bool.injEq, Value.int.injEq, outL, outT, zft, zcp, zed, zef, zei, zeh, List.length_cons, List.length_nil, Nat.reduceAdd, Nat.zero_add, Nat.reduceLeDiff, List.drop_zero, List.take_succ_cons, List.take_zero, zfi, zfh, Ro.dl, zdb, zda, zfe, and_self, and_true, true_and, eq_self, List.append_nil, List.nil_append, List.cons_append, ne_eq, not_false_eq_true, and_false, false_and, Bool.false_eq_true, St.ev, zes, zfn, zhk, List.length_map]
     exact bool_false ht fun h2 => by rw [h2.2] at h; cases h
 · skip
   dsimp only [Tryz.f29, bodyOf, Option.getD]
   simp (maxSteps := 10000000) (disch := first | assumption | omega) only [go_sem, ↓reduceIte, Nat.reduceEqDiff, reduceCtorEq, Nat.reduceAdd, Nat.reduceMul, Nat.reduceLeDiff, zfu, Int.mul_def, Int.add_def, zfv, cond_false, cond_true, isub, Int.reduceToNat, s0]
   refine CLL_pure _ (c130 (t := false) ha (by simp [hc])) (by simp (disch := assumption) only [pureL, pureA, isL_pure, isLL_pure, isLLL_pure, pureL_map, Bool.and_self, Bool.and_true]) rfl rfl ?_
   simp (maxSteps := 10000000) (disch := first | assumption | omega) only [go_sem, ↓reduceIte, Nat.reduceEqDiff, reduceCtorEq, Nat.reduceAdd, Nat.reduceMul, Nat.reduceLeDiff, zfu, Int.mul_def, Int.add_def, zfv, cond_false, cond_true, isub, Int.reduceToNat, s0]
   simp only [zbj, zbk, retR, resL, outT, zes, zez, oneV, ↓zcy, ↓zcz, ↓reduceIte, Nat.reduceEqDiff, Option.some.injEq, AV.sc.injEq, Value.bool.injEq, Value.int.injEq, outL, outT, zft, zcp, zed, zef, zei, zeh, List.length_cons, List.length_nil, Nat.reduceAdd, Nat.zero_add, Nat.reduceLeDiff, List.drop_zero, List.take_succ_cons, List.take_zero, zfi, zfh, Ro.dl, zdb, zda, zfe, and_self, and_true, true_and, eq_self, List.append_nil, List.nil_append, List.cons_append, ne_eq, not_false_eq_true, and_false, false_and, Bool.false_eq_true, St.ev, zes, zfn, zhk, List.length_map]
   exact bool_false ht fun h => hc h.1
end Go.Proofs.YtgcnmlecihegcaaGreat
