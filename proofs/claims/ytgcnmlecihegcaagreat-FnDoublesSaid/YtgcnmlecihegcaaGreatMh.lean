/- Texts joined: D7 D8 D9 D10 E1 E2. -/
import Derived.Test.YtgcnmlecihegcaaGreatMg
set_option linter.all false
/- Cubes; the numbers N (reference). -/
namespace Go.Proofs.YtgcnmlecihegcaaGreat
open Go.RowKit
abbrev cubeA (F : Nat → Nat → Nat → Int) (n : Nat) : AV := .row (rws (fun i => .row (rws (fun j => .row (rws (fun k => i64 (F i j k)) n)) n)) n)
def updF (F : Nat → Nat → Nat → Int) (i j k : Nat) (v : Int) : Nat → Nat → Nat → Int := fun x y z => if x = i ∧ y = j ∧ z = k then v else F x y z
theorem noRef_cube (F : Nat → Nat → Nat → Int) (n : Nat) : noRef (cubeA F n) = true := noRef_row _ (noRefL_rws _ _ fun _ => noRef_row _ (noRefL_rws _ _ fun _ => noRef_row _ (noRefL_rws _ _ fun _ => rfl)))
theorem noI_cube (F : Nat → Nat → Nat → Int) (n : Nat) : noI (cubeA F n) = true := noI_row _ (noIL_map _ (fun _ => noI_row _ (noIL_map _ (fun _ => noI_row _ (noIL_map _ (fun _ => rfl) _)) _)) _)
theorem cube_cells {ro : Ro} {s g i j n : Nat} {F : Nat → Nat → Nat → Int} (h : ro s g = some (cubeA F n)) (hi : i < n) (hj : j < n) : ro.cells s g [i, j] = some (rws (fun k => i64 (F i j k)) n) := by
 unfold Ro.cells Ro.at
 simp only [h, ath, rws_get _ _ _ hi, rws_get _ _ _ hj]
theorem cube_bx {ro : Ro} {s g i j n : Nat} {F : Nat → Nat → Nat → Int} (h : ro s g = some (cubeA F n)) (hi : i < n) (hj : j < n) : isBxAt ro s g [i, j] = false := by
 unfold isBxAt Ro.at
 simp only [h, ath, rws_get _ _ _ hi, rws_get _ _ _ hj]
theorem cube_wr {ro : Ro} {s g i j k n : Nat} {F : Nat → Nat → Nat → Int} {v : Int} (h : ro s g = some (cubeA F n)) (hi : i < n) (hj : j < n) (hk : k < n) : ro.wr ⟨s, g, [i, j], k, [i64 v]⟩ = upr ro s g (cubeA (updF F i j k v) n) := by
 unfold Ro.wr
 simp only [h, putR, rws_get _ _ _ hi, rws_get _ _ _ hj, setL]
 rw [rws_set, rws_set, rws_set]
 refine congrArg (upr ro s g) (congrArg AV.row (rws_congr fun x hx => ?_))
 by_cases hxi : x = i
 · subst hxi
   rw [if_pos rfl]
   refine congrArg AV.row (rws_congr fun y hy => ?_)
   by_cases hyj : y = j
   · subst hyj
     rw [if_pos rfl]
     refine congrArg AV.row (rws_congr fun z hz => ?_)
     by_cases hzk : z = k
     · subst hzk; rw [if_pos rfl]; simp [updF]
     · rw [if_neg hzk]; simp [updF, hzk]
   · rw [if_neg hyj]
     refine congrArg AV.row (rws_congr fun z hz => ?_)
     simp [updF, hyj]
 · rw [if_neg hxi]
   refine congrArg AV.row (rws_congr fun y hy => congrArg AV.row (rws_congr fun z hz => ?_))
   simp [updF, hxi]
theorem cube_congr {F G : Nat → Nat → Nat → Int} {n : Nat} (h : ∀ x y z, x < n → y < n → z < n → F x y z = G x y z) : cubeA F n = cubeA G n :=
 congrArg AV.row (rws_congr fun x hx => congrArg AV.row (rws_congr fun y hy => congrArg AV.row (rws_congr fun z hz => by rw [h x y z hx hy hz])))
set_option maxRecDepth 1000000 in
theorem c101 {n : Nat} (hn : n ≤ maxN) : CallOK Tryz.prog 134 [i64 n] (cubeA (fun _ _ _ => 0) n) := by
 have e0 : cubeA (fun _ _ _ => 0) n = .row (rws (fun _ => .row (rws (fun _ => .row (List.replicate n (i64 0))) n)) n) := by simp only [cubeA, rep_rws]
 refine call_of (fn := Tryz.f134) (code := bodyOf Tryz.f134) Tryz.func134 rfl (by kernel_rfl) (noRef_cube _ _) ?_
 rw [e0]
 intro sl hs
 have s0 : sl 0 = i64 n := hs 0
 have hn' : n ≤ 4294967296 := hn
 have hm' : (n : Int) ≤ ((4294967296 : Nat) : Int) := by omega
 simp only [Tryz.f134, bodyOf, Option.getD, go_sem, ↓reduceIte, Nat.reduceEqDiff, reduceCtorEq, Nat.reduceAdd, Nat.reduceMul, Nat.reduceLeDiff, ti2, ti3, ti4, ti22, ti23, ti31, s0]
 refine WK_for (fun i st => st.sl 0 = i64 n ∧ st.sl 4 = i64 (i : Int) ∧ st.sl 3 = .ref 8192 (st.gn 8192) [] 0 i ∧ st.ro 8192 (st.gn 8192) = some (.row (rws (fun _ => .row (rws (fun _ => .row (List.replicate n (i64 0))) n)) i))) n ?_ ?_ ?_
 · simp only [↓zcy, ↓zcz, ↓zda, ↓zdb, ↓reduceIte, Nat.reduceEqDiff, and_true, true_and, and_self, ne_eq, not_false_eq_true, eq_self, false_and, and_false, reduceCtorEq, s0, rws_zero]
   rfl
 · rintro i sl ro gn hi ⟨s0, s4, s3, r3⟩
   dsimp only at s0 s4 s3 r3
   have hi' : (i : Int) < n := by omega
   have hi2 : i + 1 ≤ 4294967296 := by omega
   simp (maxSteps := 10000000) (disch := first | omega | assumption) only [go_sem, ↓reduceIte, Nat.reduceEqDiff, reduceCtorEq, Nat.reduceAdd, Nat.reduceMul, Nat.reduceLeDiff, zfu, Int.mul_def, Int.add_def, zfv, cond_false, cond_true, isub, ti2, ti3, ti4, ti22, ti23, ti31, s0, s4, hi']
   refine WK_for (fun j st => st.sl 0 = i64 n ∧ st.sl 4 = i64 (i : Int) ∧ st.sl 3 = .ref 8192 (st.gn 8192) [] 0 i ∧ st.ro 8192 (st.gn 8192) = some (.row (rws (fun _ => .row (rws (fun _ => .row (List.replicate n (i64 0))) n)) i)) ∧
     st.sl 6 = i64 (j : Int) ∧ st.sl 5 = .ref 24576 (st.gn 24576) [] 0 j ∧ st.ro 24576 (st.gn 24576) = some (.row (rws (fun _ => .row (List.replicate n (i64 0))) j))) n ?_ ?_ ?_
   · simp only [↓zcy, ↓zcz, ↓zda, ↓zdb, ↓reduceIte, Nat.reduceEqDiff, and_true, true_and, and_self, ne_eq, not_false_eq_true, eq_self, false_and, and_false, reduceCtorEq, s0, s4, s3, r3, rws_zero]
     rfl
   · rintro j sl ro gn hj ⟨s0, s4, s3, r3, s6, s5, r5⟩
     dsimp only at s0 s4 s3 r3 s6 s5 r5
     have hj' : (j : Int) < n := by omega
     have hj2 : j + 1 ≤ 4294967296 := by omega
     simp (maxSteps := 10000000) (disch := first | omega | assumption) only [go_sem, ↓reduceIte, Nat.reduceEqDiff, reduceCtorEq, Nat.reduceAdd, Nat.reduceMul, Nat.reduceLeDiff, zfu, Int.mul_def, Int.add_def, zfv, cond_false, cond_true, isub, ti2, ti3, ti4, ti22, ti23, ti31, s0, s4, s3, r3, s6, s5, r5, hj', hj2, kMake, Int.natCast_nonneg, Int.le_refl, Int.toNat_natCast, hm', List.length_replicate, List.getD_cons_zero]
     exact i64c (by omega)
   · rintro sl ro gn ⟨s0, s4, s3, r3, s6, s5, r5⟩
     dsimp only at s0 s4 s3 r3 s6 s5 r5
     have hj' : ¬ (n : Int) < n := by omega
     simp (maxSteps := 10000000) (disch := first | omega | assumption) only [go_sem, ↓reduceIte, Nat.reduceEqDiff, reduceCtorEq, Nat.reduceAdd, Nat.reduceMul, Nat.reduceLeDiff, zfu, Int.mul_def, Int.add_def, zfv, cond_false, cond_true, isub, ti2, ti3, ti4, ti22, ti23, ti31, s0, s4, s3, r3, s6, s5, r5, hj', hi2]
     exact i64c (by omega)
 · rintro sl ro gn ⟨s0, s4, s3, r3⟩
   dsimp only at s0 s4 s3 r3
   have hi' : ¬ (n : Int) < n := by omega
   simp (maxSteps := 10000000) (disch := first | omega | assumption) only [go_sem, ↓reduceIte, Nat.reduceEqDiff, reduceCtorEq, Nat.reduceAdd, Nat.reduceMul, Nat.reduceLeDiff, zfu, Int.mul_def, Int.add_def, zfv, cond_false, cond_true, isub, ti2, ti3, ti4, ti22, ti23, ti31, s0, s4, s3, r3, hi']
   simp only [zbj, zbk, retR, resL, outT, zes, zez, oneV, ↓zcy, ↓zcz, ↓reduceIte, Nat.reduceEqDiff, Option.some.injEq, AV.sc.injEq, Value.bool.injEq, Value.int.injEq, outL, outT, zft, zcp, zed, zef, zei, zeh, List.length_cons, List.length_nil, Nat.reduceAdd, Nat.zero_add, Nat.reduceLeDiff, List.drop_zero, List.take_succ_cons, List.take_zero, zfi, zfh, Ro.dl, zdb, zda, zfe, and_self, and_true, true_and, eq_self, List.append_nil, List.nil_append, List.cons_append, ne_eq, not_false_eq_true, and_false, false_and, Bool.false_eq_true, St.ev, zes, zfn, zhk, r3]
def pgF (F : Nat → Nat → Nat → Int) (i j k : Nat) : Nat → Nat → Nat → Int := fun x y z => if x < i ∨ (x = i ∧ (y < j ∨ (y = j ∧ z < k))) then F x y z else 0
theorem pg_step (F : Nat → Nat → Nat → Int) (i j k n : Nat) : cubeA (updF (pgF F i j k) i j k (F i j k)) n = cubeA (pgF F i j (k + 1)) n := by
 refine cube_congr fun x y z _ _ _ => ?_
 unfold updF
 by_cases h : x = i ∧ y = j ∧ z = k
 · rw [if_pos h]
   obtain ⟨rfl, rfl, rfl⟩ := h
   unfold pgF
   rw [if_pos (by omega)]
 · rw [if_neg h]
   have e : (x < i ∨ (x = i ∧ (y < j ∨ (y = j ∧ z < k)))) ↔ (x < i ∨ (x = i ∧ (y < j ∨ (y = j ∧ z < k + 1)))) := by omega
   simp only [pgF, e]
section
variable (S : List (List Int)) (n : Nat)
def inv0 (l : Nat) : Int := pw (atI (row S 0) l) 55439 * pw (whl S n) 55439 % 55441
def both (i j l : Nat) : Int := atI (row S i) l * atI (row S j) l % 55441 * inv0 S n l % 55441
def nmE (cj : List Int) (i j k : Nat) : Int := sm (fun l => atI (rws (both S n i j) n) l * atI (row S (atI cj k).toNat) l) n % 55441
end
set_option maxRecDepth 1000000 in
set_option maxHeartbeats 10000000 in
theorem c78 {a b c : AV} {S : List (List Int)} {T cj : List Int} (hb : isL b T) (ha : isLL a S) (hc : isL c cj) (hs : Shp S T) (hcl : cj.length = T.length) (hcj : ∀ k, k < T.length → 0 ≤ atI cj k ∧ atI cj k < T.length) : CallOK Tryz.prog 94 [.agg [a, b], c] (cubeA (nmE S T.length cj) T.length) := by
 refine call_of (fn := Tryz.f94) (code := bodyOf Tryz.f94) Tryz.func94 rfl (by kernel_rfl) (noRef_cube _ _) ?_
 intro sl hs0
 have s0 : sl 0 = .agg [a, b] := hs0 0
 have s1 : sl 1 = c := hs0 1
 obtain ⟨hpos, hmax, hlS, hlR, hnS, hnT⟩ := hs
 generalize hN : T.length = n at *
 have hmax' : n ≤ 4294967296 := hmax
 have hlR0 := hlR 0 hpos
 have h0 := isLL_row ha (k := 0) (by omega)
 simp only [Tryz.f94, bodyOf, Option.getD, go_sem, ↓reduceIte, Nat.reduceEqDiff, reduceCtorEq, Nat.reduceAdd, Nat.reduceMul, Nat.reduceLeDiff, ti2, ti3, ti4, ti22, ti23, ti25, ti31, s0, s1, isL_cellB _ hb, isLL_cellB _ ha, isLL_lift _ _ _ ha, isL_lift _ _ _ hb, isL_len hb, hN]
 have c67' := c67 ha hb (by omega) (by omega) (by omega) hnS
 rw [hN] at c67'
 refine CLL_pure _ c67' (by simp only [pureL, pureA, isLL_pure ha, isL_pure hb, Bool.and_self]) rfl rfl ?_
 simp only [go_sem, ↓reduceIte, Nat.reduceEqDiff, reduceCtorEq, Nat.reduceAdd, Nat.reduceMul, Nat.reduceLeDiff, ti2, ti3, ti4, ti22, ti23, ti25, ti31]
 refine CLL_pure _ (c59 (num_whl S n).1 (num_whl S n).2) rfl rfl rfl ?_
 simp only [go_sem, ↓reduceIte, Nat.reduceEqDiff, reduceCtorEq, Nat.reduceAdd, Nat.reduceMul, Nat.reduceLeDiff, ti2, ti3, ti4, ti22, ti23, ti25, ti31]
 refine CLL_pure _ (c101 hmax) rfl rfl rfl ?_
 simp only [go_sem, ↓reduceIte, Nat.reduceEqDiff, reduceCtorEq, Nat.reduceAdd, Nat.reduceMul, Nat.reduceLeDiff, ti2, ti3, ti4, ti22, ti23, ti25, ti31, s1, impE_row]
 -- the inverses
 refine WK_for (fun l st => st.sl 1 = c ∧ st.sl 2 = .ptr 4096 1 [] 0 ∧ st.ro 4096 1 = some (.bx [a, b]) ∧ st.sl 5 = i64 n ∧ st.sl 6 = i64 (pw (whl S n) 55439) ∧ st.sl 7 = .ref 16400 1 [] 0 n ∧ st.ro 16400 1 = some (cubeA (fun _ _ _ => 0) n) ∧
   st.sl 9 = i64 (l : Int) ∧ st.sl 8 = .ref 20480 (st.gn 20480) [] 0 l ∧ st.ro 20480 (st.gn 20480) = some (.row (rws (fun l => i64 (inv0 S n l)) l))) n ?_ ?_ ?_
 · simp only [↓zcy, ↓zcz, ↓zda, ↓zdb, ↓reduceIte, Nat.reduceEqDiff, and_true, true_and, and_self, ne_eq, not_false_eq_true, eq_self, false_and, and_false, reduceCtorEq, s1, rws_zero, zfe]
   rfl
 · rintro l sl ro gn hl ⟨s1, s2, r2, s5, s6, s7, r7, s9, s8, r8⟩
   dsimp only at s1 s2 r2 s5 s6 s7 r7 s9 s8 r8
   have hl' : (l : Int) < n := by omega
   have hl2 : l + 1 ≤ 4294967296 := by omega
   simp (maxSteps := 10000000) (disch := first | omega | assumption) only [go_sem, ↓reduceIte, Nat.reduceEqDiff, reduceCtorEq, Nat.reduceAdd, Nat.reduceMul, Nat.reduceLeDiff, zfu, Int.mul_def, Int.add_def, zfv, cond_false, cond_true, isub, ti2, ti3, ti4, ti22, ti23, ti25, ti31, s1, s2, r2, s5, s6, s7, r7, s9, s8, r8, hl', isLL_lift _ _ _ ha, isLL_idx0 ha (by omega : 0 < S.length), isL_idx h0 (by omega : l < (row S 0).length)]
   refine CLL_pure _ (c59 (hnS 0 l).1 (hnS 0 l).2) rfl rfl rfl ?_
   have hb1 := bnd (pw_nonneg (atI (row S 0) l) 55439) (pw_lt (atI (row S 0) l) 55439) (pw_nonneg (whl S n) 55439) (pw_lt (whl S n) 55439)
   have e1 : pw (atI (row S 0) l) 55439 * pw (whl S n) 55439 % 55441 = inv0 S n l := rfl
   simp (maxSteps := 10000000) (disch := first | omega | assumption) only [go_sem, ↓reduceIte, Nat.reduceEqDiff, reduceCtorEq, Nat.reduceAdd, Nat.reduceMul, Nat.reduceLeDiff, zfu, Int.mul_def, Int.add_def, zfv, cond_false, cond_true, isub, ti2, ti3, ti4, ti22, ti23, ti25, ti31, s1, s2, r2, s5, s6, s7, r7, s9, s8, r8, hl2, Int.tmod_eq_emod_of_nonneg, e1]
   exact i64c (by omega)
 · rintro sl ro gn ⟨s1, s2, r2, s5, s6, s7, r7, s9, s8, r8⟩
   dsimp only at s1 s2 r2 s5 s6 s7 r7 s9 s8 r8
   have hl' : ¬ (n : Int) < n := by omega
   simp (maxSteps := 10000000) (disch := first | omega | assumption) only [go_sem, ↓reduceIte, Nat.reduceEqDiff, reduceCtorEq, Nat.reduceAdd, Nat.reduceMul, Nat.reduceLeDiff, zfu, Int.mul_def, Int.add_def, zfv, cond_false, cond_true, isub, ti2, ti3, ti4, ti22, ti23, ti25, ti31, s1, s2, r2, s5, s6, s7, r7, s9, s8, r8, hl']
   refine WK_for (fun i st => st.sl 1 = c ∧ st.sl 2 = .ptr 4096 1 [] 0 ∧ st.ro 4096 1 = some (.bx [a, b]) ∧ st.sl 5 = i64 n ∧ st.sl 8 = .ref 20480 (st.gn 20480) [] 0 n ∧ st.ro 20480 (st.gn 20480) = some (.row (rws (fun l => i64 (inv0 S n l)) n)) ∧ st.sl 7 = .ref 16400 1 [] 0 n ∧ st.ro 16400 1 = some (cubeA (pgF (nmE S n cj) i 0 0) n) ∧ st.sl 10 = i64 (i : Int)) n ?_ ?_ ?_
   · simp only [↓zcy, ↓zcz, ↓zda, ↓zdb, ↓reduceIte, Nat.reduceEqDiff, and_true, true_and, and_self, ne_eq, not_false_eq_true, eq_self, false_and, and_false, reduceCtorEq, s1, s2, r2, s5, s8, r8, s7, r7]
     exact ⟨congrArg some (cube_congr fun x y z _ _ _ => by simp [pgF]), rfl⟩
   · rintro i sl ro gn hi ⟨s1, s2, r2, s5, s8, r8, s7, r7, s10⟩
     dsimp only at s1 s2 r2 s5 s8 r8 s7 r7 s10
     have hi' : (i : Int) < n := by omega
     simp (maxSteps := 10000000) (disch := first | omega | assumption) only [go_sem, ↓reduceIte, Nat.reduceEqDiff, reduceCtorEq, Nat.reduceAdd, Nat.reduceMul, Nat.reduceLeDiff, zfu, Int.mul_def, Int.add_def, zfv, cond_false, cond_true, isub, ti2, ti3, ti4, ti22, ti23, ti25, ti31, s5, s10, hi']
     refine WK_for (fun j st => st.sl 1 = c ∧ st.sl 2 = .ptr 4096 1 [] 0 ∧ st.ro 4096 1 = some (.bx [a, b]) ∧ st.sl 5 = i64 n ∧ st.sl 8 = .ref 20480 (st.gn 20480) [] 0 n ∧ st.ro 20480 (st.gn 20480) = some (.row (rws (fun l => i64 (inv0 S n l)) n)) ∧ st.sl 7 = .ref 16400 1 [] 0 n ∧ st.ro 16400 1 = some (cubeA (pgF (nmE S n cj) i j 0) n) ∧ st.sl 10 = i64 (i : Int) ∧ st.sl 11 = i64 (j : Int)) n ?_ ?_ ?_
     · simp only [↓zcy, ↓zcz, ↓zda, ↓zdb, ↓reduceIte, Nat.reduceEqDiff, and_true, true_and, and_self, ne_eq, not_false_eq_true, eq_self, false_and, and_false, reduceCtorEq, s1, s2, r2, s5, s8, r8, s7, r7, s10]
       rfl
     · rintro j sl ro gn hj ⟨s1, s2, r2, s5, s8, r8, s7, r7, s10, s11⟩
       dsimp only at s1 s2 r2 s5 s8 r8 s7 r7 s10 s11
       have hj' : (j : Int) < n := by omega
       simp (maxSteps := 10000000) (disch := first | omega | assumption) only [go_sem, ↓reduceIte, Nat.reduceEqDiff, reduceCtorEq, Nat.reduceAdd, Nat.reduceMul, Nat.reduceLeDiff, zfu, Int.mul_def, Int.add_def, zfv, cond_false, cond_true, isub, ti2, ti3, ti4, ti22, ti23, ti25, ti31, s5, s11, hj']
       refine WK_for (fun l st => st.sl 1 = c ∧ st.sl 2 = .ptr 4096 1 [] 0 ∧ st.ro 4096 1 = some (.bx [a, b]) ∧ st.sl 5 = i64 n ∧ st.sl 8 = .ref 20480 (st.gn 20480) [] 0 n ∧ st.ro 20480 (st.gn 20480) = some (.row (rws (fun l => i64 (inv0 S n l)) n)) ∧ st.sl 7 = .ref 16400 1 [] 0 n ∧ st.ro 16400 1 = some (cubeA (pgF (nmE S n cj) i j 0) n) ∧ st.sl 10 = i64 (i : Int) ∧ st.sl 11 = i64 (j : Int) ∧ st.sl 13 = i64 (l : Int) ∧ st.sl 12 = .ref 65536 (st.gn 65536) [] 0 l ∧ st.ro 65536 (st.gn 65536) = some (rowL (rws (both S n i j) l))) n ?_ ?_ ?_
       · simp only [↓zcy, ↓zcz, ↓zda, ↓zdb, ↓reduceIte, Nat.reduceEqDiff, and_true, true_and, and_self, ne_eq, not_false_eq_true, eq_self, false_and, and_false, reduceCtorEq, s1, s2, r2, s5, s8, r8, s7, r7, s10, s11, rws_zero]
         exact ⟨rfl, rfl⟩
       · rintro l sl ro gn hl ⟨s1, s2, r2, s5, s8, r8, s7, r7, s10, s11, s13, s12, r12⟩
         dsimp only at s1 s2 r2 s5 s8 r8 s7 r7 s10 s11 s13 s12 r12
         have hl' : (l : Int) < n := by omega
         have hl2 : l + 1 ≤ 4294967296 := by omega
         have h1 := isLL_row ha (k := i) (by omega)
         have h2 := isLL_row ha (k := j) (by omega)
         have hb1 := num_mul (hnS i l) (hnS j l)
         have hb2 := num_mod (atI (row S i) l * atI (row S j) l)
         have hb3 : num (inv0 S n l) := num_mod _
         have hb4 := num_mul hb2 hb3
         unfold num at hb2
         have hg := rws_get (fun l => i64 (inv0 S n l)) n l hl
         have e1 : atI (row S i) l * atI (row S j) l % 55441 * inv0 S n l % 55441 = both S n i j l := rfl
         simp (maxSteps := 10000000) (disch := first | omega | assumption) only [go_sem, ↓reduceIte, Nat.reduceEqDiff, reduceCtorEq, Nat.reduceAdd, Nat.reduceMul, Nat.reduceLeDiff, zfu, Int.mul_def, Int.add_def, zfv, cond_false, cond_true, isub, ti2, ti3, ti4, ti22, ti23, ti25, ti31, s1, s2, r2, s5, s8, r8, s7, r7, s10, s11, s13, s12, r12, hl', hl, hg, isLL_lift _ _ _ ha, isLL_idx ha (by omega : i < S.length), isLL_idx ha (by omega : j < S.length), isL_idx h1 (by rw [hlR i hi]; exact hl : l < (row S i).length), isL_idx h2 (by rw [hlR j hj]; exact hl : l < (row S j).length), isLL_sites ha, isL_sites h1, isL_sites h2, rwsm_take, rwsm_app, List.length_map, hl2, Int.tmod_eq_emod_of_nonneg, e1]
         refine FIN_of (by kernel_rfl) ?_
         simp (maxSteps := 10000000) (disch := first | omega | assumption) only [go_sem, ↓reduceIte, Nat.reduceEqDiff, reduceCtorEq, Nat.reduceAdd, Nat.reduceMul, Nat.reduceLeDiff, zfu, Int.mul_def, Int.add_def, zfv, cond_false, cond_true, isub, ti2, ti3, ti4, ti22, ti23, ti25, ti31, s1, s2, r2, s5, s8, r8, s7, r7, s10, s11, s13, rwsm_app]
         exact i64c (by omega)
       · rintro sl ro gn ⟨s1, s2, r2, s5, s8, r8, s7, r7, s10, s11, s13, s12, r12⟩
         dsimp only at s1 s2 r2 s5 s8 r8 s7 r7 s10 s11 s13 s12 r12
         have hl' : ¬ (n : Int) < n := by omega
         simp (maxSteps := 10000000) (disch := first | omega | assumption) only [go_sem, ↓reduceIte, Nat.reduceEqDiff, reduceCtorEq, Nat.reduceAdd, Nat.reduceMul, Nat.reduceLeDiff, zfu, Int.mul_def, Int.add_def, zfv, cond_false, cond_true, isub, ti2, ti3, ti4, ti22, ti23, ti25, ti31, s5, s13, hl']
         refine WK_for (fun k st => st.sl 1 = c ∧ st.sl 2 = .ptr 4096 1 [] 0 ∧ st.ro 4096 1 = some (.bx [a, b]) ∧ st.sl 5 = i64 n ∧ st.sl 8 = .ref 20480 (st.gn 20480) [] 0 n ∧ st.ro 20480 (st.gn 20480) = some (.row (rws (fun l => i64 (inv0 S n l)) n)) ∧ st.sl 7 = .ref 16400 1 [] 0 n ∧ st.ro 16400 1 = some (cubeA (pgF (nmE S n cj) i j k) n) ∧ st.sl 10 = i64 (i : Int) ∧ st.sl 11 = i64 (j : Int) ∧ st.sl 14 = i64 (k : Int) ∧ st.sl 12 = .ref 65536 (st.gn 65536) [] 0 n ∧ st.ro 65536 (st.gn 65536) = some (rowL (rws (both S n i j) n))) n ?_ ?_ ?_
         · simp only [↓zcy, ↓zcz, ↓zda, ↓zdb, ↓reduceIte, Nat.reduceEqDiff, and_true, true_and, and_self, ne_eq, not_false_eq_true, eq_self, false_and, and_false, reduceCtorEq, s1, s2, r2, s5, s8, r8, s7, r7, s10, s11, s12, r12]
           rfl
         · rintro k sl ro gn hk ⟨s1, s2, r2, s5, s8, r8, s7, r7, s10, s11, s14, s12, r12⟩
           dsimp only at s1 s2 r2 s5 s8 r8 s7 r7 s10 s11 s14 s12 r12
           have hk' : (k : Int) < n := by omega
           obtain ⟨hq1, hq2⟩ := hcj k hk
           obtain ⟨m, hm⟩ : ∃ m : Nat, atI cj k = m := ⟨(atI cj k).toNat, by omega⟩
           have hmn : m < n := by omega
           have h1 := isLL_row ha (k := m) (by omega)
           have hax : argsX ro [.ref 65536 (gn 65536) [] 0 n, atA a m] = [immL (rws (both S n i j) n), atA a m] := by
             have hp : pureL [.ref 65536 (gn 65536) [] 0 n, atA a m] = false := rfl
             unfold argsX
             rw [hp, if_neg Bool.false_ne_true]
             have := ex_refL r12 6
             rw [zfe] at this
             show [ex ro 8 _, ex ro 8 _] = _
             rw [this, isL_ex8 ro h1]
           have c102' := c102 (isL_imm (rws (both S n i j) n)) h1 (by rw [zfe]; exact hmax) (by rw [zfe, hlR m hmn]; omega) (numL_rws _ _ fun _ _ => num_mod _) (hnS m)
           rw [zfe] at c102'
           have hgi := rws_get (fun x => AV.row (rws (fun y => .row (rws (fun z => i64 (pgF (nmE S n cj) i j k x y z)) n)) n)) n i hi
           have hgj := rws_get (fun y => AV.row (rws (fun z => i64 (pgF (nmE S n cj) i j k i y z)) n)) n j hj
           simp (maxSteps := 10000000) (disch := first | omega | assumption) only [go_sem, ↓reduceIte, Nat.reduceEqDiff, reduceCtorEq, Nat.reduceAdd, Nat.reduceMul, Nat.reduceLeDiff, zfu, Int.mul_def, Int.add_def, zfv, cond_false, cond_true, isub, ti2, ti3, ti4, ti22, ti23, ti25, ti31, s1, s2, r2, s5, s8, r8, s7, r7, s10, s11, s14, s12, r12, hi, hj, hk, hk', hgi, hgj, zfp, inO_row, rowO_row, isLL_lift _ _ _ ha, isL_idx hc (by omega : k < cj.length), hm, isLL_idx ha (by omega : m < S.length), isLL_sites ha, isL_sites hc, isL_sites h1]
           refine CLLD_args (i64 (nmE S n cj i j k)) (by rw [show nmE S n cj i j k = _ from by unfold nmE; rw [hm, Int.toNat_natCast]]; exact c102') hax rfl rfl ?_
           simp (maxSteps := 10000000) (disch := first | omega | assumption) only [go_sem, ↓reduceIte, Nat.reduceEqDiff, reduceCtorEq, Nat.reduceAdd, Nat.reduceMul, Nat.reduceLeDiff, zfu, Int.mul_def, Int.add_def, zfv, cond_false, cond_true, isub, ti2, ti3, ti4, ti22, ti23, ti25, ti31, s1, s2, r2, s5, s8, r8, s7, r7, s10, s11, s14, hk, (by omega : k + 1 ≤ n), cube_cells r7 hi hj, cube_bx r7 hi hj, cube_wr r7 hi hj hk, pureL, pureA, isL_sh _ h1, isL_sites h1]
           refine FIN_of (by kernel_rfl) ?_
           simp (maxSteps := 10000000) (disch := first | omega | assumption) only [go_sem, ↓reduceIte, Nat.reduceEqDiff, reduceCtorEq, Nat.reduceAdd, Nat.reduceMul, Nat.reduceLeDiff, zfu, Int.mul_def, Int.add_def, zfv, cond_false, cond_true, isub, ti2, ti3, ti4, ti22, ti23, ti25, ti31, s1, s2, r2, s5, s8, r8, s7, r7, s10, s11, s14, s12, r12]
           exact ⟨congrArg some (pg_step _ _ _ _ _), i64c (by omega)⟩
         · rintro sl ro gn ⟨s1, s2, r2, s5, s8, r8, s7, r7, s10, s11, s14, s12, r12⟩
           dsimp only at s1 s2 r2 s5 s8 r8 s7 r7 s10 s11 s14 s12 r12
           have hk' : ¬ (n : Int) < n := by omega
           simp (maxSteps := 10000000) (disch := first | omega | assumption) only [go_sem, ↓reduceIte, Nat.reduceEqDiff, reduceCtorEq, Nat.reduceAdd, Nat.reduceMul, Nat.reduceLeDiff, zfu, Int.mul_def, Int.add_def, zfv, cond_false, cond_true, isub, ti2, ti3, ti4, ti22, ti23, ti25, ti31, s1, s2, r2, s5, s8, r8, s7, r7, s10, s11, s14, hk']
           refine ⟨congrArg some (cube_congr fun x y z _ _ hz => ?_), i64c (by omega)⟩
           have e : (x < i ∨ (x = i ∧ (y < j ∨ (y = j ∧ z < n)))) ↔ (x < i ∨ (x = i ∧ (y < j + 1 ∨ (y = j + 1 ∧ z < 0)))) := by omega
           simp only [pgF, e]
     · rintro sl ro gn ⟨s1, s2, r2, s5, s8, r8, s7, r7, s10, s11⟩
       dsimp only at s1 s2 r2 s5 s8 r8 s7 r7 s10 s11
       have hj' : ¬ (n : Int) < n := by omega
       simp (maxSteps := 10000000) (disch := first | omega | assumption) only [go_sem, ↓reduceIte, Nat.reduceEqDiff, reduceCtorEq, Nat.reduceAdd, Nat.reduceMul, Nat.reduceLeDiff, zfu, Int.mul_def, Int.add_def, zfv, cond_false, cond_true, isub, ti2, ti3, ti4, ti22, ti23, ti25, ti31, s1, s2, r2, s5, s8, r8, s7, r7, s10, s11, hj']
       refine ⟨congrArg some (cube_congr fun x y z _ hy _ => ?_), i64c (by omega)⟩
       have e : (x < i ∨ (x = i ∧ (y < n ∨ (y = n ∧ z < 0)))) ↔ (x < i + 1 ∨ (x = i + 1 ∧ (y < 0 ∨ (y = 0 ∧ z < 0)))) := by omega
       simp only [pgF, e]
   · rintro sl ro gn ⟨s1, s2, r2, s5, s8, r8, s7, r7, s10⟩
     dsimp only at s1 s2 r2 s5 s8 r8 s7 r7 s10
     have hi' : ¬ (n : Int) < n := by omega
     simp (maxSteps := 10000000) (disch := first | omega | assumption) only [go_sem, ↓reduceIte, Nat.reduceEqDiff, reduceCtorEq, Nat.reduceAdd, Nat.reduceMul, Nat.reduceLeDiff, zfu, Int.mul_def, Int.add_def, zfv, cond_false, cond_true, isub, ti2, ti3, ti4, ti22, ti23, ti25, ti31, s1, s2, r2, s5, s8, r8, s7, r7, s10, hi']
     have e0 : cubeA (pgF (nmE S n cj) n 0 0) n = cubeA (nmE S n cj) n := cube_congr fun x y z hx _ _ => by simp [pgF, hx]
     rw [e0] at r7
     simp only [zbj, zbk, retR, resL, outT, zes, zez, oneV, ↓zcy, ↓zcz, ↓reduceIte, Nat.reduceEqDiff, Option.some.injEq, AV.sc.injEq, Value.bool.injEq, Value.int.injEq, outL, outT, zft, zcp, zed, zef, zei, zeh, List.length_cons, List.length_nil, Nat.reduceAdd, Nat.zero_add, Nat.reduceLeDiff, List.drop_zero, List.take_succ_cons, List.take_zero, zfi, zfh, Ro.dl, zdb, zda, zfe, and_self, and_true, true_and, eq_self, List.append_nil, List.nil_append, List.cons_append, ne_eq, not_false_eq_true, and_false, false_and, Bool.false_eq_true, St.ev, zes, zfn, zhk, r7]
end Go.Proofs.YtgcnmlecihegcaaGreat
/- Cubes of the program: zeros, their test. -/
namespace Go.Proofs.YtgcnmlecihegcaaGreat
open Go.RowKit
theorem impE_agg1 (b : Nat) (gn : Nat → Nat) (xs : List AV) : impE b gn (.agg [.row xs]) = ⟨.agg [.ref b (gn b + 1) [] 0 xs.length], none, [], [(b, .row xs)]⟩ := nr _
set_option maxRecDepth 1000000 in
theorem c103 {n : Nat} (h0 : 0 < n) (hn : n ≤ maxN) : CallOK Tryz.prog 128 [i64 n] (.agg [cubeA (fun _ _ _ => 0) n]) := by
 refine call_of (fn := Tryz.f128) (code := bodyOf Tryz.f128) Tryz.func128 rfl (by kernel_rfl) (by have := noRef_cube (fun _ _ _ => 0) n; simp only [noRef, noRefL, Bool.and_true] at this ⊢; exact this) ?_
 intro sl hs
 have s0 : sl 0 = i64 n := hs 0
 have hn' : n ≤ 4294967296 := hn
 have c126' := c126 hn hn
 simp only [rowLL, rowL, rws_map] at c126'
 simp only [Tryz.f128, bodyOf, Option.getD, go_sem, ↓reduceIte, Nat.reduceEqDiff, reduceCtorEq, Nat.reduceAdd, Nat.reduceMul, Nat.reduceLeDiff, ti2, ti3, ti4, ti22, ti23, ti31, ti33, s0, List.map_nil]
 refine WK_for (fun i st => st.sl 0 = i64 n ∧ st.sl 2 = .ptr 4096 1 [] 0 ∧ st.ro 4096 1 = some (.bx [nilA]) ∧ st.sl 3 = .ptr 8208 1 [] 0 ∧ st.sl 5 = i64 n ∧ st.sl 6 = i64 (i : Int) ∧ ((i = 0 ∧ st.ro 8208 1 = some (.bx [nilA])) ∨
   (0 < i ∧ st.ro 8208 1 = some (.bx [.ref 20576 (st.gn 20576) [] 0 i]) ∧ st.ro 20576 (st.gn 20576) = some (.row (rws (fun _ => .row (rws (fun _ => .row (rws (fun _ => i64 0) n)) n)) i))))) n ?_ ?_ ?_
 · simp only [↓zcy, ↓zcz, ↓zda, ↓zdb, ↓reduceIte, Nat.reduceEqDiff, and_true, true_and, and_self, ne_eq, not_false_eq_true, eq_self, false_and, and_false, reduceCtorEq, s0]
   exact ⟨rfl, .inl trivial⟩
 · rintro i sl ro gn hi ⟨s0, s2, r2, s3, s5, s6, r3⟩
   dsimp only at s0 s2 r2 s3 s5 s6 r3
   have hi' : (i : Int) < n := by omega
   have hi2 : i + 1 ≤ 4294967296 := by omega
   rcases r3 with ⟨hi0, q3⟩ | ⟨hi0, q3, q4⟩
   · simp (maxSteps := 10000000) (disch := first | omega | assumption) only [go_sem, ↓reduceIte, Nat.reduceEqDiff, reduceCtorEq, Nat.reduceAdd, Nat.reduceMul, Nat.reduceLeDiff, zfu, Int.mul_def, Int.add_def, zfv, cond_false, cond_true, isub, ti2, ti3, ti4, ti22, ti23, ti31, ti33, s0, s2, r2, s3, s5, s6, q3, hi']
     refine CLLD_pure _ c126' rfl rfl ?_
     simp (maxSteps := 10000000) (disch := first | omega | assumption) only [go_sem, ↓reduceIte, Nat.reduceEqDiff, reduceCtorEq, Nat.reduceAdd, Nat.reduceMul, Nat.reduceLeDiff, zfu, Int.mul_def, Int.add_def, zfv, cond_false, cond_true, isub, ti2, ti3, ti4, ti22, ti23, ti31, ti33, s0, s2, r2, s3, s5, s6, q3, impE_row, pureL, pureA]
     refine FIN_of (by kernel_rfl) ?_
     simp (maxSteps := 10000000) (disch := first | omega | assumption) only [go_sem, ↓reduceIte, Nat.reduceEqDiff, reduceCtorEq, Nat.reduceAdd, Nat.reduceMul, Nat.reduceLeDiff, zfu, Int.mul_def, Int.add_def, zfv, cond_false, cond_true, isub, ti2, ti3, ti4, ti22, ti23, ti31, ti33, s0, s2, r2, s3, s5, s6]
     refine ⟨i64c (by omega), .inr ⟨by omega, ?_⟩⟩
     subst hi0
     exact ⟨rfl, rfl⟩
   · simp (maxSteps := 10000000) (disch := first | omega | assumption) only [go_sem, ↓reduceIte, Nat.reduceEqDiff, reduceCtorEq, Nat.reduceAdd, Nat.reduceMul, Nat.reduceLeDiff, zfu, Int.mul_def, Int.add_def, zfv, cond_false, cond_true, isub, ti2, ti3, ti4, ti22, ti23, ti31, ti33, s0, s2, r2, s3, s5, s6, q3, q4, hi']
     refine CLLD_pure _ c126' rfl rfl ?_
     simp (maxSteps := 10000000) (disch := first | omega | assumption) only [go_sem, ↓reduceIte, Nat.reduceEqDiff, reduceCtorEq, Nat.reduceAdd, Nat.reduceMul, Nat.reduceLeDiff, zfu, Int.mul_def, Int.add_def, zfv, cond_false, cond_true, isub, ti2, ti3, ti4, ti22, ti23, ti31, ti33, s0, s2, r2, s3, s5, s6, q3, q4, impE_row, pureL, pureA, hi2]
     refine FIN_of (by kernel_rfl) ?_
     simp (maxSteps := 10000000) (disch := first | omega | assumption) only [go_sem, ↓reduceIte, Nat.reduceEqDiff, reduceCtorEq, Nat.reduceAdd, Nat.reduceMul, Nat.reduceLeDiff, zfu, Int.mul_def, Int.add_def, zfv, cond_false, cond_true, isub, ti2, ti3, ti4, ti22, ti23, ti31, ti33, s0, s2, r2, s3, s5, s6]
     exact ⟨i64c (by omega), .inr trivial⟩
 · rintro sl ro gn ⟨s0, s2, r2, s3, s5, s6, r3⟩
   dsimp only at s0 s2 r2 s3 s5 s6 r3
   rcases r3 with ⟨hi0, q3⟩ | ⟨hi0, q3, q4⟩
   · omega
   · have hi' : ¬ (n : Int) < n := by omega
     simp (maxSteps := 10000000) (disch := first | omega | assumption) only [go_sem, ↓reduceIte, Nat.reduceEqDiff, reduceCtorEq, Nat.reduceAdd, Nat.reduceMul, Nat.reduceLeDiff, zfu, Int.mul_def, Int.add_def, zfv, cond_false, cond_true, isub, ti2, ti3, ti4, ti22, ti23, ti31, ti33, s0, s2, r2, s3, s5, s6, q3, q4, hi']
     simp only [zbj, zbk, retR, resL, outT, zes, zez, oneV, ↓zcy, ↓zcz, ↓reduceIte, Nat.reduceEqDiff, Option.some.injEq, AV.sc.injEq, Value.bool.injEq, Value.int.injEq, outL, outT, zft, zcp, zed, zef, zei, zeh, List.length_cons, List.length_nil, Nat.reduceAdd, Nat.zero_add, Nat.reduceLeDiff, List.drop_zero, List.take_succ_cons, List.take_zero, zfi, zfh, Ro.dl, zdb, zda, zfe, and_self, and_true, true_and, eq_self, List.append_nil, List.nil_append, List.cons_append, ne_eq, not_false_eq_true, and_false, false_and, Bool.false_eq_true, St.ev, zes, zfn, zhk, s2, ti33, q3, q4]
set_option maxRecDepth 1000000 in
theorem c149 {x lo hi : Int} : CallOK Tryz.prog 124 [i64 x, .iptr [i64 lo], .iptr [i64 hi]] (bo (!decide (lo ≤ x ∧ x ≤ hi))) := by
 refine call_of (fn := Tryz.f124) (code := bodyOf Tryz.f124) Tryz.func124 rfl (by kernel_rfl) rfl ?_
 intro sl hs
 have s0 : sl 0 = i64 x := hs 0
 have s1 : sl 1 = .iptr [i64 lo] := hs 1
 have s2 : sl 2 = .iptr [i64 hi] := hs 2
 simp only [Tryz.f124, bodyOf, Option.getD, go_sem, ↓reduceIte, Nat.reduceEqDiff, reduceCtorEq, Nat.reduceAdd, Nat.reduceMul, Nat.reduceLeDiff, ti2, ti4, s0, s1, s2]
 refine CLL_pure _ c40 rfl rfl rfl ?_
 simp (maxSteps := 10000000) (disch := first | omega | assumption) only [go_sem, ↓reduceIte, Nat.reduceEqDiff, reduceCtorEq, Nat.reduceAdd, Nat.reduceMul, Nat.reduceLeDiff, zfu, Int.mul_def, Int.add_def, zfv, cond_false, cond_true, isub, ti2, ti4, s0, s1, s2]
 simp only [zbj, zbk, retR, resL, outT, zes, zez, oneV, ↓zcy, ↓zcz, ↓reduceIte, Nat.reduceEqDiff, Option.some.injEq, AV.sc.injEq, Value.bool.injEq, Value.int.injEq, outL, outT, zft, zcp, zed, zef, zei, zeh, List.length_cons, List.length_nil, Nat.reduceAdd, Nat.zero_add, Nat.reduceLeDiff, List.drop_zero, List.take_succ_cons, List.take_zero, zfi, zfh, Ro.dl, zdb, zda, zfe, and_self, and_true, true_and, eq_self, List.append_nil, List.nil_append, List.cons_append, ne_eq, not_false_eq_true, and_false, false_and, Bool.false_eq_true, St.ev, zes, zfn, zhk]
def allW (xs : List Int) (lo hi : Int) : Bool := !decide (0 ≤ ixp (fun x => !decide (lo ≤ x ∧ x ≤ hi)) xs 0)
theorem allW_iff {xs : List Int} {lo hi : Int} : allW xs lo hi = true ↔ ∀ k, k < xs.length → lo ≤ atI xs k ∧ atI xs k ≤ hi := by
 unfold allW
 rw [Bool.not_eq_true', decide_eq_false_iff_not, ixp_neg]
 constructor
 · intro h k hk
   by_cases h2 : lo ≤ atI xs k ∧ atI xs k ≤ hi
   · exact h2
   · exact absurd ⟨k, hk, by simp [h2]⟩ h
 · rintro h ⟨k, hk, h2⟩
   simp [h k hk] at h2
set_option maxRecDepth 1000000 in
theorem c129 {a : AV} {xs : List Int} {lo hi : Int} (ha : isL a xs) (hx : xs.length ≤ maxN) : CallOK Tryz.prog 81 [a, i64 lo, i64 hi] (bo (allW xs lo hi)) := by
 refine call_of (fn := Tryz.f81) (code := bodyOf Tryz.f81) Tryz.func81 rfl (by kernel_rfl) rfl ?_
 intro sl hs
 have s0 : sl 0 = a := hs 0
 have s1 : sl 1 = i64 lo := hs 1
 have s2 : sl 2 = i64 hi := hs 2
 simp only [Tryz.f81, bodyOf, Option.getD, go_sem, ↓reduceIte, Nat.reduceEqDiff, reduceCtorEq, Nat.reduceAdd, Nat.reduceMul, Nat.reduceLeDiff, ti2, ti4, s0, s1, s2]
 refine CLL_args _ (c95 (g := 124) (caps := [.iptr [i64 lo], .iptr [i64 hi]]) ha hx rfl rfl fun x => c149) ?_ rfl rfl rfl ?_
 · unfold argsX
   rw [if_neg (by simp [pureL, pureA])]
   show [ex _ 8 a, AV.fn 124 [ex _ 7 _, ex _ 7 _]] = _
   rw [isL_ex8 _ ha]
   simp only [ex, zef, ↓zcy, ↓zcz, ↓zda, ↓zdb, ↓reduceIte, Nat.reduceEqDiff, and_true, true_and, and_self, ne_eq, not_false_eq_true, eq_self, false_and, and_false, reduceCtorEq, zei, List.drop_zero, List.map_cons, List.map_nil]
 · simp (maxSteps := 10000000) (disch := first | omega | assumption) only [go_sem, ↓reduceIte, Nat.reduceEqDiff, reduceCtorEq, Nat.reduceAdd, Nat.reduceMul, Nat.reduceLeDiff, zfu, Int.mul_def, Int.add_def, zfv, cond_false, cond_true, isub, ti2, ti4, s0, s1, s2]
   simp only [zbj, zbk, retR, resL, outT, zes, zez, oneV, ↓zcy, ↓zcz, ↓reduceIte, Nat.reduceEqDiff, Option.some.injEq, AV.sc.injEq, Value.bool.injEq, Value.int.injEq, outL, outT, zft, zcp, zed, zef, zei, zeh, List.length_cons, List.length_nil, Nat.reduceAdd, Nat.zero_add, Nat.reduceLeDiff, List.drop_zero, List.take_succ_cons, List.take_zero, zfi, zfh, Ro.dl, zdb, zda, zfe, and_self, and_true, true_and, eq_self, List.append_nil, List.nil_append, List.cons_append, ne_eq, not_false_eq_true, and_false, false_and, Bool.false_eq_true, St.ev, zes, zfn, zhk, allW]
set_option maxRecDepth 1000000 in
theorem c128 {a : AV} {xs : List Int} {n : Nat} (ha : isL a xs) (hx : xs.length ≤ maxN) : CallOK Tryz.prog 118 [a, .iptr [i64 n]] (bo (!(decide (xs.length = n) && allW xs 0 1000))) := by
 refine call_of (fn := Tryz.f118) (code := bodyOf Tryz.f118) Tryz.func118 rfl (by kernel_rfl) rfl ?_
 intro sl hs
 have s0 : sl 0 = a := hs 0
 have s1 : sl 1 = .iptr [i64 n] := hs 1
 by_cases h : xs.length = n
 · have h' : (xs.length : Int) = n := by omega
   simp only [Tryz.f118, bodyOf, Option.getD, go_sem, ↓reduceIte, Nat.reduceEqDiff, reduceCtorEq, Nat.reduceAdd, Nat.reduceMul, Nat.reduceLeDiff, ti2, ti3, ti4, ti23, s0, s1, isL_len ha, eq_true h']
   refine CLL_pure _ (c129 ha hx) (by simp only [pureL, isL_pure ha, pureA, Bool.and_self]) rfl rfl ?_
   simp (maxSteps := 10000000) (disch := first | omega | assumption) only [go_sem, ↓reduceIte, Nat.reduceEqDiff, reduceCtorEq, Nat.reduceAdd, Nat.reduceMul, Nat.reduceLeDiff, zfu, Int.mul_def, Int.add_def, zfv, cond_false, cond_true, isub, ti2, ti4, s0, s1]
   simp only [zbj, zbk, retR, resL, outT, zes, zez, oneV, ↓zcy, ↓zcz, ↓reduceIte, Nat.reduceEqDiff, Option.some.injEq, AV.sc.injEq, Value.bool.injEq, Value.int.injEq, outL, outT, zft, zcp, zed, zef, zei, zeh, List.length_cons, List.length_nil, Nat.reduceAdd, Nat.zero_add, Nat.reduceLeDiff, List.drop_zero, List.take_succ_cons, List.take_zero, zfi, zfh, Ro.dl, zdb, zda, zfe, and_self, and_true, true_and, eq_self, List.append_nil, List.nil_append, List.cons_append, ne_eq, not_false_eq_true, and_false, false_and, Bool.false_eq_true, St.ev, zes, zfn, zhk, decide_eq_true h, Bool.true_and]
 · have h' : ¬ (xs.length : Int) = n := by omega
   simp only [Tryz.f118, bodyOf, Option.getD, go_sem, ↓reduceIte, Nat.reduceEqDiff, reduceCtorEq, Nat.reduceAdd, Nat.reduceMul, Nat.reduceLeDiff, ti2, ti3, ti4, ti23, s0, s1, isL_len ha, eq_false h']
   simp only [zbj, zbk, retR, resL, outT, zes, zez, oneV, ↓zcy, ↓zcz, ↓reduceIte, Nat.reduceEqDiff, Option.some.injEq, AV.sc.injEq, Value.bool.injEq, Value.int.injEq, outL, outT, zft, zcp, zed, zef, zei, zeh, List.length_cons, List.length_nil, Nat.reduceAdd, Nat.zero_add, Nat.reduceLeDiff, List.drop_zero, List.take_succ_cons, List.take_zero, zfi, zfh, Ro.dl, zdb, zda, zfe, and_self, and_true, true_and, eq_self, List.append_nil, List.nil_append, List.cons_append, ne_eq, not_false_eq_true, and_false, false_and, Bool.false_eq_true, St.ev, zes, zfn, zhk, decide_eq_false h, Bool.false_and, Bool.not_false]
set_option maxRecDepth 1000000 in
theorem c148 {a : AV} {xss : List (List Int)} {g : Nat} {caps : List AV} {p : Nat → Bool} (ha : isLL a xss) (hx : xss.length ≤ maxN) (hi : XX.isIn g = false) (hcp : pureL caps = true) (hc : ∀ k, k < xss.length → CallOK Tryz.prog g (atA a k :: caps) (bo (p k))) {z : Int} (hz1 : (∀ k, k < xss.length → p k = false) → z = -1) (hz2 : ∀ k, k < xss.length → p k = true → (∀ j, j < k → p j = false) → z = k) :
   CallOK Tryz.prog 149 [a, .fn g caps] (i64 z) := by
 refine call_of (fn := Tryz.f149) (code := bodyOf Tryz.f149) Tryz.func149 rfl (by kernel_rfl) rfl ?_
 intro sl hs
 have s0 : sl 0 = a := hs 0
 have s1 : sl 1 = .fn g caps := hs 1
 have hx' : xss.length ≤ 4294967296 := hx
 simp only [Tryz.f149, bodyOf, Option.getD, go_sem, ↓reduceIte, Nat.reduceEqDiff, reduceCtorEq, Nat.reduceAdd, Nat.reduceMul, Nat.reduceLeDiff, ti2, ti3, ti4, ti22, ti23, s0, s1, isLL_len ha]
 refine WK_for (fun k st => st.sl 0 = a ∧ st.sl 1 = .fn g caps ∧ st.sl 7 = i64 (xss.length : Int) ∧ st.sl 8 = i64 (k : Int) ∧ ∀ j, j < k → p j = false) xss.length ?_ ?_ ?_
 · simp only [↓zcy, ↓zcz, ↓zda, ↓zdb, ↓reduceIte, Nat.reduceEqDiff, and_true, true_and, and_self, ne_eq, not_false_eq_true, eq_self, false_and, and_false, reduceCtorEq, s0, s1]
   exact ⟨rfl, fun j hj => absurd hj (Nat.not_lt_zero _)⟩
 · rintro k sl ro gn hk ⟨s0, s1, s7, s8, hp⟩
   dsimp only at s0 s1 s7 s8
   have hk' : (k : Int) < xss.length := by omega
   simp (maxSteps := 10000000) (disch := first | omega | assumption) only [go_sem, ↓reduceIte, Nat.reduceEqDiff, reduceCtorEq, Nat.reduceAdd, Nat.reduceMul, Nat.reduceLeDiff, zfu, Int.mul_def, Int.add_def, zfv, cond_false, cond_true, isub, ti2, ti3, ti4, ti22, ti23, s0, s1, s7, s8, isLL_idx ha hk, hk']
   refine CLL_pure _ (hc k hk) (by simp only [List.cons_append, List.nil_append, pureL, isL_pure (isLL_row ha hk), hcp, Bool.and_self]) hi rfl ?_
   cases hpx : p k with
   | true =>
     simp (maxSteps := 10000000) (disch := first | omega | assumption) only [go_sem, ↓reduceIte, Nat.reduceEqDiff, reduceCtorEq, Nat.reduceAdd, Nat.reduceMul, Nat.reduceLeDiff, zfu, Int.mul_def, Int.add_def, zfv, cond_false, cond_true, isub, ti2, ti3, ti4, ti23, s0, s1, s7, s8]
     simp only [zbj, zbk, retR, resL, outT, zes, zez, oneV, ↓zcy, ↓zcz, ↓reduceIte, Nat.reduceEqDiff, Option.some.injEq, AV.sc.injEq, Value.bool.injEq, Value.int.injEq, outL, outT, zft, zcp, zed, zef, zei, zeh, List.length_cons, List.length_nil, Nat.reduceAdd, Nat.zero_add, Nat.reduceLeDiff, List.drop_zero, List.take_succ_cons, List.take_zero, zfi, zfh, Ro.dl, zdb, zda, zfe, and_self, and_true, true_and, eq_self, List.append_nil, List.nil_append, List.cons_append, ne_eq, not_false_eq_true, and_false, false_and, Bool.false_eq_true, St.ev, zes, zfn, zhk]
     exact (hz2 k hk hpx hp).symm
   | false =>
     simp (maxSteps := 10000000) (disch := first | omega | assumption) only [go_sem, ↓reduceIte, Nat.reduceEqDiff, reduceCtorEq, Nat.reduceAdd, Nat.reduceMul, Nat.reduceLeDiff, zfu, Int.mul_def, Int.add_def, zfv, cond_false, cond_true, isub, ti2, ti3, ti4, ti23, s0, s1, s7, s8]
     refine ⟨i64c (by omega), fun j hj => ?_⟩
     rcases Nat.lt_or_ge j k with h | h
     · exact hp j h
     · have : j = k := by omega
       subst this; exact hpx
 · rintro sl ro gn ⟨s0, s1, s7, s8, hp⟩
   dsimp only at s0 s1 s7 s8
   have hk' : ¬ (xss.length : Int) < xss.length := by omega
   simp (maxSteps := 10000000) (disch := first | omega | assumption) only [go_sem, ↓reduceIte, Nat.reduceEqDiff, reduceCtorEq, Nat.reduceAdd, Nat.reduceMul, Nat.reduceLeDiff, zfu, Int.mul_def, Int.add_def, zfv, cond_false, cond_true, isub, ti2, ti3, ti4, ti22, ti23, s0, s1, s7, s8, hk']
   simp only [zbj, zbk, retR, resL, outT, zes, zez, oneV, ↓zcy, ↓zcz, ↓reduceIte, Nat.reduceEqDiff, Option.some.injEq, AV.sc.injEq, Value.bool.injEq, Value.int.injEq, outL, outT, zft, zcp, zed, zef, zei, zeh, List.length_cons, List.length_nil, Nat.reduceAdd, Nat.zero_add, Nat.reduceLeDiff, List.drop_zero, List.take_succ_cons, List.take_zero, zfi, zfh, Ro.dl, zdb, zda, zfe, and_self, and_true, true_and, eq_self, List.append_nil, List.nil_append, List.cons_append, ne_eq, not_false_eq_true, and_false, false_and, Bool.false_eq_true, St.ev, zes, zfn, zhk]
   exact (hz1 hp).symm
set_option maxRecDepth 1000000 in
theorem c127 {a : AV} {xss : List (List Int)} {g : Nat} {caps : List AV} {p : Nat → Bool} (ha : isLL a xss) (hx : xss.length ≤ maxN) (hi : XX.isIn g = false) (hcp : pureL caps = true) (hc : ∀ k, k < xss.length → CallOK Tryz.prog g (atA a k :: caps) (bo (p k))) {t : Bool} (ht : t = true ↔ ∃ k, k < xss.length ∧ p k = true) :
   CallOK Tryz.prog 117 [a, .fn g caps] (bo t) := by
 refine call_of (fn := Tryz.f117) (code := bodyOf Tryz.f117) Tryz.func117 rfl (by kernel_rfl) rfl ?_
 intro sl hs
 have s0 : sl 0 = a := hs 0
 have s1 : sl 1 = .fn g caps := hs 1
 simp only [Tryz.f117, bodyOf, Option.getD, go_sem, ↓reduceIte, Nat.reduceEqDiff, reduceCtorEq, Nat.reduceAdd, Nat.reduceMul, Nat.reduceLeDiff, ti2, ti3, ti4, ti23, s0, s1]
 by_cases h : ∃ k, k < xss.length ∧ p k = true
 · have : ∃ m : Nat, m < xss.length ∧ p m = true ∧ ∀ j, j < m → p j = false := by
     obtain ⟨m, h1, h2⟩ := h
     induction m using Nat.strongRecOn with
     | ind m ih =>
       by_cases h3 : ∃ j, j < m ∧ p j = true
       · obtain ⟨j, h4, h5⟩ := h3; exact ih j h4 (by omega) h5
       · refine ⟨m, h1, h2, fun j hj => ?_⟩
         cases he : p j with
         | false => rfl
         | true => exact absurd ⟨j, hj, he⟩ h3
   obtain ⟨m, h1, h2, h3⟩ := this
   have ht' : t = true := ht.2 h
   refine CLL_pure _ (c148 (z := (m : Int)) ha hx hi hcp hc (fun h4 => by rw [h4 m h1] at h2; cases h2) (fun k hk hpk hj => ?_)) (by simp only [pureL, isLL_pure ha, pureA, hcp, Bool.and_self]) rfl rfl ?_
   · rcases Nat.lt_trichotomy m k with h4 | h4 | h4
     · rw [hj m h4] at h2; cases h2
     · rw [h4]
     · rw [h3 k h4] at hpk; cases hpk
   · have hge : ¬ ((m : Int) < 0) := by omega
     simp (maxSteps := 10000000) (disch := first | omega | assumption) only [go_sem, ↓reduceIte, Nat.reduceEqDiff, reduceCtorEq, Nat.reduceAdd, Nat.reduceMul, Nat.reduceLeDiff, zfu, Int.mul_def, Int.add_def, zfv, cond_false, cond_true, isub, ti3, ti4, s0, s1, hge]
     simp only [zbj, zbk, retR, resL, outT, zes, zez, oneV, ↓zcy, ↓zcz, ↓reduceIte, Nat.reduceEqDiff, Option.some.injEq, AV.sc.injEq, Value.bool.injEq, Value.int.injEq, outL, outT, zft, zcp, zed, zef, zei, zeh, List.length_cons, List.length_nil, Nat.reduceAdd, Nat.zero_add, Nat.reduceLeDiff, List.drop_zero, List.take_succ_cons, List.take_zero, zfi, zfh, Ro.dl, zdb, zda, zfe, and_self, and_true, true_and, eq_self, List.append_nil, List.nil_append, List.cons_append, ne_eq, not_false_eq_true, and_false, false_and, Bool.false_eq_true, St.ev, zes, zfn, zhk, ht']
 · have ht' : t = false := by
     cases h2 : t with
     | false => rfl
     | true => exact absurd (ht.1 h2) h
   refine CLL_pure _ (c148 (z := -1) ha hx hi hcp hc (fun _ => rfl) (fun k hk hpk hj => absurd ⟨k, hk, hpk⟩ h)) (by simp only [pureL, isLL_pure ha, pureA, hcp, Bool.and_self]) rfl rfl ?_
   have hlt : (-1 : Int) < 0 := by decide
   simp (maxSteps := 10000000) (disch := first | omega | assumption) only [go_sem, ↓reduceIte, Nat.reduceEqDiff, reduceCtorEq, Nat.reduceAdd, Nat.reduceMul, Nat.reduceLeDiff, zfu, Int.mul_def, Int.add_def, zfv, cond_false, cond_true, isub, ti3, ti4, s0, s1, hlt]
   simp only [zbj, zbk, retR, resL, outT, zes, zez, oneV, ↓zcy, ↓zcz, ↓reduceIte, Nat.reduceEqDiff, Option.some.injEq, AV.sc.injEq, Value.bool.injEq, Value.int.injEq, outL, outT, zft, zcp, zed, zef, zei, zeh, List.length_cons, List.length_nil, Nat.reduceAdd, Nat.zero_add, Nat.reduceLeDiff, List.drop_zero, List.take_succ_cons, List.take_zero, zfi, zfh, Ro.dl, zdb, zda, zfe, and_self, and_true, true_and, eq_self, List.append_nil, List.nil_append, List.cons_append, ne_eq, not_false_eq_true, and_false, false_and, Bool.false_eq_true, St.ev, zes, zfn, zhk, ht']
abbrev immC (F : Nat → Nat → Nat → Int) (n : Nat) : AV := .imm (rws (fun i => .imm (rws (fun j => .imm (rws (fun k => i64 (F i j k)) n)) n)) n)
def plane (F : Nat → Nat → Nat → Int) (n i : Nat) : List (List Int) := rws (fun j => rws (fun k => F i j k) n) n
theorem isLL_plane (F : Nat → Nat → Nat → Int) (n i : Nat) : isLL (.imm (rws (fun j => .imm (rws (fun k => i64 (F i j k)) n)) n)) (plane F n i) := by
 have : (AV.imm (rws (fun j => .imm (rws (fun k => i64 (F i j k)) n)) n)) = immLL (plane F n i) := by simp only [immLL, immL, plane, rws_map]
 rw [this]; exact isLL_imm _
theorem kIdx_immrws {ro : Ro} {f : Nat → AV} {n k : Nat} (hk : k < n) {a1 : Nat} {a2 : Bool} {a3 : List Value} {e : Nat} {a5 : List (Nat × Nat)} {a6 : Option IntKind} {a7 a8 : Bool} : kIdx (some ⟨a1, a2, a3, some e, a5, a6, a7, a8⟩) ro (.imm (rws f n)) (i64 (k : Int)) = some ⟨.iptr [f k], none, [], []⟩ := by
 simp [kIdx, rws_get f n k hk]
theorem kLen_immrws {ro : Ro} {f : Nat → AV} {n : Nat} {a1 : Nat} {a2 : Bool} {a3 : List Value} {e : Nat} {a5 : List (Nat × Nat)} {a6 : Option IntKind} {a7 a8 : Bool} : kLen1 (some ⟨a1, a2, a3, some e, a5, a6, a7, a8⟩) ro (.imm (rws f n)) = some ⟨i64 n, none, [], []⟩ := by
 simp [kLen1, zfe]
def cubeOk (F : Nat → Nat → Nat → Int) (n : Nat) : Prop := ∀ i, i < n → ∀ j, j < n → ∀ k, k < n → 0 ≤ F i j k ∧ F i j k ≤ 1000
set_option maxRecDepth 1000000 in
theorem c105 {F : Nat → Nat → Nat → Int} {n : Nat} (h0 : 0 < n) (hn : n ≤ maxN) {t : Bool} (ht : t = true ↔ (cubeOk F n ∧ n ≤ 16)) : CallOK Tryz.prog 75 [.agg [immC F n]] (bo t) := by
 refine call_of (fn := Tryz.f75) (code := bodyOf Tryz.f75) Tryz.func75 rfl (by kernel_rfl) rfl ?_
 intro sl hs
 have s0 : sl 0 = .agg [immC F n] := hs 0
 have hn' : n ≤ 4294967296 := hn
 simp only [Tryz.f75, bodyOf, Option.getD, go_sem, ↓reduceIte, Nat.reduceEqDiff, reduceCtorEq, Nat.reduceAdd, Nat.reduceMul, Nat.reduceLeDiff, ti2, ti3, ti4, ti22, ti23, ti31, ti33, s0, kLen_immrws, List.map_nil]
 refine WK_for (fun i st => st.sl 1 = .ptr 4096 1 [] 0 ∧ st.ro 4096 1 = some (.bx [immC F n]) ∧ st.sl 3 = .ptr 8240 1 [] 0 ∧ st.ro 8240 1 = some (.bx [i64 n]) ∧ st.sl 10 = immC F n ∧ st.sl 11 = i64 n ∧ st.sl 12 = i64 (i : Int) ∧ ∀ j, j < i → ∀ y, y < n → ∀ k, k < n → 0 ≤ F j y k ∧ F j y k ≤ 1000) n ?_ ?_ ?_
 · simp only [↓zcy, ↓zcz, ↓zda, ↓zdb, ↓reduceIte, Nat.reduceEqDiff, and_true, true_and, and_self, ne_eq, not_false_eq_true, eq_self, false_and, and_false, reduceCtorEq]
   exact ⟨rfl, fun j hj => absurd hj (Nat.not_lt_zero _)⟩
 · rintro i sl ro gn hi ⟨s1, r1, s3, r3, s10, s11, s12, hp⟩
   dsimp only at s1 r1 s3 r3 s10 s11 s12
   have hi' : (i : Int) < n := by omega
   have hpl := isLL_plane F n i
   have hpn : (plane F n i).length = n := zfe _ _
   simp (maxSteps := 10000000) (disch := first | omega | assumption) only [go_sem, ↓reduceIte, Nat.reduceEqDiff, reduceCtorEq, Nat.reduceAdd, Nat.reduceMul, Nat.reduceLeDiff, zfu, Int.mul_def, Int.add_def, zfv, cond_false, cond_true, isub, ti2, ti3, ti4, ti22, ti23, ti31, ti33, s1, r1, s3, r3, s10, s11, s12, hi', kIdx_immrws hi, kLen_immrws]
   have hax : argsX ro [.imm (rws (fun j => .imm (rws (fun k => i64 (F i j k)) n)) n), .fn 118 [.ptr 8240 1 [] 0]] = [.imm (rws (fun j => .imm (rws (fun k => i64 (F i j k)) n)) n), .fn 118 [.iptr [i64 n]]] := by
     unfold argsX
     rw [if_neg (by simp [pureL, pureA])]
     have e1 : (AV.imm (rws (fun j => .imm (rws (fun k => i64 (F i j k)) n)) n)) = immLL (plane F n i) := by simp only [immLL, immL, plane, rws_map]
     rw [e1]
     show [ex _ 8 _, AV.fn 118 [ex _ 7 _]] = _
     rw [ex_immLL 5]
     simp only [ex, zef, r3, zei, List.drop_zero, List.map_cons, List.map_nil]
   have hrow : ∀ y, y < n → row (plane F n i) y = rws (fun k => F i y k) n := fun y hy => row_rws _ hy
   by_cases hb : ∃ y, y < n ∧ ∃ k, k < n ∧ ¬ (0 ≤ F i y k ∧ F i y k ≤ 1000)
   · refine CLL_args _ (c127 (t := true) (p := fun y => !(decide ((row (plane F n i) y).length = n) && allW (row (plane F n i) y) 0 1000)) hpl (by omega) rfl rfl (fun y hy => c128 (isLL_row hpl hy) (by rw [hrow y (by omega), zfe]; exact hn)) ?_) hax rfl rfl rfl ?_
     · refine ⟨fun _ => ?_, fun _ => rfl⟩
       obtain ⟨y, hy, k, hk, hbad⟩ := hb
       refine ⟨y, by omega, ?_⟩
       rw [hrow y hy, zfe]
       cases hw : allW (rws (fun k => F i y k) n) 0 1000 with
       | false => simp
       | true =>
         have := allW_iff.1 hw k (by rw [zfe]; exact hk)
         rw [atI_rws _ hk] at this
         exact absurd this hbad
     · simp (maxSteps := 10000000) (disch := first | omega | assumption) only [go_sem, ↓reduceIte, Nat.reduceEqDiff, reduceCtorEq, Nat.reduceAdd, Nat.reduceMul, Nat.reduceLeDiff, zfu, Int.mul_def, Int.add_def, zfv, cond_false, cond_true, isub, ti2, ti3, ti4, ti22, ti23, ti31, ti33, s1, r1, s3, r3, s10, s11, s12]
       simp only [zbj, zbk, retR, resL, outT, zes, zez, oneV, ↓zcy, ↓zcz, ↓reduceIte, Nat.reduceEqDiff, Option.some.injEq, AV.sc.injEq, Value.bool.injEq, Value.int.injEq, outL, outT, zft, zcp, zed, zef, zei, zeh, List.length_cons, List.length_nil, Nat.reduceAdd, Nat.zero_add, Nat.reduceLeDiff, List.drop_zero, List.take_succ_cons, List.take_zero, zfi, zfh, Ro.dl, zdb, zda, zfe, and_self, and_true, true_and, eq_self, List.append_nil, List.nil_append, List.cons_append, ne_eq, not_false_eq_true, and_false, false_and, Bool.false_eq_true, St.ev, zes, zfn, zhk]
       cases t with
       | false => rfl
       | true =>
         obtain ⟨y, hy, k, hk, hbad⟩ := hb
         exact absurd ((ht.1 rfl).1 i hi y hy k hk) hbad
   · have hg : ∀ y, y < n → ∀ k, k < n → 0 ≤ F i y k ∧ F i y k ≤ 1000 := by
       intro y hy k hk
       by_cases h : 0 ≤ F i y k ∧ F i y k ≤ 1000
       · exact h
       · exact absurd ⟨y, hy, k, hk, h⟩ hb
     refine CLL_args _ (c127 (t := false) (p := fun y => !(decide ((row (plane F n i) y).length = n) && allW (row (plane F n i) y) 0 1000)) hpl (by omega) rfl rfl (fun y hy => c128 (isLL_row hpl hy) (by rw [hrow y (by omega), zfe]; exact hn)) ?_) hax rfl rfl rfl ?_
     · refine ⟨fun h => (by cases h), ?_⟩
       rintro ⟨y, hy, h⟩
       rw [hpn] at hy
       rw [hrow y hy, zfe] at h
       have : allW (rws (fun k => F i y k) n) 0 1000 = true := allW_iff.2 fun k hk => by
         rw [zfe] at hk
         rw [atI_rws _ hk]; exact hg y hy k hk
       simp [this] at h
     · simp (maxSteps := 10000000) (disch := first | omega | assumption) only [go_sem, ↓reduceIte, Nat.reduceEqDiff, reduceCtorEq, Nat.reduceAdd, Nat.reduceMul, Nat.reduceLeDiff, zfu, Int.mul_def, Int.add_def, zfv, cond_false, cond_true, isub, ti2, ti3, ti4, ti22, ti23, ti31, ti33, s1, r1, s3, r3, s10, s11, s12]
       refine ⟨i64c (by omega), fun j hj => ?_⟩
       rcases Nat.lt_or_ge j i with h | h
       · exact hp j h
       · have : j = i := by omega
         subst this; exact hg
 · rintro sl ro gn ⟨s1, r1, s3, r3, s10, s11, s12, hp⟩
   dsimp only at s1 r1 s3 r3 s10 s11 s12
   have hi' : ¬ (n : Int) < n := by omega
   have hge : ¬ ((n : Int) < 1) := by omega
   by_cases hm : n ≤ 16
   · have hm' : ¬ ((16 : Int) < n) := by omega
     simp (maxSteps := 10000000) (disch := first | omega | assumption) only [go_sem, ↓reduceIte, Nat.reduceEqDiff, reduceCtorEq, Nat.reduceAdd, Nat.reduceMul, Nat.reduceLeDiff, zfu, Int.mul_def, Int.add_def, zfv, cond_false, cond_true, isub, ti2, ti3, ti4, ti22, ti23, ti31, ti33, s1, r1, s3, r3, s10, s11, s12, hi', hge, hm']
     simp only [zbj, zbk, retR, resL, outT, zes, zez, oneV, ↓zcy, ↓zcz, ↓reduceIte, Nat.reduceEqDiff, Option.some.injEq, AV.sc.injEq, Value.bool.injEq, Value.int.injEq, outL, outT, zft, zcp, zed, zef, zei, zeh, List.length_cons, List.length_nil, Nat.reduceAdd, Nat.zero_add, Nat.reduceLeDiff, List.drop_zero, List.take_succ_cons, List.take_zero, zfi, zfh, Ro.dl, zdb, zda, zfe, and_self, and_true, true_and, eq_self, List.append_nil, List.nil_append, List.cons_append, ne_eq, not_false_eq_true, and_false, false_and, Bool.false_eq_true, St.ev, zes, zfn, zhk]
     exact (ht.2 ⟨hp, hm⟩).symm
   · have hm' : ((16 : Int) < n) := by omega
     simp (maxSteps := 10000000) (disch := first | omega | assumption) only [go_sem, ↓reduceIte, Nat.reduceEqDiff, reduceCtorEq, Nat.reduceAdd, Nat.reduceMul, Nat.reduceLeDiff, zfu, Int.mul_def, Int.add_def, zfv, cond_false, cond_true, isub, ti2, ti3, ti4, ti22, ti23, ti31, ti33, s1, r1, s3, r3, s10, s11, s12, hi', hge, hm']
     simp only [zbj, zbk, retR, resL, outT, zes, zez, oneV, ↓zcy, ↓zcz, ↓reduceIte, Nat.reduceEqDiff, Option.some.injEq, AV.sc.injEq, Value.bool.injEq, Value.int.injEq, outL, outT, zft, zcp, zed, zef, zei, zeh, List.length_cons, List.length_nil, Nat.reduceAdd, Nat.zero_add, Nat.reduceLeDiff, List.drop_zero, List.take_succ_cons, List.take_zero, zfi, zfh, Ro.dl, zdb, zda, zfe, and_self, and_true, true_and, eq_self, List.append_nil, List.nil_append, List.cons_append, ne_eq, not_false_eq_true, and_false, false_and, Bool.false_eq_true, St.ev, zes, zfn, zhk]
     cases t with
     | false => rfl
     | true => exact absurd (ht.1 rfl).2 hm
end Go.Proofs.YtgcnmlecihegcaaGreat
/- The numbers N (program); both agree. -/
namespace Go.Proofs.YtgcnmlecihegcaaGreat
open Go.RowKit
section
variable (S : List (List Int)) (n : Nat)
def iv (l : Nat) : Int := qt 1 (atI (row S 0) l)
def fuT (i j c l : Nat) : Int := atI (row S i) l * atI (row S j) l % 55441 * atI (row S c) l % 55441 * iv S l % 55441
def fuE (cj : List Int) (i j k : Nat) : Int := qt (sm (fuT S i j (atI cj k).toNat) n % 55441) (whl S n)
end
def MM (a b : Int) : Prop := a % 55441 = b % 55441
theorem MM.mod (a : Int) : MM (a % 55441) a := Int.emod_emod_of_dvd _ (by decide : (55441:Int) ∣ 55441)
theorem MM.mul {a b c d : Int} (h1 : MM a b) (h2 : MM c d) : MM (a * c) (b * d) := by
 unfold MM at *
 rw [Int.mul_emod, h1, h2, ← Int.mul_emod]
theorem MM.rfl {a : Int} : MM a a := Eq.refl _
theorem MM.trans {a b c : Int} (h1 : MM a b) (h2 : MM b c) : MM a c := Eq.trans h1 h2
theorem MM.symm {a b : Int} (h : MM a b) : MM b a := Eq.symm h
theorem sm_MM {f g : Nat → Int} : ∀ {n : Nat}, (∀ l, l < n → MM (f l) (g l)) → MM (sm f n) (sm g n)
 | 0, _ => MM.rfl
 | n + 1, h => by
   have ih := sm_MM (n := n) fun l hl => h l (by omega)
   have hn := h n (by omega)
   unfold MM at *
   simp only [sm]
   rw [Int.add_emod, ih, hn, ← Int.add_emod]
theorem sm_mul (f : Nat → Int) (w : Int) : ∀ n : Nat, sm f n * w = sm (fun l => f l * w) n
 | 0 => by simp [sm]
 | n + 1 => by simp only [sm, Int.add_mul, sm_mul f w n]
theorem fu_nm (S : List (List Int)) (n : Nat) (cj : List Int) (i j k : Nat) : fuE S n cj i j k = nmE S n cj i j k := by
 unfold fuE nmE qt
 show MM _ _
 refine (MM.mul (MM.mod _) MM.rfl).trans ?_
 rw [sm_mul]
 refine sm_MM fun l hl => ?_
 rw [atI_rws _ hl]
 unfold fuT both inv0 iv qt
 generalize atI (row S i) l = a
 generalize atI (row S j) l = b
 generalize atI (row S (atI cj k).toNat) l = x
 generalize pw (whl S n) 55439 = w
 generalize pw (atI (row S 0) l) 55439 = v
 have h1 : MM (a * b % 55441 * x % 55441 * (1 * v % 55441) % 55441 * w) (a * b * x * (1 * v) * w) :=
   MM.mul ((MM.mod _).trans (MM.mul ((MM.mod _).trans (MM.mul (MM.mod _) MM.rfl)) (MM.mod _))) MM.rfl
 have h2 : MM (a * b % 55441 * (v * w % 55441) % 55441 * x) (a * b * (v * w) * x) :=
   MM.mul ((MM.mod _).trans (MM.mul (MM.mod _) (MM.mod _))) MM.rfl
 refine h1.trans (MM.trans ?_ h2.symm)
 have : a * b * x * (1 * v) * w = a * b * (v * w) * x := by
   rw [Int.one_mul, Int.mul_assoc (a * b) x v, Int.mul_assoc (a * b) (x * v) w, Int.mul_assoc (a * b) (v * w) x, Int.mul_assoc x v w, Int.mul_comm x (v * w)]
 rw [this]
 exact MM.rfl
theorem num_fuT (S : List (List Int)) (i j c l : Nat) : 0 ≤ fuT S i j c l ∧ fuT S i j c l ≤ 55440 := by
 have := num_mod (atI (row S i) l * atI (row S j) l % 55441 * atI (row S c) l % 55441 * iv S l)
 unfold num at this
 unfold fuT
 omega
theorem ex_cube {ro : Ro} {s g n : Nat} {F : Nat → Nat → Nat → Int} (h : ro s g = some (cubeA F n)) (k : Nat) : ex ro (k + 4) (.ref s g [] 0 n) = immC F n := by
 show (match ro.cells s g [] with | some cs => AV.imm (((cs.drop 0).take n).map (ex ro (k + 3))) | none => .dead) = _
 rw [zef, h]
 simp only [zeh, List.drop_zero, zff, rws_map, immC]
 refine congrArg AV.imm (rws_congr fun x _ => ?_)
 show AV.imm ((rws (fun j => AV.row (rws (fun k => i64 (F x j k)) n)) n).map (ex ro (k + 2))) = _
 rw [rws_map]
 refine congrArg AV.imm (rws_congr fun y _ => ?_)
 show AV.imm ((rws (fun k => i64 (F x y k)) n).map (ex ro (k + 1))) = _
 rw [rws_map]
 rfl
set_option maxRecDepth 1000000 in
set_option maxHeartbeats 10000000 in
theorem c79 {a b c : AV} {S : List (List Int)} {T cj : List Int} (hb : isL b T) (ha : isLL a S) (hc : isL c cj) (hs : Shp S T) (hcl : cj.length = T.length) (hcj : ∀ k, k < T.length → 0 ≤ atI cj k ∧ atI cj k < T.length) {t : Bool} (ht : t = true ↔ (cubeOk (fuE S T.length cj) T.length ∧ T.length ≤ 16)) :
   CallOK Tryz.prog 92 [.agg [a, b], c] (.tup [.agg [cubeA (fuE S T.length cj) T.length], bo t]) := by
 refine call_of (fn := Tryz.f92) (code := bodyOf Tryz.f92) Tryz.func92 rfl (by kernel_rfl) (noRef_tup1 _ _ (by have := noRef_cube (fuE S T.length cj) T.length; simp only [noRef, noRefL, Bool.and_true] at this ⊢; exact this)) ?_
 intro sl hs0
 have s0 : sl 0 = .agg [a, b] := hs0 0
 have s1 : sl 1 = c := hs0 1
 obtain ⟨hpos, hmax, hlS, hlR, hnS, hnT⟩ := hs
 generalize hN : T.length = n at *
 have hmax' : n ≤ 4294967296 := hmax
 have hlR0 := hlR 0 hpos
 have h0 := isLL_row ha (k := 0) (by omega)
 have c91' := c91 ha (isL_cell hb) (fun ro => isL_cellB ro hb) (by rw [hlR0]; exact hmax) (by omega) hnS
 rw [hlR0] at c91'
 have c104' := c104 h0 (by rw [hlR0]; exact hmax) (hnS 0)
 simp only [hlR0, rowL, rws_map] at c104'
 simp only [Tryz.f92, bodyOf, Option.getD, go_sem, ↓reduceIte, Nat.reduceEqDiff, reduceCtorEq, Nat.reduceAdd, Nat.reduceMul, Nat.reduceLeDiff, ti2, ti3, ti4, ti22, ti23, ti25, ti31, ti33, ti77, s0, s1, isL_cellB _ hb, isLL_cellB _ ha, isLL_lift _ _ _ ha, isL_lift _ _ _ hb, isLL_len ha, hlS, List.map_nil, isLL_sites ha]
 refine CLLD_pure _ (c103 hpos hmax) rfl rfl ?_
 simp only [go_sem, ↓reduceIte, Nat.reduceEqDiff, reduceCtorEq, Nat.reduceAdd, Nat.reduceMul, Nat.reduceLeDiff, ti2, ti3, ti4, ti22, ti23, ti25, ti31, ti33, ti77, isLL_lift _ _ _ ha, isL_lift _ _ _ hb, impE_agg1, zfe]
 refine CLLD_pure _ c91' (by simp only [pureL, pureA, isLL_pure ha, isL_pure hb, Bool.and_self]) rfl ?_
 simp only [go_sem, ↓reduceIte, Nat.reduceEqDiff, reduceCtorEq, Nat.reduceAdd, Nat.reduceMul, Nat.reduceLeDiff, ti2, ti3, ti4, ti22, ti23, ti25, ti31, ti33, ti77, isLL_lift _ _ _ ha, isL_lift _ _ _ hb, isLL_sites ha, isL_sites hb, pureL, pureA, isLL_pure ha, isL_pure hb, List.map_nil]
 refine FIN_of (by kernel_rfl) ?_
 simp only [go_sem, ↓reduceIte, Nat.reduceEqDiff, reduceCtorEq, Nat.reduceAdd, Nat.reduceMul, Nat.reduceLeDiff, ti2, ti3, ti4, ti22, ti23, ti25, ti31, ti33, ti77, isLL_lift _ _ _ ha, isLL_idx0 ha (by omega : 0 < S.length)]
 refine CLL_pure _ c104' (by simp only [pureL, isL_pure h0, Bool.and_self]) rfl rfl ?_
 simp only [go_sem, ↓reduceIte, Nat.reduceEqDiff, reduceCtorEq, Nat.reduceAdd, Nat.reduceMul, Nat.reduceLeDiff, ti2, ti3, ti4, ti22, ti23, ti25, ti31, ti33, ti77, isLL_lift _ _ _ ha, isLL_len ha, hlS, impE_row]
 refine WK_for (fun i st => st.sl 1 = c ∧ st.sl 2 = .ptr 4096 1 [] 0 ∧ st.ro 4096 1 = some (.bx [a, b]) ∧ st.sl 4 = .ptr 4112 1 [] 0 ∧ st.ro 4112 1 = some (.bx [nilA]) ∧ st.sl 6 = .ptr 8288 1 [] 0 ∧ st.ro 8288 1 = some (.bx [.ref 8240 1 [] 0 n]) ∧ st.sl 7 = i64 (whl S n) ∧ st.sl 8 = .ref 12352 1 [] 0 n ∧ st.ro 12352 1 = some (.row (rws (fun i => i64 (qt 1 (atI (row S 0) i))) n)) ∧ st.ro 8240 1 = some (cubeA (pgF (fuE S n cj) i 0 0) n) ∧ st.sl 30 = a ∧ st.sl 31 = i64 n ∧ st.sl 32 = i64 (i : Int)) n ?_ ?_ ?_
 · simp only [↓zcy, ↓zcz, ↓zda, ↓zdb, ↓reduceIte, Nat.reduceEqDiff, and_true, true_and, and_self, ne_eq, not_false_eq_true, eq_self, false_and, and_false, reduceCtorEq, s1]
   exact ⟨congrArg some (cube_congr fun x y z _ _ _ => by simp [pgF]), rfl⟩
 · rintro i sl ro gn hi ⟨s1, s2, r2, s4, r4, s6, r6, s7, s8, r8, r7, s30, s31, s32⟩
   dsimp only at s1 s2 r2 s4 r4 s6 r6 s7 s8 r8 r7 s30 s31 s32
   have hi' : (i : Int) < n := by omega
   have h1 := isLL_row ha (k := i) (by omega)
   simp (maxSteps := 10000000) (disch := first | omega | assumption) only [go_sem, ↓reduceIte, Nat.reduceEqDiff, reduceCtorEq, Nat.reduceAdd, Nat.reduceMul, Nat.reduceLeDiff, zfu, Int.mul_def, Int.add_def, zfv, cond_false, cond_true, isub, ti2, ti3, ti4, ti22, ti23, ti25, ti31, ti33, ti77, s1, s2, r2, s4, r4, s6, r6, s7, s8, r8, s30, s31, s32, hi', isLL_idx ha (by omega : i < S.length), isLL_lift _ _ _ ha, isLL_len ha, hlS]
   refine WK_for (fun j st => st.sl 1 = c ∧ st.sl 2 = .ptr 4096 1 [] 0 ∧ st.ro 4096 1 = some (.bx [a, b]) ∧ st.sl 4 = .ptr 4112 1 [] 0 ∧ st.ro 4112 1 = some (.bx [nilA]) ∧ st.sl 6 = .ptr 8288 1 [] 0 ∧ st.ro 8288 1 = some (.bx [.ref 8240 1 [] 0 n]) ∧ st.sl 7 = i64 (whl S n) ∧ st.sl 8 = .ref 12352 1 [] 0 n ∧ st.ro 12352 1 = some (.row (rws (fun i => i64 (qt 1 (atI (row S 0) i))) n)) ∧ st.ro 8240 1 = some (cubeA (pgF (fuE S n cj) i j 0) n) ∧ st.sl 30 = a ∧ st.sl 31 = i64 n ∧ st.sl 32 = i64 (i : Int) ∧ st.sl 9 = i64 (i : Int) ∧ st.sl 10 = atA a i ∧ st.sl 38 = a ∧ st.sl 39 = i64 n ∧ st.sl 40 = i64 (j : Int)) n ?_ ?_ ?_
   · simp only [↓zcy, ↓zcz, ↓zda, ↓zdb, ↓reduceIte, Nat.reduceEqDiff, and_true, true_and, and_self, ne_eq, not_false_eq_true, eq_self, false_and, and_false, reduceCtorEq, s1, s2, r2, s4, r4, s6, r6, s7, s8, r8, r7, s30, s31, s32]
     rfl
   · rintro j sl ro gn hj ⟨s1, s2, r2, s4, r4, s6, r6, s7, s8, r8, r7, s30, s31, s32, s9, s10, s38, s39, s40⟩
     dsimp only at s1 s2 r2 s4 r4 s6 r6 s7 s8 r8 r7 s30 s31 s32 s9 s10 s38 s39 s40
     have hj' : (j : Int) < n := by omega
     have h2 := isLL_row ha (k := j) (by omega)
     simp (maxSteps := 10000000) (disch := first | omega | assumption) only [go_sem, ↓reduceIte, Nat.reduceEqDiff, reduceCtorEq, Nat.reduceAdd, Nat.reduceMul, Nat.reduceLeDiff, zfu, Int.mul_def, Int.add_def, zfv, cond_false, cond_true, isub, ti2, ti3, ti4, ti22, ti23, ti25, ti31, ti33, ti77, s1, s2, r2, s4, r4, s6, r6, s7, s8, r8, s30, s31, s32, s9, s10, s38, s39, s40, hj', isLL_idx ha (by omega : j < S.length), isLL_lift _ _ _ ha, isLL_len ha, hlS, isL_len hc, hcl]
     refine WK_for (fun k st => st.sl 1 = c ∧ st.sl 2 = .ptr 4096 1 [] 0 ∧ st.ro 4096 1 = some (.bx [a, b]) ∧ st.sl 4 = .ptr 4112 1 [] 0 ∧ st.ro 4112 1 = some (.bx [nilA]) ∧ st.sl 6 = .ptr 8288 1 [] 0 ∧ st.ro 8288 1 = some (.bx [.ref 8240 1 [] 0 n]) ∧ st.sl 7 = i64 (whl S n) ∧ st.sl 8 = .ref 12352 1 [] 0 n ∧ st.ro 12352 1 = some (.row (rws (fun i => i64 (qt 1 (atI (row S 0) i))) n)) ∧ st.ro 8240 1 = some (cubeA (pgF (fuE S n cj) i j k) n) ∧ st.sl 30 = a ∧ st.sl 31 = i64 n ∧ st.sl 32 = i64 (i : Int) ∧ st.sl 9 = i64 (i : Int) ∧ st.sl 10 = atA a i ∧ st.sl 38 = a ∧ st.sl 39 = i64 n ∧ st.sl 40 = i64 (j : Int) ∧ st.sl 11 = i64 (j : Int) ∧ st.sl 12 = atA a j ∧ st.sl 45 = c ∧ st.sl 46 = i64 n ∧ st.sl 47 = i64 (k : Int)) n ?_ ?_ ?_
     · simp only [↓zcy, ↓zcz, ↓zda, ↓zdb, ↓reduceIte, Nat.reduceEqDiff, and_true, true_and, and_self, ne_eq, not_false_eq_true, eq_self, false_and, and_false, reduceCtorEq, s1, s2, r2, s4, r4, s6, r6, s7, s8, r8, r7, s30, s31, s32, s9, s10, s38, s39, s40]
       rfl
     · rintro k sl ro gn hk ⟨s1, s2, r2, s4, r4, s6, r6, s7, s8, r8, r7, s30, s31, s32, s9, s10, s38, s39, s40, s11, s12, s45, s46, s47⟩
       dsimp only at s1 s2 r2 s4 r4 s6 r6 s7 s8 r8 r7 s30 s31 s32 s9 s10 s38 s39 s40 s11 s12 s45 s46 s47
       have hk' : (k : Int) < n := by omega
       obtain ⟨hq1, hq2⟩ := hcj k hk
       obtain ⟨m, hm⟩ : ∃ m : Nat, atI cj k = m := ⟨(atI cj k).toNat, by omega⟩
       have hmn : m < n := by omega
       have h3 := isLL_row ha (k := m) (by omega)
       have hlm := hlR m hmn
       simp (maxSteps := 10000000) (disch := first | omega | assumption) only [go_sem, ↓reduceIte, Nat.reduceEqDiff, reduceCtorEq, Nat.reduceAdd, Nat.reduceMul, Nat.reduceLeDiff, zfu, Int.mul_def, Int.add_def, zfv, cond_false, cond_true, isub, ti2, ti3, ti4, ti22, ti23, ti25, ti31, ti33, ti77, s1, s2, r2, s4, r4, s6, r6, s7, s8, r8, s30, s31, s32, s9, s10, s38, s39, s40, s11, s12, s45, s46, s47, hk', isL_idx hc (by omega : k < cj.length), hm, isLL_idx ha (by omega : m < S.length), isLL_lift _ _ _ ha, isL_len h3, hlm]
       refine WK_for (fun l st => st.sl 1 = c ∧ st.sl 2 = .ptr 4096 1 [] 0 ∧ st.ro 4096 1 = some (.bx [a, b]) ∧ st.sl 4 = .ptr 4112 1 [] 0 ∧ st.ro 4112 1 = some (.bx [nilA]) ∧ st.sl 6 = .ptr 8288 1 [] 0 ∧ st.ro 8288 1 = some (.bx [.ref 8240 1 [] 0 n]) ∧ st.sl 7 = i64 (whl S n) ∧ st.sl 8 = .ref 12352 1 [] 0 n ∧ st.ro 12352 1 = some (.row (rws (fun i => i64 (qt 1 (atI (row S 0) i))) n)) ∧ st.ro 8240 1 = some (cubeA (pgF (fuE S n cj) i j k) n) ∧ st.sl 30 = a ∧ st.sl 31 = i64 n ∧ st.sl 32 = i64 (i : Int) ∧ st.sl 9 = i64 (i : Int) ∧ st.sl 10 = atA a i ∧ st.sl 38 = a ∧ st.sl 39 = i64 n ∧ st.sl 40 = i64 (j : Int) ∧ st.sl 11 = i64 (j : Int) ∧ st.sl 12 = atA a j ∧ st.sl 45 = c ∧ st.sl 46 = i64 n ∧ st.sl 47 = i64 (k : Int) ∧ st.sl 13 = i64 (k : Int) ∧ st.sl 56 = atA a m ∧ st.sl 57 = i64 n ∧ st.sl 58 = i64 (l : Int) ∧ st.sl 15 = i64 (sm (fuT S i j m) l)) n ?_ ?_ ?_
       · simp only [↓zcy, ↓zcz, ↓zda, ↓zdb, ↓reduceIte, Nat.reduceEqDiff, and_true, true_and, and_self, ne_eq, not_false_eq_true, eq_self, false_and, and_false, reduceCtorEq, s1, s2, r2, s4, r4, s6, r6, s7, s8, r8, r7, s30, s31, s32, s9, s10, s38, s39, s40, s11, s12, s45, s46, s47]
         exact ⟨rfl, rfl⟩
       · rintro l sl ro gn hl ⟨s1, s2, r2, s4, r4, s6, r6, s7, s8, r8, r7, s30, s31, s32, s9, s10, s38, s39, s40, s11, s12, s45, s46, s47, s13, s56, s57, s58, s15⟩
         dsimp only at s1 s2 r2 s4 r4 s6 r6 s7 s8 r8 r7 s30 s31 s32 s9 s10 s38 s39 s40 s11 s12 s45 s46 s47 s13 s56 s57 s58 s15
         have hl' : (l : Int) < n := by omega
         have hg := rws_get (fun i => i64 (qt 1 (atI (row S 0) i))) n l hl
         have hb1 := num_mul (hnS i l) (hnS j l)
         have hb2 := num_mod (atI (row S i) l * atI (row S j) l)
         have hb3 := num_mul hb2 (hnS m l)
         have hb4 := num_mod (atI (row S i) l * atI (row S j) l % 55441 * atI (row S m) l)
         have hb5 : num (qt 1 (atI (row S 0) l)) := num_mod _
         have hb6 := num_mul hb4 hb5
         have hb7 := sm_bnd (f := fuT S i j m) (B := 55440) (fun l => num_fuT S i j m l) l
         have hb8 := num_fuT S i j m l
         have e1 : atI (row S i) l * atI (row S j) l % 55441 * atI (row S m) l % 55441 * qt 1 (atI (row S 0) l) % 55441 = fuT S i j m l := rfl
         unfold num at hb2 hb4 hb5
         simp (maxSteps := 10000000) (disch := first | omega | assumption) only [go_sem, ↓reduceIte, Nat.reduceEqDiff, reduceCtorEq, Nat.reduceAdd, Nat.reduceMul, Nat.reduceLeDiff, zfu, Int.mul_def, Int.add_def, zfv, cond_false, cond_true, isub, ti2, ti3, ti4, ti22, ti23, ti25, ti31, ti33, ti77, s1, s2, r2, s4, r4, s6, r6, s7, s8, r8, s9, s10, s38, s39, s40, s11, s12, s45, s46, s47, s13, s56, s57, s58, s15, hl', hl, hg, isL_idx h1 (by rw [hlR i hi]; exact hl : l < (row S i).length), isL_idx h2 (by rw [hlR j hj]; exact hl : l < (row S j).length), isL_idx h3 (by rw [hlm]; exact hl : l < (row S m).length), isL_sites h1, isL_sites h2, isL_sites h3, Int.tmod_eq_emod_of_nonneg, e1]
         refine FIN_of (by kernel_rfl) ?_
         simp (maxSteps := 10000000) (disch := first | omega | assumption) only [go_sem, ↓reduceIte, Nat.reduceEqDiff, reduceCtorEq, Nat.reduceAdd, Nat.reduceMul, Nat.reduceLeDiff, zfu, Int.mul_def, Int.add_def, zfv, cond_false, cond_true, isub, ti2, ti3, ti4, ti22, ti23, ti25, ti31, ti33, ti77, s1, s2, r2, s4, r4, s6, r6, s7, s8, r8, r7, s30, s31, s32, s9, s10, s38, s39, s40, s11, s12, s45, s46, s47, s13, s56, s57, s58, s15]
         exact ⟨i64c (by omega), i64c rfl⟩
       · rintro sl ro gn ⟨s1, s2, r2, s4, r4, s6, r6, s7, s8, r8, r7, s30, s31, s32, s9, s10, s38, s39, s40, s11, s12, s45, s46, s47, s13, s56, s57, s58, s15⟩
         dsimp only at s1 s2 r2 s4 r4 s6 r6 s7 s8 r8 r7 s30 s31 s32 s9 s10 s38 s39 s40 s11 s12 s45 s46 s47 s13 s56 s57 s58 s15
         have hl' : ¬ (n : Int) < n := by omega
         have hb7 := sm_bnd (f := fuT S i j m) (B := 55440) (fun l => num_fuT S i j m l) n
         have hgi := rws_get (fun x => AV.row (rws (fun y => .row (rws (fun z => i64 (pgF (fuE S n cj) i j k x y z)) n)) n)) n i hi
         have hgj := rws_get (fun y => AV.row (rws (fun z => i64 (pgF (fuE S n cj) i j k i y z)) n)) n j hj
         simp (maxSteps := 10000000) (disch := first | omega | assumption) only [go_sem, ↓reduceIte, Nat.reduceEqDiff, reduceCtorEq, Nat.reduceAdd, Nat.reduceMul, Nat.reduceLeDiff, zfu, Int.mul_def, Int.add_def, zfv, cond_false, cond_true, isub, ti2, ti3, ti4, ti22, ti23, ti25, ti31, ti33, ti77, s1, s2, r2, s4, r4, s6, r6, s7, s8, r8, r7, s30, s31, s32, s9, s10, s38, s39, s40, s11, s12, s45, s46, s47, s13, s56, s57, s58, s15, hl', hi, hj, hk, hgi, hgj, zfp, inO_row, rowO_row, Int.tmod_eq_emod_of_nonneg]
         have hnm := num_mod (sm (fuT S i j m) n)
         refine CLLD_pure (i64 (fuE S n cj i j k)) (by rw [show fuE S n cj i j k = _ from by unfold fuE; rw [hm, Int.toNat_natCast]]; exact c65 hnm.1 hnm.2 (num_whl S n).1 (num_whl S n).2) rfl rfl ?_
         simp (maxSteps := 10000000) (disch := first | omega | assumption) only [go_sem, ↓reduceIte, Nat.reduceEqDiff, reduceCtorEq, Nat.reduceAdd, Nat.reduceMul, Nat.reduceLeDiff, zfu, Int.mul_def, Int.add_def, zfv, cond_false, cond_true, isub, ti2, ti3, ti4, ti22, ti23, ti25, ti31, ti33, ti77, s1, s2, r2, s4, r4, s6, r6, s7, s8, r8, r7, s30, s31, s32, s9, s10, s38, s39, s40, s11, s12, s45, s46, s47, s13, s56, s57, s58, s15, hk, (by omega : k + 1 ≤ n), cube_cells r7 hi hj, cube_bx r7 hi hj, cube_wr r7 hi hj hk, pureL, pureA]
         refine FIN_of (by kernel_rfl) ?_
         simp (maxSteps := 10000000) (disch := first | omega | assumption) only [go_sem, ↓reduceIte, Nat.reduceEqDiff, reduceCtorEq, Nat.reduceAdd, Nat.reduceMul, Nat.reduceLeDiff, zfu, Int.mul_def, Int.add_def, zfv, cond_false, cond_true, isub, ti2, ti3, ti4, ti22, ti23, ti25, ti31, ti33, ti77, s1, s2, r2, s4, r4, s6, r6, s7, s8, r8, r7, s30, s31, s32, s9, s10, s38, s39, s40, s11, s12, s45, s46, s47, s13, s56, s57, s58, s15]
         exact ⟨congrArg some (pg_step _ _ _ _ _), i64c (by omega)⟩
     · rintro sl ro gn ⟨s1, s2, r2, s4, r4, s6, r6, s7, s8, r8, r7, s30, s31, s32, s9, s10, s38, s39, s40, s11, s12, s45, s46, s47⟩
       dsimp only at s1 s2 r2 s4 r4 s6 r6 s7 s8 r8 r7 s30 s31 s32 s9 s10 s38 s39 s40 s11 s12 s45 s46 s47
       have hk' : ¬ (n : Int) < n := by omega
       simp (maxSteps := 10000000) (disch := first | omega | assumption) only [go_sem, ↓reduceIte, Nat.reduceEqDiff, reduceCtorEq, Nat.reduceAdd, Nat.reduceMul, Nat.reduceLeDiff, zfu, Int.mul_def, Int.add_def, zfv, cond_false, cond_true, isub, ti2, ti3, ti4, ti22, ti23, ti25, ti31, ti33, ti77, s1, s2, r2, s4, r4, s6, r6, s7, s8, r8, r7, s30, s31, s32, s9, s10, s38, s39, s40, s11, s12, s45, s46, s47, hk']
       refine ⟨congrArg some (cube_congr fun x y z _ _ hz => ?_), i64c (by omega)⟩
       have e : (x < i ∨ (x = i ∧ (y < j ∨ (y = j ∧ z < n)))) ↔ (x < i ∨ (x = i ∧ (y < j + 1 ∨ (y = j + 1 ∧ z < 0)))) := by omega
       simp only [pgF, e]
   · rintro sl ro gn ⟨s1, s2, r2, s4, r4, s6, r6, s7, s8, r8, r7, s30, s31, s32, s9, s10, s38, s39, s40⟩
     dsimp only at s1 s2 r2 s4 r4 s6 r6 s7 s8 r8 r7 s30 s31 s32 s9 s10 s38 s39 s40
     have hj' : ¬ (n : Int) < n := by omega
     simp (maxSteps := 10000000) (disch := first | omega | assumption) only [go_sem, ↓reduceIte, Nat.reduceEqDiff, reduceCtorEq, Nat.reduceAdd, Nat.reduceMul, Nat.reduceLeDiff, zfu, Int.mul_def, Int.add_def, zfv, cond_false, cond_true, isub, ti2, ti3, ti4, ti22, ti23, ti25, ti31, ti33, ti77, s1, s2, r2, s4, r4, s6, r6, s7, s8, r8, r7, s30, s31, s32, s9, s10, s38, s39, s40, hj']
     refine ⟨congrArg some (cube_congr fun x y z _ hy _ => ?_), i64c (by omega)⟩
     have e : (x < i ∨ (x = i ∧ (y < n ∨ (y = n ∧ z < 0)))) ↔ (x < i + 1 ∨ (x = i + 1 ∧ (y < 0 ∨ (y = 0 ∧ z < 0)))) := by omega
     simp only [pgF, e]
 · rintro sl ro gn ⟨s1, s2, r2, s4, r4, s6, r6, s7, s8, r8, r7, s30, s31, s32⟩
   dsimp only at s1 s2 r2 s4 r4 s6 r6 s7 s8 r8 r7 s30 s31 s32
   have hi' : ¬ (n : Int) < n := by omega
   have e0 : cubeA (pgF (fuE S n cj) n 0 0) n = cubeA (fuE S n cj) n := cube_congr fun x y z hx _ _ => by simp [pgF, hx]
   rw [e0] at r7
   simp (maxSteps := 10000000) (disch := first | omega | assumption) only [go_sem, ↓reduceIte, Nat.reduceEqDiff, reduceCtorEq, Nat.reduceAdd, Nat.reduceMul, Nat.reduceLeDiff, zfu, Int.mul_def, Int.add_def, zfv, cond_false, cond_true, isub, ti2, ti3, ti4, ti22, ti23, ti25, ti31, ti33, ti77, s1, s2, r2, s4, r4, s6, r6, s7, s8, r8, r7, s30, s31, s32, hi', List.map_nil]
   have hax : argsX ro [.agg [.ref 8240 1 [] 0 n]] = [.agg [immC (fuE S n cj) n]] := by
     have hp : pureL [.agg [.ref 8240 1 [] 0 n]] = false := rfl
     unfold argsX
     rw [hp, if_neg Bool.false_ne_true]
     show [AV.agg [ex ro 7 _]] = _
     rw [ex_cube r7 3]
   refine CLLD_args (bo t) (c105 hpos hmax ht) hax rfl rfl ?_
   have hpu : pureL [.agg [.ref 8240 1 [] 0 n]] = false := rfl
   have hnr : noRefL (rws (fun i => AV.row (rws (fun j => AV.row (rws (fun k => i64 (fuE S n cj i j k)) n)) n)) n) = true := by simpa only [noRef] using noRef_cube (fuE S n cj) n
   simp (maxSteps := 10000000) (disch := first | omega | assumption) only [go_sem, ↓reduceIte, Nat.reduceEqDiff, reduceCtorEq, Nat.reduceAdd, Nat.reduceMul, Nat.reduceLeDiff, zfu, Int.mul_def, Int.add_def, zfv, cond_false, cond_true, isub, ti2, ti3, ti4, ti22, ti23, ti25, ti31, ti33, ti77, s1, s2, r2, s4, r4, s6, r6, s7, s8, r8, r7, s30, s31, s32, hpu, hnr]
   refine FIN_of (by kernel_rfl) ?_
   simp (maxSteps := 10000000) (disch := first | omega | assumption) only [go_sem, ↓reduceIte, Nat.reduceEqDiff, reduceCtorEq, Nat.reduceAdd, Nat.reduceMul, Nat.reduceLeDiff, zfu, Int.mul_def, Int.add_def, zfv, cond_false, cond_true, isub, ti2, ti3, ti4, ti22, ti23, ti25, ti31, ti33, ti77, s1, s2, r2, s4, r4, s6, r6, s7, s8, r8, r7, s30, s31, s32]
   simp only [zbj, zbk, retR, resL, outT, zes, zez, oneV, ↓zcy, ↓zcz, ↓reduceIte, Nat.reduceEqDiff, Option.some.injEq, AV.sc.injEq, Value.bool.injEq, Value.int.injEq, outL, outT, zft, zcp, zed, zef, zei, zeh, List.length_cons, List.length_nil, Nat.reduceAdd, Nat.zero_add, Nat.reduceLeDiff, List.drop_zero, List.take_succ_cons, List.take_zero, zfi, zfh, Ro.dl, zdb, zda, zfe, and_self, and_true, true_and, eq_self, List.append_nil, List.nil_append, List.cons_append, ne_eq, not_false_eq_true, and_false, false_and, Bool.false_eq_true, St.ev, zes, zfn, zhk, s1, s2, r2, s4, r4, s6, r6, s7, s8, r8, r7, ti33]
end Go.Proofs.YtgcnmlecihegcaaGreat
/- The rings of data. -/
namespace Go.Proofs.YtgcnmlecihegcaaGreat
open Go.RowKit
theorem ti34 : ti0 50 = ti0 50 := rfl
theorem cj_rng {S : List (List Int)} {T : List Int} (hs : Shp S T) (hP : CjP S T) : ∀ k, k < T.length → 0 ≤ atI (cjL S T) k ∧ atI (cjL S T) k < T.length := by
 intro k hk
 unfold cjL
 rw [atI_rws _ hk]
 refine ⟨(hP.1 k hk).2.1, ?_⟩
 rcases ix_cases (row (tms S S) k) (whl S T.length) with hc | ⟨m, hc, hm, -⟩
 · have : cjA S T k = -1 := hc
   omega
 · rw [tms_row (by rw [hs.lS]; exact hk), zfe, hs.lS] at hm
   have : cjA S T k = m := hc
   omega
theorem cjL_len (S : List (List Int)) (T : List Int) : (cjL S T).length = T.length := zfe _ _
theorem noRef_agg1 (x : AV) (h : noRef x = true) : noRef (.agg [x]) = true := by simp only [noRef, noRefL, h, Bool.and_true]
theorem impE_tupR (b : Nat) (gn : Nat → Nat) (xs : List AV) (v : Value) : impE b gn (.tup [.agg [.row xs], .sc v]) = ⟨.tup [.agg [.ref b (gn b + 1) [] 0 xs.length], .sc v], none, [], [(b, .row xs)]⟩ := nr _
theorem argsX_dr {ro : Ro} {a b : AV} {S : List (List Int)} {T cs : List Int} {s g : Nat} (ha : isLL a S) (hb : isL b T) (h : ro s g = some (rowL cs)) : argsX ro [.agg [a, b], .ref s g [] 0 cs.length] = [.agg [a, b], immL cs] := by
 have hp : pureL [.agg [a, b], .ref s g [] 0 cs.length] = false := by simp [pureL, pureA]
 unfold argsX
 rw [hp, if_neg Bool.false_ne_true]
 show [AV.agg [ex ro 7 a, ex ro 7 b], ex ro 8 _] = _
 rw [ex_refL h 6, isL_ex ro 5 hb]
 have : ex ro 7 a = a := by
   rcases ha with ⟨vs, rfl, h⟩ | ⟨-, rfl⟩
   · show AV.imm (vs.map (ex ro 6)) = _
     have : ∀ {vs : List AV} {xss : List (List Int)}, isLs vs xss → vs.map (ex ro 6) = vs := by
       intro vs
       induction vs with
       | nil => intro xss _; rfl
       | cons v vs ih =>
         intro xss h
         cases xss with
         | nil => exact h.elim
         | cons x xss => rw [List.map_cons, isL_ex ro 4 h.1, ih h.2]
     rw [this h]
   · rfl
 rw [this]
set_option maxRecDepth 1000000 in
theorem c45 {a b : AV} {S : List (List Int)} {T : List Int} (hb : isL b T) (ha : isLL a S) (hs : Shp S T) (hP : CjP S T) : CallOK Tryz.prog 49 [.agg [a, b]] (.agg [cubeA (nmE S T.length (cjL S T)) T.length]) := by
 refine call_of (fn := Tryz.f49) (code := bodyOf Tryz.f49) Tryz.func49 rfl (by kernel_rfl) (noRef_agg1 _ (noRef_cube _ _)) ?_
 intro sl hs0
 have s0 : sl 0 = .agg [a, b] := hs0 0
 simp only [Tryz.f49, bodyOf, Option.getD, go_sem, ↓reduceIte, Nat.reduceEqDiff, reduceCtorEq, Nat.reduceAdd, Nat.reduceMul, Nat.reduceLeDiff, ti2, ti23, ti25, ti31, ti33, s0, isL_cellB _ hb, isLL_cellB _ ha, isLL_lift _ _ _ ha, isL_lift _ _ _ hb, List.map_nil]
 refine CLLD_pure _ (c58 hb ha hs (noRef_rowL _) (fun _ => rfl) (fun h => absurd hP h)) (by simp only [pureL, pureA, isLL_pure ha, isL_pure hb, Bool.and_self]) rfl ?_
 simp only [go_sem, ↓reduceIte, Nat.reduceEqDiff, reduceCtorEq, Nat.reduceAdd, Nat.reduceMul, Nat.reduceLeDiff, ti2, ti23, ti25, ti31, ti33, impE_row, List.length_map, pureL, pureA, isLL_pure ha, isL_pure hb]
 refine CLLD_args _ (c78 hb ha (isL_imm (cjL S T)) hs (cjL_len S T) (cj_rng hs hP)) (argsX_dr ha hb (by simp only [↓zcy, ↓zcz, ↓zda, ↓zdb, ↓reduceIte, Nat.reduceEqDiff, and_true, true_and, and_self, ne_eq, not_false_eq_true, eq_self, false_and, and_false, reduceCtorEq])) rfl (noI_cube _ _) ?_
 have hpu : ∀ g n, pureL [.agg [a, b], .ref 8224 g [] 0 n] = false := fun g n => by simp [pureL, pureA]
 simp only [go_sem, ↓reduceIte, Nat.reduceEqDiff, reduceCtorEq, Nat.reduceAdd, Nat.reduceMul, Nat.reduceLeDiff, ti2, ti23, ti25, ti31, ti33, impE_row, List.length_map, hpu, zfe, List.map_nil, isLL_sh _ ha, isL_sh _ hb, isLL_sites ha, isL_sites hb]
 refine FIN_of (by kernel_rfl) ?_
 simp only [go_sem, ↓reduceIte, Nat.reduceEqDiff, reduceCtorEq, Nat.reduceAdd, Nat.reduceMul, Nat.reduceLeDiff, ti2, ti23, ti25, ti31, ti33]
 simp only [zbj, zbk, retR, resL, outT, zes, zez, oneV, ↓zcy, ↓zcz, ↓reduceIte, Nat.reduceEqDiff, Option.some.injEq, AV.sc.injEq, Value.bool.injEq, Value.int.injEq, outL, outT, zft, zcp, zed, zef, zei, zeh, List.length_cons, List.length_nil, Nat.reduceAdd, Nat.zero_add, Nat.reduceLeDiff, List.drop_zero, List.take_succ_cons, List.take_zero, zfi, zfh, Ro.dl, zdb, zda, zfe, and_self, and_true, true_and, eq_self, List.append_nil, List.nil_append, List.cons_append, ne_eq, not_false_eq_true, and_false, false_and, Bool.false_eq_true, St.ev, zes, zfn, zhk, ti33]
set_option maxRecDepth 1000000 in
theorem c46 {a b : AV} {S : List (List Int)} {T : List Int} (hb : isL b T) (ha : isLL a S) (hs : Shp S T) (hw : whl S T.length ≠ 0) (hP : CjP S T) : CallOK Tryz.prog 48 [.agg [a, b]] (.agg [cubeA (nmE S T.length (cjL S T)) T.length]) := by
 have hcs := cj_same hs hw
 have hdl : rws (djA S) T.length = cjL S T := rws_congr fun i hi => hcs.2 hP i hi
 have hcube : cubeA (fuE S T.length (cjL S T)) T.length = cubeA (nmE S T.length (cjL S T)) T.length := cube_congr fun x y z _ _ _ => fu_nm _ _ _ _ _ _
 have ht : ∃ t : Bool, t = true ↔ (cubeOk (fuE S T.length (cjL S T)) T.length ∧ T.length ≤ 16) := by
   by_cases h : cubeOk (fuE S T.length (cjL S T)) T.length ∧ T.length ≤ 16
   · exact ⟨true, by simp [h]⟩
   · exact ⟨false, by simp [h]⟩
 obtain ⟨t, ht⟩ := ht
 have c79' := c79 hb ha (isL_imm (cjL S T)) hs (cjL_len S T) (cj_rng hs hP) ht
 rw [hcube] at c79'
 refine call_of (fn := Tryz.f48) (code := bodyOf Tryz.f48) Tryz.func48 rfl (by kernel_rfl) (noRef_agg1 _ (noRef_cube _ _)) ?_
 intro sl hs0
 have s0 : sl 0 = .agg [a, b] := hs0 0
 simp only [Tryz.f48, bodyOf, Option.getD, go_sem, ↓reduceIte, Nat.reduceEqDiff, reduceCtorEq, Nat.reduceAdd, Nat.reduceMul, Nat.reduceLeDiff, ti2, ti23, ti25, ti31, ti33, s0, isL_cellB _ hb, isLL_cellB _ ha, isLL_lift _ _ _ ha, isL_lift _ _ _ hb, List.map_nil]
 refine CLLD_pure (rowL (cjL S T)) (c64 hb ha hs (noRef_rowL _) (fun _ => by rw [hdl]) (fun h => absurd (hcs.1.2 hP) h)) (by simp only [pureL, pureA, isLL_pure ha, isL_pure hb, Bool.and_self]) rfl ?_
 simp only [go_sem, ↓reduceIte, Nat.reduceEqDiff, reduceCtorEq, Nat.reduceAdd, Nat.reduceMul, Nat.reduceLeDiff, ti2, ti23, ti25, ti31, ti33, impE_row, List.length_map, pureL, pureA, isLL_pure ha, isL_pure hb]
 have hnI : noI (.tup [.agg [cubeA (nmE S T.length (cjL S T)) T.length], bo t]) = true := by
   have := noI_cube (nmE S T.length (cjL S T)) T.length
   simp only [noI, noIL, Bool.and_true] at this ⊢
   exact this
 refine CLLD_args _ c79' (argsX_dr ha hb (by simp only [↓zcy, ↓zcz, ↓zda, ↓zdb, ↓reduceIte, Nat.reduceEqDiff, and_true, true_and, and_self, ne_eq, not_false_eq_true, eq_self, false_and, and_false, reduceCtorEq])) rfl hnI ?_
 have hpu : ∀ g n, pureL [.agg [a, b], .ref 8224 g [] 0 n] = false := fun g n => by simp [pureL, pureA]
 simp only [go_sem, ↓reduceIte, Nat.reduceEqDiff, reduceCtorEq, Nat.reduceAdd, Nat.reduceMul, Nat.reduceLeDiff, ti2, ti23, ti25, ti31, ti33, impE_tupR, List.length_map, hpu, zfe, List.map_nil, isLL_sh _ ha, isL_sh _ hb, isLL_sites ha, isL_sites hb]
 refine FIN_of (by kernel_rfl) ?_
 simp only [go_sem, ↓reduceIte, Nat.reduceEqDiff, reduceCtorEq, Nat.reduceAdd, Nat.reduceMul, Nat.reduceLeDiff, ti2, ti23, ti25, ti31, ti33]
 simp only [zbj, zbk, retR, resL, outT, zes, zez, oneV, ↓zcy, ↓zcz, ↓reduceIte, Nat.reduceEqDiff, Option.some.injEq, AV.sc.injEq, Value.bool.injEq, Value.int.injEq, outL, outT, zft, zcp, zed, zef, zei, zeh, List.length_cons, List.length_nil, Nat.reduceAdd, Nat.zero_add, Nat.reduceLeDiff, List.drop_zero, List.take_succ_cons, List.take_zero, zfi, zfh, Ro.dl, zdb, zda, zfe, and_self, and_true, true_and, eq_self, List.append_nil, List.nil_append, List.cons_append, ne_eq, not_false_eq_true, and_false, false_and, Bool.false_eq_true, St.ev, zes, zfn, zhk, ti33]
end Go.Proofs.YtgcnmlecihegcaaGreat
/- The reference's data: numbers, Gauss sums. -/
namespace Go.Proofs.YtgcnmlecihegcaaGreat
open Go.RowKit
set_option maxRecDepth 1000000 in
theorem c147 {a : Int} : CallOK Tryz.prog 148 [i64 a] (bo (decide (0 ≤ a ∧ a ≤ 55440))) := by
 refine call_of (fn := Tryz.f148) (code := bodyOf Tryz.f148) Tryz.func148 rfl (by kernel_rfl) rfl ?_
 intro sl hs
 have s0 : sl 0 = i64 a := hs 0
 simp only [Tryz.f148, bodyOf, Option.getD, go_sem, ↓reduceIte, Nat.reduceEqDiff, reduceCtorEq, Nat.reduceAdd, Nat.reduceMul, Nat.reduceLeDiff, ti2, ti4, s0]
 refine CLL_pure _ c38 rfl rfl rfl ?_
 simp (maxSteps := 10000000) (disch := first | omega | assumption) only [go_sem, ↓reduceIte, Nat.reduceEqDiff, reduceCtorEq, Nat.reduceAdd, Nat.reduceMul, Nat.reduceLeDiff, zfu, Int.mul_def, Int.add_def, zfv, cond_false, cond_true, isub, ti2, ti4, s0]
 simp only [zbj, zbk, retR, resL, outT, zes, zez, oneV, ↓zcy, ↓zcz, ↓reduceIte, Nat.reduceEqDiff, Option.some.injEq, AV.sc.injEq, Value.bool.injEq, Value.int.injEq, outL, outT, zft, zcp, zed, zef, zei, zeh, List.length_cons, List.length_nil, Nat.reduceAdd, Nat.zero_add, Nat.reduceLeDiff, List.drop_zero, List.take_succ_cons, List.take_zero, zfi, zfh, Ro.dl, zdb, zda, zfe, and_self, and_true, true_and, eq_self, List.append_nil, List.nil_append, List.cons_append, ne_eq, not_false_eq_true, and_false, false_and, Bool.false_eq_true, St.ev, zes, zfn, zhk]
def NL (xs : List Int) : Prop := ∀ j, j < xs.length → 0 ≤ atI xs j ∧ atI xs j ≤ 55440
theorem NL_numL {xs : List Int} (h : NL xs) : numL xs := by
 intro j
 rcases Nat.lt_or_ge j xs.length with hj | hj
 · have := h j hj; exact ⟨this.1, by omega⟩
 · rw [atI_out hj]; exact ⟨by decide, by decide⟩
set_option maxRecDepth 1000000 in
theorem c123 {a : AV} {xs : List Int} (ha : isL a xs) (hx : xs.length ≤ maxN) {t : Bool} (ht : t = true ↔ NL xs) : CallOK Tryz.prog 113 [a] (bo t) := by
 refine call_of (fn := Tryz.f113) (code := bodyOf Tryz.f113) Tryz.func113 rfl (by kernel_rfl) rfl ?_
 intro sl hs
 have s0 : sl 0 = a := hs 0
 have hx' : xs.length ≤ 4294967296 := hx
 simp only [Tryz.f113, bodyOf, Option.getD, go_sem, ↓reduceIte, Nat.reduceEqDiff, reduceCtorEq, Nat.reduceAdd, Nat.reduceMul, Nat.reduceLeDiff, ti2, ti3, ti4, ti23, s0]
 refine WK_for (fun k st => st.sl 0 = a ∧ st.sl 3 = i64 (k : Int) ∧ ∀ j, j < k → 0 ≤ atI xs j ∧ atI xs j ≤ 55440) xs.length ?_ ?_ ?_
 · simp only [↓zcy, ↓zcz, ↓zda, ↓zdb, ↓reduceIte, Nat.reduceEqDiff, and_true, true_and, and_self, ne_eq, not_false_eq_true, eq_self, false_and, and_false, reduceCtorEq, s0]
   exact ⟨rfl, fun j hj => absurd hj (Nat.not_lt_zero _)⟩
 · rintro k sl ro gn hk ⟨s0, s3, hp⟩
   dsimp only at s0 s3
   have hk' : (k : Int) < xs.length := by omega
   have c := c147 (a := atI xs k)
   simp (maxSteps := 10000000) (disch := first | omega | assumption) only [go_sem, ↓reduceIte, Nat.reduceEqDiff, reduceCtorEq, Nat.reduceAdd, Nat.reduceMul, Nat.reduceLeDiff, zfu, Int.mul_def, Int.add_def, zfv, cond_false, cond_true, isub, ti2, ti3, ti4, ti23, s0, s3, isL_len ha, isL_idx ha hk, hk']
   by_cases hb : 0 ≤ atI xs k ∧ atI xs k ≤ 55440
   · rw [decide_eq_true hb] at c
     refine CLL_pure _ c rfl rfl rfl ?_
     simp (maxSteps := 10000000) (disch := first | omega | assumption) only [go_sem, ↓reduceIte, Nat.reduceEqDiff, reduceCtorEq, Nat.reduceAdd, Nat.reduceMul, Nat.reduceLeDiff, zfu, Int.mul_def, Int.add_def, zfv, cond_false, cond_true, isub, ti2, ti3, ti4, ti23, s0, s3]
     refine ⟨i64c (by omega), fun j hj => ?_⟩
     rcases Nat.lt_or_ge j k with h | h
     · exact hp j h
     · have : j = k := by omega
       subst this; exact hb
   · rw [decide_eq_false hb] at c
     refine CLL_pure _ c rfl rfl rfl ?_
     simp (maxSteps := 10000000) (disch := first | omega | assumption) only [go_sem, ↓reduceIte, Nat.reduceEqDiff, reduceCtorEq, Nat.reduceAdd, Nat.reduceMul, Nat.reduceLeDiff, zfu, Int.mul_def, Int.add_def, zfv, cond_false, cond_true, isub, ti2, ti3, ti4, ti23, s0, s3]
     simp only [zbj, zbk, retR, resL, outT, zes, zez, oneV, ↓zcy, ↓zcz, ↓reduceIte, Nat.reduceEqDiff, Option.some.injEq, AV.sc.injEq, Value.bool.injEq, Value.int.injEq, outL, outT, zft, zcp, zed, zef, zei, zeh, List.length_cons, List.length_nil, Nat.reduceAdd, Nat.zero_add, Nat.reduceLeDiff, List.drop_zero, List.take_succ_cons, List.take_zero, zfi, zfh, Ro.dl, zdb, zda, zfe, and_self, and_true, true_and, eq_self, List.append_nil, List.nil_append, List.cons_append, ne_eq, not_false_eq_true, and_false, false_and, Bool.false_eq_true, St.ev, zes, zfn, zhk]
     cases t with
     | false => rfl
     | true => exact absurd (ht.1 rfl k hk) hb
 · rintro sl ro gn ⟨s0, s3, hp⟩
   dsimp only at s0 s3
   have hk' : ¬ (xs.length : Int) < xs.length := by omega
   simp (maxSteps := 10000000) (disch := first | omega | assumption) only [go_sem, ↓reduceIte, Nat.reduceEqDiff, reduceCtorEq, Nat.reduceAdd, Nat.reduceMul, Nat.reduceLeDiff, zfu, Int.mul_def, Int.add_def, zfv, cond_false, cond_true, isub, ti2, ti3, ti4, ti23, s0, s3, isL_len ha, hk']
   simp only [zbj, zbk, retR, resL, outT, zes, zez, oneV, ↓zcy, ↓zcz, ↓reduceIte, Nat.reduceEqDiff, Option.some.injEq, AV.sc.injEq, Value.bool.injEq, Value.int.injEq, outL, outT, zft, zcp, zed, zef, zei, zeh, List.length_cons, List.length_nil, Nat.reduceAdd, Nat.zero_add, Nat.reduceLeDiff, List.drop_zero, List.take_succ_cons, List.take_zero, zfi, zfh, Ro.dl, zdb, zda, zfe, and_self, and_true, true_and, eq_self, List.append_nil, List.nil_append, List.cons_append, ne_eq, not_false_eq_true, and_false, false_and, Bool.false_eq_true, St.ev, zes, zfn, zhk]
   exact (ht.2 hp).symm
def gsT (S : List (List Int)) (t : List Int) (l : Nat) : Int := atI (row S 0) l * atI (row S 0) l % 55441 * atI t l % 55441
theorem num_gsT (S : List (List Int)) (t : List Int) (l : Nat) : 0 ≤ gsT S t l ∧ gsT S t l ≤ 55440 := by
 have := num_mod (atI (row S 0) l * atI (row S 0) l % 55441 * atI t l)
 unfold num at this; unfold gsT; omega
set_option maxRecDepth 1000000 in
theorem c124 {a b c : AV} {S : List (List Int)} {T t : List Int} (hb : isL b T) (ha : isLL a S) (hc : isL c t) (ht : t.length ≤ maxN) (h0 : 0 < S.length) (hl : t.length ≤ (row S 0).length) (nS : numLL S) (nt : numL t) : CallOK Tryz.prog 116 [.agg [a, b], c] (i64 (sm (gsT S t) t.length % 55441)) := by
 refine call_of (fn := Tryz.f116) (code := bodyOf Tryz.f116) Tryz.func116 rfl (by kernel_rfl) rfl ?_
 intro sl hs
 have s0 : sl 0 = .agg [a, b] := hs 0
 have s1 : sl 1 = c := hs 1
 have ht' : t.length ≤ 4294967296 := ht
 simp only [Tryz.f116, bodyOf, Option.getD, go_sem, ↓reduceIte, Nat.reduceEqDiff, reduceCtorEq, Nat.reduceAdd, Nat.reduceMul, Nat.reduceLeDiff, ti2, ti3, ti4, ti22, ti25, s0, s1, isLL_cellB _ ha, isL_cellB _ hb]
 refine WK_for (fun k st => st.sl 1 = c ∧ st.sl 2 = .ptr 4096 1 [] 0 ∧ st.ro 4096 1 = some (.bx [a, b]) ∧ st.sl 6 = i64 (k : Int) ∧ st.sl 5 = i64 (sm (gsT S t) k)) t.length ?_ ?_ ?_
 · simp only [↓zcy, ↓zcz, ↓zda, ↓zdb, ↓reduceIte, Nat.reduceEqDiff, and_true, true_and, and_self, ne_eq, not_false_eq_true, eq_self, false_and, and_false, reduceCtorEq, s1]
   exact ⟨rfl, rfl⟩
 · rintro k sl ro gn hk ⟨s1, s2, r2, s6, s5⟩
   dsimp only at s1 s2 r2 s6 s5
   have hk' : (k : Int) < t.length := by omega
   have h1 := isLL_row ha h0
   have hb1 := num_mul (nS 0 k) (nS 0 k)
   have hb2 := num_mod (atI (row S 0) k * atI (row S 0) k)
   have hb3 := num_mul hb2 (nt k)
   have hb4 := sm_bnd (f := gsT S t) (B := 55440) (num_gsT S t) k
   have hb5 := num_gsT S t k
   have e1 : atI (row S 0) k * atI (row S 0) k % 55441 * atI t k % 55441 = gsT S t k := rfl
   unfold num at hb2
   simp (maxSteps := 10000000) (disch := first | omega | assumption) only [go_sem, ↓reduceIte, Nat.reduceEqDiff, reduceCtorEq, Nat.reduceAdd, Nat.reduceMul, Nat.reduceLeDiff, zfu, Int.mul_def, Int.add_def, zfv, cond_false, cond_true, isub, ti2, ti3, ti4, ti22, ti23, ti25, s1, s2, r2, s6, s5, isLL_lift _ _ _ ha, isL_len hc, isLL_idx0 ha h0, isL_idx h1 (Nat.lt_of_lt_of_le hk hl), isL_idx hc hk, isLL_sites ha, isL_sites h1, isL_sites hc, hk', Int.tmod_eq_emod_of_nonneg, e1]
   refine FIN_of (by kernel_rfl) ?_
   simp (maxSteps := 10000000) (disch := first | omega | assumption) only [go_sem, ↓reduceIte, Nat.reduceEqDiff, reduceCtorEq, Nat.reduceAdd, Nat.reduceMul, Nat.reduceLeDiff, zfu, Int.mul_def, Int.add_def, zfv, cond_false, cond_true, isub, ti2, ti3, ti4, ti23, s1, s2, r2, s6, s5]
   exact ⟨i64c (by omega), i64c rfl⟩
 · rintro sl ro gn ⟨s1, s2, r2, s6, s5⟩
   dsimp only at s1 s2 r2 s6 s5
   have hk' : ¬ (t.length : Int) < t.length := by omega
   have hb4 := sm_bnd (f := gsT S t) (B := 55440) (num_gsT S t) t.length
   simp (maxSteps := 10000000) (disch := first | omega | assumption) only [go_sem, ↓reduceIte, Nat.reduceEqDiff, reduceCtorEq, Nat.reduceAdd, Nat.reduceMul, Nat.reduceLeDiff, zfu, Int.mul_def, Int.add_def, zfv, cond_false, cond_true, isub, ti2, ti3, ti4, ti22, ti23, ti25, s1, s2, r2, s6, s5, isL_len hc, hk', Int.tmod_eq_emod_of_nonneg]
   simp only [zbj, zbk, retR, resL, outT, zes, zez, oneV, ↓zcy, ↓zcz, ↓reduceIte, Nat.reduceEqDiff, Option.some.injEq, AV.sc.injEq, Value.bool.injEq, Value.int.injEq, outL, outT, zft, zcp, zed, zef, zei, zeh, List.length_cons, List.length_nil, Nat.reduceAdd, Nat.zero_add, Nat.reduceLeDiff, List.drop_zero, List.take_succ_cons, List.take_zero, zfi, zfh, Ro.dl, zdb, zda, zfe, and_self, and_true, true_and, eq_self, List.append_nil, List.nil_append, List.cons_append, ne_eq, not_false_eq_true, and_false, false_and, Bool.false_eq_true, St.ev, zes, zfn, zhk]
end Go.Proofs.YtgcnmlecihegcaaGreat
/- The reference's shapes. -/
namespace Go.Proofs.YtgcnmlecihegcaaGreat
open Go.RowKit
def ShpP (S : List (List Int)) (T : List Int) : Prop := 1 ≤ T.length ∧ T.length ≤ 16 ∧ S.length = T.length ∧ NL T ∧ ∀ i, i < T.length → (row S i).length = T.length ∧ NL (row S i)
theorem bool_false {t : Bool} {p : Prop} (h : t = true ↔ p) (hn : ¬ p) : false = t := by
 cases t with
 | false => rfl
 | true => exact absurd (h.1 rfl) hn
set_option maxRecDepth 1000000 in
theorem c98 {a b : AV} {S : List (List Int)} {T : List Int} (ha : isLL a S) (hb : isL b T) (hS : S.length ≤ maxN) (hT : T.length ≤ maxN) (hR : ∀ i, i < S.length → (row S i).length ≤ maxN) {t : Bool} (ht : t = true ↔ ShpP S T) : CallOK Tryz.prog 70 [.agg [a, b]] (bo t) := by
 refine call_of (fn := Tryz.f70) (code := bodyOf Tryz.f70) Tryz.func70 rfl (by kernel_rfl) rfl ?_
 intro sl hs
 have s0 : sl 0 = .agg [a, b] := hs 0
 by_cases h1 : (T.length : Int) < 1
 · simp (maxSteps := 10000000) (disch := first | omega | assumption) only [Tryz.f70, bodyOf, Option.getD, go_sem, ↓reduceIte, Nat.reduceEqDiff, reduceCtorEq, Nat.reduceAdd, Nat.reduceMul, Nat.reduceLeDiff, zfu, Int.mul_def, Int.add_def, zfv, cond_false, cond_true, isub, ti2, ti3, ti4, ti22, ti23, ti25, s0, isLL_cellB _ ha, isL_cellB _ hb, isLL_lift _ _ _ ha, isL_lift _ _ _ hb, isL_len hb, isLL_len ha, h1]
   simp only [zbj, zbk, retR, resL, outT, zes, zez, oneV, ↓zcy, ↓zcz, ↓reduceIte, Nat.reduceEqDiff, Option.some.injEq, AV.sc.injEq, Value.bool.injEq, Value.int.injEq, outL, outT, zft, zcp, zed, zef, zei, zeh, List.length_cons, List.length_nil, Nat.reduceAdd, Nat.zero_add, Nat.reduceLeDiff, List.drop_zero, List.take_succ_cons, List.take_zero, zfi, zfh, Ro.dl, zdb, zda, zfe, and_self, and_true, true_and, eq_self, List.append_nil, List.nil_append, List.cons_append, ne_eq, not_false_eq_true, and_false, false_and, Bool.false_eq_true, St.ev, zes, zfn, zhk]
   exact bool_false ht fun h => by have := h.1; omega
 by_cases h2 : (16 : Int) < T.length
 · simp (maxSteps := 10000000) (disch := first | omega | assumption) only [Tryz.f70, bodyOf, Option.getD, go_sem, ↓reduceIte, Nat.reduceEqDiff, reduceCtorEq, Nat.reduceAdd, Nat.reduceMul, Nat.reduceLeDiff, zfu, Int.mul_def, Int.add_def, zfv, cond_false, cond_true, isub, ti2, ti3, ti4, ti22, ti23, ti25, s0, isLL_cellB _ ha, isL_cellB _ hb, isLL_lift _ _ _ ha, isL_lift _ _ _ hb, isL_len hb, isLL_len ha, h1, h2]
   simp only [zbj, zbk, retR, resL, outT, zes, zez, oneV, ↓zcy, ↓zcz, ↓reduceIte, Nat.reduceEqDiff, Option.some.injEq, AV.sc.injEq, Value.bool.injEq, Value.int.injEq, outL, outT, zft, zcp, zed, zef, zei, zeh, List.length_cons, List.length_nil, Nat.reduceAdd, Nat.zero_add, Nat.reduceLeDiff, List.drop_zero, List.take_succ_cons, List.take_zero, zfi, zfh, Ro.dl, zdb, zda, zfe, and_self, and_true, true_and, eq_self, List.append_nil, List.nil_append, List.cons_append, ne_eq, not_false_eq_true, and_false, false_and, Bool.false_eq_true, St.ev, zes, zfn, zhk]
   exact bool_false ht fun h => by have := h.2.1; omega
 by_cases h3 : (S.length : Int) = T.length
 · have h3' : S.length = T.length := by omega
   by_cases h4 : NL T
   · have c := c123 (t := true) hb hT (by simp [h4])
     simp (maxSteps := 10000000) (disch := first | omega | assumption) only [Tryz.f70, bodyOf, Option.getD, go_sem, ↓reduceIte, Nat.reduceEqDiff, reduceCtorEq, Nat.reduceAdd, Nat.reduceMul, Nat.reduceLeDiff, zfu, Int.mul_def, Int.add_def, zfv, cond_false, cond_true, isub, ti2, ti3, ti4, ti22, ti23, ti25, s0, isLL_cellB _ ha, isL_cellB _ hb, isLL_lift _ _ _ ha, isL_lift _ _ _ hb, isL_len hb, isLL_len ha, h1, h2, eq_true h3]
     refine CLL_pure _ c (by simp only [pureL, isL_pure hb, Bool.and_self]) rfl rfl ?_
     simp (maxSteps := 10000000) (disch := first | omega | assumption) only [go_sem, ↓reduceIte, Nat.reduceEqDiff, reduceCtorEq, Nat.reduceAdd, Nat.reduceMul, Nat.reduceLeDiff, zfu, Int.mul_def, Int.add_def, zfv, cond_false, cond_true, isub, ti2, ti3, ti4, ti22, ti23, ti25]
     refine WK_for (fun k st => st.sl 1 = .ptr 4096 1 [] 0 ∧ st.ro 4096 1 = some (.bx [a, b]) ∧ st.sl 3 = i64 (T.length : Int) ∧ st.sl 4 = i64 (k : Int) ∧ ∀ j, j < k → (row S j).length = T.length ∧ NL (row S j)) T.length ?_ ?_ ?_
     · simp only [↓zcy, ↓zcz, ↓zda, ↓zdb, ↓reduceIte, Nat.reduceEqDiff, and_true, true_and, and_self, ne_eq, not_false_eq_true, eq_self, false_and, and_false, reduceCtorEq]
       exact ⟨rfl, fun j hj => absurd hj (Nat.not_lt_zero _)⟩
     · rintro k sl ro gn hk ⟨s1, r1, s3, s4, hp⟩
       dsimp only at s1 r1 s3 s4
       have hk' : (k : Int) < T.length := by omega
       have hkS : k < S.length := by omega
       have hrow := isLL_row ha hkS
       by_cases h5 : ((row S k).length : Int) = T.length
       · by_cases h6 : NL (row S k)
         · have c := c123 (t := true) hrow (hR k hkS) (by simp [h6])
           simp (maxSteps := 10000000) (disch := first | omega | assumption) only [go_sem, ↓reduceIte, Nat.reduceEqDiff, reduceCtorEq, Nat.reduceAdd, Nat.reduceMul, Nat.reduceLeDiff, zfu, Int.mul_def, Int.add_def, zfv, cond_false, cond_true, isub, ti2, ti3, ti4, ti22, ti23, ti25, s1, r1, s3, s4, hk', isLL_lift _ _ _ ha, isLL_idx ha hkS, isL_len hrow, eq_true h5]
           refine CLL_pure _ c (by simp only [pureL, isL_pure hrow, Bool.and_self]) rfl rfl ?_
           simp (maxSteps := 10000000) (disch := first | omega | assumption) only [go_sem, ↓reduceIte, Nat.reduceEqDiff, reduceCtorEq, Nat.reduceAdd, Nat.reduceMul, Nat.reduceLeDiff, zfu, Int.mul_def, Int.add_def, zfv, cond_false, cond_true, isub, ti2, ti3, ti4, ti22, ti23, ti25, s1, r1, s3, s4]
           refine ⟨i64c (by omega), fun j hj => ?_⟩
           rcases Nat.lt_or_ge j k with h | h
           · exact hp j h
           · have : j = k := by omega
             subst this; exact ⟨by omega, h6⟩
         · have c := c123 (t := false) hrow (hR k hkS) (by simp [h6])
           simp (maxSteps := 10000000) (disch := first | omega | assumption) only [go_sem, ↓reduceIte, Nat.reduceEqDiff, reduceCtorEq, Nat.reduceAdd, Nat.reduceMul, Nat.reduceLeDiff, zfu, Int.mul_def, Int.add_def, zfv, cond_false, cond_true, isub, ti2, ti3, ti4, ti22, ti23, ti25, s1, r1, s3, s4, hk', isLL_lift _ _ _ ha, isLL_idx ha hkS, isL_len hrow, eq_true h5]
           refine CLL_pure _ c (by simp only [pureL, isL_pure hrow, Bool.and_self]) rfl rfl ?_
           simp (maxSteps := 10000000) (disch := first | omega | assumption) only [go_sem, ↓reduceIte, Nat.reduceEqDiff, reduceCtorEq, Nat.reduceAdd, Nat.reduceMul, Nat.reduceLeDiff, zfu, Int.mul_def, Int.add_def, zfv, cond_false, cond_true, isub, ti2, ti3, ti4, ti22, ti23, ti25, s1, r1, s3, s4]
           simp only [zbj, zbk, retR, resL, outT, zes, zez, oneV, ↓zcy, ↓zcz, ↓reduceIte, Nat.reduceEqDiff, Option.some.injEq, AV.sc.injEq, Value.bool.injEq, Value.int.injEq, outL, outT, zft, zcp, zed, zef, zei, zeh, List.length_cons, List.length_nil, Nat.reduceAdd, Nat.zero_add, Nat.reduceLeDiff, List.drop_zero, List.take_succ_cons, List.take_zero, zfi, zfh, Ro.dl, zdb, zda, zfe, and_self, and_true, true_and, eq_self, List.append_nil, List.nil_append, List.cons_append, ne_eq, not_false_eq_true, and_false, false_and, Bool.false_eq_true, St.ev, zes, zfn, zhk]
           exact bool_false ht fun h => h6 (h.2.2.2.2 k hk).2
       · simp (maxSteps := 10000000) (disch := first | omega | assumption) only [go_sem, ↓reduceIte, Nat.reduceEqDiff, reduceCtorEq, Nat.reduceAdd, Nat.reduceMul, Nat.reduceLeDiff, zfu, Int.mul_def, Int.add_def, zfv, cond_false, cond_true, isub, ti2, ti3, ti4, ti22, ti23, ti25, s1, r1, s3, s4, hk', isLL_lift _ _ _ ha, isLL_idx ha hkS, isL_len hrow, eq_false h5]
         simp only [zbj, zbk, retR, resL, outT, zes, zez, oneV, ↓zcy, ↓zcz, ↓reduceIte, Nat.reduceEqDiff, Option.some.injEq, AV.sc.injEq, Value.bool.injEq, Value.int.injEq, outL, outT, zft, zcp, zed, zef, zei, zeh, List.length_cons, List.length_nil, Nat.reduceAdd, Nat.zero_add, Nat.reduceLeDiff, List.drop_zero, List.take_succ_cons, List.take_zero, zfi, zfh, Ro.dl, zdb, zda, zfe, and_self, and_true, true_and, eq_self, List.append_nil, List.nil_append, List.cons_append, ne_eq, not_false_eq_true, and_false, false_and, Bool.false_eq_true, St.ev, zes, zfn, zhk]
         exact bool_false ht fun h => h5 (by have := (h.2.2.2.2 k hk).1; omega)
     · rintro sl ro gn ⟨s1, r1, s3, s4, hp⟩
       dsimp only at s1 r1 s3 s4
       have hk' : ¬ (T.length : Int) < T.length := by omega
       simp (maxSteps := 10000000) (disch := first | omega | assumption) only [go_sem, ↓reduceIte, Nat.reduceEqDiff, reduceCtorEq, Nat.reduceAdd, Nat.reduceMul, Nat.reduceLeDiff, zfu, Int.mul_def, Int.add_def, zfv, cond_false, cond_true, isub, ti2, ti3, ti4, ti22, ti23, ti25, s1, r1, s3, s4, hk']
       simp only [zbj, zbk, retR, resL, outT, zes, zez, oneV, ↓zcy, ↓zcz, ↓reduceIte, Nat.reduceEqDiff, Option.some.injEq, AV.sc.injEq, Value.bool.injEq, Value.int.injEq, outL, outT, zft, zcp, zed, zef, zei, zeh, List.length_cons, List.length_nil, Nat.reduceAdd, Nat.zero_add, Nat.reduceLeDiff, List.drop_zero, List.take_succ_cons, List.take_zero, zfi, zfh, Ro.dl, zdb, zda, zfe, and_self, and_true, true_and, eq_self, List.append_nil, List.nil_append, List.cons_append, ne_eq, not_false_eq_true, and_false, false_and, Bool.false_eq_true, St.ev, zes, zfn, zhk]
       exact (ht.2 ⟨by omega, by omega, h3', h4, hp⟩).symm
   · have c := c123 (t := false) hb hT (by simp [h4])
     simp (maxSteps := 10000000) (disch := first | omega | assumption) only [Tryz.f70, bodyOf, Option.getD, go_sem, ↓reduceIte, Nat.reduceEqDiff, reduceCtorEq, Nat.reduceAdd, Nat.reduceMul, Nat.reduceLeDiff, zfu, Int.mul_def, Int.add_def, zfv, cond_false, cond_true, isub, ti2, ti3, ti4, ti22, ti23, ti25, s0, isLL_cellB _ ha, isL_cellB _ hb, isLL_lift _ _ _ ha, isL_lift _ _ _ hb, isL_len hb, isLL_len ha, h1, h2, eq_true h3]
     refine CLL_pure _ c (by simp only [pureL, isL_pure hb, Bool.and_self]) rfl rfl ?_
     simp (maxSteps := 10000000) (disch := first | omega | assumption) only [go_sem, ↓reduceIte, Nat.reduceEqDiff, reduceCtorEq, Nat.reduceAdd, Nat.reduceMul, Nat.reduceLeDiff, zfu, Int.mul_def, Int.add_def, zfv, cond_false, cond_true, isub, ti2, ti3, ti4, ti22, ti23, ti25]
     simp only [zbj, zbk, retR, resL, outT, zes, zez, oneV, ↓zcy, ↓zcz, ↓reduceIte, Nat.reduceEqDiff, Option.some.injEq, AV.sc.injEq, Value.bool.injEq, Value.int.injEq, outL, outT, zft, zcp, zed, zef, zei, zeh, List.length_cons, List.length_nil, Nat.reduceAdd, Nat.zero_add, Nat.reduceLeDiff, List.drop_zero, List.take_succ_cons, List.take_zero, zfi, zfh, Ro.dl, zdb, zda, zfe, and_self, and_true, true_and, eq_self, List.append_nil, List.nil_append, List.cons_append, ne_eq, not_false_eq_true, and_false, false_and, Bool.false_eq_true, St.ev, zes, zfn, zhk]
     exact bool_false ht fun h => h4 h.2.2.2.1
 · simp (maxSteps := 10000000) (disch := first | omega | assumption) only [Tryz.f70, bodyOf, Option.getD, go_sem, ↓reduceIte, Nat.reduceEqDiff, reduceCtorEq, Nat.reduceAdd, Nat.reduceMul, Nat.reduceLeDiff, zfu, Int.mul_def, Int.add_def, zfv, cond_false, cond_true, isub, ti2, ti3, ti4, ti22, ti23, ti25, s0, isLL_cellB _ ha, isL_cellB _ hb, isLL_lift _ _ _ ha, isL_lift _ _ _ hb, isL_len hb, isLL_len ha, h1, h2, eq_false h3]
   simp only [zbj, zbk, retR, resL, outT, zes, zez, oneV, ↓zcy, ↓zcz, ↓reduceIte, Nat.reduceEqDiff, Option.some.injEq, AV.sc.injEq, Value.bool.injEq, Value.int.injEq, outL, outT, zft, zcp, zed, zef, zei, zeh, List.length_cons, List.length_nil, Nat.reduceAdd, Nat.zero_add, Nat.reduceLeDiff, List.drop_zero, List.take_succ_cons, List.take_zero, zfi, zfh, Ro.dl, zdb, zda, zfe, and_self, and_true, true_and, eq_self, List.append_nil, List.nil_append, List.cons_append, ne_eq, not_false_eq_true, and_false, false_and, Bool.false_eq_true, St.ev, zes, zfn, zhk]
   exact bool_false ht fun h => h3 (by have := h.2.2.1; omega)
end Go.Proofs.YtgcnmlecihegcaaGreat
