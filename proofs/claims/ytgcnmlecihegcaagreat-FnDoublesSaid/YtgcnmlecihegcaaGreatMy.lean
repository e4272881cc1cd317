/- Texts joined: Y3 Y4. -/
import Derived.Test.YtgcnmlecihegcaaGreatMf
import Derived.Test.YtgcnmlecihegcaaGreatMh
import Derived.Test.YtgcnmlecihegcaaGreatMya
set_option linter.all false
/- The program's metrics. -/
namespace Go.Proofs.YtgcnmlecihegcaaGreat
open Go.RowKit
set_option maxRecDepth 1000000
theorem tiMet : ti0 36 = some ⟨3, true, [Value.slice none 0 0, Value.int .i64 0, Value.slice none 0 0], none, [(0, 25), (1, 2), (2, 25)], none, false, false⟩ := by kernel_rfl
attribute [go_sem] tiMet
abbrev mt (O : List Int) (M : Int) (V : List Int) : AV := .agg [immL O, i64 M, immL V]
def adN (O : List Int) (x y : Nat) : Nat := (adO O x y).toNat
def ngN (O : List Int) (x : Nat) : Nat := (ngO O x).toNat
theorem GrpP.adN {O : List Int} (h : GrpP O) (x y : Nat) : adO O x y = (adN O x y : Nat) ∧ ((Go.Proofs.YtgcnmlecihegcaaGreat.adN O x y : Nat) : Int) < pfx O O.length := by
 have := h.ad x y
 unfold Go.Proofs.YtgcnmlecihegcaaGreat.adN
 omega
theorem GrpP.ngN {O : List Int} (h : GrpP O) (x : Nat) : ngO O x = (ngN O x : Nat) ∧ ((Go.Proofs.YtgcnmlecihegcaaGreat.ngN O x : Nat) : Int) < pfx O O.length := by
 have := h.ng x
 unfold Go.Proofs.YtgcnmlecihegcaaGreat.ngN
 omega
structure MetB (O : List Int) (M : Int) (V : List Int) : Prop where
 g : GrpP O
 m : 1 ≤ M ∧ M ≤ 55440
 n : (V.length : Int) = pfx O O.length
 v : ∀ k, k < V.length → 0 ≤ atI V k ∧ atI V k ≤ M - 1
def prM (O : List Int) (M : Int) (V : List Int) (x y : Nat) : Int := (atI V (adN O x y) - atI V x - atI V y) % M
def BilP (O : List Int) (M : Int) (V : List Int) : Prop := ∀ x, x < V.length → atI V (ngN O x) = atI V x ∧ ∀ y, y < V.length → ∀ z, z < V.length → prM O M V (adN O x y) z = (prM O M V x z + prM O M V y z) % M
theorem tmod_rest {n M : Int} (h : 0 < M) : (n.tmod M + M).tmod M = n % M ∧ -M < n.tmod M ∧ n.tmod M < M := by
 have h1 : -M < n.tmod M := by have := Int.lt_tmod_of_pos n h; omega
 have h2 : n.tmod M < M := Int.tmod_lt_of_pos n h
 refine ⟨?_, h1, h2⟩
 rw [Int.tmod_eq_emod_of_nonneg (by omega), Int.add_emod_right, Int.tmod_def, Int.sub_mul_emod_self_left]
section
variable {O V : List Int} {M : Int}
theorem cSize : CallOK Tryz.prog 79 [mt O M V] (i64 (V.length : Int)) := by
 refine call_of (fn := Tryz.f79) (code := bodyOf Tryz.f79) Tryz.func79 rfl (by kernel_rfl) (rfl) ?_
 intro sl hs
 have s0 : sl 0 = mt O M V := hs 0
 have hv := isL_imm V
 have hvo := isL_imm O
 dsimp only [Tryz.f79, bodyOf, Option.getD]
 simp (maxSteps := 10000000) (disch := first | assumption | omega) only [go_sem, ↓reduceIte, Nat.reduceEqDiff, reduceCtorEq, Nat.reduceAdd, Nat.reduceMul, Nat.reduceLeDiff, zfu, Int.mul_def, Int.add_def, zfv, cond_false, cond_true, isub, Int.reduceToNat, s0]
 simp only [zbj, zbk, retR, resL, outT, zes, zez, oneV, ↓zcy, ↓zcz, ↓reduceIte, Nat.reduceEqDiff, Option.some.injEq, AV.sc.injEq, Value.bool.injEq, Value.int.injEq, outL, outT, zft, zcp, zed, zef, zei, zeh, List.length_cons, List.length_nil, Nat.reduceAdd, Nat.zero_add, Nat.reduceLeDiff, List.drop_zero, List.take_succ_cons, List.take_zero, zfi, zfh, Ro.dl, zdb, zda, zfe, and_self, and_true, true_and, eq_self, List.append_nil, List.nil_append, List.cons_append, ne_eq, not_false_eq_true, and_false, false_and, Bool.false_eq_true, St.ev, zes, zfn, zhk, List.length_map]
theorem cPlus (hO : GrpP O) {x y : Int} (hx : 0 ≤ x ∧ x < 4294967296) (hy : 0 ≤ y ∧ y < 4294967296) : CallOK Tryz.prog 126 [mt O M V, i64 x, i64 y] (i64 (adO O x y)) := by
 refine call_of (fn := Tryz.f126) (code := bodyOf Tryz.f126) Tryz.func126 rfl (by kernel_rfl) (rfl) ?_
 intro sl hs
 have s0 : sl 0 = mt O M V := hs 0
 have s1 : sl 1 = i64 x := hs 1
 have s2 : sl 2 = i64 y := hs 2
 dsimp only [Tryz.f126, bodyOf, Option.getD]
 simp (maxSteps := 10000000) (disch := first | assumption | omega) only [go_sem, ↓reduceIte, Nat.reduceEqDiff, reduceCtorEq, Nat.reduceAdd, Nat.reduceMul, Nat.reduceLeDiff, zfu, Int.mul_def, Int.add_def, zfv, cond_false, cond_true, isub, Int.reduceToNat, s0, s1, s2]
 refine CLL_pure _ (cAddI hO hx hy) (by simp (disch := assumption) only [pureL, pureA, isL_pure, isLL_pure, isLLL_pure, pureL_map, Bool.and_self, Bool.and_true]) rfl rfl ?_
 simp (maxSteps := 10000000) (disch := first | assumption | omega) only [go_sem, ↓reduceIte, Nat.reduceEqDiff, reduceCtorEq, Nat.reduceAdd, Nat.reduceMul, Nat.reduceLeDiff, zfu, Int.mul_def, Int.add_def, zfv, cond_false, cond_true, isub, Int.reduceToNat, s0, s1, s2]
 simp only [zbj, zbk, retR, resL, outT, zes, zez, oneV, ↓zcy, ↓zcz, ↓reduceIte, Nat.reduceEqDiff, Option.some.injEq, AV.sc.injEq, Value.bool.injEq, Value.int.injEq, outL, outT, zft, zcp, zed, zef, zei, zeh, List.length_cons, List.length_nil, Nat.reduceAdd, Nat.zero_add, Nat.reduceLeDiff, List.drop_zero, List.take_succ_cons, List.take_zero, zfi, zfh, Ro.dl, zdb, zda, zfe, and_self, and_true, true_and, eq_self, List.append_nil, List.nil_append, List.cons_append, ne_eq, not_false_eq_true, and_false, false_and, Bool.false_eq_true, St.ev, zes, zfn, zhk, List.length_map]
theorem cMinus (hO : GrpP O) {x : Nat} (hx : x < 4294967296) : CallOK Tryz.prog 125 [mt O M V, i64 (x : Int)] (i64 (ngN O x : Int)) := by
 have hn := hO.ngN x
 have hs := hO.sz
 refine call_of (fn := Tryz.f125) (code := bodyOf Tryz.f125) Tryz.func125 rfl (by kernel_rfl) (rfl) ?_
 intro sl hs
 have s0 : sl 0 = mt O M V := hs 0
 have s1 : sl 1 = i64 (x : Int) := hs 1
 dsimp only [Tryz.f125, bodyOf, Option.getD]
 simp (maxSteps := 10000000) (disch := first | assumption | omega) only [go_sem, ↓reduceIte, Nat.reduceEqDiff, reduceCtorEq, Nat.reduceAdd, Nat.reduceMul, Nat.reduceLeDiff, zfu, Int.mul_def, Int.add_def, zfv, cond_false, cond_true, isub, Int.reduceToNat, s0, s1]
 refine WK_for (fun i st => st.sl 1 = i64 (x : Int) ∧ st.sl 2 = .ptr 4096 1 [] 0 ∧ st.ro 4096 1 = some (.bx [immL O, i64 M, immL V]) ∧ st.sl 5 = i64 (i : Int)) ((ngN O x)) ?_ ?_ ?_
 · simp only [↓zcy, ↓zcz, ↓zda, ↓zdb, ↓reduceIte, Nat.reduceEqDiff, and_true, true_and, and_self, ne_eq, not_false_eq_true, eq_self, false_and, and_false, reduceCtorEq, rws_zero, s0, s1]
   (repeat' first | rfl | exact i64c rfl | exact i64c (by omega) | exact trivial | apply And.intro)
 · rintro i sl ro gn hi ⟨s1, s2, r4096, s5⟩
   dsimp only at s1 s2 r4096 s5
   have hi' : (i : Int) < ((ngN O x) : Nat) := by omega
   have hne : ¬ adO O x i = 0 := fun h => by have := (hO.inv (x := x) (y := i) (by omega) (by omega)).1 h; omega
   simp (maxSteps := 10000000) (disch := first | assumption | omega) only [go_sem, ↓reduceIte, Nat.reduceEqDiff, reduceCtorEq, Nat.reduceAdd, Nat.reduceMul, Nat.reduceLeDiff, zfu, Int.mul_def, Int.add_def, zfv, cond_false, cond_true, isub, Int.reduceToNat, s1, s2, r4096, s5, hi', hi]
   refine CLL_pure _ (cPlus hO (x := x) (y := i) (by omega) (by omega)) (by simp (disch := assumption) only [pureL, pureA, isL_pure, isLL_pure, isLLL_pure, pureL_map, Bool.and_self, Bool.and_true]) rfl rfl ?_
   simp (maxSteps := 10000000) (disch := first | assumption | omega) only [go_sem, ↓reduceIte, Nat.reduceEqDiff, reduceCtorEq, Nat.reduceAdd, Nat.reduceMul, Nat.reduceLeDiff, zfu, Int.mul_def, Int.add_def, zfv, cond_false, cond_true, isub, Int.reduceToNat, s1, s2, r4096, s5, hi', hi, eq_false hne]
   exact i64c (by omega)
 · rintro sl ro gn ⟨s1, s2, r4096, s5⟩
   dsimp only at s1 s2 r4096 s5
   have hi' : ¬ (((ngN O x) : Nat) : Int) < ((ngN O x) : Nat) := by omega
   have he : adO O x (ngN O x : Int) = 0 := (hO.inv (x := x) (by omega) (by omega)).2 hn.1.symm
   simp (maxSteps := 10000000) (disch := first | assumption | omega) only [go_sem, ↓reduceIte, Nat.reduceEqDiff, reduceCtorEq, Nat.reduceAdd, Nat.reduceMul, Nat.reduceLeDiff, zfu, Int.mul_def, Int.add_def, zfv, cond_false, cond_true, isub, Int.reduceToNat, s1, s2, r4096, s5, hi']
   refine CLL_pure _ (cPlus hO (x := x) (y := (ngN O x : Int)) (by omega) (by omega)) (by simp (disch := assumption) only [pureL, pureA, isL_pure, isLL_pure, isLLL_pure, pureL_map, Bool.and_self, Bool.and_true]) rfl rfl ?_
   simp (maxSteps := 10000000) (disch := first | assumption | omega) only [go_sem, ↓reduceIte, Nat.reduceEqDiff, reduceCtorEq, Nat.reduceAdd, Nat.reduceMul, Nat.reduceLeDiff, zfu, Int.mul_def, Int.add_def, zfv, cond_false, cond_true, isub, Int.reduceToNat, s1, s2, r4096, s5, hi', he]
   simp only [zbj, zbk, retR, resL, outT, zes, zez, oneV, ↓zcy, ↓zcz, ↓reduceIte, Nat.reduceEqDiff, Option.some.injEq, AV.sc.injEq, Value.bool.injEq, Value.int.injEq, outL, outT, zft, zcp, zed, zef, zei, zeh, List.length_cons, List.length_nil, Nat.reduceAdd, Nat.zero_add, Nat.reduceLeDiff, List.drop_zero, List.take_succ_cons, List.take_zero, zfi, zfh, Ro.dl, zdb, zda, zfe, and_self, and_true, true_and, eq_self, List.append_nil, List.nil_append, List.cons_append, ne_eq, not_false_eq_true, and_false, false_and, Bool.false_eq_true, St.ev, zes, zfn, zhk, List.length_map]
theorem cRest (hM : 1 ≤ M ∧ M ≤ 55440) {n : Int} (hn : -4294967296 < n ∧ n < 4294967296) : CallOK Tryz.prog 56 [mt O M V, i64 n] (i64 (n % M)) := by
 obtain ⟨e1, e2, e3⟩ := tmod_rest (n := n) (M := M) (by omega)
 have hM0 : ¬ M = 0 := by omega
 refine call_of (fn := Tryz.f56) (code := bodyOf Tryz.f56) Tryz.func56 rfl (by kernel_rfl) (rfl) ?_
 intro sl hs
 have s0 : sl 0 = mt O M V := hs 0
 have s1 : sl 1 = i64 n := hs 1
 dsimp only [Tryz.f56, bodyOf, Option.getD]
 simp (maxSteps := 10000000) (disch := first | assumption | omega) only [go_sem, ↓reduceIte, Nat.reduceEqDiff, reduceCtorEq, Nat.reduceAdd, Nat.reduceMul, Nat.reduceLeDiff, zfu, Int.mul_def, Int.add_def, zfv, cond_false, cond_true, isub, Int.reduceToNat, s0, s1, e1]
 refine FIN_of (by kernel_rfl) ?_
 simp (maxSteps := 10000000) (disch := first | assumption | omega) only [go_sem, ↓reduceIte, Nat.reduceEqDiff, reduceCtorEq, Nat.reduceAdd, Nat.reduceMul, Nat.reduceLeDiff, zfu, Int.mul_def, Int.add_def, zfv, cond_false, cond_true, isub, Int.reduceToNat, s0, s1, e1]
 simp only [zbj, zbk, retR, resL, outT, zes, zez, oneV, ↓zcy, ↓zcz, ↓reduceIte, Nat.reduceEqDiff, Option.some.injEq, AV.sc.injEq, Value.bool.injEq, Value.int.injEq, outL, outT, zft, zcp, zed, zef, zei, zeh, List.length_cons, List.length_nil, Nat.reduceAdd, Nat.zero_add, Nat.reduceLeDiff, List.drop_zero, List.take_succ_cons, List.take_zero, zfi, zfh, Ro.dl, zdb, zda, zfe, and_self, and_true, true_and, eq_self, List.append_nil, List.nil_append, List.cons_append, ne_eq, not_false_eq_true, and_false, false_and, Bool.false_eq_true, St.ev, zes, zfn, zhk, List.length_map]
theorem cPair (h : MetB O M V) {x y : Nat} (hx : x < V.length) (hy : y < V.length) : CallOK Tryz.prog 105 [mt O M V, i64 (x : Int), i64 (y : Int)] (i64 (prM O M V x y)) := by
 have hn := h.n
 have hs := h.g.sz
 obtain ⟨a1, a2⟩ := h.g.adN x y
 have hv := isL_imm V
 have hvo := isL_imm O
 have had : adN O x y < V.length := by omega
 have v1 := h.v _ had
 have v2 := h.v _ hx
 have v3 := h.v _ hy
 obtain ⟨m1, m2⟩ := h.m
 refine call_of (fn := Tryz.f105) (code := bodyOf Tryz.f105) Tryz.func105 rfl (by kernel_rfl) (rfl) ?_
 intro sl hs
 have s0 : sl 0 = mt O M V := hs 0
 have s1 : sl 1 = i64 (x : Int) := hs 1
 have s2 : sl 2 = i64 (y : Int) := hs 2
 dsimp only [Tryz.f105, bodyOf, Option.getD]
 simp (maxSteps := 10000000) (disch := first | assumption | omega) only [go_sem, ↓reduceIte, Nat.reduceEqDiff, reduceCtorEq, Nat.reduceAdd, Nat.reduceMul, Nat.reduceLeDiff, zfu, Int.mul_def, Int.add_def, zfv, cond_false, cond_true, isub, Int.reduceToNat, s0, s1, s2]
 refine CLLD_pure _ (cPlus h.g (x := x) (y := y) (by omega) (by omega)) (by simp (disch := assumption) only [pureL, pureA, isL_pure, isLL_pure, isLLL_pure, pureL_map, Bool.and_self, Bool.and_true]) rfl ?_
 simp (maxSteps := 10000000) (disch := first | assumption | omega) only [go_sem, ↓reduceIte, Nat.reduceEqDiff, reduceCtorEq, Nat.reduceAdd, Nat.reduceMul, Nat.reduceLeDiff, zfu, Int.mul_def, Int.add_def, zfv, cond_false, cond_true, isub, Int.reduceToNat, s0, s1, s2, a1]
 refine CLLD_pure _ (cRest (O := O) (V := V) h.m (n := atI V (adN O x y) - atI V x - atI V y) (by omega)) (by simp (disch := assumption) only [pureL, pureA, isL_pure, isLL_pure, isLLL_pure, pureL_map, Bool.and_self, Bool.and_true]) rfl ?_
 simp (maxSteps := 10000000) (disch := first | assumption | omega) only [go_sem, ↓reduceIte, Nat.reduceEqDiff, reduceCtorEq, Nat.reduceAdd, Nat.reduceMul, Nat.reduceLeDiff, zfu, Int.mul_def, Int.add_def, zfv, cond_false, cond_true, isub, Int.reduceToNat, s0, s1, s2]
 refine FIN_of (by kernel_rfl) ?_
 simp (maxSteps := 10000000) (disch := first | assumption | omega) only [go_sem, ↓reduceIte, Nat.reduceEqDiff, reduceCtorEq, Nat.reduceAdd, Nat.reduceMul, Nat.reduceLeDiff, zfu, Int.mul_def, Int.add_def, zfv, cond_false, cond_true, isub, Int.reduceToNat, s0, s1, s2]
 simp only [zbj, zbk, retR, resL, outT, zes, zez, oneV, ↓zcy, ↓zcz, ↓reduceIte, Nat.reduceEqDiff, Option.some.injEq, AV.sc.injEq, Value.bool.injEq, Value.int.injEq, outL, outT, zft, zcp, zed, zef, zei, zeh, List.length_cons, List.length_nil, Nat.reduceAdd, Nat.zero_add, Nat.reduceLeDiff, List.drop_zero, List.take_succ_cons, List.take_zero, zfi, zfh, Ro.dl, zdb, zda, zfe, and_self, and_true, true_and, eq_self, List.append_nil, List.nil_append, List.cons_append, ne_eq, not_false_eq_true, and_false, false_and, Bool.false_eq_true, St.ev, zes, zfn, zhk, List.length_map]
 rfl
theorem prM_rng (h : 1 ≤ M ∧ M ≤ 55440) (x y : Nat) : 0 ≤ prM O M V x y ∧ prM O M V x y < M := ⟨Int.emod_nonneg _ (by omega), Int.emod_lt_of_pos _ (by omega)⟩
theorem cBil (h : MetB O M V) {t : Bool} (ht : t = true ↔ BilP O M V) : CallOK Tryz.prog 82 [mt O M V] (bo t) := by
 have hn := h.n
 have hs := h.g.sz
 have hv := isL_imm V
 have hvo := isL_imm O
 have hV16 : V.length ≤ 16 := by omega
 obtain ⟨m1, m2⟩ := h.m
 refine call_of (fn := Tryz.f82) (code := bodyOf Tryz.f82) Tryz.func82 rfl (by kernel_rfl) (rfl) ?_
 intro sl hs
 have s0 : sl 0 = mt O M V := hs 0
 dsimp only [Tryz.f82, bodyOf, Option.getD]
 simp (maxSteps := 10000000) (disch := first | assumption | omega) only [go_sem, ↓reduceIte, Nat.reduceEqDiff, reduceCtorEq, Nat.reduceAdd, Nat.reduceMul, Nat.reduceLeDiff, zfu, Int.mul_def, Int.add_def, zfv, cond_false, cond_true, isub, Int.reduceToNat, s0]
 refine CLL_pure _ cSize (by simp (disch := assumption) only [pureL, pureA, isL_pure, isLL_pure, isLLL_pure, pureL_map, Bool.and_self, Bool.and_true]) rfl rfl ?_
 simp (maxSteps := 10000000) (disch := first | assumption | omega) only [go_sem, ↓reduceIte, Nat.reduceEqDiff, reduceCtorEq, Nat.reduceAdd, Nat.reduceMul, Nat.reduceLeDiff, zfu, Int.mul_def, Int.add_def, zfv, cond_false, cond_true, isub, Int.reduceToNat, s0]
 refine WK_for (fun i st => st.sl 1 = .ptr 4096 1 [] 0 ∧ st.ro 4096 1 = some (.bx [immL O, i64 M, immL V]) ∧ st.sl 7 = i64 (V.length : Int) ∧ st.sl 8 = i64 (i : Int) ∧ (∀ x, x < i → atI V (ngN O x) = atI V x ∧ ∀ y, y < V.length → ∀ z, z < V.length → prM O M V (adN O x y) z = (prM O M V x z + prM O M V y z) % M)) V.length ?_ ?_ ?_
 · simp only [↓zcy, ↓zcz, ↓zda, ↓zdb, ↓reduceIte, Nat.reduceEqDiff, and_true, true_and, and_self, ne_eq, not_false_eq_true, eq_self, false_and, and_false, reduceCtorEq, rws_zero, s0]
   exact ⟨rfl, fun x hx => absurd hx (Nat.not_lt_zero _)⟩
 · rintro i sl ro gn hi ⟨s1, r4096, s7, s8, q⟩
   dsimp only at s1 r4096 s7 s8
   have hi' : (i : Int) < (V.length : Nat) := by omega
   obtain ⟨n1, n2⟩ := h.g.ngN i
   have hng : ngN O i < V.length := by omega
   simp (maxSteps := 10000000) (disch := first | assumption | omega) only [go_sem, ↓reduceIte, Nat.reduceEqDiff, reduceCtorEq, Nat.reduceAdd, Nat.reduceMul, Nat.reduceLeDiff, zfu, Int.mul_def, Int.add_def, zfv, cond_false, cond_true, isub, Int.reduceToNat, s1, r4096, s7, s8, hi', hi]
   refine CLLD_pure _ (cMinus h.g (x := i) (by omega)) (by simp (disch := assumption) only [pureL, pureA, isL_pure, isLL_pure, isLLL_pure, pureL_map, Bool.and_self, Bool.and_true]) rfl ?_
   simp (maxSteps := 10000000) (disch := first | assumption | omega) only [go_sem, ↓reduceIte, Nat.reduceEqDiff, reduceCtorEq, Nat.reduceAdd, Nat.reduceMul, Nat.reduceLeDiff, zfu, Int.mul_def, Int.add_def, zfv, cond_false, cond_true, isub, Int.reduceToNat, s1, r4096, s7, s8, hi', hi]
   refine FIN_of (by kernel_rfl) ?_
   simp (maxSteps := 10000000) (disch := first | assumption | omega) only [go_sem, ↓reduceIte, Nat.reduceEqDiff, reduceCtorEq, Nat.reduceAdd, Nat.reduceMul, Nat.reduceLeDiff, zfu, Int.mul_def, Int.add_def, zfv, cond_false, cond_true, isub, Int.reduceToNat, s1, r4096, s7, s8, hi', hi]
   refine ⟨fun h1 => ?_, fun h1 => ?_⟩
   · refine CLL_pure _ cSize (by simp (disch := assumption) only [pureL, pureA, isL_pure, isLL_pure, isLLL_pure, pureL_map, Bool.and_self, Bool.and_true]) rfl rfl ?_
     simp (maxSteps := 10000000) (disch := first | assumption | omega) only [go_sem, ↓reduceIte, Nat.reduceEqDiff, reduceCtorEq, Nat.reduceAdd, Nat.reduceMul, Nat.reduceLeDiff, zfu, Int.mul_def, Int.add_def, zfv, cond_false, cond_true, isub, Int.reduceToNat, s1, r4096, s7, s8, hi', hi]
     refine WK_for (fun j st => st.sl 1 = .ptr 4096 1 [] 0 ∧ st.ro 4096 1 = some (.bx [immL O, i64 M, immL V]) ∧ st.sl 7 = i64 (V.length : Int) ∧ st.sl 8 = i64 (i : Int) ∧ st.sl 3 = i64 (i : Int) ∧ st.sl 25 = i64 (V.length : Int) ∧ st.sl 26 = i64 (j : Int) ∧ (∀ y, y < j → ∀ z, z < V.length → prM O M V (adN O i y) z = (prM O M V i z + prM O M V y z) % M)) V.length ?_ ?_ ?_
     · simp only [↓zcy, ↓zcz, ↓zda, ↓zdb, ↓reduceIte, Nat.reduceEqDiff, and_true, true_and, and_self, ne_eq, not_false_eq_true, eq_self, false_and, and_false, reduceCtorEq, rws_zero, s1, r4096, s7, s8, hi', hi]
       exact ⟨rfl, fun x hx => absurd hx (Nat.not_lt_zero _)⟩
     · rintro j sl ro gn hj ⟨s1, r4096, s7, s8, s3, s25, s26, q2⟩
       dsimp only at s1 r4096 s7 s8 s3 s25 s26
       have hj' : (j : Int) < (V.length : Nat) := by omega
       obtain ⟨a1, a2⟩ := h.g.adN i j
       have had : adN O i j < V.length := by omega
       simp (maxSteps := 10000000) (disch := first | assumption | omega) only [go_sem, ↓reduceIte, Nat.reduceEqDiff, reduceCtorEq, Nat.reduceAdd, Nat.reduceMul, Nat.reduceLeDiff, zfu, Int.mul_def, Int.add_def, zfv, cond_false, cond_true, isub, Int.reduceToNat, s1, r4096, s7, s8, s3, s25, s26, hj', hj]
       refine CLL_pure _ cSize (by simp (disch := assumption) only [pureL, pureA, isL_pure, isLL_pure, isLLL_pure, pureL_map, Bool.and_self, Bool.and_true]) rfl rfl ?_
       simp (maxSteps := 10000000) (disch := first | assumption | omega) only [go_sem, ↓reduceIte, Nat.reduceEqDiff, reduceCtorEq, Nat.reduceAdd, Nat.reduceMul, Nat.reduceLeDiff, zfu, Int.mul_def, Int.add_def, zfv, cond_false, cond_true, isub, Int.reduceToNat, s1, r4096, s7, s8, s3, s25, s26, hj', hj]
       refine WK_for (fun k st => st.sl 1 = .ptr 4096 1 [] 0 ∧ st.ro 4096 1 = some (.bx [immL O, i64 M, immL V]) ∧ st.sl 7 = i64 (V.length : Int) ∧ st.sl 8 = i64 (i : Int) ∧ st.sl 3 = i64 (i : Int) ∧ st.sl 25 = i64 (V.length : Int) ∧ st.sl 26 = i64 (j : Int) ∧ st.sl 4 = i64 (j : Int) ∧ st.sl 30 = i64 (V.length : Int) ∧ st.sl 31 = i64 (k : Int) ∧ (∀ z, z < k → prM O M V (adN O i j) z = (prM O M V i z + prM O M V j z) % M)) V.length ?_ ?_ ?_
       · simp only [↓zcy, ↓zcz, ↓zda, ↓zdb, ↓reduceIte, Nat.reduceEqDiff, and_true, true_and, and_self, ne_eq, not_false_eq_true, eq_self, false_and, and_false, reduceCtorEq, rws_zero, s1, r4096, s7, s8, s3, s25, s26, hj', hj]
         exact ⟨rfl, fun x hx => absurd hx (Nat.not_lt_zero _)⟩
       · rintro k sl ro gn hk ⟨s1, r4096, s7, s8, s3, s25, s26, s4, s30, s31, q3⟩
         dsimp only at s1 r4096 s7 s8 s3 s25 s26 s4 s30 s31
         have hk' : (k : Int) < (V.length : Nat) := by omega
         obtain ⟨p1, p2⟩ := prM_rng (O := O) (V := V) h.m i k
         obtain ⟨p3, p4⟩ := prM_rng (O := O) (V := V) h.m j k
         simp (maxSteps := 10000000) (disch := first | assumption | omega) only [go_sem, ↓reduceIte, Nat.reduceEqDiff, reduceCtorEq, Nat.reduceAdd, Nat.reduceMul, Nat.reduceLeDiff, zfu, Int.mul_def, Int.add_def, zfv, cond_false, cond_true, isub, Int.reduceToNat, s1, r4096, s7, s8, s3, s25, s26, s4, s30, s31, hk', hk]
         refine CLLD_pure _ (cPlus h.g (x := i) (y := j) (by omega) (by omega)) (by simp (disch := assumption) only [pureL, pureA, isL_pure, isLL_pure, isLLL_pure, pureL_map, Bool.and_self, Bool.and_true]) rfl ?_
         simp (maxSteps := 10000000) (disch := first | assumption | omega) only [go_sem, ↓reduceIte, Nat.reduceEqDiff, reduceCtorEq, Nat.reduceAdd, Nat.reduceMul, Nat.reduceLeDiff, zfu, Int.mul_def, Int.add_def, zfv, cond_false, cond_true, isub, Int.reduceToNat, s1, r4096, s7, s8, s3, s25, s26, s4, s30, s31, hk', hk, a1]
         refine CLLD_pure _ (cPair h had hk) (by simp (disch := assumption) only [pureL, pureA, isL_pure, isLL_pure, isLLL_pure, pureL_map, Bool.and_self, Bool.and_true]) rfl ?_
         simp (maxSteps := 10000000) (disch := first | assumption | omega) only [go_sem, ↓reduceIte, Nat.reduceEqDiff, reduceCtorEq, Nat.reduceAdd, Nat.reduceMul, Nat.reduceLeDiff, zfu, Int.mul_def, Int.add_def, zfv, cond_false, cond_true, isub, Int.reduceToNat, s1, r4096, s7, s8, s3, s25, s26, s4, s30, s31, hk', hk]
         refine CLLD_pure _ (cPair h hi hk) (by simp (disch := assumption) only [pureL, pureA, isL_pure, isLL_pure, isLLL_pure, pureL_map, Bool.and_self, Bool.and_true]) rfl ?_
         simp (maxSteps := 10000000) (disch := first | assumption | omega) only [go_sem, ↓reduceIte, Nat.reduceEqDiff, reduceCtorEq, Nat.reduceAdd, Nat.reduceMul, Nat.reduceLeDiff, zfu, Int.mul_def, Int.add_def, zfv, cond_false, cond_true, isub, Int.reduceToNat, s1, r4096, s7, s8, s3, s25, s26, s4, s30, s31, hk', hk]
         refine CLLD_pure _ (cPair h hj hk) (by simp (disch := assumption) only [pureL, pureA, isL_pure, isLL_pure, isLLL_pure, pureL_map, Bool.and_self, Bool.and_true]) rfl ?_
         simp (maxSteps := 10000000) (disch := first | assumption | omega) only [go_sem, ↓reduceIte, Nat.reduceEqDiff, reduceCtorEq, Nat.reduceAdd, Nat.reduceMul, Nat.reduceLeDiff, zfu, Int.mul_def, Int.add_def, zfv, cond_false, cond_true, isub, Int.reduceToNat, s1, r4096, s7, s8, s3, s25, s26, s4, s30, s31, hk', hk]
         refine CLLD_pure _ (cRest (O := O) (V := V) h.m (n := prM O M V i k + prM O M V j k) (by omega)) (by simp (disch := assumption) only [pureL, pureA, isL_pure, isLL_pure, isLLL_pure, pureL_map, Bool.and_self, Bool.and_true]) rfl ?_
         simp (maxSteps := 10000000) (disch := first | assumption | omega) only [go_sem, ↓reduceIte, Nat.reduceEqDiff, reduceCtorEq, Nat.reduceAdd, Nat.reduceMul, Nat.reduceLeDiff, zfu, Int.mul_def, Int.add_def, zfv, cond_false, cond_true, isub, Int.reduceToNat, s1, r4096, s7, s8, s3, s25, s26, s4, s30, s31, hk', hk]
         refine FIN_of (by kernel_rfl) ?_
         simp (maxSteps := 10000000) (disch := first | assumption | omega) only [go_sem, ↓reduceIte, Nat.reduceEqDiff, reduceCtorEq, Nat.reduceAdd, Nat.reduceMul, Nat.reduceLeDiff, zfu, Int.mul_def, Int.add_def, zfv, cond_false, cond_true, isub, Int.reduceToNat, s1, r4096, s7, s8, s3, s25, s26, s4, s30, s31, hk', hk]
         refine ⟨fun h2 => ?_, fun h2 => ?_⟩
         · refine ⟨i64c (by omega), fun z hz => ?_⟩
           by_cases e : z = k
           · subst e; exact h2
           · exact q3 z (by omega)
         · have hf : t = false := by
             cases t with
             | false => rfl
             | true => exact absurd (((ht.1 rfl) i hi).2 j hj k hk) h2
           subst hf
           simp only [zbj, zbk, retR, resL, outT, zes, zez, oneV, ↓zcy, ↓zcz, ↓reduceIte, Nat.reduceEqDiff, Option.some.injEq, AV.sc.injEq, Value.bool.injEq, Value.int.injEq, outL, outT, zft, zcp, zed, zef, zei, zeh, List.length_cons, List.length_nil, Nat.reduceAdd, Nat.zero_add, Nat.reduceLeDiff, List.drop_zero, List.take_succ_cons, List.take_zero, zfi, zfh, Ro.dl, zdb, zda, zfe, and_self, and_true, true_and, eq_self, List.append_nil, List.nil_append, List.cons_append, ne_eq, not_false_eq_true, and_false, false_and, Bool.false_eq_true, St.ev, zes, zfn, zhk, List.length_map]
       · rintro sl ro gn ⟨s1, r4096, s7, s8, s3, s25, s26, s4, s30, s31, q3⟩
         dsimp only at s1 r4096 s7 s8 s3 s25 s26 s4 s30 s31
         have hk' : ¬ ((V.length : Nat) : Int) < (V.length : Nat) := by omega
         simp (maxSteps := 10000000) (disch := first | assumption | omega) only [go_sem, ↓reduceIte, Nat.reduceEqDiff, reduceCtorEq, Nat.reduceAdd, Nat.reduceMul, Nat.reduceLeDiff, zfu, Int.mul_def, Int.add_def, zfv, cond_false, cond_true, isub, Int.reduceToNat, s1, r4096, s7, s8, s3, s25, s26, s4, s30, s31, hk']
         refine ⟨i64c (by omega), fun y hy => ?_⟩
         by_cases e : y = j
         · subst e; exact q3
         · exact q2 y (by omega)
     · rintro sl ro gn ⟨s1, r4096, s7, s8, s3, s25, s26, q2⟩
       dsimp only at s1 r4096 s7 s8 s3 s25 s26
       have hj' : ¬ ((V.length : Nat) : Int) < (V.length : Nat) := by omega
       simp (maxSteps := 10000000) (disch := first | assumption | omega) only [go_sem, ↓reduceIte, Nat.reduceEqDiff, reduceCtorEq, Nat.reduceAdd, Nat.reduceMul, Nat.reduceLeDiff, zfu, Int.mul_def, Int.add_def, zfv, cond_false, cond_true, isub, Int.reduceToNat, s1, r4096, s7, s8, s3, s25, s26, hj']
       refine ⟨i64c (by omega), fun x hx => ?_⟩
       by_cases e : x = i
       · subst e; exact ⟨h1, q2⟩
       · exact q x (by omega)
   · have hf : t = false := by
       cases t with
       | false => rfl
       | true => exact absurd ((ht.1 rfl) i hi).1 h1
     subst hf
     simp only [zbj, zbk, retR, resL, outT, zes, zez, oneV, ↓zcy, ↓zcz, ↓reduceIte, Nat.reduceEqDiff, Option.some.injEq, AV.sc.injEq, Value.bool.injEq, Value.int.injEq, outL, outT, zft, zcp, zed, zef, zei, zeh, List.length_cons, List.length_nil, Nat.reduceAdd, Nat.zero_add, Nat.reduceLeDiff, List.drop_zero, List.take_succ_cons, List.take_zero, zfi, zfh, Ro.dl, zdb, zda, zfe, and_self, and_true, true_and, eq_self, List.append_nil, List.nil_append, List.cons_append, ne_eq, not_false_eq_true, and_false, false_and, Bool.false_eq_true, St.ev, zes, zfn, zhk, List.length_map]
 · rintro sl ro gn ⟨s1, r4096, s7, s8, q⟩
   dsimp only at s1 r4096 s7 s8
   have hi' : ¬ ((V.length : Nat) : Int) < (V.length : Nat) := by omega
   have hf : t = true := ht.2 q
   subst hf
   simp (maxSteps := 10000000) (disch := first | assumption | omega) only [go_sem, ↓reduceIte, Nat.reduceEqDiff, reduceCtorEq, Nat.reduceAdd, Nat.reduceMul, Nat.reduceLeDiff, zfu, Int.mul_def, Int.add_def, zfv, cond_false, cond_true, isub, Int.reduceToNat, s1, r4096, s7, s8, hi']
   simp only [zbj, zbk, retR, resL, outT, zes, zez, oneV, ↓zcy, ↓zcz, ↓reduceIte, Nat.reduceEqDiff, Option.some.injEq, AV.sc.injEq, Value.bool.injEq, Value.int.injEq, outL, outT, zft, zcp, zed, zef, zei, zeh, List.length_cons, List.length_nil, Nat.reduceAdd, Nat.zero_add, Nat.reduceLeDiff, List.drop_zero, List.take_succ_cons, List.take_zero, zfi, zfh, Ro.dl, zdb, zda, zfe, and_self, and_true, true_and, eq_self, List.append_nil, List.nil_append, List.cons_append, ne_eq, not_false_eq_true, and_false, false_and, Bool.false_eq_true, St.ev, zes, zfn, zhk, List.length_map]
end
end Go.Proofs.YtgcnmlecihegcaaGreat
/- Which metrics the program takes. -/
namespace Go.Proofs.YtgcnmlecihegcaaGreat
open Go.RowKit
set_option maxRecDepth 1000000
def MetP (O : List Int) (M : Int) (V : List Int) : Prop := MetB O M V ∧ 55440 % M = 0 ∧ atI V 0 = 0 ∧ BilP O M V
def gS (O : List Int) : Nat → Int
 | 0 => 1
 | i + 1 => if gS O i * atI O i ≤ 17 then gS O i * atI O i else 17
theorem gS_pfx {O : List Int} (h : ∀ i, i < O.length → 2 ≤ atI O i ∧ atI O i ≤ 16) : ∀ {i : Nat}, i ≤ O.length → 1 ≤ gS O i ∧ gS O i ≤ 17 ∧ ((gS O i ≤ 16 ∨ pfx O i ≤ 16) → gS O i = pfx O i)
 | 0, _ => by simp [gS, pfx]
 | i + 1, hi => by
   obtain ⟨h1, h2, h3⟩ := gS_pfx h (i := i) (by omega)
   have h4 := h i (by omega)
   have h5 := pfx_pos h (i := i) (by omega)
   have h6 : 1 * 1 ≤ gS O i * atI O i := Int.mul_le_mul h1 (by omega) (by omega) (by omega)
   have h7 : pfx O i * 2 ≤ pfx O i * atI O i := Int.mul_le_mul_of_nonneg_left (by omega) (by omega)
   have h8 : gS O i * 2 ≤ gS O i * atI O i := Int.mul_le_mul_of_nonneg_left (by omega) (by omega)
   simp only [gS, pfx]
   by_cases hc : gS O i * atI O i ≤ 17
   · rw [if_pos hc]
     refine ⟨by omega, hc, fun _ => ?_⟩
     rw [h3 (.inl (by omega))]
   · rw [if_neg hc]
     refine ⟨by omega, by omega, fun h9 => ?_⟩
     rcases h9 with h9 | h9
     · omega
     · have := h3 (.inr (by omega))
       rw [this] at hc
       omega
theorem kMin_i (a b : Int) : kMin (i64 a) (i64 b) = some ⟨i64 (if b < a then b else a), none, [], []⟩ := by simp [kMin]
theorem cIsOrder {n : Int} : CallOK Tryz.prog 78 [i64 n] (bo (decide (1 ≤ n ∧ 55440 % n = 0))) := by
 refine call_of (fn := Tryz.f78) (code := bodyOf Tryz.f78) Tryz.func78 rfl (by kernel_rfl) (rfl) ?_
 intro sl hs
 have s0 : sl 0 = i64 n := hs 0
 by_cases h1 : 1 ≤ n
 · have h0 : ¬ n = 0 := by omega
   have e : (55440 : Int).tmod n = 55440 % n := Int.tmod_eq_emod_of_nonneg (by decide)
   dsimp only [Tryz.f78, bodyOf, Option.getD]
   simp (maxSteps := 10000000) (disch := first | assumption | omega) only [go_sem, ↓reduceIte, Nat.reduceEqDiff, reduceCtorEq, Nat.reduceAdd, Nat.reduceMul, Nat.reduceLeDiff, zfu, Int.mul_def, Int.add_def, zfv, cond_false, cond_true, isub, Int.reduceToNat, s0, eq_true h1, e]
   simp only [zbj, zbk, retR, resL, outT, zes, zez, oneV, ↓zcy, ↓zcz, ↓reduceIte, Nat.reduceEqDiff, Option.some.injEq, AV.sc.injEq, Value.bool.injEq, Value.int.injEq, outL, outT, zft, zcp, zed, zef, zei, zeh, List.length_cons, List.length_nil, Nat.reduceAdd, Nat.zero_add, Nat.reduceLeDiff, List.drop_zero, List.take_succ_cons, List.take_zero, zfi, zfh, Ro.dl, zdb, zda, zfe, and_self, and_true, true_and, eq_self, List.append_nil, List.nil_append, List.cons_append, ne_eq, not_false_eq_true, and_false, false_and, Bool.false_eq_true, St.ev, zes, zfn, zhk, List.length_map]
 · skip
   dsimp only [Tryz.f78, bodyOf, Option.getD]
   simp (maxSteps := 10000000) (disch := first | assumption | omega) only [go_sem, ↓reduceIte, Nat.reduceEqDiff, reduceCtorEq, Nat.reduceAdd, Nat.reduceMul, Nat.reduceLeDiff, zfu, Int.mul_def, Int.add_def, zfv, cond_false, cond_true, isub, Int.reduceToNat, s0, eq_false h1]
   simp only [zbj, zbk, retR, resL, outT, zes, zez, oneV, ↓zcy, ↓zcz, ↓reduceIte, Nat.reduceEqDiff, Option.some.injEq, AV.sc.injEq, Value.bool.injEq, Value.int.injEq, outL, outT, zft, zcp, zed, zef, zei, zeh, List.length_cons, List.length_nil, Nat.reduceAdd, Nat.zero_add, Nat.reduceLeDiff, List.drop_zero, List.take_succ_cons, List.take_zero, zfi, zfh, Ro.dl, zdb, zda, zfe, and_self, and_true, true_and, eq_self, List.append_nil, List.nil_append, List.cons_append, ne_eq, not_false_eq_true, and_false, false_and, Bool.false_eq_true, St.ev, zes, zfn, zhk, List.length_map]
theorem cGroupSize {O : List Int} (hl : O.length ≤ 4) (h : ∀ i, i < O.length → 2 ≤ atI O i ∧ atI O i ≤ 16) : CallOK Tryz.prog 80 [immL O] (i64 (if O.length = 0 then 0 else gS O O.length)) := by
 have ho := isL_imm O
 refine call_of (fn := Tryz.f80) (code := bodyOf Tryz.f80) Tryz.func80 rfl (by kernel_rfl) (rfl) ?_
 intro sl hs
 have s0 : sl 0 = immL O := hs 0
 dsimp only [Tryz.f80, bodyOf, Option.getD]
 simp (maxSteps := 10000000) (disch := first | assumption | omega) only [go_sem, ↓reduceIte, Nat.reduceEqDiff, reduceCtorEq, Nat.reduceAdd, Nat.reduceMul, Nat.reduceLeDiff, zfu, Int.mul_def, Int.add_def, zfv, cond_false, cond_true, isub, Int.reduceToNat, s0]
 refine WK_for (fun i st => st.sl 0 = immL O ∧ st.sl 3 = i64 (gS O i) ∧ st.sl 6 = immL O ∧ st.sl 7 = i64 (O.length : Int) ∧ st.sl 8 = i64 (i : Int)) O.length ?_ ?_ ?_
 · simp only [↓zcy, ↓zcz, ↓zda, ↓zdb, ↓reduceIte, Nat.reduceEqDiff, and_true, true_and, and_self, ne_eq, not_false_eq_true, eq_self, false_and, and_false, reduceCtorEq, rws_zero, s0]
   (repeat' first | rfl | exact i64c rfl | exact i64c (by omega) | exact trivial | apply And.intro)
 · rintro i sl ro gn hi ⟨s0, s3, s6, s7, s8⟩
   dsimp only at s0 s3 s6 s7 s8
   have hi' : (i : Int) < (O.length : Nat) := by omega
   obtain ⟨g1, g2, -⟩ := gS_pfx h (i := i) (by omega)
   obtain ⟨a1, a2⟩ := h i hi
   have hlt : ¬ atI O i < 1 := by omega
   have hm1 : 0 ≤ gS O i * atI O i := Int.mul_nonneg (by omega) (by omega)
   have hm2 : gS O i * atI O i ≤ 17 * 16 := Int.mul_le_mul g2 a2 (by omega) (by omega)
   have h17 : ¬ (17 : Int) < atI O i := by omega
   have e : (if gS O i * atI O i < 17 then gS O i * atI O i else 17) = gS O (i + 1) := by
     simp only [gS]
     by_cases hc : gS O i * atI O i < 17
     · rw [if_pos hc, if_pos (by omega)]
     · rw [if_neg hc]
       by_cases hd : gS O i * atI O i ≤ 17
       · rw [if_pos hd]; omega
       · rw [if_neg hd]
   simp (maxSteps := 10000000) (disch := first | assumption | omega) only [go_sem, ↓reduceIte, Nat.reduceEqDiff, reduceCtorEq, Nat.reduceAdd, Nat.reduceMul, Nat.reduceLeDiff, zfu, Int.mul_def, Int.add_def, zfv, cond_false, cond_true, isub, Int.reduceToNat, s0, s3, s6, s7, s8, hi', hi, kMin_i, eq_false h17, e]
   exact i64c (by omega)
 · rintro sl ro gn ⟨s0, s3, s6, s7, s8⟩
   dsimp only at s0 s3 s6 s7 s8
   have hi' : ¬ ((O.length : Nat) : Int) < (O.length : Nat) := by omega
   by_cases h0 : O.length = 0
   · have h0' : (O.length : Int) = 0 := by omega
     simp (maxSteps := 10000000) (disch := first | assumption | omega) only [go_sem, ↓reduceIte, Nat.reduceEqDiff, reduceCtorEq, Nat.reduceAdd, Nat.reduceMul, Nat.reduceLeDiff, zfu, Int.mul_def, Int.add_def, zfv, cond_false, cond_true, isub, Int.reduceToNat, s0, s3, s6, s7, s8, hi', eq_true h0', h0]
     simp only [zbj, zbk, retR, resL, outT, zes, zez, oneV, ↓zcy, ↓zcz, ↓reduceIte, Nat.reduceEqDiff, Option.some.injEq, AV.sc.injEq, Value.bool.injEq, Value.int.injEq, outL, outT, zft, zcp, zed, zef, zei, zeh, List.length_cons, List.length_nil, Nat.reduceAdd, Nat.zero_add, Nat.reduceLeDiff, List.drop_zero, List.take_succ_cons, List.take_zero, zfi, zfh, Ro.dl, zdb, zda, zfe, and_self, and_true, true_and, eq_self, List.append_nil, List.nil_append, List.cons_append, ne_eq, not_false_eq_true, and_false, false_and, Bool.false_eq_true, St.ev, zes, zfn, zhk, List.length_map]
   · have h0' : ¬ (O.length : Int) = 0 := by omega
     simp (maxSteps := 10000000) (disch := first | assumption | omega) only [go_sem, ↓reduceIte, Nat.reduceEqDiff, reduceCtorEq, Nat.reduceAdd, Nat.reduceMul, Nat.reduceLeDiff, zfu, Int.mul_def, Int.add_def, zfv, cond_false, cond_true, isub, Int.reduceToNat, s0, s3, s6, s7, s8, hi', eq_false h0', h0]
     simp only [zbj, zbk, retR, resL, outT, zes, zez, oneV, ↓zcy, ↓zcz, ↓reduceIte, Nat.reduceEqDiff, Option.some.injEq, AV.sc.injEq, Value.bool.injEq, Value.int.injEq, outL, outT, zft, zcp, zed, zef, zei, zeh, List.length_cons, List.length_nil, Nat.reduceAdd, Nat.zero_add, Nat.reduceLeDiff, List.drop_zero, List.take_succ_cons, List.take_zero, zfi, zfh, Ro.dl, zdb, zda, zfe, and_self, and_true, true_and, eq_self, List.append_nil, List.nil_append, List.cons_append, ne_eq, not_false_eq_true, and_false, false_and, Bool.false_eq_true, St.ev, zes, zfn, zhk, List.length_map]
theorem pfx_two {O : List Int} (h : ∀ i, i < O.length → 2 ≤ atI O i ∧ atI O i ≤ 16) (h1 : 1 ≤ O.length) : 2 ≤ pfx O O.length := by
 obtain ⟨k, hk⟩ : ∃ k, O.length = k + 1 := ⟨O.length - 1, by omega⟩
 have h2 := pfx_pos h (i := k) (by omega)
 have h3 := h k (by omega)
 have : 1 * 2 ≤ pfx O k * atI O k := Int.mul_le_mul h2 (by omega) (by omega) (by omega)
 rw [hk]; simp only [pfx]; omega
theorem GrpP.gs {O : List Int} (h : GrpP O) : (if O.length = 0 then 0 else gS O O.length) = pfx O O.length := by
 have := h.l1
 rw [if_neg (by omega)]
 exact (gS_pfx h.rg (i := O.length) (Nat.le_refl _)).2.2 (.inr h.sz)
theorem GrpP_iff {O : List Int} (hl : O.length ≤ 4) (h : ∀ i, i < O.length → 2 ≤ atI O i ∧ atI O i ≤ 16) : GrpP O ↔ (2 ≤ (if O.length = 0 then 0 else gS O O.length) ∧ (if O.length = 0 then 0 else gS O O.length) ≤ 16) := by
 constructor
 · intro hg
   rw [hg.gs]
   exact ⟨pfx_two h hg.l1, hg.sz⟩
 · rintro ⟨h1, h2⟩
   by_cases h0 : O.length = 0
   · rw [if_pos h0] at h1; omega
   · rw [if_neg h0] at h1 h2
     have := (gS_pfx h (i := O.length) (Nat.le_refl _)).2.2 (.inl h2)
     exact ⟨by omega, hl, h, by omega⟩
theorem bool_f {t : Bool} {p : Prop} (ht : t = true ↔ p) (h : ¬ p) : t = false := by
 cases t with
 | false => rfl
 | true => exact absurd (ht.1 rfl) h
theorem cIsGroup {O : List Int} (hx : O.length ≤ maxN) {t : Bool} (ht : t = true ↔ GrpP O) : CallOK Tryz.prog 77 [immL O] (bo t) := by
 have ho := isL_imm O
 have hx' : O.length ≤ 4294967296 := hx
 refine call_of (fn := Tryz.f77) (code := bodyOf Tryz.f77) Tryz.func77 rfl (by kernel_rfl) (rfl) ?_
 intro sl hs
 have s0 : sl 0 = immL O := hs 0
 by_cases hl : O.length ≤ 4
 · have hl' : (O.length : Int) ≤ 4 := by omega
   have cW := c129 (lo := 2) (hi := 16) ho hx
   by_cases hw : allW O 2 16 = true
   · rw [hw] at cW
     have h := allW_iff.1 hw
     have ht2 := ht.trans (GrpP_iff hl h)
     dsimp only [Tryz.f77, bodyOf, Option.getD]
     simp (maxSteps := 10000000) (disch := first | assumption | omega) only [go_sem, ↓reduceIte, Nat.reduceEqDiff, reduceCtorEq, Nat.reduceAdd, Nat.reduceMul, Nat.reduceLeDiff, zfu, Int.mul_def, Int.add_def, zfv, cond_false, cond_true, isub, Int.reduceToNat, s0, eq_true hl']
     refine CLL_pure _ cW (by simp (disch := assumption) only [pureL, pureA, isL_pure, isLL_pure, isLLL_pure, pureL_map, Bool.and_self, Bool.and_true]) rfl rfl ?_
     simp (maxSteps := 10000000) (disch := first | assumption | omega) only [go_sem, ↓reduceIte, Nat.reduceEqDiff, reduceCtorEq, Nat.reduceAdd, Nat.reduceMul, Nat.reduceLeDiff, zfu, Int.mul_def, Int.add_def, zfv, cond_false, cond_true, isub, Int.reduceToNat, s0]
     refine CLL_pure _ (cGroupSize hl h) (by simp (disch := assumption) only [pureL, pureA, isL_pure, isLL_pure, isLLL_pure, pureL_map, Bool.and_self, Bool.and_true]) rfl rfl ?_
     simp (maxSteps := 10000000) (disch := first | assumption | omega) only [go_sem, ↓reduceIte, Nat.reduceEqDiff, reduceCtorEq, Nat.reduceAdd, Nat.reduceMul, Nat.reduceLeDiff, zfu, Int.mul_def, Int.add_def, zfv, cond_false, cond_true, isub, Int.reduceToNat, s0]
     refine CLL_pure _ c40 (by simp (disch := assumption) only [pureL, pureA, isL_pure, isLL_pure, isLLL_pure, pureL_map, Bool.and_self, Bool.and_true]) rfl rfl ?_
     simp (maxSteps := 10000000) (disch := first | assumption | omega) only [go_sem, ↓reduceIte, Nat.reduceEqDiff, reduceCtorEq, Nat.reduceAdd, Nat.reduceMul, Nat.reduceLeDiff, zfu, Int.mul_def, Int.add_def, zfv, cond_false, cond_true, isub, Int.reduceToNat, s0]
     simp only [zbj, zbk, retR, resL, outT, zes, zez, oneV, ↓zcy, ↓zcz, ↓reduceIte, Nat.reduceEqDiff, Option.some.injEq, AV.sc.injEq, Value.bool.injEq, Value.int.injEq, outL, outT, zft, zcp, zed, zef, zei, zeh, List.length_cons, List.length_nil, Nat.reduceAdd, Nat.zero_add, Nat.reduceLeDiff, List.drop_zero, List.take_succ_cons, List.take_zero, zfi, zfh, Ro.dl, zdb, zda, zfe, and_self, and_true, true_and, eq_self, List.append_nil, List.nil_append, List.cons_append, ne_eq, not_false_eq_true, and_false, false_and, Bool.false_eq_true, St.ev, zes, zfn, zhk, List.length_map]
     cases t with
     | true => exact decide_eq_true (ht2.1 rfl)
     | false => exact decide_eq_false fun h3 => by have := ht2.2 h3; cases this
   · have hw' : allW O 2 16 = false := by simpa using hw
     rw [hw'] at cW
     have hf := bool_f ht fun hg => hw (allW_iff.2 hg.rg)
     subst hf
     dsimp only [Tryz.f77, bodyOf, Option.getD]
     simp (maxSteps := 10000000) (disch := first | assumption | omega) only [go_sem, ↓reduceIte, Nat.reduceEqDiff, reduceCtorEq, Nat.reduceAdd, Nat.reduceMul, Nat.reduceLeDiff, zfu, Int.mul_def, Int.add_def, zfv, cond_false, cond_true, isub, Int.reduceToNat, s0, eq_true hl']
     refine CLL_pure _ cW (by simp (disch := assumption) only [pureL, pureA, isL_pure, isLL_pure, isLLL_pure, pureL_map, Bool.and_self, Bool.and_true]) rfl rfl ?_
     simp (maxSteps := 10000000) (disch := first | assumption | omega) only [go_sem, ↓reduceIte, Nat.reduceEqDiff, reduceCtorEq, Nat.reduceAdd, Nat.reduceMul, Nat.reduceLeDiff, zfu, Int.mul_def, Int.add_def, zfv, cond_false, cond_true, isub, Int.reduceToNat, s0]
     simp only [zbj, zbk, retR, resL, outT, zes, zez, oneV, ↓zcy, ↓zcz, ↓reduceIte, Nat.reduceEqDiff, Option.some.injEq, AV.sc.injEq, Value.bool.injEq, Value.int.injEq, outL, outT, zft, zcp, zed, zef, zei, zeh, List.length_cons, List.length_nil, Nat.reduceAdd, Nat.zero_add, Nat.reduceLeDiff, List.drop_zero, List.take_succ_cons, List.take_zero, zfi, zfh, Ro.dl, zdb, zda, zfe, and_self, and_true, true_and, eq_self, List.append_nil, List.nil_append, List.cons_append, ne_eq, not_false_eq_true, and_false, false_and, Bool.false_eq_true, St.ev, zes, zfn, zhk, List.length_map]
 · have hl' : ¬ (O.length : Int) ≤ 4 := by omega
   have hf := bool_f ht fun hg => hl hg.l4
   subst hf
   dsimp only [Tryz.f77, bodyOf, Option.getD]
   simp (maxSteps := 10000000) (disch := first | assumption | omega) only [go_sem, ↓reduceIte, Nat.reduceEqDiff, reduceCtorEq, Nat.reduceAdd, Nat.reduceMul, Nat.reduceLeDiff, zfu, Int.mul_def, Int.add_def, zfv, cond_false, cond_true, isub, Int.reduceToNat, s0, eq_false hl']
   simp only [zbj, zbk, retR, resL, outT, zes, zez, oneV, ↓zcy, ↓zcz, ↓reduceIte, Nat.reduceEqDiff, Option.some.injEq, AV.sc.injEq, Value.bool.injEq, Value.int.injEq, outL, outT, zft, zcp, zed, zef, zei, zeh, List.length_cons, List.length_nil, Nat.reduceAdd, Nat.zero_add, Nat.reduceLeDiff, List.drop_zero, List.take_succ_cons, List.take_zero, zfi, zfh, Ro.dl, zdb, zda, zfe, and_self, and_true, true_and, eq_self, List.append_nil, List.nil_append, List.cons_append, ne_eq, not_false_eq_true, and_false, false_and, Bool.false_eq_true, St.ev, zes, zfn, zhk, List.length_map]
theorem div_le {M : Int} (h1 : 1 ≤ M) (h : 55440 % M = 0) : M ≤ 55440 := Int.le_of_dvd (by decide) (Int.dvd_of_emod_eq_zero h)
theorem cIsMetric {O V : List Int} {M : Int} (hx : O.length ≤ maxN) (hv2 : V.length ≤ maxN) (hM64 : -2^63 ≤ M ∧ M < 2^63) {t : Bool} (ht : t = true ↔ MetP O M V) : CallOK Tryz.prog 36 [mt O M V] (bo t) := by
 have ho := isL_imm O
 have hv := isL_imm V
 have hv3 : V.length ≤ 4294967296 := hv2
 refine call_of (fn := Tryz.f36) (code := bodyOf Tryz.f36) Tryz.func36 rfl (by kernel_rfl) (rfl) ?_
 intro sl hs
 have s0 : sl 0 = mt O M V := hs 0
 by_cases hg : GrpP O
 · have cG := cIsGroup (t := true) hx (by simp [hg])
   have hrg := hg.rg
   have hl4 := hg.l4
   have cS := cGroupSize hl4 hrg
   rw [hg.gs] at cS
   by_cases hm : 1 ≤ M ∧ 55440 % M = 0
   · have cO := cIsOrder (n := M)
     rw [decide_eq_true hm] at cO
     have hM2 := div_le hm.1 hm.2
     by_cases hn : (V.length : Int) = pfx O O.length
     · have cW := c129 (lo := 0) (hi := M - 1) hv hv2
       by_cases hw : allW V 0 (M - 1) = true
       · rw [hw] at cW
         have hb : MetB O M V := ⟨hg, ⟨hm.1, hM2⟩, hn, allW_iff.1 hw⟩
         have hpos : 0 < V.length := by have := pfx_pos hrg (Nat.le_refl O.length); omega
         by_cases hz : atI V 0 = 0
         · have ht2 : t = true ↔ BilP O M V := ht.trans ⟨fun h => h.2.2.2, fun h => ⟨hb, hm.2, hz, h⟩⟩
           dsimp only [Tryz.f36, bodyOf, Option.getD]
           simp (maxSteps := 10000000) (disch := first | assumption | omega) only [go_sem, ↓reduceIte, Nat.reduceEqDiff, reduceCtorEq, Nat.reduceAdd, Nat.reduceMul, Nat.reduceLeDiff, zfu, Int.mul_def, Int.add_def, zfv, cond_false, cond_true, isub, Int.reduceToNat, s0]
           refine CLLD_pure _ cG (by simp (disch := assumption) only [pureL, pureA, isL_pure, isLL_pure, isLLL_pure, pureL_map, Bool.and_self, Bool.and_true]) rfl ?_
           simp (maxSteps := 10000000) (disch := first | assumption | omega) only [go_sem, ↓reduceIte, Nat.reduceEqDiff, reduceCtorEq, Nat.reduceAdd, Nat.reduceMul, Nat.reduceLeDiff, zfu, Int.mul_def, Int.add_def, zfv, cond_false, cond_true, isub, Int.reduceToNat, s0]
           refine CLLD_pure _ cO (by simp (disch := assumption) only [pureL, pureA, isL_pure, isLL_pure, isLLL_pure, pureL_map, Bool.and_self, Bool.and_true]) rfl ?_
           simp (maxSteps := 10000000) (disch := first | assumption | omega) only [go_sem, ↓reduceIte, Nat.reduceEqDiff, reduceCtorEq, Nat.reduceAdd, Nat.reduceMul, Nat.reduceLeDiff, zfu, Int.mul_def, Int.add_def, zfv, cond_false, cond_true, isub, Int.reduceToNat, s0]
           refine CLLD_pure _ cSize (by simp (disch := assumption) only [pureL, pureA, isL_pure, isLL_pure, isLLL_pure, pureL_map, Bool.and_self, Bool.and_true]) rfl ?_
           simp (maxSteps := 10000000) (disch := first | assumption | omega) only [go_sem, ↓reduceIte, Nat.reduceEqDiff, reduceCtorEq, Nat.reduceAdd, Nat.reduceMul, Nat.reduceLeDiff, zfu, Int.mul_def, Int.add_def, zfv, cond_false, cond_true, isub, Int.reduceToNat, s0]
           refine CLLD_pure _ cS (by simp (disch := assumption) only [pureL, pureA, isL_pure, isLL_pure, isLLL_pure, pureL_map, Bool.and_self, Bool.and_true]) rfl ?_
           simp (maxSteps := 10000000) (disch := first | assumption | omega) only [go_sem, ↓reduceIte, Nat.reduceEqDiff, reduceCtorEq, Nat.reduceAdd, Nat.reduceMul, Nat.reduceLeDiff, zfu, Int.mul_def, Int.add_def, zfv, cond_false, cond_true, isub, Int.reduceToNat, s0, eq_true hn]
           refine CLLD_pure _ cW (by simp (disch := assumption) only [pureL, pureA, isL_pure, isLL_pure, isLLL_pure, pureL_map, Bool.and_self, Bool.and_true]) rfl ?_
           simp (maxSteps := 10000000) (disch := first | assumption | omega) only [go_sem, ↓reduceIte, Nat.reduceEqDiff, reduceCtorEq, Nat.reduceAdd, Nat.reduceMul, Nat.reduceLeDiff, zfu, Int.mul_def, Int.add_def, zfv, cond_false, cond_true, isub, Int.reduceToNat, s0]
           refine FIN_of (by kernel_rfl) ?_
           simp (maxSteps := 10000000) (disch := first | assumption | omega) only [go_sem, ↓reduceIte, Nat.reduceEqDiff, reduceCtorEq, Nat.reduceAdd, Nat.reduceMul, Nat.reduceLeDiff, zfu, Int.mul_def, Int.add_def, zfv, cond_false, cond_true, isub, Int.reduceToNat, s0, isL_idx0, eq_true hz]
           refine CLL_pure _ (cBil hb ht2) (by simp (disch := assumption) only [pureL, pureA, isL_pure, isLL_pure, isLLL_pure, pureL_map, Bool.and_self, Bool.and_true]) rfl rfl ?_
           simp (maxSteps := 10000000) (disch := first | assumption | omega) only [go_sem, ↓reduceIte, Nat.reduceEqDiff, reduceCtorEq, Nat.reduceAdd, Nat.reduceMul, Nat.reduceLeDiff, zfu, Int.mul_def, Int.add_def, zfv, cond_false, cond_true, isub, Int.reduceToNat, s0]
           simp only [zbj, zbk, retR, resL, outT, zes, zez, oneV, ↓zcy, ↓zcz, ↓reduceIte, Nat.reduceEqDiff, Option.some.injEq, AV.sc.injEq, Value.bool.injEq, Value.int.injEq, outL, outT, zft, zcp, zed, zef, zei, zeh, List.length_cons, List.length_nil, Nat.reduceAdd, Nat.zero_add, Nat.reduceLeDiff, List.drop_zero, List.take_succ_cons, List.take_zero, zfi, zfh, Ro.dl, zdb, zda, zfe, and_self, and_true, true_and, eq_self, List.append_nil, List.nil_append, List.cons_append, ne_eq, not_false_eq_true, and_false, false_and, Bool.false_eq_true, St.ev, zes, zfn, zhk, List.length_map]
         · have hf := bool_f ht fun h => hz h.2.2.1
           subst hf
           dsimp only [Tryz.f36, bodyOf, Option.getD]
           simp (maxSteps := 10000000) (disch := first | assumption | omega) only [go_sem, ↓reduceIte, Nat.reduceEqDiff, reduceCtorEq, Nat.reduceAdd, Nat.reduceMul, Nat.reduceLeDiff, zfu, Int.mul_def, Int.add_def, zfv, cond_false, cond_true, isub, Int.reduceToNat, s0]
           refine CLLD_pure _ cG (by simp (disch := assumption) only [pureL, pureA, isL_pure, isLL_pure, isLLL_pure, pureL_map, Bool.and_self, Bool.and_true]) rfl ?_
           simp (maxSteps := 10000000) (disch := first | assumption | omega) only [go_sem, ↓reduceIte, Nat.reduceEqDiff, reduceCtorEq, Nat.reduceAdd, Nat.reduceMul, Nat.reduceLeDiff, zfu, Int.mul_def, Int.add_def, zfv, cond_false, cond_true, isub, Int.reduceToNat, s0]
           refine CLLD_pure _ cO (by simp (disch := assumption) only [pureL, pureA, isL_pure, isLL_pure, isLLL_pure, pureL_map, Bool.and_self, Bool.and_true]) rfl ?_
           simp (maxSteps := 10000000) (disch := first | assumption | omega) only [go_sem, ↓reduceIte, Nat.reduceEqDiff, reduceCtorEq, Nat.reduceAdd, Nat.reduceMul, Nat.reduceLeDiff, zfu, Int.mul_def, Int.add_def, zfv, cond_false, cond_true, isub, Int.reduceToNat, s0]
           refine CLLD_pure _ cSize (by simp (disch := assumption) only [pureL, pureA, isL_pure, isLL_pure, isLLL_pure, pureL_map, Bool.and_self, Bool.and_true]) rfl ?_
           simp (maxSteps := 10000000) (disch := first | assumption | omega) only [go_sem, ↓reduceIte, Nat.reduceEqDiff, reduceCtorEq, Nat.reduceAdd, Nat.reduceMul, Nat.reduceLeDiff, zfu, Int.mul_def, Int.add_def, zfv, cond_false, cond_true, isub, Int.reduceToNat, s0]
           refine CLLD_pure _ cS (by simp (disch := assumption) only [pureL, pureA, isL_pure, isLL_pure, isLLL_pure, pureL_map, Bool.and_self, Bool.and_true]) rfl ?_
           simp (maxSteps := 10000000) (disch := first | assumption | omega) only [go_sem, ↓reduceIte, Nat.reduceEqDiff, reduceCtorEq, Nat.reduceAdd, Nat.reduceMul, Nat.reduceLeDiff, zfu, Int.mul_def, Int.add_def, zfv, cond_false, cond_true, isub, Int.reduceToNat, s0, eq_true hn]
           refine CLLD_pure _ cW (by simp (disch := assumption) only [pureL, pureA, isL_pure, isLL_pure, isLLL_pure, pureL_map, Bool.and_self, Bool.and_true]) rfl ?_
           simp (maxSteps := 10000000) (disch := first | assumption | omega) only [go_sem, ↓reduceIte, Nat.reduceEqDiff, reduceCtorEq, Nat.reduceAdd, Nat.reduceMul, Nat.reduceLeDiff, zfu, Int.mul_def, Int.add_def, zfv, cond_false, cond_true, isub, Int.reduceToNat, s0]
           refine FIN_of (by kernel_rfl) ?_
           simp (maxSteps := 10000000) (disch := first | assumption | omega) only [go_sem, ↓reduceIte, Nat.reduceEqDiff, reduceCtorEq, Nat.reduceAdd, Nat.reduceMul, Nat.reduceLeDiff, zfu, Int.mul_def, Int.add_def, zfv, cond_false, cond_true, isub, Int.reduceToNat, s0, isL_idx0, eq_false hz]
           simp only [zbj, zbk, retR, resL, outT, zes, zez, oneV, ↓zcy, ↓zcz, ↓reduceIte, Nat.reduceEqDiff, Option.some.injEq, AV.sc.injEq, Value.bool.injEq, Value.int.injEq, outL, outT, zft, zcp, zed, zef, zei, zeh, List.length_cons, List.length_nil, Nat.reduceAdd, Nat.zero_add, Nat.reduceLeDiff, List.drop_zero, List.take_succ_cons, List.take_zero, zfi, zfh, Ro.dl, zdb, zda, zfe, and_self, and_true, true_and, eq_self, List.append_nil, List.nil_append, List.cons_append, ne_eq, not_false_eq_true, and_false, false_and, Bool.false_eq_true, St.ev, zes, zfn, zhk, List.length_map]
       · have hw' : allW V 0 (M - 1) = false := by simpa using hw
         rw [hw'] at cW
         have hf := bool_f ht fun h => hw (allW_iff.2 h.1.v)
         subst hf
         dsimp only [Tryz.f36, bodyOf, Option.getD]
         simp (maxSteps := 10000000) (disch := first | assumption | omega) only [go_sem, ↓reduceIte, Nat.reduceEqDiff, reduceCtorEq, Nat.reduceAdd, Nat.reduceMul, Nat.reduceLeDiff, zfu, Int.mul_def, Int.add_def, zfv, cond_false, cond_true, isub, Int.reduceToNat, s0]
         refine CLLD_pure _ cG (by simp (disch := assumption) only [pureL, pureA, isL_pure, isLL_pure, isLLL_pure, pureL_map, Bool.and_self, Bool.and_true]) rfl ?_
         simp (maxSteps := 10000000) (disch := first | assumption | omega) only [go_sem, ↓reduceIte, Nat.reduceEqDiff, reduceCtorEq, Nat.reduceAdd, Nat.reduceMul, Nat.reduceLeDiff, zfu, Int.mul_def, Int.add_def, zfv, cond_false, cond_true, isub, Int.reduceToNat, s0]
         refine CLLD_pure _ cO (by simp (disch := assumption) only [pureL, pureA, isL_pure, isLL_pure, isLLL_pure, pureL_map, Bool.and_self, Bool.and_true]) rfl ?_
         simp (maxSteps := 10000000) (disch := first | assumption | omega) only [go_sem, ↓reduceIte, Nat.reduceEqDiff, reduceCtorEq, Nat.reduceAdd, Nat.reduceMul, Nat.reduceLeDiff, zfu, Int.mul_def, Int.add_def, zfv, cond_false, cond_true, isub, Int.reduceToNat, s0]
         refine CLLD_pure _ cSize (by simp (disch := assumption) only [pureL, pureA, isL_pure, isLL_pure, isLLL_pure, pureL_map, Bool.and_self, Bool.and_true]) rfl ?_
         simp (maxSteps := 10000000) (disch := first | assumption | omega) only [go_sem, ↓reduceIte, Nat.reduceEqDiff, reduceCtorEq, Nat.reduceAdd, Nat.reduceMul, Nat.reduceLeDiff, zfu, Int.mul_def, Int.add_def, zfv, cond_false, cond_true, isub, Int.reduceToNat, s0]
         refine CLLD_pure _ cS (by simp (disch := assumption) only [pureL, pureA, isL_pure, isLL_pure, isLLL_pure, pureL_map, Bool.and_self, Bool.and_true]) rfl ?_
         simp (maxSteps := 10000000) (disch := first | assumption | omega) only [go_sem, ↓reduceIte, Nat.reduceEqDiff, reduceCtorEq, Nat.reduceAdd, Nat.reduceMul, Nat.reduceLeDiff, zfu, Int.mul_def, Int.add_def, zfv, cond_false, cond_true, isub, Int.reduceToNat, s0, eq_true hn]
         refine CLLD_pure _ cW (by simp (disch := assumption) only [pureL, pureA, isL_pure, isLL_pure, isLLL_pure, pureL_map, Bool.and_self, Bool.and_true]) rfl ?_
         simp (maxSteps := 10000000) (disch := first | assumption | omega) only [go_sem, ↓reduceIte, Nat.reduceEqDiff, reduceCtorEq, Nat.reduceAdd, Nat.reduceMul, Nat.reduceLeDiff, zfu, Int.mul_def, Int.add_def, zfv, cond_false, cond_true, isub, Int.reduceToNat, s0]
         refine FIN_of (by kernel_rfl) ?_
         simp (maxSteps := 10000000) (disch := first | assumption | omega) only [go_sem, ↓reduceIte, Nat.reduceEqDiff, reduceCtorEq, Nat.reduceAdd, Nat.reduceMul, Nat.reduceLeDiff, zfu, Int.mul_def, Int.add_def, zfv, cond_false, cond_true, isub, Int.reduceToNat, s0]
         simp only [zbj, zbk, retR, resL, outT, zes, zez, oneV, ↓zcy, ↓zcz, ↓reduceIte, Nat.reduceEqDiff, Option.some.injEq, AV.sc.injEq, Value.bool.injEq, Value.int.injEq, outL, outT, zft, zcp, zed, zef, zei, zeh, List.length_cons, List.length_nil, Nat.reduceAdd, Nat.zero_add, Nat.reduceLeDiff, List.drop_zero, List.take_succ_cons, List.take_zero, zfi, zfh, Ro.dl, zdb, zda, zfe, and_self, and_true, true_and, eq_self, List.append_nil, List.nil_append, List.cons_append, ne_eq, not_false_eq_true, and_false, false_and, Bool.false_eq_true, St.ev, zes, zfn, zhk, List.length_map]
     · have hf := bool_f ht fun h => hn h.1.n
       subst hf
       dsimp only [Tryz.f36, bodyOf, Option.getD]
       simp (maxSteps := 10000000) (disch := first | assumption | omega) only [go_sem, ↓reduceIte, Nat.reduceEqDiff, reduceCtorEq, Nat.reduceAdd, Nat.reduceMul, Nat.reduceLeDiff, zfu, Int.mul_def, Int.add_def, zfv, cond_false, cond_true, isub, Int.reduceToNat, s0]
       refine CLLD_pure _ cG (by simp (disch := assumption) only [pureL, pureA, isL_pure, isLL_pure, isLLL_pure, pureL_map, Bool.and_self, Bool.and_true]) rfl ?_
       simp (maxSteps := 10000000) (disch := first | assumption | omega) only [go_sem, ↓reduceIte, Nat.reduceEqDiff, reduceCtorEq, Nat.reduceAdd, Nat.reduceMul, Nat.reduceLeDiff, zfu, Int.mul_def, Int.add_def, zfv, cond_false, cond_true, isub, Int.reduceToNat, s0]
       refine CLLD_pure _ cO (by simp (disch := assumption) only [pureL, pureA, isL_pure, isLL_pure, isLLL_pure, pureL_map, Bool.and_self, Bool.and_true]) rfl ?_
       simp (maxSteps := 10000000) (disch := first | assumption | omega) only [go_sem, ↓reduceIte, Nat.reduceEqDiff, reduceCtorEq, Nat.reduceAdd, Nat.reduceMul, Nat.reduceLeDiff, zfu, Int.mul_def, Int.add_def, zfv, cond_false, cond_true, isub, Int.reduceToNat, s0]
       refine CLLD_pure _ cSize (by simp (disch := assumption) only [pureL, pureA, isL_pure, isLL_pure, isLLL_pure, pureL_map, Bool.and_self, Bool.and_true]) rfl ?_
       simp (maxSteps := 10000000) (disch := first | assumption | omega) only [go_sem, ↓reduceIte, Nat.reduceEqDiff, reduceCtorEq, Nat.reduceAdd, Nat.reduceMul, Nat.reduceLeDiff, zfu, Int.mul_def, Int.add_def, zfv, cond_false, cond_true, isub, Int.reduceToNat, s0]
       refine CLLD_pure _ cS (by simp (disch := assumption) only [pureL, pureA, isL_pure, isLL_pure, isLLL_pure, pureL_map, Bool.and_self, Bool.and_true]) rfl ?_
       simp (maxSteps := 10000000) (disch := first | assumption | omega) only [go_sem, ↓reduceIte, Nat.reduceEqDiff, reduceCtorEq, Nat.reduceAdd, Nat.reduceMul, Nat.reduceLeDiff, zfu, Int.mul_def, Int.add_def, zfv, cond_false, cond_true, isub, Int.reduceToNat, s0, eq_false hn]
       refine FIN_of (by kernel_rfl) ?_
       simp (maxSteps := 10000000) (disch := first | assumption | omega) only [go_sem, ↓reduceIte, Nat.reduceEqDiff, reduceCtorEq, Nat.reduceAdd, Nat.reduceMul, Nat.reduceLeDiff, zfu, Int.mul_def, Int.add_def, zfv, cond_false, cond_true, isub, Int.reduceToNat, s0]
       simp only [zbj, zbk, retR, resL, outT, zes, zez, oneV, ↓zcy, ↓zcz, ↓reduceIte, Nat.reduceEqDiff, Option.some.injEq, AV.sc.injEq, Value.bool.injEq, Value.int.injEq, outL, outT, zft, zcp, zed, zef, zei, zeh, List.length_cons, List.length_nil, Nat.reduceAdd, Nat.zero_add, Nat.reduceLeDiff, List.drop_zero, List.take_succ_cons, List.take_zero, zfi, zfh, Ro.dl, zdb, zda, zfe, and_self, and_true, true_and, eq_self, List.append_nil, List.nil_append, List.cons_append, ne_eq, not_false_eq_true, and_false, false_and, Bool.false_eq_true, St.ev, zes, zfn, zhk, List.length_map]
   · have cO := cIsOrder (n := M)
     rw [decide_eq_false hm] at cO
     have hf := bool_f ht fun h => hm ⟨h.1.m.1, h.2.1⟩
     subst hf
     dsimp only [Tryz.f36, bodyOf, Option.getD]
     simp (maxSteps := 10000000) (disch := first | assumption | omega) only [go_sem, ↓reduceIte, Nat.reduceEqDiff, reduceCtorEq, Nat.reduceAdd, Nat.reduceMul, Nat.reduceLeDiff, zfu, Int.mul_def, Int.add_def, zfv, cond_false, cond_true, isub, Int.reduceToNat, s0]
     refine CLLD_pure _ cG (by simp (disch := assumption) only [pureL, pureA, isL_pure, isLL_pure, isLLL_pure, pureL_map, Bool.and_self, Bool.and_true]) rfl ?_
     simp (maxSteps := 10000000) (disch := first | assumption | omega) only [go_sem, ↓reduceIte, Nat.reduceEqDiff, reduceCtorEq, Nat.reduceAdd, Nat.reduceMul, Nat.reduceLeDiff, zfu, Int.mul_def, Int.add_def, zfv, cond_false, cond_true, isub, Int.reduceToNat, s0]
     refine CLLD_pure _ cO (by simp (disch := assumption) only [pureL, pureA, isL_pure, isLL_pure, isLLL_pure, pureL_map, Bool.and_self, Bool.and_true]) rfl ?_
     simp (maxSteps := 10000000) (disch := first | assumption | omega) only [go_sem, ↓reduceIte, Nat.reduceEqDiff, reduceCtorEq, Nat.reduceAdd, Nat.reduceMul, Nat.reduceLeDiff, zfu, Int.mul_def, Int.add_def, zfv, cond_false, cond_true, isub, Int.reduceToNat, s0]
     refine FIN_of (by kernel_rfl) ?_
     simp (maxSteps := 10000000) (disch := first | assumption | omega) only [go_sem, ↓reduceIte, Nat.reduceEqDiff, reduceCtorEq, Nat.reduceAdd, Nat.reduceMul, Nat.reduceLeDiff, zfu, Int.mul_def, Int.add_def, zfv, cond_false, cond_true, isub, Int.reduceToNat, s0]
     simp only [zbj, zbk, retR, resL, outT, zes, zez, oneV, ↓zcy, ↓zcz, ↓reduceIte, Nat.reduceEqDiff, Option.some.injEq, AV.sc.injEq, Value.bool.injEq, Value.int.injEq, outL, outT, zft, zcp, zed, zef, zei, zeh, List.length_cons, List.length_nil, Nat.reduceAdd, Nat.zero_add, Nat.reduceLeDiff, List.drop_zero, List.take_succ_cons, List.take_zero, zfi, zfh, Ro.dl, zdb, zda, zfe, and_self, and_true, true_and, eq_self, List.append_nil, List.nil_append, List.cons_append, ne_eq, not_false_eq_true, and_false, false_and, Bool.false_eq_true, St.ev, zes, zfn, zhk, List.length_map]
 · have cG := cIsGroup (t := false) hx (by simp [hg])
   have hf := bool_f ht fun h => hg h.1.g
   subst hf
   dsimp only [Tryz.f36, bodyOf, Option.getD]
   simp (maxSteps := 10000000) (disch := first | assumption | omega) only [go_sem, ↓reduceIte, Nat.reduceEqDiff, reduceCtorEq, Nat.reduceAdd, Nat.reduceMul, Nat.reduceLeDiff, zfu, Int.mul_def, Int.add_def, zfv, cond_false, cond_true, isub, Int.reduceToNat, s0]
   refine CLLD_pure _ cG (by simp (disch := assumption) only [pureL, pureA, isL_pure, isLL_pure, isLLL_pure, pureL_map, Bool.and_self, Bool.and_true]) rfl ?_
   simp (maxSteps := 10000000) (disch := first | assumption | omega) only [go_sem, ↓reduceIte, Nat.reduceEqDiff, reduceCtorEq, Nat.reduceAdd, Nat.reduceMul, Nat.reduceLeDiff, zfu, Int.mul_def, Int.add_def, zfv, cond_false, cond_true, isub, Int.reduceToNat, s0]
   refine FIN_of (by kernel_rfl) ?_
   simp (maxSteps := 10000000) (disch := first | assumption | omega) only [go_sem, ↓reduceIte, Nat.reduceEqDiff, reduceCtorEq, Nat.reduceAdd, Nat.reduceMul, Nat.reduceLeDiff, zfu, Int.mul_def, Int.add_def, zfv, cond_false, cond_true, isub, Int.reduceToNat, s0]
   simp only [zbj, zbk, retR, resL, outT, zes, zez, oneV, ↓zcy, ↓zcz, ↓reduceIte, Nat.reduceEqDiff, Option.some.injEq, AV.sc.injEq, Value.bool.injEq, Value.int.injEq, outL, outT, zft, zcp, zed, zef, zei, zeh, List.length_cons, List.length_nil, Nat.reduceAdd, Nat.zero_add, Nat.reduceLeDiff, List.drop_zero, List.take_succ_cons, List.take_zero, zfi, zfh, Ro.dl, zdb, zda, zfe, and_self, and_true, true_and, eq_self, List.append_nil, List.nil_append, List.cons_append, ne_eq, not_false_eq_true, and_false, false_and, Bool.false_eq_true, St.ev, zes, zfn, zhk, List.length_map]
end Go.Proofs.YtgcnmlecihegcaaGreat
