/- Texts joined: Su1 Su2 Su3. -/
import Derived.Test.YthfgjapmgjhccaaRd
set_option linter.all false
/- Surfaces: commutative rings. -/
namespace Go.Proofs.Ythfgjapmgjhccaa
open Go.RowKit
set_option maxRecDepth 1000000
theorem cEqT1 {a b : AV} {xs ys : List (List Int)} (ha : isLL a xs) (hb : isLL b ys) (hx : xs.length ≤ maxN) (hr : ∀ i, i < xs.length → (row xs i).length ≤ maxN) : CallOK Try.prog 85 [a, b] (bo (decide (xs = ys))) := by
 refine call_of (fn := Try.f85) (code := bodyOf Try.f85) Try.func85 rfl (by kernel_rfl) (rfl) ?_
 intro sl hs
 have s0 : sl 0 = a := hs 0
 have s1 : sl 1 = b := hs 1
 dsimp only [Try.f85, bodyOf, Option.getD]
 refine Yae ?_
 refine CLL_pure _ (c158 ha hb hx hr) PUt rfl rfl ?_
 refine Yae ?_
 exact Yaa
theorem cEqF {a b : AV} {X Y : List (List (List Int))} (ha : isLLL a X) (hb : isLLL b Y) (hz : SzP X) : CallOK Try.prog 84 [a, b, .fn 85 []] (bo (decide (X = Y))) := by
 obtain ⟨z1, z2⟩ := hz
 have hx' : X.length ≤ 4294967296 := z1
 refine call_of (fn := Try.f84) (code := bodyOf Try.f84) Try.func84 rfl (by kernel_rfl) (rfl) ?_
 intro sl hs
 have s0 : sl 0 = a := hs 0
 have s1 : sl 1 = b := hs 1
 have s2 : sl 2 = .fn 85 [] := hs 2
 by_cases hl : X.length = Y.length
 ·dsimp only [Try.f84, bodyOf, Option.getD]
  simp (maxSteps := 10000000) (disch := first | assumption | omega) only [go_sem, ↓reduceIte, Nat.reduceEqDiff, reduceCtorEq, Nat.reduceAdd, Nat.reduceMul, Nat.reduceLeDiff, zc, Int.reduceToNat, s0, s1, s2, ti31]
  refine WK_for (fun i st => st.sl 0 = a ∧ st.sl 1 = b ∧ st.sl 2 = .fn 85 [] ∧ st.sl 15 = a ∧ st.sl 16 = i64 (X.length : Int) ∧ st.sl 17 = i64 (i : Int) ∧ (∀ x, x < i → mat X x = mat Y x)) X.length ?_ ?_ ?_
  ·refine Ycm ?_
   exact ⟨rfl, lt0⟩
  ·rintro i sl ro gn hi ⟨s0, s1, s2, s15, s16, s17, q⟩
   dsimp only at s0 s1 s2 s15 s16 s17
   have hi' : (i : Int) < (X.length : Nat) := by omega
   have h1 := isLLL_mat ha hi
   have h2 := isLLL_mat hb (k := i) (by omega)
   refine Yck ?_
   refine CLL_pure _ (cEqT1 h1 h2 (z2 i hi).1 (z2 i hi).2) PUt rfl rfl ?_
   by_cases h : mat X i = mat Y i
   ·simp (maxSteps := 10000000) (disch := first | assumption | omega) only [go_sem, ↓reduceIte, Nat.reduceEqDiff, reduceCtorEq, Nat.reduceAdd, Nat.reduceMul, Nat.reduceLeDiff, zc, Int.reduceToNat, s0, s1, s2, s15, s16, s17, hi', hi, decide_eq_true h]
    exact ⟨i64c (by omega), ltS q h⟩
   ·simp (maxSteps := 10000000) (disch := first | assumption | omega) only [go_sem, ↓reduceIte, Nat.reduceEqDiff, reduceCtorEq, Nat.reduceAdd, Nat.reduceMul, Nat.reduceLeDiff, zc, Int.reduceToNat, s0, s1, s2, s15, s16, s17, hi', hi, decide_eq_false h]
    refine Yab ?_
    exact (decide_eq_false fun e => h (by rw [e])).symm
  ·rintro sl ro gn ⟨s0, s1, s2, s15, s16, s17, q⟩
   dsimp only at s0 s1 s2 s15 s16 s17
   have hi' : ¬ ((X.length : Nat) : Int) < (X.length : Nat) := by omega
   refine Yeg ?_
   refine Yab ?_
   exact (decide_eq_true (eqL3 hl q)).symm
 ·have hl' : ¬ (X.length : Int) = Y.length := by omega
  dsimp only [Try.f84, bodyOf, Option.getD]
  simp (maxSteps := 10000000) (disch := first | assumption | omega) only [go_sem, ↓reduceIte, Nat.reduceEqDiff, reduceCtorEq, Nat.reduceAdd, Nat.reduceMul, Nat.reduceLeDiff, zc, Int.reduceToNat, s0, s1, s2, eq_false hl']
  refine Yab ?_
  exact (decide_eq_false fun e => hl (by rw [e])).symm
theorem cEqTab {a b : AV} {X Y : List (List (List Int))} (ha : isLLL a X) (hb : isLLL b Y) (hz : SzP X) : CallOK Try.prog 62 [a, b] (bo (decide (X = Y))) := by
 refine call_of (fn := Try.f62) (code := bodyOf Try.f62) Try.func62 rfl (by kernel_rfl) (rfl) ?_
 intro sl hs
 have s0 : sl 0 = a := hs 0
 have s1 : sl 1 = b := hs 1
 dsimp only [Try.f62, bodyOf, Option.getD]
 refine Yae ?_
 refine CLL_pure _ (cEqF ha hb hz) PUt rfl rfl ?_
 refine Yae ?_
 exact Yaa
def CmP (T : List (List (List Int))) : Prop := ∀ i, i < T.length → ∀ j, j < i → row (mat T i) j = row (mat T j) i
theorem opp_iff {T : List (List (List Int))} (hc : CubeP T) : T = cubeL (fun i j k => at3 T j i k) T.length ↔ CmP T := by
 obtain ⟨h1, h2, h3⟩ := hc
 have lr : ∀ {i j}, i < T.length → j < T.length → (row (mat T i) j).length = T.length := fun hi hj => ((h3 _ hi).2 _ hj).1
 constructor
 ·intro h i hi j hj
  refine eq_of_atI (by rw [lr hi (by omega), lr (by omega) hi]) fun k hk => ?_
  rw [lr hi (by omega)] at hk
  have h4 : at3 T i j k = at3 (cubeL (fun i j k => at3 T j i k) T.length) i j k := by rw [← h]
  rw [at3_cube hi (by omega) hk] at h4
  exact h4
 ·intro h
  have hc : ∀ i j, i < T.length → j < T.length → row (mat T i) j = row (mat T j) i := fun i j hi hj => by
   rcases Nat.lt_trichotomy i j with e | e | e
   ·exact (h j hj i e).symm
   ·rw [e]
   ·exact h i hi j e
  have hl : (cubeL (fun i j k => at3 T j i k) T.length).length = T.length := zfe _ _
  refine eqL3 hl.symm fun i hi => ?_
  rw [mat_cube hi]
  refine isLs_inj (by rw [zfe]; exact (h3 i hi).1) fun j hj => ?_
  rw [(h3 i hi).1] at hj
  have er : row (rws (fun j => rws (fun k => at3 T j i k) T.length) T.length) j = rws (fun k => at3 T j i k) T.length := row_rws _ hj
  show row (mat T i) j = row _ j
  rw [er, hc i j hi hj, ← lr hj hi, rws_self]
theorem cCommI {c : AV} {T : List (List (List Int))} (ha : isLLL c T) (hc : CubeP T) {t : Bool} (ht : t = true ↔ CmP T) : CallOK Try.prog 44 [.agg [c]] (bo t) := by
 have co := cOpp ha hc
 have ce := cEqTab ha (isLLL_immC (fun i j k => at3 T j i k) T.length) hc.sz
 have e : decide (T = cubeL (fun i j k => at3 T j i k) T.length) = t := by
  cases t with
  | true => exact decide_eq_true ((opp_iff hc).2 (ht.1 rfl))
  | false => exact decide_eq_false fun h => by have := ht.2 ((opp_iff hc).1 h); cases this
 rw [e] at ce
 have hnr : noRefL (rws (fun i => AV.row (rws (fun j => AV.row (rws (fun k => i64 (at3 T j i k)) T.length)) T.length)) T.length) = true := noRef_cube (fun i j k => at3 T j i k) T.length
 refine call_of (fn := Try.f44) (code := bodyOf Try.f44) Try.func44 rfl (by kernel_rfl) (rfl) ?_
 intro sl hs
 have s0 : sl 0 = .agg [c] := hs 0
 dsimp only [Try.f44, bodyOf, Option.getD]
 refine Yai ?_
 refine CLLD_pure _ co PUt rfl ?_
 simp (maxSteps := 10000000) (disch := first | assumption | omega) only [go_sem, ↓reduceIte, Nat.reduceEqDiff, reduceCtorEq, Nat.reduceAdd, Nat.reduceMul, Nat.reduceLeDiff, zc, Int.reduceToNat, s0, cubeA, impE_agg1, zfe, hnr]
 refine CLLD_q _ ce (.cons (exq_LLL ha (by decide)) (.cons (exq_cube (F := fun i j k => at3 T j i k) (m := T.length) (s := 8240) (g := 1) rfl (by decide)) .nil)) rfl rfl ?_
 refine Yad ?_
 refine FIN_of (by kernel_rfl) ?_
 refine Yad ?_
 exact Yaa
def CodP (T : List (List (List Int))) (z : Int) : Prop := (RingP T ∧ CmP T ∧ z = 0) ∨ (RingP T ∧ ¬ CmP T ∧ z = 5) ∨ (¬ RingP T ∧ z = 1)
theorem cSameC {o o' : AV} {O O' : List Int} (ho : isL o O) (ho' : isL o' O') (hO : O.length ≤ maxN) (hO' : O'.length ≤ maxN) {t : Bool} (ht : t = true ↔ O = O') : CallOK Try.prog 67 [o, o'] (bo t) := by
 have hx2 : O.length ≤ 4294967296 := hO
 by_cases h1 : O.length = O'.length
 ·have h1' : (O.length : Int) = O'.length := by omega
  refine call_of (fn := Try.f67) (code := bodyOf Try.f67) Try.func67 rfl (by kernel_rfl) (rfl) ?_
  intro sl hs
  have s0 : sl 0 = o := hs 0
  have s1 : sl 1 = o' := hs 1
  dsimp only [Try.f67, bodyOf, Option.getD]
  simp (maxSteps := 10000000) (disch := first | assumption | omega) only [go_sem, ↓reduceIte, Nat.reduceEqDiff, reduceCtorEq, Nat.reduceAdd, Nat.reduceMul, Nat.reduceLeDiff, zc, Int.reduceToNat, s0, s1, eq_true h1']
  refine WK_for (fun x st => st.sl 0 = o ∧ st.sl 1 = o' ∧ st.sl 5 = i64 (x : Int) ∧ (∀ j, j < x → atI O j = atI O' j)) O.length ?_ ?_ ?_
  ·refine Yal ?_
   exact ⟨rfl, fun x' h => absurd h (Nat.not_lt_zero _)⟩
  ·rintro x sl ro gn hx ⟨s0, s1, s5, q⟩
   dsimp only at s0 s1 s5
   have hx' : (x : Int) < (O.length : Nat) := by omega
   have hx2 : x < O'.length := by omega
   by_cases h2 : atI O x = atI O' x
   ·refine Yes ?_
    refine FIN_of (by kernel_rfl) ?_
    simp (maxSteps := 10000000) (disch := first | assumption | omega) only [go_sem, ↓reduceIte, Nat.reduceEqDiff, reduceCtorEq, Nat.reduceAdd, Nat.reduceMul, Nat.reduceLeDiff, zc, Int.reduceToNat, s0, s1, s5, hx', hx, eq_true h2]
    refine ⟨i64c (by omega), fun y' h => ?_⟩
    rcases Nat.lt_or_ge y' x with h' | h'
    ·exact q y' h'
    ·rw [show y' = x by omega]; exact h2
   ·refine Yes ?_
    refine FIN_of (by kernel_rfl) ?_
    simp (maxSteps := 10000000) (disch := first | assumption | omega) only [go_sem, ↓reduceIte, Nat.reduceEqDiff, reduceCtorEq, Nat.reduceAdd, Nat.reduceMul, Nat.reduceLeDiff, zc, Int.reduceToNat, s0, s1, s5, hx', hx, eq_false h2]
    refine Yab ?_
    exact bool_false ht fun h => h2 (by rw [h])
  ·rintro sl ro gn ⟨s0, s1, s5, q⟩
   dsimp only at s0 s1 s5
   have hx' : ¬ ((O.length : Nat) : Int) < (O.length : Nat) := by omega
   simp (maxSteps := 10000000) (disch := first | assumption | omega) only [go_sem, ↓reduceIte, Nat.reduceEqDiff, reduceCtorEq, Nat.reduceAdd, Nat.reduceMul, Nat.reduceLeDiff, zc, Int.reduceToNat, s0, s1, s5, hx']
   refine Yab ?_
   exact (ht.2 (eq_of_atI h1 q)).symm
 ·have h1' : ¬ (O.length : Int) = O'.length := by omega
  refine call_of (fn := Try.f67) (code := bodyOf Try.f67) Try.func67 rfl (by kernel_rfl) (rfl) ?_
  intro sl hs
  have s0 : sl 0 = o := hs 0
  have s1 : sl 1 = o' := hs 1
  dsimp only [Try.f67, bodyOf, Option.getD]
  simp (maxSteps := 10000000) (disch := first | assumption | omega) only [go_sem, ↓reduceIte, Nat.reduceEqDiff, reduceCtorEq, Nat.reduceAdd, Nat.reduceMul, Nat.reduceLeDiff, zc, Int.reduceToNat, s0, s1, eq_false h1']
  refine Yab ?_
  exact bool_false ht fun h => h1 (by rw [h])
theorem cCommS {c : AV} {T : List (List (List Int))} (ha : isLLL c T) (hc : CubeP T) {t : Bool} (ht : t = true ↔ CmP T) : CallOK Try.prog 49 [.agg [c]] (bo t) := by
 obtain ⟨h1, h2, h3⟩ := id hc
 have lr : ∀ {i j}, i < T.length → j < T.length → (row (mat T i) j).length = T.length := fun hi hj => ((h3 _ hi).2 _ hj).1
 refine call_of (fn := Try.f49) (code := bodyOf Try.f49) Try.func49 rfl (by kernel_rfl) (rfl) ?_
 intro sl hs
 have s0 : sl 0 = .agg [c] := hs 0
 dsimp only [Try.f49, bodyOf, Option.getD]
 refine Yai ?_
 refine WK_for (fun i st => st.sl 1 = .ptr 4096 1 [] 0 ∧ st.ro 4096 1 = some (.bx [c]) ∧ st.sl 3 = i64 (i : Int) ∧ (∀ x, x < i → ∀ j, j < x → row (mat T x) j = row (mat T j) x)) T.length ?_ ?_ ?_
 ·refine Yaq ?_
  exact ⟨rfl, lt0⟩
 ·rintro i sl ro gn hi ⟨s1, r4096, s3, q⟩
  dsimp only at s1 r4096 s3
  have hi' : (i : Int) < (T.length : Nat) := by omega
  have hmi := isLLL_mat ha hi
  simp (maxSteps := 10000000) (disch := first | assumption | omega) only [go_sem, ↓reduceIte, Nat.reduceEqDiff, reduceCtorEq, Nat.reduceAdd, Nat.reduceMul, Nat.reduceLeDiff, zc, Int.reduceToNat, s1, r4096, s3, hi', hi, isLLL_len ha]
  refine WK_for (fun j st => st.sl 1 = .ptr 4096 1 [] 0 ∧ st.ro 4096 1 = some (.bx [c]) ∧ st.sl 3 = i64 (i : Int) ∧ st.sl 4 = i64 (j : Int) ∧ (∀ y, y < j → row (mat T i) y = row (mat T y) i)) i ?_ ?_ ?_
  ·simp only [↓za, ↓reduceIte, Nat.reduceEqDiff, zb, reduceCtorEq, rws_zero, s1, r4096, s3, hi', hi]
   exact ⟨rfl, lt0⟩
  ·rintro j sl ro gn hj ⟨s1, r4096, s3, s4, q2⟩
   dsimp only at s1 r4096 s3 s4
   have hj' : (j : Int) < (i : Nat) := by omega
   have hjn : j < T.length := by omega
   have hmj := isLLL_mat ha hjn
   have a1 : j < (mat T i).length := by rw [(h3 i hi).1]; omega
   have a2 : i < (mat T j).length := by rw [(h3 j hjn).1]; omega
   have r1 := isLL_row hmi a1
   have r2 := isLL_row hmj a2
   have b1 : (row (mat T i) j).length ≤ maxN := by rw [lr hi hjn]; unfold maxN; omega
   have b2 : (row (mat T j) i).length ≤ maxN := by rw [lr hjn hi]; unfold maxN; omega
   by_cases h : row (mat T i) j = row (mat T j) i
   ·have cs := cSameC r1 r2 b1 b2 (t := true) ⟨fun _ => h, fun _ => rfl⟩
    refine Yas ?_
    refine CLLD_pure _ cs PUt rfl ?_
    refine Yas ?_
    refine FIN_of (by kernel_rfl) ?_
    refine Yas ?_
    exact ⟨i64c (by omega), ltS q2 h⟩
   ·have cs := cSameC r1 r2 b1 b2 (t := false) ⟨fun h => (nomatch h), fun h' => absurd h' h⟩
    refine Yas ?_
    refine CLLD_pure _ cs PUt rfl ?_
    refine Yas ?_
    refine FIN_of (by kernel_rfl) ?_
    refine Yas ?_
    refine Yab ?_
    exact bool_false ht fun h' => h (h' i hi j hj)
  ·rintro sl ro gn ⟨s1, r4096, s3, s4, q2⟩
   dsimp only at s1 r4096 s3 s4
   have hj' : ¬ ((i : Nat) : Int) < (i : Nat) := by omega
   simp (maxSteps := 10000000) (disch := first | assumption | omega) only [go_sem, ↓reduceIte, Nat.reduceEqDiff, reduceCtorEq, Nat.reduceAdd, Nat.reduceMul, Nat.reduceLeDiff, zc, Int.reduceToNat, s1, r4096, s3, s4, hj']
   exact ⟨i64c (by omega), ltS q q2⟩
 ·rintro sl ro gn ⟨s1, r4096, s3, q⟩
  dsimp only at s1 r4096 s3
  have hi' : ¬ ((T.length : Nat) : Int) < (T.length : Nat) := by omega
  simp (maxSteps := 10000000) (disch := first | assumption | omega) only [go_sem, ↓reduceIte, Nat.reduceEqDiff, reduceCtorEq, Nat.reduceAdd, Nat.reduceMul, Nat.reduceLeDiff, zc, Int.reduceToNat, s1, r4096, s3, hi', isLLL_len ha]
  refine Yab ?_
  exact (ht.2 q).symm
theorem cCodeI {c : AV} {T : List (List (List Int))} (ha : isLLL c T) (hz : SzP T) {z : Int} (h : CodP T z) : CallOK Try.prog 22 [.agg [c]] (i64 z) := by
 refine call_of (fn := Try.f22) (code := bodyOf Try.f22) Try.func22 rfl (by kernel_rfl) (rfl) ?_
 intro sl hs
 have s0 : sl 0 = .agg [c] := hs 0
 rcases h with ⟨hr, hm, rfl⟩ | ⟨hr, hm, rfl⟩ | ⟨hr, rfl⟩
 ·have c1 := c118 ha hz.1 hz.2 (t := true) ⟨fun _ => hr, fun _ => rfl⟩
  have c2 := cCommI ha hr.1 (t := true) ⟨fun _ => hm, fun _ => rfl⟩
  dsimp only [Try.f22, bodyOf, Option.getD]
  refine Yai ?_
  refine CLL_pure _ c1 PUt rfl rfl ?_
  refine Yad ?_
  refine CLL_pure _ c2 PUt rfl rfl ?_
  refine Yad ?_
  exact Yaa
 ·have c1 := c118 ha hz.1 hz.2 (t := true) ⟨fun _ => hr, fun _ => rfl⟩
  have c2 := cCommI ha hr.1 (t := false) ⟨fun h => (nomatch h), fun h => absurd h hm⟩
  dsimp only [Try.f22, bodyOf, Option.getD]
  refine Yai ?_
  refine CLL_pure _ c1 PUt rfl rfl ?_
  refine Yad ?_
  refine CLL_pure _ c2 PUt rfl rfl ?_
  refine Yad ?_
  exact Yaa
 ·have c1 := c118 ha hz.1 hz.2 (t := false) ⟨fun h => (nomatch h), fun h => absurd h hr⟩
  dsimp only [Try.f22, bodyOf, Option.getD]
  refine Yai ?_
  refine CLL_pure _ c1 PUt rfl rfl ?_
  refine Yad ?_
  exact Yaa
theorem cCodeS {c : AV} {T : List (List (List Int))} (ha : isLLL c T) {z : Int} (h : CodP T z) : CallOK Try.prog 26 [.agg [c]] (i64 z) := by
 refine call_of (fn := Try.f26) (code := bodyOf Try.f26) Try.func26 rfl (by kernel_rfl) (rfl) ?_
 intro sl hs
 have s0 : sl 0 = .agg [c] := hs 0
 rcases h with ⟨hr, hm, rfl⟩ | ⟨hr, hm, rfl⟩ | ⟨hr, rfl⟩
 ·have c1 := c108 ha (t := true) ⟨fun _ => hr, fun _ => rfl⟩
  have c2 := cCommS ha hr.1 (t := true) ⟨fun _ => hm, fun _ => rfl⟩
  dsimp only [Try.f26, bodyOf, Option.getD]
  refine Yai ?_
  refine CLL_pure _ c1 PUt rfl rfl ?_
  refine Yad ?_
  refine CLL_pure _ c2 PUt rfl rfl ?_
  refine Yad ?_
  exact Yaa
 ·have c1 := c108 ha (t := true) ⟨fun _ => hr, fun _ => rfl⟩
  have c2 := cCommS ha hr.1 (t := false) ⟨fun h => (nomatch h), fun h => absurd h hm⟩
  dsimp only [Try.f26, bodyOf, Option.getD]
  refine Yai ?_
  refine CLL_pure _ c1 PUt rfl rfl ?_
  refine Yad ?_
  refine CLL_pure _ c2 PUt rfl rfl ?_
  refine Yad ?_
  exact Yaa
 ·have c1 := c108 ha (t := false) ⟨fun h => (nomatch h), fun h => absurd h hr⟩
  dsimp only [Try.f26, bodyOf, Option.getD]
  refine Yai ?_
  refine CLL_pure _ c1 PUt rfl rfl ?_
  refine Yad ?_
  exact Yaa
section
variable {f : Nat → Int}
theorem sm_nn0 : ∀ {n : Nat}, (∀ k, k < n → 0 ≤ f k) → 0 ≤ sm f n
 | 0, _ => Int.le_refl _
 | n + 1, h => by
  have h1 := sm_nn0 (n := n) fun k hk => h k (by omega)
  have h2 := h n (by omega)
  simp only [sm]; omega
theorem sm_mn : ∀ {n i : Nat}, (∀ k, k < n → 0 ≤ f k) → i ≤ n → sm f i ≤ sm f n
 | 0, i, _, hi => by
  have : i = 0 := by omega
  subst this; exact Int.le_refl _
 | n + 1, i, h, hi => by
  by_cases e : i = n + 1
  ·subst e; exact Int.le_refl _
  ·have h1 := sm_mn (n := n) (i := i) (fun k hk => h k (by omega)) (by omega)
   have h2 := h n (by omega)
   simp only [sm]; omega
end
def fV (T : List (List (List Int))) (X Y : List Int) (i j c : Nat) : Int := atI X i * atI Y j * at3 T i j c
def pS (T : List (List (List Int))) (X Y : List Int) (i c : Nat) : Int := sm (fun i => sm (fun j => fV T X Y i j c) T.length) i
def pJ (T : List (List (List Int))) (X Y : List Int) (i j c : Nat) : Int := pS T X Y i c + sm (fun j => fV T X Y i j c) j
def pK (T : List (List (List Int))) (X Y : List Int) (i j k c : Nat) : Int := if c < k then pJ T X Y i (j + 1) c else pJ T X Y i j c
def mvL (T : List (List (List Int))) (X Y : List Int) : List Int := rws (pS T X Y T.length) T.length
def fitV (T : List (List (List Int))) (X Y : List Int) : Prop := ∀ k, k < T.length → pS T X Y T.length k ≤ 1000000000000
structure VcP (T : List (List (List Int))) (X : List Int) (m : Int) : Prop where
 l : X.length = T.length
 b : ∀ i, i < T.length → 0 ≤ atI X i ∧ atI X i ≤ m
section
variable {T : List (List (List Int))} {X Y : List Int} {m1 m2 : Int} {i j k : Nat}
theorem fV_nn (hc : CubeP T) (hX : VcP T X m1) (hY : VcP T Y m2) (hi : i < T.length) (hj : j < T.length) (hk : k < T.length) : 0 ≤ fV T X Y i j k := by
 have h1 := (hX.b i hi).1
 have h2 := (hY.b j hj).1
 have h3 := (((hc.2.2 i hi).2 j hj).2 k hk).1
 exact Int.mul_nonneg (Int.mul_nonneg h1 h2) h3
theorem pJ_succ : pJ T X Y i (j + 1) k = pJ T X Y i j k + fV T X Y i j k := by
 unfold pJ
 simp only [sm]
 omega
theorem pJ_end : pJ T X Y i T.length k = pS T X Y (i + 1) k := by
 unfold pJ pS
 simp only [sm]
theorem pS_nn (hc : CubeP T) (hX : VcP T X m1) (hY : VcP T Y m2) (hi : i ≤ T.length) (hk : k < T.length) : 0 ≤ pS T X Y i k :=
 sm_nn0 fun i' hi' => sm_nn0 fun j hj => fV_nn hc hX hY (by omega) hj hk
theorem pS_mn (hc : CubeP T) (hX : VcP T X m1) (hY : VcP T Y m2) (hi : i ≤ T.length) (hk : k < T.length) : pS T X Y i k ≤ pS T X Y T.length k :=
 sm_mn (fun i' hi' => sm_nn0 fun j hj => fV_nn hc hX hY hi' hj hk) hi
theorem pJ_nn (hc : CubeP T) (hX : VcP T X m1) (hY : VcP T Y m2) (hi : i < T.length) (hj : j ≤ T.length) (hk : k < T.length) : 0 ≤ pJ T X Y i j k := by
 have h1 := pS_nn hc hX hY (Nat.le_of_lt hi) hk
 have h2 : 0 ≤ sm (fun j => fV T X Y i j k) j := sm_nn0 fun j' hj' => fV_nn hc hX hY hi (by omega) hk
 unfold pJ; omega
theorem pJ_mn (hc : CubeP T) (hX : VcP T X m1) (hY : VcP T Y m2) (hi : i < T.length) (hj : j ≤ T.length) (hk : k < T.length) : pJ T X Y i j k ≤ pS T X Y T.length k := by
 have h1 := pS_mn hc hX hY (i := i + 1) (by omega) hk
 have h2 : sm (fun j => fV T X Y i j k) j ≤ sm (fun j => fV T X Y i j k) T.length := sm_mn (fun j' hj' => fV_nn hc hX hY hi hj' hk) hj
 have h3 := pJ_end (T := T) (X := X) (Y := Y) (i := i) (k := k)
 unfold pJ at h3 ⊢
 omega
theorem pK_0 : rws (fun c => i64 (pK T X Y i j 0 c)) T.length = rws (fun c => i64 (pJ T X Y i j c)) T.length := rws_congr fun c _ => by
 unfold pK; rw [if_neg (Nat.not_lt_zero _)]
theorem pK_n : rws (fun c => i64 (pK T X Y i j T.length c)) T.length = rws (fun c => i64 (pJ T X Y i (j + 1) c)) T.length := rws_congr fun c hc => by
 unfold pK; rw [if_pos hc]
theorem pK_set : (rws (fun c => i64 (pK T X Y i j k c)) T.length).set k (i64 (pJ T X Y i (j + 1) k)) = rws (fun c => i64 (pK T X Y i j (k + 1) c)) T.length := by
 rw [rws_set]
 refine rws_congr fun c _ => ?_
 unfold pK
 by_cases e : c = k
 ·subst e; rw [if_pos rfl, if_pos (by omega)]
 ·rw [if_neg e]
  by_cases h : c < k
  ·rw [if_pos h, if_pos (by omega)]
  ·rw [if_neg h, if_neg (by omega)]
theorem pJ_0 : rws (fun c => i64 (pJ T X Y i 0 c)) T.length = rws (fun c => i64 (pS T X Y i c)) T.length := rws_congr fun c _ => by
 unfold pJ; simp only [sm, Int.add_zero]
theorem pJ_n : rws (fun c => i64 (pJ T X Y i T.length c)) T.length = rws (fun c => i64 (pS T X Y (i + 1) c)) T.length := rws_congr fun c _ => by rw [pJ_end]
end
open Classical in
noncomputable def limR (T : List (List (List Int))) (X Y : List Int) : AV := if fitV T X Y then rowL (mvL T X Y) else nilA
theorem noRef_limR (T : List (List (List Int))) (X Y : List Int) : noRef (limR T X Y) = true := by
 unfold limR; split
 ·exact noRef_rowL _
 ·rfl
theorem tdiv_lim {a b : Int} (hb : 0 < b) : Int.tdiv 1000000000000 b < a ↔ 1000000000000 < a * b := by
 have h0 : (0 : Int) ≤ 1000000000000 := by decide
 have e : Int.tdiv 1000000000000 b = 1000000000000 / b := Int.tdiv_eq_ediv_of_nonneg h0
 rw [e]
 exact Int.ediv_lt_iff_lt_mul hb
section
variable {T : List (List (List Int))} {X Y : List Int} {c xa ya : AV}
set_option maxHeartbeats 4000000 in
theorem cLimI (ha : isLLL c T) (hc : CubeP T) (hx : isL xa X) (hy : isL ya Y) (hX : VcP T X 1000000000000) (hY : VcP T Y 100000) : CallOK Try.prog 47 [.agg [c], xa, ya] (limR T X Y) := by
 obtain ⟨h1, h16, h3⟩ := id hc
 have lX := hX.l
 have lY := hY.l
 have hn' : (T.length : Int) ≤ ((4294967296 : Nat) : Int) := by omega
 have hno : ∀ i j k, i < T.length → j < T.length → k < T.length → 1000000000000 < pJ T X Y i (j + 1) k → limR T X Y = nilA := fun i j k hi hj hk h => by
  unfold limR
  rw [if_neg fun hf => by have h1 := hf k hk; have h2 := pJ_mn hc hX hY hi (j := j + 1) (by omega) hk; omega]
 refine call_of (fn := Try.f47) (code := bodyOf Try.f47) Try.func47 rfl (by kernel_rfl) (noRef_limR _ _ _) ?_
 intro sl hs
 have s0 : sl 0 = .agg [c] := hs 0
 have s1 : sl 1 = xa := hs 1
 have s2 : sl 2 = ya := hs 2
 dsimp only [Try.f47, bodyOf, Option.getD]
 refine Ycv ?_
 refine WK_for (fun i st => st.sl 2 = ya ∧ st.sl 3 = .ptr 4096 1 [] 0 ∧ st.ro 4096 1 = some (.bx [c]) ∧ st.sl 7 = .ref 8240 1 [] 0 T.length ∧ st.ro 8240 1 = some (.row (rws (fun c => i64 (pS T X Y i c)) T.length)) ∧ st.sl 18 = xa ∧ st.sl 19 = i64 (T.length : Int) ∧ st.sl 20 = i64 (i : Int) ∧ (∀ k, k < T.length → pS T X Y i k ≤ 1000000000000)) T.length ?_ ?_ ?_
 ·refine Ycm ?_
  exact ⟨congrArg (fun x => some (AV.row x)) (rws_congr fun c _ => rfl), rfl, fun k _ => by show (0 : Int) ≤ 1000000000000; decide⟩
 ·rintro i sl ro gn hi ⟨s2, s3, r4096, s7, r8240, s18, s19, s20, q⟩
  dsimp only at s2 s3 r4096 s7 r8240 s18 s19 s20
  have hi' : (i : Int) < (T.length : Nat) := by omega
  have hm := isLLL_mat ha hi
  have lm := (h3 i hi).1
  obtain ⟨x0, x1⟩ := hX.b i hi
  have hiX : i < X.length := by omega
  simp (maxSteps := 10000000) (disch := first | assumption | omega) only [go_sem, ↓reduceIte, Nat.reduceEqDiff, reduceCtorEq, Nat.reduceAdd, Nat.reduceMul, Nat.reduceLeDiff, zc, Int.reduceToNat, s2, s3, r4096, s7, r8240, s18, s19, s20, hi', hi, ti33, ti31, lX, lY]
  refine WK_for (fun j st => st.sl 2 = ya ∧ st.sl 3 = .ptr 4096 1 [] 0 ∧ st.ro 4096 1 = some (.bx [c]) ∧ st.sl 7 = .ref 8240 1 [] 0 T.length ∧ st.ro 8240 1 = some (.row (rws (fun c => i64 (pJ T X Y i j c)) T.length)) ∧ st.sl 18 = xa ∧ st.sl 19 = i64 (T.length : Int) ∧ st.sl 20 = i64 (i : Int) ∧ st.sl 8 = i64 (i : Int) ∧ st.sl 9 = i64 (atI X i) ∧ st.sl 25 = ya ∧ st.sl 26 = i64 (T.length : Int) ∧ st.sl 27 = i64 (j : Int) ∧ (∀ k, k < T.length → pJ T X Y i j k ≤ 1000000000000)) T.length ?_ ?_ ?_
  ·simp only [↓za, ↓reduceIte, Nat.reduceEqDiff, zb, reduceCtorEq, rws_zero, s2, s3, r4096, s7, r8240, s18, s19, s20, hi', hi]
   exact ⟨congrArg (fun x => some (AV.row x)) pJ_0.symm, rfl, fun k hk => by have := q k hk; unfold pJ; simp only [sm, Int.add_zero]; exact this⟩
  ·rintro j sl ro gn hj ⟨s2, s3, r4096, s7, r8240, s18, s19, s20, s8, s9, s25, s26, s27, q2⟩
   dsimp only at s2 s3 r4096 s7 r8240 s18 s19 s20 s8 s9 s25 s26 s27
   have hj' : (j : Int) < (T.length : Nat) := by omega
   obtain ⟨y0, y1⟩ := hY.b j hj
   have hjY : j < Y.length := by omega
   have hjm : j < (mat T i).length := by omega
   have hr := isLL_row hm hjm
   have lr := ((h3 i hi).2 j hj).1
   simp (maxSteps := 10000000) (disch := first | assumption | omega) only [go_sem, ↓reduceIte, Nat.reduceEqDiff, reduceCtorEq, Nat.reduceAdd, Nat.reduceMul, Nat.reduceLeDiff, zc, Int.reduceToNat, s2, s3, r4096, s7, r8240, s18, s19, s20, s8, s9, s25, s26, s27, hj', hj, ti33, ti31, lX, lY, lr]
   refine WK_for (fun k st => st.sl 2 = ya ∧ st.sl 3 = .ptr 4096 1 [] 0 ∧ st.ro 4096 1 = some (.bx [c]) ∧ st.sl 7 = .ref 8240 1 [] 0 T.length ∧ st.ro 8240 1 = some (.row (rws (fun c => i64 (pK T X Y i j k c)) T.length)) ∧ st.sl 18 = xa ∧ st.sl 19 = i64 (T.length : Int) ∧ st.sl 20 = i64 (i : Int) ∧ st.sl 8 = i64 (i : Int) ∧ st.sl 9 = i64 (atI X i) ∧ st.sl 25 = ya ∧ st.sl 26 = i64 (T.length : Int) ∧ st.sl 27 = i64 (j : Int) ∧ st.sl 10 = i64 (j : Int) ∧ st.sl 11 = i64 (atI Y j) ∧ st.sl 39 = atA (atA c i) j ∧ st.sl 40 = i64 (T.length : Int) ∧ st.sl 41 = i64 (k : Int) ∧ (∀ c, c < T.length → pK T X Y i j k c ≤ 1000000000000)) T.length ?_ ?_ ?_
   ·simp only [↓za, ↓reduceIte, Nat.reduceEqDiff, zb, reduceCtorEq, rws_zero, s2, s3, r4096, s7, r8240, s18, s19, s20, s8, s9, s25, s26, s27, hj', hj]
    refine ⟨congrArg (fun x => some (AV.row x)) pK_0.symm, rfl, fun c hc => ?_⟩
    unfold pK
    rw [if_neg (Nat.not_lt_zero _)]
    exact q2 c hc
   ·rintro k sl ro gn hk ⟨s2, s3, r4096, s7, r8240, s18, s19, s20, s8, s9, s25, s26, s27, s10, s11, s39, s40, s41, q3⟩
    dsimp only at s2 s3 r4096 s7 r8240 s18 s19 s20 s8 s9 s25 s26 s27 s10 s11 s39 s40 s41
    have hk' : (k : Int) < (T.length : Nat) := by omega
    obtain ⟨n0, n1⟩ := ((h3 i hi).2 j hj).2 k hk
    have hkr : k < (row (mat T i) j).length := by omega
    have eN : atI (row (mat T i) j) k = at3 T i j k := rfl
    have eF : fV T X Y i j k = atI X i * atI Y j * at3 T i j k := rfl
    have hJ := pJ_succ (T := T) (X := X) (Y := Y) (i := i) (j := j) (k := k)
    have hJ0 := pJ_nn hc hX hY hi (Nat.le_of_lt hj) hk
    have hJn := hno i j k hi hj hk
    have hL := q2 k hk
    have hset := pK_set (T := T) (X := X) (Y := Y) (i := i) (j := j) (k := k)
    have hpk : pK T X Y i j k k = pJ T X Y i j k := by unfold pK; rw [if_neg (Nat.lt_irrefl _)]
    have hpk1 : pK T X Y i j (k + 1) k = pJ T X Y i (j + 1) k := by unfold pK; rw [if_pos (Nat.lt_succ_self k)]
    have hq : pJ T X Y i (j + 1) k ≤ 1000000000000 → ∀ c, c < T.length → pK T X Y i j (k + 1) c ≤ 1000000000000 := fun h c hc => by
     have := q3 c hc
     unfold pK at this ⊢
     by_cases e : c = k
     ·subst e; rw [if_pos (by omega)]; exact h
     ·by_cases hck : c < k
      ·rw [if_pos hck] at this; rw [if_pos (by omega)]; exact this
      ·rw [if_neg hck] at this; rw [if_neg (by omega)]; exact this
    have has : atI X i * atI Y j * at3 T i j k = atI X i * (atI Y j * at3 T i j k) := Int.mul_assoc _ _ _
    generalize atI X i = a at *
    generalize atI Y j = b at *
    generalize at3 T i j k = m at *
    have hbm0 : 0 ≤ b * m := Int.mul_nonneg y0 n0
    have hbm1 : b * m ≤ 100000 * 1000 := Int.mul_le_mul y1 n1 n0 (by decide)
    have hab0 : 0 ≤ a * b := Int.mul_nonneg x0 y0
    have hab1 : a * b ≤ 1000000000000 * 100000 := Int.mul_le_mul x1 y1 y0 (by decide)
    rw [eF] at hJ
    have hJ' := hJ.symm
    clear hno hX hY eF
    by_cases hz : 0 < b * m
    ·have hz0 : ¬ b * m = 0 := by omega
     have hdv := tdiv_lim (a := a) hz
     have hdr : 0 ≤ Int.tdiv 1000000000000 (b * m) ∧ Int.tdiv 1000000000000 (b * m) ≤ 1000000000000 := by
      have h0 : (0 : Int) ≤ 1000000000000 := by decide
      rw [Int.tdiv_eq_ediv_of_nonneg h0]
      exact ⟨Int.ediv_nonneg h0 hbm0, Int.ediv_le_self _ h0⟩
     by_cases hg : Int.tdiv 1000000000000 (b * m) < a
     ·have := hJn (by have := hdv.1 hg; omega)
      simp (maxSteps := 10000000) (disch := first | assumption | omega) only [go_sem, ↓reduceIte, Nat.reduceEqDiff, reduceCtorEq, Nat.reduceAdd, Nat.reduceMul, Nat.reduceLeDiff, zc, Int.reduceToNat, s2, s3, r4096, s7, r8240, s18, s19, s20, s8, s9, s25, s26, s27, s10, s11, s39, s40, s41, hk', hk, ti33, ti31, eN, eq_true hz, eq_false hz0, eq_true hg]
      exact Yco
     ·have hle : a * (b * m) ≤ 1000000000000 := Int.not_lt.1 fun h => hg (hdv.2 h)
      have habm : 0 ≤ a * b * m ∧ a * b * m ≤ 1000000000000 := by
       rw [has]
       exact ⟨Int.mul_nonneg x0 hbm0, hle⟩
      have hJr : pJ T X Y i (j + 1) k ≤ 2000000000000 := by omega
      by_cases hw : 1000000000000 < pJ T X Y i (j + 1) k
      ·have := hJn hw
       simp (maxSteps := 10000000) (disch := first | assumption | omega) only [go_sem, ↓reduceIte, Nat.reduceEqDiff, reduceCtorEq, Nat.reduceAdd, Nat.reduceMul, Nat.reduceLeDiff, zc, Int.reduceToNat, s2, s3, r4096, s7, r8240, s18, s19, s20, s8, s9, s25, s26, s27, s10, s11, s39, s40, s41, hk', hk, ti33, ti31, eN, eq_true hz, eq_false hz0, eq_false hg, hpk, hJ', hset, hpk1, eq_true hw]
       exact Yco
      ·simp (maxSteps := 10000000) (disch := first | assumption | omega) only [go_sem, ↓reduceIte, Nat.reduceEqDiff, reduceCtorEq, Nat.reduceAdd, Nat.reduceMul, Nat.reduceLeDiff, zc, Int.reduceToNat, s2, s3, r4096, s7, r8240, s18, s19, s20, s8, s9, s25, s26, s27, s10, s11, s39, s40, s41, hk', hk, ti33, ti31, eN, eq_true hz, eq_false hz0, eq_false hg, hpk, hJ', hset, hpk1, eq_false hw]
       exact ⟨i64c (by omega), hq (by omega)⟩
    ·have hbm : b * m = 0 := by omega
     have habm : a * b * m = 0 := by rw [has, hbm, Int.mul_zero]
     have hJe : pJ T X Y i (j + 1) k = pJ T X Y i j k := by omega
     have hw : ¬ 1000000000000 < pJ T X Y i j k := by omega
     rw [hJe] at hset hpk1
     simp (maxSteps := 10000000) (disch := first | assumption | omega) only [go_sem, ↓reduceIte, Nat.reduceEqDiff, reduceCtorEq, Nat.reduceAdd, Nat.reduceMul, Nat.reduceLeDiff, zc, Int.reduceToNat, s2, s3, r4096, s7, r8240, s18, s19, s20, s8, s9, s25, s26, s27, s10, s11, s39, s40, s41, hk', hk, ti33, ti31, eN, eq_false hz, undef, hpk, habm, Int.add_zero, hset, hpk1, eq_false hw]
     exact ⟨i64c (by omega), hq (by omega)⟩
   ·rintro sl ro gn ⟨s2, s3, r4096, s7, r8240, s18, s19, s20, s8, s9, s25, s26, s27, s10, s11, s39, s40, s41, q3⟩
    dsimp only at s2 s3 r4096 s7 r8240 s18 s19 s20 s8 s9 s25 s26 s27 s10 s11 s39 s40 s41
    have hk' : ¬ ((T.length : Nat) : Int) < (T.length : Nat) := by omega
    simp (maxSteps := 10000000) (disch := first | assumption | omega) only [go_sem, ↓reduceIte, Nat.reduceEqDiff, reduceCtorEq, Nat.reduceAdd, Nat.reduceMul, Nat.reduceLeDiff, zc, Int.reduceToNat, s2, s3, r4096, s7, r8240, s18, s19, s20, s8, s9, s25, s26, s27, s10, s11, s39, s40, s41, hk', ti33, ti31]
    exact ⟨congrArg (fun x => some (AV.row x)) pK_n, i64c (by omega), fun c hc => by have := q3 c hc; unfold pK at this; rwa [if_pos hc] at this⟩
  ·rintro sl ro gn ⟨s2, s3, r4096, s7, r8240, s18, s19, s20, s8, s9, s25, s26, s27, q2⟩
   dsimp only at s2 s3 r4096 s7 r8240 s18 s19 s20 s8 s9 s25 s26 s27
   have hj' : ¬ ((T.length : Nat) : Int) < (T.length : Nat) := by omega
   simp (maxSteps := 10000000) (disch := first | assumption | omega) only [go_sem, ↓reduceIte, Nat.reduceEqDiff, reduceCtorEq, Nat.reduceAdd, Nat.reduceMul, Nat.reduceLeDiff, zc, Int.reduceToNat, s2, s3, r4096, s7, r8240, s18, s19, s20, s8, s9, s25, s26, s27, hj', ti33, ti31]
   exact ⟨congrArg (fun x => some (AV.row x)) pJ_n, i64c (by omega), fun c hc => by have := q2 c hc; rwa [pJ_end] at this⟩
 ·rintro sl ro gn ⟨s2, s3, r4096, s7, r8240, s18, s19, s20, q⟩
  dsimp only at s2 s3 r4096 s7 r8240 s18 s19 s20
  have hi' : ¬ ((T.length : Nat) : Int) < (T.length : Nat) := by omega
  have e : limR T X Y = .row (rws (fun c => i64 (pS T X Y T.length c)) T.length) := by
   unfold limR
   rw [if_pos (show fitV T X Y from q)]
   simp only [mvL, rowL, rws_map]
  rw [e]
  simp (maxSteps := 10000000) (disch := first | assumption | omega) only [go_sem, ↓reduceIte, Nat.reduceEqDiff, reduceCtorEq, Nat.reduceAdd, Nat.reduceMul, Nat.reduceLeDiff, zc, Int.reduceToNat, s2, s3, r4096, s7, r8240, s18, s19, s20, hi']
  simp only [zr, zb, retR, resL, outT, outL, zes, zez, oneV, zcp, zed, zfi, Ro.dl, St.ev, zhk, ↓za, ↓reduceIte, Nat.reduceEqDiff, Nat.reduceAdd, Nat.reduceLeDiff, r8240, zfe]
open Classical in
noncomputable def limS (T : List (List (List Int))) (X Y : List Int) : AV := if fitV T X Y then .tup [rowL (mvL T X Y), bo true] else .tup [nilA, bo false]
theorem noRef_limS (T : List (List (List Int))) (X Y : List Int) : noRef (limS T X Y) = true := by
 unfold limS; split
 ·rw [noRef, noRefL, noRef_rowL]; rfl
 ·rfl
set_option maxHeartbeats 8000000 in
theorem cLimS (ha : isLLL c T) (hc : CubeP T) (hx : isL xa X) (hy : isL ya Y) (hX : VcP T X 1000000000000) (hY : VcP T Y 100000) : CallOK Try.prog 52 [.agg [c], xa, ya] (limS T X Y) := by
 obtain ⟨h1, h16, h3⟩ := id hc
 have lX := hX.l
 have lY := hY.l
 have hn' : (T.length : Int) ≤ ((4294967296 : Nat) : Int) := by omega
 have hno : ∀ i j k, i < T.length → j < T.length → k < T.length → 1000000000000 < pJ T X Y i (j + 1) k → limS T X Y = .tup [nilA, bo false] := fun i j k hi hj hk h => by
  unfold limS
  rw [if_neg fun hf => by have h1 := hf k hk; have h2 := pJ_mn hc hX hY hi (j := j + 1) (by omega) hk; omega]
 refine call_of (fn := Try.f52) (code := bodyOf Try.f52) Try.func52 rfl (by kernel_rfl) (noRef_limS _ _ _) ?_
 intro sl hs
 have s0 : sl 0 = .agg [c] := hs 0
 have s1 : sl 1 = xa := hs 1
 have s2 : sl 2 = ya := hs 2
 dsimp only [Try.f52, bodyOf, Option.getD]
 refine Ycv ?_
 refine WK_for (fun i st => st.sl 1 = xa ∧ st.sl 2 = ya ∧ st.sl 3 = .ptr 4096 1 [] 0 ∧ st.ro 4096 1 = some (.bx [c]) ∧ st.sl 8 = .ref 8224 1 [] 0 T.length ∧ st.ro 8224 1 = some (.row (rws (fun c => i64 (pS T X Y i c)) T.length)) ∧ st.sl 9 = i64 (i : Int) ∧ (∀ k, k < T.length → pS T X Y i k ≤ 1000000000000)) T.length ?_ ?_ ?_
 ·refine Ycm ?_
  exact ⟨congrArg (fun x => some (AV.row x)) (rws_congr fun c _ => rfl), rfl, fun k _ => by show (0 : Int) ≤ 1000000000000; decide⟩
 ·rintro i sl ro gn hi ⟨s1, s2, s3, r4096, s8, r8224, s9, q⟩
  dsimp only at s1 s2 s3 r4096 s8 r8224 s9
  have hi' : (i : Int) < (T.length : Nat) := by omega
  have hm := isLLL_mat ha hi
  have lm := (h3 i hi).1
  obtain ⟨x0, x1⟩ := hX.b i hi
  have hiX : i < X.length := by omega
  simp (maxSteps := 10000000) (disch := first | assumption | omega) only [go_sem, ↓reduceIte, Nat.reduceEqDiff, reduceCtorEq, Nat.reduceAdd, Nat.reduceMul, Nat.reduceLeDiff, zc, Int.reduceToNat, s1, s2, s3, r4096, s8, r8224, s9, hi', hi, ti33, ti31, lX, lY]
  refine WK_for (fun j st => st.sl 1 = xa ∧ st.sl 2 = ya ∧ st.sl 3 = .ptr 4096 1 [] 0 ∧ st.ro 4096 1 = some (.bx [c]) ∧ st.sl 8 = .ref 8224 1 [] 0 T.length ∧ st.ro 8224 1 = some (.row (rws (fun c => i64 (pJ T X Y i j c)) T.length)) ∧ st.sl 9 = i64 (i : Int) ∧ st.sl 10 = i64 (j : Int) ∧ (∀ k, k < T.length → pJ T X Y i j k ≤ 1000000000000)) T.length ?_ ?_ ?_
  ·simp only [↓za, ↓reduceIte, Nat.reduceEqDiff, zb, reduceCtorEq, rws_zero, s1, s2, s3, r4096, s8, r8224, s9, hi', hi]
   exact ⟨congrArg (fun x => some (AV.row x)) pJ_0.symm, rfl, fun k hk => by have := q k hk; unfold pJ; simp only [sm, Int.add_zero]; exact this⟩
  ·rintro j sl ro gn hj ⟨s1, s2, s3, r4096, s8, r8224, s9, s10, q2⟩
   dsimp only at s1 s2 s3 r4096 s8 r8224 s9 s10
   have hj' : (j : Int) < (T.length : Nat) := by omega
   obtain ⟨y0, y1⟩ := hY.b j hj
   have hjY : j < Y.length := by omega
   have hjm : j < (mat T i).length := by omega
   have hr := isLL_row hm hjm
   have lr := ((h3 i hi).2 j hj).1
   by_cases hxy : atI X i = 0 ∨ atI Y j = 0
   ·have hst : ∀ k, k < T.length → pJ T X Y i (j + 1) k = pJ T X Y i j k := fun k hk => by
     have h0 : fV T X Y i j k = 0 := by
      unfold fV
      rcases hxy with e | e
      ·rw [e, Int.zero_mul, Int.zero_mul]
      ·rw [e, Int.mul_zero, Int.zero_mul]
     rw [pJ_succ, h0, Int.add_zero]
    have hst2 : rws (fun c => i64 (pJ T X Y i (j + 1) c)) T.length = rws (fun c => i64 (pJ T X Y i j c)) T.length := rws_congr fun c hc => by rw [hst c hc]
    rw [hst2]
    have hn0 : (0 : Int) < T.length := by omega
    simp (maxSteps := 10000000) (disch := first | assumption | omega) only [go_sem, ↓reduceIte, Nat.reduceEqDiff, reduceCtorEq, Nat.reduceAdd, Nat.reduceMul, Nat.reduceLeDiff, zc, Int.reduceToNat, s1, s2, s3, r4096, s8, r8224, s9, s10, hj', hj, ti33, ti31, lX, lY]
    refine WK_for (fun k st => st.sl 1 = xa ∧ st.sl 2 = ya ∧ st.sl 3 = .ptr 4096 1 [] 0 ∧ st.ro 4096 1 = some (.bx [c]) ∧ st.sl 8 = .ref 8224 1 [] 0 T.length ∧ st.ro 8224 1 = some (.row (rws (fun c => i64 (pJ T X Y i j c)) T.length)) ∧ st.sl 9 = i64 (i : Int) ∧ st.sl 10 = i64 (j : Int) ∧ st.sl 11 = i64 (k : Int)) 0 ?_ ?_ ?_
    ·simp only [↓za, ↓reduceIte, Nat.reduceEqDiff, zb, reduceCtorEq, rws_zero, s1, s2, s3, r4096, s8, r8224, s9, s10, hj', hj]
     exact rfl
    ·rintro k sl ro gn hk ⟨s1, s2, s3, r4096, s8, r8224, s9, s10, s11⟩
     dsimp only at s1 s2 s3 r4096 s8 r8224 s9 s10 s11
     have hk' : (k : Int) < (0 : Nat) := by omega
     omega
    ·rintro sl ro gn ⟨s1, s2, s3, r4096, s8, r8224, s9, s10, s11⟩
     dsimp only at s1 s2 s3 r4096 s8 r8224 s9 s10 s11
     have hk' : ¬ ((0 : Nat) : Int) < (0 : Nat) := by omega
     by_cases e : atI X i = 0
     ·simp (maxSteps := 10000000) (disch := first | assumption | omega) only [go_sem, ↓reduceIte, Nat.reduceEqDiff, reduceCtorEq, Nat.reduceAdd, Nat.reduceMul, Nat.reduceLeDiff, zc, Int.reduceToNat, s1, s2, s3, r4096, s8, r8224, s9, s10, s11, hk', ti33, ti31, lX, lY, zfe, eq_true hn0, e, undef]
      exact ⟨i64c (by omega), fun k hk => by rw [hst k hk]; exact q2 k hk⟩
     ·have e2 : atI Y j = 0 := by
       rcases hxy with e2 | e2
       ·exact absurd e2 e
       ·exact e2
      simp (maxSteps := 10000000) (disch := first | assumption | omega) only [go_sem, ↓reduceIte, Nat.reduceEqDiff, reduceCtorEq, Nat.reduceAdd, Nat.reduceMul, Nat.reduceLeDiff, zc, Int.reduceToNat, s1, s2, s3, r4096, s8, r8224, s9, s10, s11, hk', ti33, ti31, lX, lY, zfe, eq_true hn0, eq_false e, e2, undef]
      exact ⟨i64c (by omega), fun k hk => by rw [hst k hk]; exact q2 k hk⟩
   ·have ex0 : ¬ atI X i = 0 := fun e => hxy (.inl e)
    have ey0 : ¬ atI Y j = 0 := fun e => hxy (.inr e)
    simp (maxSteps := 10000000) (disch := first | assumption | omega) only [go_sem, ↓reduceIte, Nat.reduceEqDiff, reduceCtorEq, Nat.reduceAdd, Nat.reduceMul, Nat.reduceLeDiff, zc, Int.reduceToNat, s1, s2, s3, r4096, s8, r8224, s9, s10, hj', hj, ti33, ti31, lX, lY, lr]
    refine WK_for (fun k st => st.sl 1 = xa ∧ st.sl 2 = ya ∧ st.sl 3 = .ptr 4096 1 [] 0 ∧ st.ro 4096 1 = some (.bx [c]) ∧ st.sl 8 = .ref 8224 1 [] 0 T.length ∧ st.ro 8224 1 = some (.row (rws (fun c => i64 (pK T X Y i j k c)) T.length)) ∧ st.sl 9 = i64 (i : Int) ∧ st.sl 10 = i64 (j : Int) ∧ st.sl 11 = i64 (k : Int) ∧ (∀ c, c < T.length → pK T X Y i j k c ≤ 1000000000000)) T.length ?_ ?_ ?_
    ·simp only [↓za, ↓reduceIte, Nat.reduceEqDiff, zb, reduceCtorEq, rws_zero, s1, s2, s3, r4096, s8, r8224, s9, s10, hj', hj]
     refine ⟨congrArg (fun x => some (AV.row x)) pK_0.symm, rfl, fun c hc => ?_⟩
     unfold pK
     rw [if_neg (Nat.not_lt_zero _)]
     exact q2 c hc
    ·rintro k sl ro gn hk ⟨s1, s2, s3, r4096, s8, r8224, s9, s10, s11, q3⟩
     dsimp only at s1 s2 s3 r4096 s8 r8224 s9 s10 s11
     have hk' : (k : Int) < (T.length : Nat) := by omega
     obtain ⟨n0, n1⟩ := ((h3 i hi).2 j hj).2 k hk
     have hkr : k < (row (mat T i) j).length := by omega
     have hk' : (k : Int) < T.length := by omega
     have eN : atI (row (mat T i) j) k = at3 T i j k := rfl
     have eF : fV T X Y i j k = atI X i * atI Y j * at3 T i j k := rfl
     have hJ := pJ_succ (T := T) (X := X) (Y := Y) (i := i) (j := j) (k := k)
     have hJ0 := pJ_nn hc hX hY hi (Nat.le_of_lt hj) hk
     have hJn := hno i j k hi hj hk
     have hL := q2 k hk
     have hset := pK_set (T := T) (X := X) (Y := Y) (i := i) (j := j) (k := k)
     have hpk : pK T X Y i j k k = pJ T X Y i j k := by unfold pK; rw [if_neg (Nat.lt_irrefl _)]
     have hpk1 : pK T X Y i j (k + 1) k = pJ T X Y i (j + 1) k := by unfold pK; rw [if_pos (Nat.lt_succ_self k)]
     have hq : pJ T X Y i (j + 1) k ≤ 1000000000000 → ∀ c, c < T.length → pK T X Y i j (k + 1) c ≤ 1000000000000 := fun h c hc => by
      have := q3 c hc
      unfold pK at this ⊢
      by_cases e : c = k
      ·subst e; rw [if_pos (by omega)]; exact h
      ·by_cases hck : c < k
       ·rw [if_pos hck] at this; rw [if_pos (by omega)]; exact this
       ·rw [if_neg hck] at this; rw [if_neg (by omega)]; exact this
     have has : atI X i * atI Y j * at3 T i j k = atI X i * (atI Y j * at3 T i j k) := Int.mul_assoc _ _ _
     generalize ea : atI X i = a at *
     generalize eb : atI Y j = b at *
     generalize at3 T i j k = m at *
     have hbm0 : 0 ≤ b * m := Int.mul_nonneg y0 n0
     have hbm1 : b * m ≤ 100000 * 1000 := Int.mul_le_mul y1 n1 n0 (by decide)
     have hab0 : 0 ≤ a * b := Int.mul_nonneg x0 y0
     have hab1 : a * b ≤ 1000000000000 * 100000 := Int.mul_le_mul x1 y1 y0 (by decide)
     rw [eF] at hJ
     have hJ' := hJ.symm
     clear hno hX hY eF
     by_cases hm0 : m = 0
     ·have hbm : a * b * m = 0 := by rw [hm0, Int.mul_zero]
      have hJe : pJ T X Y i (j + 1) k = pJ T X Y i j k := by omega
      have hst : rws (fun c => i64 (pK T X Y i j (k + 1) c)) T.length = rws (fun c => i64 (pK T X Y i j k c)) T.length := rws_congr fun c _ => by
       unfold pK
       by_cases e : c = k
       ·subst e; rw [if_pos (by omega), if_neg (by omega), hJe]
       ·by_cases hck : c < k
        ·rw [if_pos hck, if_pos (by omega)]
        ·rw [if_neg hck, if_neg (by omega)]
      rw [hst]
      simp (maxSteps := 10000000) (disch := first | assumption | omega) only [go_sem, ↓reduceIte, Nat.reduceEqDiff, reduceCtorEq, Nat.reduceAdd, Nat.reduceMul, Nat.reduceLeDiff, zc, Int.reduceToNat, s1, s2, s3, r4096, s8, r8224, s9, s10, s11, hk', hk, ti33, ti31, lX, lY, zfe, eq_true hk', ea, eb, eq_false ex0, eq_false ey0, eN, hm0]
      exact ⟨i64c (by omega), hq (by omega)⟩
     ·have hmp : 0 < m := by omega
      have hbp : 0 < b := by omega
      have hz : 0 < b * m := Int.mul_pos hbp hmp
      have hz0 : ¬ b * m = 0 := by omega
      have hdv := tdiv_lim (a := a) hz
      have hdr : 0 ≤ Int.tdiv 1000000000000 (b * m) ∧ Int.tdiv 1000000000000 (b * m) ≤ 1000000000000 := by
       have h0 : (0 : Int) ≤ 1000000000000 := by decide
       rw [Int.tdiv_eq_ediv_of_nonneg h0]
       exact ⟨Int.ediv_nonneg h0 hbm0, Int.ediv_le_self _ h0⟩
      by_cases hg : Int.tdiv 1000000000000 (b * m) < a
      ·have := hJn (by have := hdv.1 hg; omega)
       simp (maxSteps := 10000000) (disch := first | assumption | omega) only [go_sem, ↓reduceIte, Nat.reduceEqDiff, reduceCtorEq, Nat.reduceAdd, Nat.reduceMul, Nat.reduceLeDiff, zc, Int.reduceToNat, s1, s2, s3, r4096, s8, r8224, s9, s10, s11, hk', hk, ti33, ti31, lX, lY, zfe, eq_true hk', ea, eb, eq_false ex0, eq_false ey0, eN, eq_false hm0, eq_false hz0, eq_true hg]
       refine FIN_of (by kernel_rfl) ?_
       simp (maxSteps := 10000000) (disch := first | assumption | omega) only [go_sem, ↓reduceIte, Nat.reduceEqDiff, reduceCtorEq, Nat.reduceAdd, Nat.reduceMul, Nat.reduceLeDiff, zc, Int.reduceToNat, s1, s2, s3, r4096, s8, r8224, s9, s10, s11, hk', hk, ea, eb, eq_true hg]
       exact Yco
      ·have hle : a * (b * m) ≤ 1000000000000 := Int.not_lt.1 fun h => hg (hdv.2 h)
       have habm : 0 ≤ a * b * m ∧ a * b * m ≤ 1000000000000 := by
        rw [has]
        exact ⟨Int.mul_nonneg x0 hbm0, hle⟩
       have hJr : pJ T X Y i (j + 1) k ≤ 2000000000000 := by omega
       simp (maxSteps := 10000000) (disch := first | assumption | omega) only [go_sem, ↓reduceIte, Nat.reduceEqDiff, reduceCtorEq, Nat.reduceAdd, Nat.reduceMul, Nat.reduceLeDiff, zc, Int.reduceToNat, s1, s2, s3, r4096, s8, r8224, s9, s10, s11, hk', hk, ti33, ti31, lX, lY, zfe, eq_true hk', ea, eb, eq_false ex0, eq_false ey0, eN, eq_false hm0, eq_false hz0, eq_false hg]
       refine FIN_of (by kernel_rfl) ?_
       simp (maxSteps := 10000000) (disch := first | assumption | omega) only [go_sem, ↓reduceIte, Nat.reduceEqDiff, reduceCtorEq, Nat.reduceAdd, Nat.reduceMul, Nat.reduceLeDiff, zc, Int.reduceToNat, s1, s2, s3, r4096, s8, r8224, s9, s10, s11, hk', hk, ti33, ti31, lX, lY, zfe, ea, eb, eN, eq_false hg, hpk, hJ', hset, hpk1]
       refine FIN_of (by kernel_rfl) ?_
       by_cases hw : 1000000000000 < pJ T X Y i (j + 1) k
       ·have := hJn hw
        simp (maxSteps := 10000000) (disch := first | assumption | omega) only [go_sem, ↓reduceIte, Nat.reduceEqDiff, reduceCtorEq, Nat.reduceAdd, Nat.reduceMul, Nat.reduceLeDiff, zc, Int.reduceToNat, s1, s2, s3, r4096, s8, r8224, s9, s10, s11, hk', hk, hpk1, eq_true hw]
        exact Yco
       ·simp (maxSteps := 10000000) (disch := first | assumption | omega) only [go_sem, ↓reduceIte, Nat.reduceEqDiff, reduceCtorEq, Nat.reduceAdd, Nat.reduceMul, Nat.reduceLeDiff, zc, Int.reduceToNat, s1, s2, s3, r4096, s8, r8224, s9, s10, s11, hk', hk, hpk1, eq_false hw]
        exact ⟨i64c (by omega), hq (by omega)⟩
    ·rintro sl ro gn ⟨s1, s2, s3, r4096, s8, r8224, s9, s10, s11, q3⟩
     dsimp only at s1 s2 s3 r4096 s8 r8224 s9 s10 s11
     have hk' : ¬ ((T.length : Nat) : Int) < (T.length : Nat) := by omega
     have hkn : ¬ (T.length : Int) < T.length := by omega
     simp (maxSteps := 10000000) (disch := first | assumption | omega) only [go_sem, ↓reduceIte, Nat.reduceEqDiff, reduceCtorEq, Nat.reduceAdd, Nat.reduceMul, Nat.reduceLeDiff, zc, Int.reduceToNat, s1, s2, s3, r4096, s8, r8224, s9, s10, s11, hk', ti33, ti31, zfe, eq_false hkn, undef]
     exact ⟨congrArg (fun x => some (AV.row x)) pK_n, i64c (by omega), fun c hc => by have := q3 c hc; unfold pK at this; rwa [if_pos hc] at this⟩
  ·rintro sl ro gn ⟨s1, s2, s3, r4096, s8, r8224, s9, s10, q2⟩
   dsimp only at s1 s2 s3 r4096 s8 r8224 s9 s10
   have hj' : ¬ ((T.length : Nat) : Int) < (T.length : Nat) := by omega
   simp (maxSteps := 10000000) (disch := first | assumption | omega) only [go_sem, ↓reduceIte, Nat.reduceEqDiff, reduceCtorEq, Nat.reduceAdd, Nat.reduceMul, Nat.reduceLeDiff, zc, Int.reduceToNat, s1, s2, s3, r4096, s8, r8224, s9, s10, hj', ti33, ti31]
   exact ⟨congrArg (fun x => some (AV.row x)) pJ_n, i64c (by omega), fun c hc => by have := q2 c hc; rwa [pJ_end] at this⟩
 ·rintro sl ro gn ⟨s1, s2, s3, r4096, s8, r8224, s9, q⟩
  dsimp only at s1 s2 s3 r4096 s8 r8224 s9
  have hi' : ¬ ((T.length : Nat) : Int) < (T.length : Nat) := by omega
  have e : limS T X Y = .tup [.row (rws (fun c => i64 (pS T X Y T.length c)) T.length), bo true] := by
   unfold limS
   rw [if_pos (show fitV T X Y from q)]
   simp only [mvL, rowL, rws_map]
  rw [e]
  simp (maxSteps := 10000000) (disch := first | assumption | omega) only [go_sem, ↓reduceIte, Nat.reduceEqDiff, reduceCtorEq, Nat.reduceAdd, Nat.reduceMul, Nat.reduceLeDiff, zc, Int.reduceToNat, s1, s2, s3, r4096, s8, r8224, s9, hi', lX]
  simp only [zr, zb, retR, resL, outT, outL, zes, zez, oneV, zcp, zed, zfi, Ro.dl, St.ev, zhk, ↓za, ↓reduceIte, Nat.reduceEqDiff, Nat.reduceAdd, Nat.reduceLeDiff, r8224, zfe]
end
end Go.Proofs.Ythfgjapmgjhccaa
/- Surfaces: handles, units, labels. -/
namespace Go.Proofs.Ythfgjapmgjhccaa
open Go.RowKit
set_option maxRecDepth 1000000
noncomputable def hdF (T : List (List (List Int))) (i k : Nat) : Int := at3 T i (dlT T i).toNat k
noncomputable def hdL (T : List (List (List Int))) : List Int := rws (fun k => sm (fun i => hdF T i k) T.length) T.length
def oneL (n i : Nat) : List Int := rws (fun k => if k = i then 1 else 0) n
section
variable {T : List (List (List Int))} {c : AV}
theorem rf_all {X : List (List (List Int))} (h : RF X = none) : F1 X = none ∧ F2 X = none ∧ F3 X = none ∧ F4 X = none := by
 unfold RF at h
 cases h1 : F1 X with
 | some v => rw [h1] at h; cases h
 | none =>
  rw [h1] at h
  cases h2 : F2 X with
  | some v => rw [h2] at h; cases h
  | none =>
   rw [h2] at h
   cases h3 : F3 X with
   | some v => rw [h3] at h; cases h
   | none =>
    rw [h3] at h
    exact ⟨rfl, rfl, rfl, h⟩
theorem dl_lt (hR : RingP T) {i : Nat} (hi : i < T.length) : ∃ d : Nat, dlT T i = d ∧ d < T.length := by
 have h2 := (rf_all hR.2).2.1
 have h := fnd_none.1 h2 i hi
 unfold p2 at h
 split at h
 ·cases h
 ·rename_i hn
  obtain ⟨m, h1, h2⟩ := dlT_nat (T := T) (i := i) (fun e => hn (.inl e))
  exact ⟨m, h1, h2⟩
theorem hdF_b (hR : RingP T) {i k : Nat} (hi : i < T.length) (hk : k < T.length) : 0 ≤ hdF T i k ∧ hdF T i k ≤ 1000 := by
 obtain ⟨d, e, hd⟩ := dl_lt hR hi
 unfold hdF
 rw [e, Int.toNat_natCast]
 exact ((hR.1.2.2 i hi).2 d hd).2 k hk
theorem hd_b (hR : RingP T) {k : Nat} (hk : k < T.length) : ∀ i, i ≤ T.length → 0 ≤ sm (fun i => hdF T i k) i ∧ sm (fun i => hdF T i k) i ≤ 1000 * i
 | 0, _ => ⟨Int.le_refl _, Int.le_refl _⟩
 | i + 1, h => by
  have h1 := hd_b hR hk i (by omega)
  have h2 := hdF_b hR (show i < T.length by omega) hk
  simp only [sm]
  omega
theorem hd_vc (hR : RingP T) : VcP T (hdL T) 100000 := by
 have h16 := hR.1.2.1
 refine ⟨zfe _ _, fun k hk => ?_⟩
 unfold hdL
 rw [atI_rws _ hk]
 have := hd_b hR hk T.length (Nat.le_refl _)
 omega
theorem one_vc (T : List (List (List Int))) (i : Nat) {m : Int} (hm : 1 ≤ m) : VcP T (oneL T.length i) m := by
 refine ⟨zfe _ _, fun k hk => ?_⟩
 unfold oneL
 rw [atI_rws _ hk]
 split <;> omega
theorem rowL_one (n i : Nat) : rowL (oneL n i) = .row ((rws (fun _ => i64 0) n).set i (i64 1)) := by
 unfold oneL
 rw [rws_set, rowL, rws_map]
 refine congrArg AV.row (rws_congr fun k _ => ?_)
 split <;> rfl
theorem cVecI (ha : isLLL c T) (hn : T.length ≤ 16) {i : Nat} (hi : i < T.length) : CallOK Try.prog 46 [.agg [c], i64 (i : Int)] (rowL (oneL T.length i)) := by
 have hm' : (T.length : Int) ≤ ((4294967296 : Nat) : Int) := by omega
 rw [rowL_one]
 refine call_of (fn := Try.f46) (code := bodyOf Try.f46) Try.func46 rfl (by kernel_rfl) (by rw [← rowL_one]; exact noRef_rowL _) ?_
 intro sl hs
 have s0 : sl 0 = .agg [c] := hs 0
 have s1 : sl 1 = i64 (i : Int) := hs 1
 dsimp only [Try.f46, bodyOf, Option.getD]
 refine Ycy ?_
 exact Yff
theorem cOneS (ha : isLLL c T) (hn : T.length ≤ 16) {i : Nat} (hi : i < T.length) : CallOK Try.prog 50 [.agg [c], i64 (i : Int)] (rowL (oneL T.length i)) := by
 have hm' : (T.length : Int) ≤ ((4294967296 : Nat) : Int) := by omega
 rw [rowL_one]
 refine call_of (fn := Try.f50) (code := bodyOf Try.f50) Try.func50 rfl (by kernel_rfl) (by rw [← rowL_one]; exact noRef_rowL _) ?_
 intro sl hs
 have s0 : sl 0 = .agg [c] := hs 0
 have s1 : sl 1 = i64 (i : Int) := hs 1
 dsimp only [Try.f50, bodyOf, Option.getD]
 refine Ycy ?_
 exact Yff
end
section
variable {ro0 : Ro} {gn0 : Nat → Nat} {s g n : Nat} {G : Nat → Int} {ra : AV} {R : List Int}
def adF (G : Nat → Int) (R : List Int) (i c : Nat) : Int := if c < i then G c + atI R c else G c
theorem adF_i (G : Nat → Int) (R : List Int) (i : Nat) : adF G R i i = G i := by unfold adF; rw [if_neg (Nat.lt_irrefl _)]
theorem adF_set (G : Nat → Int) (R : List Int) (n i : Nat) : (rws (fun c => i64 (adF G R i c)) n).set i (i64 (G i + atI R i)) = rws (fun c => i64 (adF G R (i + 1) c)) n := by
 rw [rws_set]
 refine rws_congr fun c _ => ?_
 unfold adF
 by_cases e : c = i
 ·subst e; rw [if_pos rfl, if_pos (by omega)]
 ·rw [if_neg e]
  by_cases h : c < i
  ·rw [if_pos h, if_pos (by omega)]
  ·rw [if_neg h, if_neg (by omega)]
theorem sAdd (hro : ro0 s g = some (.row (rws (fun k => i64 (G k)) n))) (hr : isL ra R) (lR : R.length = n) (hn : n ≤ 16) (hG : ∀ k, k < n → 0 ≤ G k ∧ G k ≤ 1000000) (hR : ∀ k, k < n → 0 ≤ atI R k ∧ atI R k ≤ 1000) :
  InS Try.prog 66 [.ref s g [] 0 n, ra] ro0 gn0 (fun r ro' gn' => r = .tup [] ∧ ro' = upr ro0 s g (.row (rws (fun k => i64 (G k + atI R k)) n)) ∧ gn' = gn0) := by
 have e0 : rws (fun c => i64 (adF G R 0 c)) n = rws (fun k => i64 (G k)) n := rws_congr fun c _ => by unfold adF; rw [if_neg (Nat.not_lt_zero _)]
 have en : rws (fun c => i64 (adF G R n c)) n = rws (fun k => i64 (G k + atI R k)) n := rws_congr fun c hc => by unfold adF; rw [if_pos hc]
 refine in_ofS (fn := Try.f66) (code := bodyOf Try.f66) Try.func66 rfl (by kernel_rfl) ?_
 intro sl hs
 have s0 : sl 0 = .ref s g [] 0 n := hs 0
 have s1 : sl 1 = ra := hs 1
 dsimp only [Try.f66, bodyOf, Option.getD]
 simp (maxSteps := 10000000) (disch := first | assumption | omega) only [go_sem, ↓reduceIte, Nat.reduceEqDiff, reduceCtorEq, Nat.reduceAdd, Nat.reduceMul, Nat.reduceLeDiff, zc, Int.reduceToNat, s0, s1, lR]
 refine WK_for (fun i st => st.sl 0 = .ref s g [] 0 n ∧ st.sl 6 = ra ∧ st.sl 7 = i64 (n : Int) ∧ st.sl 8 = i64 (i : Int) ∧ (st.ro = upr ro0 s g (.row (rws (fun c => i64 (adF G R i c)) n))) ∧ (st.gn = gn0)) n ?_ ?_ ?_
 ·refine Yal ?_
  rw [e0]
  exact ⟨rfl, (upr_id _ _ _ _ hro).symm⟩
 ·rintro i sl ro gn hi ⟨s0, s6, s7, s8, hr0, hg⟩
  dsimp only at s0 s6 s7 s8
  have hi' : (i : Int) < (n : Nat) := by omega
  dsimp only at hr0 hg
  subst hr0 hg
  obtain ⟨g0, g1⟩ := hG i hi
  obtain ⟨r0, r1⟩ := hR i hi
  have hiR : i < R.length := by omega
  have ei := adF_i G R i
  have hset := adF_set G R n i
  simp (maxSteps := 10000000) (disch := first | assumption | omega) only [go_sem, ↓reduceIte, Nat.reduceEqDiff, reduceCtorEq, Nat.reduceAdd, Nat.reduceMul, Nat.reduceLeDiff, zc, Int.reduceToNat, s0, s6, s7, s8, hi', hi, lR, ei, hset]
  exact ⟨i64c (by omega), upr_upr _ _ _ _ _⟩
 ·rintro sl ro gn ⟨s0, s6, s7, s8, hr0, hg⟩
  dsimp only at s0 s6 s7 s8
  have hi' : ¬ ((n : Nat) : Int) < (n : Nat) := by omega
  dsimp only at hr0 hg
  simp (maxSteps := 10000000) (disch := first | assumption | omega) only [go_sem, ↓reduceIte, Nat.reduceEqDiff, reduceCtorEq, Nat.reduceAdd, Nat.reduceMul, Nat.reduceLeDiff, zc, Int.reduceToNat, s0, s6, s7, s8, hi']
  refine RETS_0 (.inl rfl) ⟨rfl, ?_, hg⟩
  rw [hr0, en]
end
section
variable {T : List (List (List Int))} {c : AV}
theorem rowL_hd (T : List (List (List Int))) : rowL (hdL T) = .row (rws (fun k => i64 (sm (fun i => hdF T i k) T.length)) T.length) := by
 unfold hdL
 rw [rowL, rws_map]
theorem rowL_dl (T : List (List (List Int))) : rowL (rws (dlT T) T.length) = .row (rws (fun i => i64 (dlT T i)) T.length) := by
 rw [rowL, rws_map]
theorem cHandI (ha : isLLL c T) (hR : RingP T) : CallOK Try.prog 48 [.agg [c]] (rowL (hdL T)) := by
 obtain ⟨h1, h16, h3⟩ := id hR.1
 have hm' : (T.length : Int) ≤ ((4294967296 : Nat) : Int) := by omega
 have cD := c168 ha hR.1
 rw [rowL_dl] at cD
 rw [rowL_hd]
 refine call_of (fn := Try.f48) (code := bodyOf Try.f48) Try.func48 rfl (by kernel_rfl) (by rw [← rowL_hd]; exact noRef_rowL _) ?_
 intro sl hs
 have s0 : sl 0 = .agg [c] := hs 0
 dsimp only [Try.f48, bodyOf, Option.getD]
 simp (maxSteps := 10000000) (disch := first | assumption | omega) only [go_sem, ↓reduceIte, Nat.reduceEqDiff, reduceCtorEq, Nat.reduceAdd, Nat.reduceMul, Nat.reduceLeDiff, zc, Int.reduceToNat, s0, ti33, ti31, isLLL_len ha, kMake, Int.natCast_nonneg, Int.le_refl, hm', List.getD_cons_zero, rep_rws]
 refine CLL_pure _ cD PUt rfl rfl ?_
 refine Yev ?_
 refine WK_for (fun i st => st.sl 1 = .ptr 4096 1 [] 0 ∧ st.ro 4096 1 = some (.bx [c]) ∧ st.sl 3 = .ref 8240 1 [] 0 T.length ∧ st.ro 8240 1 = some (.row (rws (fun k => i64 (sm (fun i => hdF T i k) i)) T.length)) ∧ st.sl 11 = .ref 12304 1 [] 0 T.length ∧ st.ro 12304 1 = some (.row (rws (fun i => i64 (dlT T i)) T.length)) ∧ st.sl 12 = i64 (T.length : Int) ∧ st.sl 13 = i64 (i : Int)) T.length ?_ ?_ ?_
 ·refine Yaq ?_
  exact ⟨rfl, rfl⟩
 ·rintro i sl ro gn hi ⟨s1, r4096, s3, r8240, s11, r12304, s12, s13⟩
  dsimp only at s1 r4096 s3 r8240 s11 r12304 s12 s13
  have hi' : (i : Int) < (T.length : Nat) := by omega
  have hm := isLLL_mat ha hi
  have lm := (h3 i hi).1
  obtain ⟨d, ed, hd⟩ := dl_lt hR hi
  have hdm : d < (mat T i).length := by omega
  have hr := isLL_row hm hdm
  have lr := ((h3 i hi).2 d hd).1
  have hb : ∀ k, k < T.length → 0 ≤ sm (fun i => hdF T i k) i ∧ sm (fun i => hdF T i k) i ≤ 1000000 := fun k hk => by
   have := hd_b hR hk i (Nat.le_of_lt hi)
   omega
  have hbr : ∀ k, k < T.length → 0 ≤ atI (row (mat T i) d) k ∧ atI (row (mat T i) d) k ≤ 1000 := fun k hk => ((h3 i hi).2 d hd).2 k hk
  have hst : rws (fun k => i64 (sm (fun i => hdF T i k) i + atI (row (mat T i) d) k)) T.length = rws (fun k => i64 (sm (fun i => hdF T i k) (i + 1))) T.length := rws_congr fun k _ => by
   have e : hdF T i k = atI (row (mat T i) d) k := by unfold hdF; rw [ed, Int.toNat_natCast]
   simp only [sm, e]
  simp (maxSteps := 10000000) (disch := first | assumption | omega) only [go_sem, ↓reduceIte, Nat.reduceEqDiff, reduceCtorEq, Nat.reduceAdd, Nat.reduceMul, Nat.reduceLeDiff, zc, Int.reduceToNat, s1, r4096, s3, r8240, s11, r12304, s12, s13, hi', hi, ti33, ti31, ed]
  refine CLL_inS rfl (sAdd (G := fun k => sm (fun i => hdF T i k) i) (Ue r8240) hr lr h16 hb hbr) ?_
  rintro _ _ _ ⟨rfl, rfl, rfl⟩
  rw [hst]
  simp (maxSteps := 10000000) (disch := first | assumption | omega) only [go_sem, ↓reduceIte, Nat.reduceEqDiff, reduceCtorEq, Nat.reduceAdd, Nat.reduceMul, Nat.reduceLeDiff, zc, Int.reduceToNat, s1, r4096, s3, r8240, s11, r12304, s12, s13, hi', hi]
  exact i64c (by omega)
 ·rintro sl ro gn ⟨s1, r4096, s3, r8240, s11, r12304, s12, s13⟩
  dsimp only at s1 r4096 s3 r8240 s11 r12304 s12 s13
  have hi' : ¬ ((T.length : Nat) : Int) < (T.length : Nat) := by omega
  simp (maxSteps := 10000000) (disch := first | assumption | omega) only [go_sem, ↓reduceIte, Nat.reduceEqDiff, reduceCtorEq, Nat.reduceAdd, Nat.reduceMul, Nat.reduceLeDiff, zc, Int.reduceToNat, s1, r4096, s3, r8240, s11, r12304, s12, s13, hi']
  simp only [zr, zb, retR, resL, outT, outL, zes, zez, oneV, zcp, zed, zfi, Ro.dl, St.ev, zhk, ↓za, ↓reduceIte, Nat.reduceEqDiff, Nat.reduceAdd, Nat.reduceLeDiff, r8240, zfe]
theorem cDualsS {c : AV} {T : List (List (List Int))} (ha : isLLL c T) (hc : CubeP T) : CallOK Try.prog 68 [.agg [c]] (.row (rws (fun i => i64 (dlT T i)) T.length)) := by
 obtain ⟨h1, h2, h3⟩ := id hc
 refine call_of (fn := Try.f68) (code := bodyOf Try.f68) Try.func68 rfl (by kernel_rfl) (noRef_row _ (noRefL_rws _ _ fun _ => rfl)) ?_
 intro sl hs
 have s0 : sl 0 = .agg [c] := hs 0
 dsimp only [Try.f68, bodyOf, Option.getD]
 refine Yai ?_
 refine WK_for (fun i st => st.sl 1 = .ptr 4096 1 [] 0 ∧ st.ro 4096 1 = some (.bx [c]) ∧ st.sl 4 = i64 (i : Int) ∧ st.sl 3 = .ref 8192 (st.gn 8192) [] 0 i ∧ st.ro 8192 (st.gn 8192) = some (.row (rws (fun i => i64 (dlT T i)) i))) T.length ?_ ?_ ?_
 ·refine Yaq ?_
  repeat' first | rfl | apply And.intro
 ·rintro i sl ro gn hi ⟨s1, r4096, s4, s3, r8192⟩
  dsimp only at s1 r4096 s4 s3 r8192
  have hi' : (i : Int) < (T.length : Nat) := by omega
  have hi2 : i + 1 ≤ 4294967296 := by omega
  simp (maxSteps := 10000000) (disch := first | assumption | omega) only [go_sem, ↓reduceIte, Nat.reduceEqDiff, reduceCtorEq, Nat.reduceAdd, Nat.reduceMul, Nat.reduceLeDiff, zc, Int.reduceToNat, s1, r4096, s4, s3, r8192, hi', hi, isLLL_len ha]
  refine CLL_pure _ (c150 ha hc hi) PUt rfl rfl ?_
  simp (maxSteps := 10000000) (disch := first | assumption | omega) only [go_sem, ↓reduceIte, Nat.reduceEqDiff, reduceCtorEq, Nat.reduceAdd, Nat.reduceMul, Nat.reduceLeDiff, zc, Int.reduceToNat, s1, r4096, s4, s3, r8192, hi', hi, hi2]
  exact i64c (by omega)
 ·rintro sl ro gn ⟨s1, r4096, s4, s3, r8192⟩
  dsimp only at s1 r4096 s4 s3 r8192
  have hi' : ¬ ((T.length : Nat) : Int) < (T.length : Nat) := by omega
  simp (maxSteps := 10000000) (disch := first | assumption | omega) only [go_sem, ↓reduceIte, Nat.reduceEqDiff, reduceCtorEq, Nat.reduceAdd, Nat.reduceMul, Nat.reduceLeDiff, zc, Int.reduceToNat, s1, r4096, s4, s3, r8192, hi', isLLL_len ha]
  exact Ycn
set_option maxHeartbeats 4000000 in
theorem cHandS (ha : isLLL c T) (hR : RingP T) : CallOK Try.prog 51 [.agg [c]] (rowL (hdL T)) := by
 obtain ⟨h1, h16, h3⟩ := id hR.1
 have hm' : (T.length : Int) ≤ ((4294967296 : Nat) : Int) := by omega
 have cD := cDualsS ha hR.1
 rw [rowL_hd]
 refine call_of (fn := Try.f51) (code := bodyOf Try.f51) Try.func51 rfl (by kernel_rfl) (by rw [← rowL_hd]; exact noRef_rowL _) ?_
 intro sl hs
 have s0 : sl 0 = .agg [c] := hs 0
 dsimp only [Try.f51, bodyOf, Option.getD]
 refine Yai ?_
 refine CLLD_pure _ cD PUt rfl ?_
 simp (maxSteps := 10000000) (disch := first | assumption | omega) only [go_sem, ↓reduceIte, Nat.reduceEqDiff, reduceCtorEq, Nat.reduceAdd, Nat.reduceMul, Nat.reduceLeDiff, zc, Int.reduceToNat, s0, impE_row, zfe, isLLL_len ha, kMake, Int.natCast_nonneg, Int.le_refl, hm', List.getD_cons_zero, rep_rws]
 refine FIN_of (by kernel_rfl) ?_
 refine Yad ?_
 refine WK_for (fun i st => st.sl 1 = .ptr 4096 1 [] 0 ∧ st.ro 4096 1 = some (.bx [c]) ∧ st.sl 4 = .ref 8272 1 [] 0 T.length ∧ st.ro 8272 1 = some (.row (rws (fun k => i64 (sm (fun i => hdF T i k) i)) T.length)) ∧ st.sl 3 = .ref 8208 1 [] 0 T.length ∧ st.ro 8208 1 = some (.row (rws (fun i => i64 (dlT T i)) T.length)) ∧ st.sl 5 = i64 (i : Int)) T.length ?_ ?_ ?_
 ·refine Yaq ?_
  exact ⟨rfl, rfl⟩
 ·rintro i sl ro gn hi ⟨s1, r4096, s4, r8272, s3, r8208, s5⟩
  dsimp only at s1 r4096 s4 r8272 s3 r8208 s5
  have hi' : (i : Int) < (T.length : Nat) := by omega
  have hm := isLLL_mat ha hi
  have lm := (h3 i hi).1
  obtain ⟨d, ed, hd⟩ := dl_lt hR hi
  have hdm : d < (mat T i).length := by omega
  have hr := isLL_row hm hdm
  have lr := ((h3 i hi).2 d hd).1
  simp (maxSteps := 10000000) (disch := first | assumption | omega) only [go_sem, ↓reduceIte, Nat.reduceEqDiff, reduceCtorEq, Nat.reduceAdd, Nat.reduceMul, Nat.reduceLeDiff, zc, Int.reduceToNat, s1, r4096, s4, r8272, s3, r8208, s5, hi', hi, ti33, ti31, isLLL_len ha]
  refine WK_for (fun k st => st.sl 1 = .ptr 4096 1 [] 0 ∧ st.ro 4096 1 = some (.bx [c]) ∧ st.sl 4 = .ref 8272 1 [] 0 T.length ∧ st.ro 8272 1 = some (.row (rws (fun z => i64 (adF (fun k => sm (fun i => hdF T i k) i) (row (mat T i) d) k z)) T.length)) ∧ st.sl 3 = .ref 8208 1 [] 0 T.length ∧ st.ro 8208 1 = some (.row (rws (fun i => i64 (dlT T i)) T.length)) ∧ st.sl 5 = i64 (i : Int) ∧ st.sl 6 = i64 (k : Int)) T.length ?_ ?_ ?_
  ·simp only [↓za, ↓reduceIte, Nat.reduceEqDiff, zb, reduceCtorEq, rws_zero, s1, r4096, s4, r8272, s3, r8208, s5, hi', hi]
   refine ⟨congrArg (fun x => some (AV.row x)) (rws_congr fun z _ => ?_), rfl⟩
   unfold adF; rw [if_neg (Nat.not_lt_zero _)]
  ·rintro k sl ro gn hk ⟨s1, r4096, s4, r8272, s3, r8208, s5, s6⟩
   dsimp only at s1 r4096 s4 r8272 s3 r8208 s5 s6
   have hk' : (k : Int) < (T.length : Nat) := by omega
   obtain ⟨g0, g1⟩ := hd_b hR hk i (Nat.le_of_lt hi)
   obtain ⟨r0, r1⟩ := ((h3 i hi).2 d hd).2 k hk
   have hkr : k < (row (mat T i) d).length := by omega
   have ei := adF_i (fun k => sm (fun i => hdF T i k) i) (row (mat T i) d) k
   have hset := adF_set (fun k => sm (fun i => hdF T i k) i) (row (mat T i) d) T.length k
   have eN : at3 T i d k = atI (row (mat T i) d) k := rfl
   simp (maxSteps := 10000000) (disch := first | assumption | omega) only [go_sem, ↓reduceIte, Nat.reduceEqDiff, reduceCtorEq, Nat.reduceAdd, Nat.reduceMul, Nat.reduceLeDiff, zc, Int.reduceToNat, s1, r4096, s4, r8272, s3, r8208, s5, s6, hk', hk, ti33, ti31, ed, zfe, ei, hset]
   refine FIN_of (by kernel_rfl) ?_
   simp (maxSteps := 10000000) (disch := first | assumption | omega) only [go_sem, ↓reduceIte, Nat.reduceEqDiff, reduceCtorEq, Nat.reduceAdd, Nat.reduceMul, Nat.reduceLeDiff, zc, Int.reduceToNat, s1, r4096, s4, r8272, s3, r8208, s5, s6, hk', hk]
   exact i64c (by omega)
  ·rintro sl ro gn ⟨s1, r4096, s4, r8272, s3, r8208, s5, s6⟩
   dsimp only at s1 r4096 s4 r8272 s3 r8208 s5 s6
   have hk' : ¬ ((T.length : Nat) : Int) < (T.length : Nat) := by omega
   have hst : rws (fun z => i64 (adF (fun k => sm (fun i => hdF T i k) i) (row (mat T i) d) T.length z)) T.length = rws (fun k => i64 (sm (fun i => hdF T i k) (i + 1))) T.length := rws_congr fun z hz => by
    have e : hdF T i z = atI (row (mat T i) d) z := by unfold hdF; rw [ed, Int.toNat_natCast]
    unfold adF
    rw [if_pos hz]
    simp only [sm, e]
   simp (maxSteps := 10000000) (disch := first | assumption | omega) only [go_sem, ↓reduceIte, Nat.reduceEqDiff, reduceCtorEq, Nat.reduceAdd, Nat.reduceMul, Nat.reduceLeDiff, zc, Int.reduceToNat, s1, r4096, s4, r8272, s3, r8208, s5, s6, hk', ti33, ti31, zfe]
   exact ⟨congrArg (fun x => some (AV.row x)) hst, i64c (by omega)⟩
 ·rintro sl ro gn ⟨s1, r4096, s4, r8272, s3, r8208, s5⟩
  dsimp only at s1 r4096 s4 r8272 s3 r8208 s5
  have hi' : ¬ ((T.length : Nat) : Int) < (T.length : Nat) := by omega
  simp (maxSteps := 10000000) (disch := first | assumption | omega) only [go_sem, ↓reduceIte, Nat.reduceEqDiff, reduceCtorEq, Nat.reduceAdd, Nat.reduceMul, Nat.reduceLeDiff, zc, Int.reduceToNat, s1, r4096, s4, r8272, s3, r8208, s5, hi', ti33, ti31, isLLL_len ha]
  simp only [zr, zb, retR, resL, outT, outL, zes, zez, oneV, zcp, zed, zfi, Ro.dl, St.ev, zhk, ↓za, ↓reduceIte, Nat.reduceEqDiff, Nat.reduceAdd, Nat.reduceLeDiff, r8272, zfe]
def labP (n : Nat) (L : List Int) : Prop := ∀ i, i < L.length → 0 ≤ atI L i ∧ atI L i ≤ (n : Int) - 1
theorem cAreL {la : AV} {L : List Int} (ha : isLLL c T) (hn : T.length ≤ 16) (hl : isL la L) (lL : L.length ≤ maxN) {t : Bool} (ht : t = true ↔ labP T.length L) : CallOK Try.prog 24 [.agg [c], la] (bo t) := by
 have h1 := c129 (lo := 0) (hi := (T.length : Int) - 1) hl lL
 have e : allW L 0 ((T.length : Int) - 1) = t := by
  cases t with
  | true => exact allW_iff.2 (ht.1 rfl)
  | false =>
   cases h : allW L 0 ((T.length : Int) - 1) with
   | false => rfl
   | true => exact absurd (ht.2 (allW_iff.1 h)) (by decide)
 rw [e] at h1
 refine call_of (fn := Try.f24) (code := bodyOf Try.f24) Try.func24 rfl (by kernel_rfl) (rfl) ?_
 intro sl hs
 have s0 : sl 0 = .agg [c] := hs 0
 have s1 : sl 1 = la := hs 1
 dsimp only [Try.f24, bodyOf, Option.getD]
 simp (maxSteps := 10000000) (disch := first | assumption | omega) only [go_sem, ↓reduceIte, Nat.reduceEqDiff, reduceCtorEq, Nat.reduceAdd, Nat.reduceMul, Nat.reduceLeDiff, zc, Int.reduceToNat, s0, s1, ti33, ti31, isLLL_len ha]
 refine CLL_pure _ h1 PUt rfl rfl ?_
 refine Yae ?_
 exact Yaa
theorem cLabS {la : AV} {L : List Int} {n : Nat} (hn : n ≤ 1000000) (hl : isL la L) (lL : L.length ≤ maxN) {t : Bool} (ht : t = true ↔ labP n L ∧ L.length ≤ 8) : CallOK Try.prog 28 [i64 (n : Int), la] (bo t) := by
 have lL' : L.length ≤ 4294967296 := lL
 refine call_of (fn := Try.f28) (code := bodyOf Try.f28) Try.func28 rfl (by kernel_rfl) (rfl) ?_
 intro sl hs
 have s0 : sl 0 = i64 (n : Int) := hs 0
 have s1 : sl 1 = la := hs 1
 dsimp only [Try.f28, bodyOf, Option.getD]
 simp (maxSteps := 10000000) (disch := first | assumption | omega) only [go_sem, ↓reduceIte, Nat.reduceEqDiff, reduceCtorEq, Nat.reduceAdd, Nat.reduceMul, Nat.reduceLeDiff, zc, Int.reduceToNat, s0, s1, ti3]
 refine WK_for (fun i st => st.sl 0 = i64 (n : Int) ∧ st.sl 1 = la ∧ st.sl 5 = i64 (i : Int) ∧ (∀ j, j < i → 0 ≤ atI L j ∧ atI L j ≤ (n : Int) - 1)) L.length ?_ ?_ ?_
 ·refine Yal ?_
  exact ⟨rfl, lt0⟩
 ·rintro i sl ro gn hi ⟨s0, s1, s5, q⟩
  dsimp only at s0 s1 s5
  have hi' : (i : Int) < (L.length : Nat) := by omega
  by_cases h : 0 ≤ atI L i ∧ atI L i ≤ (n : Int) - 1
  ·refine Ybi ?_
   refine CLL_pure _ (c38 (a := atI L i) (b := 0) (c := (n : Int) - 1)) rfl rfl rfl ?_
   simp (maxSteps := 10000000) (disch := first | assumption | omega) only [go_sem, ↓reduceIte, Nat.reduceEqDiff, reduceCtorEq, Nat.reduceAdd, Nat.reduceMul, Nat.reduceLeDiff, zc, Int.reduceToNat, s0, s1, s5, hi', hi, eq_true h]
   exact ⟨i64c (by omega), ltS q h⟩
  ·refine Ybi ?_
   refine CLL_pure _ (c38 (a := atI L i) (b := 0) (c := (n : Int) - 1)) rfl rfl rfl ?_
   simp (maxSteps := 10000000) (disch := first | assumption | omega) only [go_sem, ↓reduceIte, Nat.reduceEqDiff, reduceCtorEq, Nat.reduceAdd, Nat.reduceMul, Nat.reduceLeDiff, zc, Int.reduceToNat, s0, s1, s5, hi', hi, eq_false h]
   refine Yab ?_
   exact bool_false ht fun h2 => h (h2.1 i hi)
 ·rintro sl ro gn ⟨s0, s1, s5, q⟩
  dsimp only at s0 s1 s5
  have hi' : ¬ ((L.length : Nat) : Int) < (L.length : Nat) := by omega
  by_cases h8 : L.length ≤ 8
  ·have h8' : (L.length : Int) ≤ 8 := by omega
   simp (maxSteps := 10000000) (disch := first | assumption | omega) only [go_sem, ↓reduceIte, Nat.reduceEqDiff, reduceCtorEq, Nat.reduceAdd, Nat.reduceMul, Nat.reduceLeDiff, zc, Int.reduceToNat, s0, s1, s5, hi', eq_true h8']
   refine Yab ?_
   exact (ht.2 ⟨q, h8⟩).symm
  ·have h8' : ¬ (L.length : Int) ≤ 8 := by omega
   simp (maxSteps := 10000000) (disch := first | assumption | omega) only [go_sem, ↓reduceIte, Nat.reduceEqDiff, reduceCtorEq, Nat.reduceAdd, Nat.reduceMul, Nat.reduceLeDiff, zc, Int.reduceToNat, s0, s1, s5, hi', eq_false h8']
   refine Yab ?_
   exact bool_false ht fun h2 => h8 h2.2
end
end Go.Proofs.Ythfgjapmgjhccaa
