/- Texts joined: QL QM QN QO. -/
import Derived.Test.YtmchdjiigfiabaaGreatOe
import Derived.Test.YtmchdjiigfiabaaGreatOf
set_option linter.all false
/- What cocycles and braidings are: the program. -/
namespace Go.Proofs.YtmchdjiigfiabaaGreat
open Go.RowKit
set_option maxRecDepth 1000000
def GrP2 (S : List (List Int)) (n : Nat) (M : Int) : Prop := S.length = n ∧ ∀ k, k < n → (row S k).length = n ∧ ∀ j, j < n → 0 ≤ atI (row S k) j ∧ atI (row S k) j ≤ M - 1
theorem exq_ptrs {n s g : Nat} {ro : Ro} {cs cs' : List AV} (h : ro s g = some (.bx cs)) (hc : exqL n ro cs cs') : exq (n + 1) ro (.ptr s g [] 0) (.iptr cs') := by
 refine ⟨fun j hj => ?_, fun hp => by simp [pureA] at hp⟩
 obtain ⟨j, rfl⟩ : ∃ i, j = i + 1 := ⟨j - 1, by omega⟩
 show (match ro.cells s g [] with | some cs => AV.iptr ((cs.drop 0).map (ex ro j)) | none => .dead) = _
 rw [zef, h]
 simp only [zei, List.drop_zero]
 rw [hc.mapE j (by omega)]
section
variable {o c v : AV} {O : List Int} {M : Int} {F : Nat → Nat → Nat → Int} {n : Nat} {G : Nat → Nat → Int} {k l : Nat}
theorem cIsM {m : Int} : CallOK Tryz.prog 30 [i64 m] (bo (decide (1 ≤ m ∧ m ≤ 1000))) := by
 refine call_of (fn := Tryz.f30) (code := bodyOf Tryz.f30) Tryz.func30 rfl (by kernel_rfl) (rfl) ?_
 intro sl hs
 have s0 : sl 0 = i64 m := hs 0
 dsimp only [Tryz.f30, bodyOf, Option.getD]
 refine Yaa ?_
 refine CLL_pure _ c40 rfl rfl rfl ?_
 refine Yaa ?_
 exact Yad
theorem cGrid1 {r : AV} {xs : List Int} (hr : isL r xs) (hx : xs.length ≤ maxN) (hM : -1048576 ≤ M ∧ M ≤ 1048576) {t : Bool} (ht : t = true ↔ ¬ (xs.length = n ∧ ∀ j, j < n → 0 ≤ atI xs j ∧ atI xs j ≤ M - 1)) : CallOK Tryz.prog 97 [r, .iptr [i64 (n : Int)], .iptr [i64 M]] (bo t) := by
 by_cases h1 : xs.length = n
 ·have h1' : (xs.length : Int) = n := by omega
  have c1 := c129 (lo := 0) (hi := M - 1) hr hx
  refine call_of (fn := Tryz.f97) (code := bodyOf Tryz.f97) Tryz.func97 rfl (by kernel_rfl) (rfl) ?_
  intro sl hs
  have s0 : sl 0 = r := hs 0
  have s1 : sl 1 = .iptr [i64 (n : Int)] := hs 1
  have s2 : sl 2 = .iptr [i64 M] := hs 2
  dsimp only [Tryz.f97, bodyOf, Option.getD]
  simp (maxSteps := 10000000) (disch := first | assumption | omega) only [go_sem, ↓reduceIte, Nat.reduceEqDiff, reduceCtorEq, Nat.reduceAdd, Nat.reduceMul, Nat.reduceLeDiff, zc, Int.reduceToNat, s0, s1, s2, eq_true h1']
  refine CLL_pure _ c1 PUt rfl rfl ?_
  by_cases h2 : allW xs 0 (M - 1) = true
  ·rw [h2]
   refine Yae ?_
   refine Yab ?_
   exact bool_false ht fun h => h ⟨h1, by rw [← h1]; exact allW_iff.1 h2⟩
  ·rw [Bool.not_eq_true] at h2
   rw [h2]
   refine Yae ?_
   refine Yab ?_
   exact (ht.2 fun h => by rw [← h1] at h; rw [allW_iff.2 h.2] at h2; cases h2).symm
 ·have h1' : ¬ (xs.length : Int) = n := by omega
  refine call_of (fn := Tryz.f97) (code := bodyOf Tryz.f97) Tryz.func97 rfl (by kernel_rfl) (rfl) ?_
  intro sl hs
  have s0 : sl 0 = r := hs 0
  have s1 : sl 1 = .iptr [i64 (n : Int)] := hs 1
  have s2 : sl 2 = .iptr [i64 M] := hs 2
  dsimp only [Tryz.f97, bodyOf, Option.getD]
  simp (maxSteps := 10000000) (disch := first | assumption | omega) only [go_sem, ↓reduceIte, Nat.reduceEqDiff, reduceCtorEq, Nat.reduceAdd, Nat.reduceMul, Nat.reduceLeDiff, zc, Int.reduceToNat, s0, s1, s2, eq_false h1']
  refine Yab ?_
  exact (ht.2 fun h => h1 h.1).symm
noncomputable def bad1 (S : List (List Int)) (n : Nat) (M : Int) (k : Nat) : Bool := @decide (¬ ((row S k).length = n ∧ ∀ j, j < n → 0 ≤ atI (row S k) j ∧ atI (row S k) j ≤ M - 1)) (Classical.propDecidable _)
theorem bad1_iff {S : List (List Int)} {k : Nat} : bad1 S n M k = true ↔ ¬ ((row S k).length = n ∧ ∀ j, j < n → 0 ≤ atI (row S k) j ∧ atI (row S k) j ≤ M - 1) := by
 unfold bad1; exact @decide_eq_true_iff _ (Classical.propDecidable _)
theorem cGrid {S : List (List Int)} (hv : isLL v S) (hx : S.length ≤ maxN) (hr : ∀ k, k < S.length → (row S k).length ≤ maxN) (hM : -1048576 ≤ M ∧ M ≤ 1048576) {t : Bool} (ht : t = true ↔ GrP2 S n M) : CallOK Tryz.prog 75 [v, i64 (n : Int), i64 M] (bo t) := by
 have hf := fun t' (ht' : t' = true ↔ ∃ k, k < S.length ∧ bad1 S n M k = true) => c127 (a := v) (g := 97) (caps := [.iptr [i64 (n : Int)], .iptr [i64 M]]) (p := bad1 S n M) hv hx rfl rfl (fun k hk => cGrid1 (n := n) (isLL_row hv hk) (hr k hk) hM bad1_iff) ht'
 by_cases h1 : S.length = n
 ·have h1' : (S.length : Int) = n := by omega
  have c1 := hf (!t) (by
   rw [Bool.not_eq_true', ← Bool.not_eq_true, ht]
   constructor
   ·intro h
    refine Classical.byContradiction fun h2 => h ⟨h1, fun k hk => Classical.byContradiction fun h3 => h2 ⟨k, by omega, bad1_iff.2 h3⟩⟩
   ·rintro ⟨k, hk, hb⟩ h
    exact bad1_iff.1 hb (h.2 k (by omega)))
  refine call_of (fn := Tryz.f75) (code := bodyOf Tryz.f75) Tryz.func75 rfl (by kernel_rfl) (rfl) ?_
  intro sl hs
  have s0 : sl 0 = v := hs 0
  have s1 : sl 1 = i64 (n : Int) := hs 1
  have s2 : sl 2 = i64 M := hs 2
  dsimp only [Tryz.f75, bodyOf, Option.getD]
  simp (maxSteps := 10000000) (disch := first | assumption | omega) only [go_sem, ↓reduceIte, Nat.reduceEqDiff, reduceCtorEq, Nat.reduceAdd, Nat.reduceMul, Nat.reduceLeDiff, zc, Int.reduceToNat, s0, s1, s2, eq_true h1']
  refine CLL_q _ c1 (.cons (exq_LL hv (by decide)) (.cons (exq_fn (.cons (exq_ptr Ur (by decide)) (.cons (exq_ptr Ur (by decide)) .nil))) .nil)) rfl rfl rfl ?_
  simp (maxSteps := 10000000) (disch := first | assumption | omega) only [go_sem, ↓reduceIte, Nat.reduceEqDiff, reduceCtorEq, Nat.reduceAdd, Nat.reduceMul, Nat.reduceLeDiff, zc, Int.reduceToNat, s0, s1, s2, Bool.not_not]
  exact Yad
 ·have h1' : ¬ (S.length : Int) = n := by omega
  refine call_of (fn := Tryz.f75) (code := bodyOf Tryz.f75) Tryz.func75 rfl (by kernel_rfl) (rfl) ?_
  intro sl hs
  have s0 : sl 0 = v := hs 0
  have s1 : sl 1 = i64 (n : Int) := hs 1
  have s2 : sl 2 = i64 M := hs 2
  dsimp only [Tryz.f75, bodyOf, Option.getD]
  simp (maxSteps := 10000000) (disch := first | assumption | omega) only [go_sem, ↓reduceIte, Nat.reduceEqDiff, reduceCtorEq, Nat.reduceAdd, Nat.reduceMul, Nat.reduceLeDiff, zc, Int.reduceToNat, s0, s1, s2, eq_false h1']
  refine Yab ?_
  exact bool_false ht fun h => h1 h.1
theorem cIx3 {a : AV} {T : List (List (List Int))} {g : Nat} {caps : List AV} {p : Nat → Bool} (ha : isLLL a T) (hx : T.length ≤ maxN) (hi : XX.isIn g = false) (hcp : pureL caps = true) (hc : ∀ k, k < T.length → CallOK Tryz.prog g (atA a k :: caps) (bo (p k))) {z : Int} (hz1 : (∀ k, k < T.length → p k = false) → z = -1) (hz2 : ∀ k, k < T.length → p k = true → (∀ j, j < k → p j = false) → z = (k : Int)) :
  CallOK Tryz.prog 95 [a, .fn g caps] (i64 z) := by
 have hx' : T.length ≤ 4294967296 := hx
 refine call_of (fn := Tryz.f95) (code := bodyOf Tryz.f95) Tryz.func95 rfl (by kernel_rfl) (rfl) ?_
 intro sl hs
 have s0 : sl 0 = a := hs 0
 have s1 : sl 1 = .fn g caps := hs 1
 dsimp only [Tryz.f95, bodyOf, Option.getD]
 refine Yac ?_
 refine WK_for (fun k st => st.sl 0 = a ∧ st.sl 1 = .fn g caps ∧ st.sl 7 = i64 (T.length : Int) ∧ st.sl 8 = i64 (k : Int) ∧ (∀ j, j < k → p j = false)) T.length ?_ ?_ ?_
 ·refine Yan ?_
  exact ⟨rfl, fun j hj => absurd hj (Nat.not_lt_zero _)⟩
 ·rintro k sl ro gn hk ⟨s0, s1, s7, s8, q⟩
  dsimp only at s0 s1 s7 s8
  have hk' : (k : Int) < (T.length : Nat) := by omega
  have hm := isLLL_mat ha hk
  refine Yci ?_
  refine CLL_pure _ (hc k hk) (by simp only [List.cons_append, List.nil_append, pureL, isLL_pure hm, hcp, Bool.and_self]) hi rfl ?_
  cases hpx : p k with
  | true =>
   refine Yci ?_
   refine Yab ?_
   exact (hz2 k hk hpx q).symm
  | false =>
   refine Yci ?_
   refine ⟨i64c (by omega), fun j hj => ?_⟩
   rcases Nat.lt_or_ge j k with h | h
   ·exact q j h
   ·have : j = k := by omega
    subst this; exact hpx
 ·rintro sl ro gn ⟨s0, s1, s7, s8, q⟩
  dsimp only at s0 s1 s7 s8
  have hk' : ¬ ((T.length : Nat) : Int) < (T.length : Nat) := by omega
  simp (maxSteps := 10000000) (disch := first | assumption | omega) only [go_sem, ↓reduceIte, Nat.reduceEqDiff, reduceCtorEq, Nat.reduceAdd, Nat.reduceMul, Nat.reduceLeDiff, zc, Int.reduceToNat, s0, s1, s7, s8, hk']
  refine Yab ?_
  exact (hz1 q).symm
theorem cCf3 {a : AV} {T : List (List (List Int))} {g : Nat} {caps : List AV} {p : Nat → Bool} (ha : isLLL a T) (hx : T.length ≤ maxN) (hi : XX.isIn g = false) (hcp : pureL caps = true) (hc : ∀ k, k < T.length → CallOK Tryz.prog g (atA a k :: caps) (bo (p k))) {t : Bool} (ht : t = true ↔ ∃ k, k < T.length ∧ p k = true) :
  CallOK Tryz.prog 73 [a, .fn g caps] (bo t) := by
 refine call_of (fn := Tryz.f73) (code := bodyOf Tryz.f73) Tryz.func73 rfl (by kernel_rfl) (rfl) ?_
 intro sl hs
 have s0 : sl 0 = a := hs 0
 have s1 : sl 1 = .fn g caps := hs 1
 dsimp only [Tryz.f73, bodyOf, Option.getD]
 refine Yac ?_
 by_cases h : ∃ k, k < T.length ∧ p k = true
 ·have : ∃ m : Nat, m < T.length ∧ p m = true ∧ ∀ j, j < m → p j = false := by
   obtain ⟨m, h1, h2⟩ := h
   induction m using Nat.strongRecOn with
   | ind m ih =>
    by_cases h3 : ∃ j, j < m ∧ p j = true
    ·obtain ⟨j, h4, h5⟩ := h3; exact ih j h4 (by omega) h5
    ·refine ⟨m, h1, h2, fun j hj => ?_⟩
     cases he : p j with
     | false => rfl
     | true => exact absurd ⟨j, hj, he⟩ h3
  obtain ⟨m, h1, h2, h3⟩ := this
  have ht' : t = true := ht.2 h
  refine CLL_pure _ (cIx3 (z := (m : Int)) ha hx hi hcp hc (fun h4 => by rw [h4 m h1] at h2; cases h2) (fun k hk hpk hj => ?_)) (by simp only [pureL, isLLL_pure ha, pureA, hcp, Bool.and_self]) rfl rfl ?_
  ·rcases Nat.lt_trichotomy m k with h4 | h4 | h4
   ·rw [hj m h4] at h2; cases h2
   ·rw [h4]
   ·rw [h3 k h4] at hpk; cases hpk
  ·have hge : ¬ ((m : Int) < 0) := by omega
   simp (maxSteps := 10000000) (disch := first | assumption | omega) only [go_sem, ↓reduceIte, Nat.reduceEqDiff, reduceCtorEq, Nat.reduceAdd, Nat.reduceMul, Nat.reduceLeDiff, zc, Int.reduceToNat, s0, s1, hge]
   refine Yab ?_
   exact ht'.symm
 ·have ht' : t = false := by
   cases h2 : t with
   | false => rfl
   | true => exact absurd (ht.1 h2) h
  refine CLL_pure _ (cIx3 (z := -1) ha hx hi hcp hc (fun _ => rfl) (fun k hk hpk hj => absurd ⟨k, hk, hpk⟩ h)) (by simp only [pureL, isLLL_pure ha, pureA, hcp, Bool.and_self]) rfl rfl ?_
  have hlt : (-1 : Int) < 0 := by decide
  simp (maxSteps := 10000000) (disch := first | assumption | omega) only [go_sem, ↓reduceIte, Nat.reduceEqDiff, reduceCtorEq, Nat.reduceAdd, Nat.reduceMul, Nat.reduceLeDiff, zc, Int.reduceToNat, s0, s1, hlt]
  refine Yab ?_
  exact ht'.symm
theorem cCoch1 {S : List (List Int)} (hv : isLL v S) (hx : S.length ≤ maxN) (hr : ∀ k, k < S.length → (row S k).length ≤ maxN) (hn : n ≤ 1048576) (hM : -1048576 ≤ M ∧ M ≤ 1048576) (hp : pureL [o, c] = true) {t : Bool} (ht : t = true ↔ ¬ GrP2 S n M) : CallOK Tryz.prog 74 [v, .iptr [i64 (n : Int)], .iptr [o, i64 M, c]] (bo t) := by
 have c1 := cGrid (n := n) (t := !t) hv hx hr hM (by rw [Bool.not_eq_true', ← Bool.not_eq_true, ht]; exact Classical.not_not)
 refine call_of (fn := Tryz.f74) (code := bodyOf Tryz.f74) Tryz.func74 rfl (by kernel_rfl) (rfl) ?_
 intro sl hs
 have s0 : sl 0 = v := hs 0
 have s1 : sl 1 = .iptr [i64 (n : Int)] := hs 1
 have s2 : sl 2 = .iptr [o, i64 M, c] := hs 2
 dsimp only [Tryz.f74, bodyOf, Option.getD]
 refine Yae ?_
 refine CLL_pure _ c1 PUt rfl rfl ?_
 simp (maxSteps := 10000000) (disch := first | assumption | omega) only [go_sem, ↓reduceIte, Nat.reduceEqDiff, reduceCtorEq, Nat.reduceAdd, Nat.reduceMul, Nat.reduceLeDiff, zc, Int.reduceToNat, s0, s1, s2, Bool.not_not]
 exact Yad
noncomputable def bad2 (F : Nat → Nat → Nat → Int) (n : Nat) (M : Int) (k : Nat) : Bool := @decide (¬ GrP2 (mat (cubeL F n) k) n M) (Classical.propDecidable _)
theorem bad2_iff : bad2 F n M k = true ↔ ¬ GrP2 (mat (cubeL F n) k) n M := by
 unfold bad2; exact @decide_eq_true_iff _ (Classical.propDecidable _)
theorem GrP2_cube {x : Nat} (hx : x < n) : GrP2 (mat (cubeL F n) x) n M ↔ ∀ y, y < n → ∀ z, z < n → 0 ≤ F x y z ∧ F x y z ≤ M - 1 := by
 constructor
 ·intro h y hy z hz
  have := (h.2 y hy).2 z hz
  have e : atI (row (mat (cubeL F n) x) y) z = F x y z := at3_cube hx hy hz
  rwa [e] at this
 ·intro h
  refine ⟨cube_row F hx, fun y hy => ⟨cube_rr F hx hy, fun z hz => ?_⟩⟩
  have e : atI (row (mat (cubeL F n) x) y) z = F x y z := at3_cube hx hy hz
  rw [e]; exact h y hy z hz
set_option maxHeartbeats 4000000 in
theorem cCoch (ho : isL o O) (hO : O.length ≤ 6) (hc : isLLL c (cubeL F n)) (h16 : n ≤ 16) (hM : -1048576 ≤ M ∧ M ≤ 1048576) {t : Bool} (ht : t = true ↔ ShC O M F n) : CallOK Tryz.prog 42 [.agg [o, i64 M, c]] (bo t) := by
 have hxO : O.length ≤ maxN := Nat.le_trans hO (by decide)
 have hxn : n ≤ maxN := Nat.le_trans h16 (by decide)
 have lX : (cubeL F n).length = n := zfe _ _
 have c1 := cGs ho hxO
 have c2 : CallOK Tryz.prog _ [i64 (gs5 O), i64 1, i64 8] (bo (decide (1 ≤ gs5 O ∧ gs5 O ≤ 8))) := c40
 by_cases h1 : 1 ≤ gs5 O ∧ gs5 O ≤ 8
 ·obtain ⟨hP, hp⟩ := gs5_of h1.1 (by omega)
  rw [decide_eq_true h1] at c2
  have c3 : CallOK Tryz.prog _ [i64 M] (bo (decide (1 ≤ M ∧ M ≤ 1000))) := cIsM
  by_cases h2 : 1 ≤ M ∧ M ≤ 1000
  ·rw [decide_eq_true h2] at c3
   by_cases h3 : (n : Int) = gs5 O
   ·have h3' : gs5 O = (n : Int) := h3.symm
    have hf := cCf3 (a := c) (g := 74) (caps := [.iptr [i64 (n : Int)], .iptr [o, i64 M, c]]) (p := bad2 F n M) (t := !t) hc (by omega) rfl (by simp only [pureL, pureA, isL_pure ho, isLLL_pure hc, Bool.and_self]) (fun k hk => cCoch1 (isLLL_mat hc hk) (by rw [cube_row F (by omega)]; omega) (fun j hj => by rw [cube_row F (by omega)] at hj; rw [cube_rr F (by omega) hj]; omega) (by omega) hM (by simp only [pureL, isL_pure ho, isLLL_pure hc, Bool.and_self]) bad2_iff) (by
     rw [Bool.not_eq_true', ← Bool.not_eq_true, ht]
     constructor
     ·intro h
      refine Classical.byContradiction fun h4 => h ⟨hP, h2, by omega, by omega, fun x hx => (GrP2_cube hx).1 (Classical.byContradiction fun h5 => h4 ⟨x, by omega, bad2_iff.2 h5⟩)⟩
     ·rintro ⟨k, hk, hb⟩ h
      exact bad2_iff.1 hb ((GrP2_cube (by omega)).2 (h.b k (by omega))))
    rw [h3'] at c1 c2
    refine call_of (fn := Tryz.f42) (code := bodyOf Tryz.f42) Tryz.func42 rfl (by kernel_rfl) (rfl) ?_
    intro sl hs
    have s0 : sl 0 = .agg [o, i64 M, c] := hs 0
    dsimp only [Tryz.f42, bodyOf, Option.getD]
    refine Yag ?_
    refine CLL_pure _ c1 PUt rfl rfl ?_
    refine Yaa ?_
    refine CLL_pure _ c2 rfl rfl rfl ?_
    refine Yaa ?_
    refine CLL_pure _ c3 rfl rfl rfl ?_
    refine Yag ?_
    refine CLL_q _ hf (.cons (exq_LLL hc (by decide)) (.cons (exq_fn (.cons (exq_ptr Ur (by decide)) (.cons (exq_ptrs (n := 6) (cs' := [o, i64 M, c]) Ur (.cons (exq_L ho (by decide)) (.cons (exq_sc _ _ _ (by decide)) (.cons (exq_LLL hc (by decide)) .nil)))) .nil))) .nil)) rfl rfl rfl ?_
    simp (maxSteps := 10000000) (disch := first | assumption | omega) only [go_sem, ↓reduceIte, Nat.reduceEqDiff, reduceCtorEq, Nat.reduceAdd, Nat.reduceMul, Nat.reduceLeDiff, zc, Int.reduceToNat, s0, Bool.not_not]
    exact Yad
   ·refine call_of (fn := Tryz.f42) (code := bodyOf Tryz.f42) Tryz.func42 rfl (by kernel_rfl) (rfl) ?_
    intro sl hs
    have s0 : sl 0 = .agg [o, i64 M, c] := hs 0
    dsimp only [Tryz.f42, bodyOf, Option.getD]
    refine Yag ?_
    refine CLL_pure _ c1 PUt rfl rfl ?_
    refine Yaa ?_
    refine CLL_pure _ c2 rfl rfl rfl ?_
    refine Yaa ?_
    refine CLL_pure _ c3 rfl rfl rfl ?_
    simp (maxSteps := 10000000) (disch := first | assumption | omega) only [go_sem, ↓reduceIte, Nat.reduceEqDiff, reduceCtorEq, Nat.reduceAdd, Nat.reduceMul, Nat.reduceLeDiff, zc, Int.reduceToNat, s0, lX, eq_false h3]
    refine Yab ?_
    exact bool_false ht fun h => h3 (by rw [h.e, hp])
  ·rw [decide_eq_false h2] at c3
   refine call_of (fn := Tryz.f42) (code := bodyOf Tryz.f42) Tryz.func42 rfl (by kernel_rfl) (rfl) ?_
   intro sl hs
   have s0 : sl 0 = .agg [o, i64 M, c] := hs 0
   dsimp only [Tryz.f42, bodyOf, Option.getD]
   refine Yag ?_
   refine CLL_pure _ c1 PUt rfl rfl ?_
   refine Yaa ?_
   refine CLL_pure _ c2 rfl rfl rfl ?_
   refine Yaa ?_
   refine CLL_pure _ c3 rfl rfl rfl ?_
   refine Yaw ?_
   refine Yab ?_
   exact bool_false ht fun h => h2 h.m
 ·rw [decide_eq_false h1] at c2
  refine call_of (fn := Tryz.f42) (code := bodyOf Tryz.f42) Tryz.func42 rfl (by kernel_rfl) (rfl) ?_
  intro sl hs
  have s0 : sl 0 = .agg [o, i64 M, c] := hs 0
  dsimp only [Tryz.f42, bodyOf, Option.getD]
  refine Yag ?_
  refine CLL_pure _ c1 PUt rfl rfl ?_
  refine Yaa ?_
  refine CLL_pure _ c2 rfl rfl rfl ?_
  refine Yaw ?_
  refine Yab ?_
  exact bool_false ht fun h => h1 (by
   have e := h.e
   have := h.n8
   rw [gs5_eq h.o (by omega)]
   have := pfx_pos1 h.o.2
   omega)
theorem NmC_iff (h0 : 0 < n) : NmC F n ↔ ∀ x, x < n → ∀ y, y < n → ∀ z, z < n → (x = 0 ∨ y = 0 ∨ z = 0) → F x y z = 0 := by
 constructor
 ·intro h x hx y hy z hz hxyz
  rcases hxyz with rfl | rfl | rfl
  ·exact (h y hy z hz).1
  ·exact (h x hx z hz).2.1
  ·exact (h x hx y hy).2.2
 ·intro h x hx y hy
  exact ⟨h 0 h0 x hx y hy (.inl rfl), h x hx 0 h0 y hy (.inr (.inl rfl)), h x hx y hy 0 h0 (.inr (.inr rfl))⟩
set_option maxHeartbeats 4000000 in
theorem cNormI (ho : isL o O) (hc : isLLL c (cubeL F n)) (h0 : 0 < n) (h16 : n ≤ 16) {t : Bool} (ht : t = true ↔ NmC F n) : CallOK Tryz.prog 43 [.agg [o, i64 M, c]] (bo t) := by
 have lX : (cubeL F n).length = n := zfe _ _
 rw [NmC_iff h0] at ht
 refine call_of (fn := Tryz.f43) (code := bodyOf Tryz.f43) Tryz.func43 rfl (by kernel_rfl) (rfl) ?_
 intro sl hs
 have s0 : sl 0 = .agg [o, i64 M, c] := hs 0
 dsimp only [Tryz.f43, bodyOf, Option.getD]
 refine Yag ?_
 refine WK_for (fun x st => st.sl 10 = c ∧ st.sl 11 = i64 (n : Int) ∧ st.sl 12 = i64 (x : Int) ∧ (∀ x', x' < x → ∀ y, y < n → ∀ z, z < n → (x' = 0 ∨ y = 0 ∨ z = 0) → F x' y z = 0)) n ?_ ?_ ?_
 ·refine Yaz ?_
  exact ⟨rfl, fun x' h => absurd h (Nat.not_lt_zero _)⟩
 ·rintro x sl ro gn hx ⟨s10, s11, s12, q⟩
  dsimp only at s10 s11 s12
  have hx' : (x : Int) < (n : Nat) := by omega
  have hi := isLLL_mat hc (k := x) (by omega)
  have lm := cube_row F hx
  simp (maxSteps := 10000000) (disch := first | assumption | omega) only [go_sem, ↓reduceIte, Nat.reduceEqDiff, reduceCtorEq, Nat.reduceAdd, Nat.reduceMul, Nat.reduceLeDiff, zc, Int.reduceToNat, s10, s11, s12, hx', hx, lm, lX]
  refine WK_for (fun y st => st.sl 10 = c ∧ st.sl 11 = i64 (n : Int) ∧ st.sl 12 = i64 (x : Int) ∧ st.sl 3 = i64 (x : Int) ∧ st.sl 17 = atA c x ∧ st.sl 18 = i64 (n : Int) ∧ st.sl 19 = i64 (y : Int) ∧ (∀ y', y' < y → ∀ z, z < n → (x = 0 ∨ y' = 0 ∨ z = 0) → F x y' z = 0)) n ?_ ?_ ?_
  ·simp only [↓za, ↓reduceIte, Nat.reduceEqDiff, zb, reduceCtorEq, rws_zero, s10, s11, s12, hx', hx]
   exact ⟨rfl, fun x' h => absurd h (Nat.not_lt_zero _)⟩
  ·rintro y sl ro gn hy ⟨s10, s11, s12, s3, s17, s18, s19, qy⟩
   dsimp only at s10 s11 s12 s3 s17 s18 s19
   have hy' : (y : Int) < (n : Nat) := by omega
   have hj := isLL_row hi (k := y) (by omega)
   have lr := cube_rr F hx hy
   simp (maxSteps := 10000000) (disch := first | assumption | omega) only [go_sem, ↓reduceIte, Nat.reduceEqDiff, reduceCtorEq, Nat.reduceAdd, Nat.reduceMul, Nat.reduceLeDiff, zc, Int.reduceToNat, s10, s11, s12, s3, s17, s18, s19, hy', hy, lm, lX, lr]
   refine WK_for (fun z st => st.sl 10 = c ∧ st.sl 11 = i64 (n : Int) ∧ st.sl 12 = i64 (x : Int) ∧ st.sl 3 = i64 (x : Int) ∧ st.sl 17 = atA c x ∧ st.sl 18 = i64 (n : Int) ∧ st.sl 19 = i64 (y : Int) ∧ st.sl 5 = i64 (y : Int) ∧ st.sl 24 = atA (atA c x) y ∧ st.sl 25 = i64 (n : Int) ∧ st.sl 26 = i64 (z : Int) ∧ (∀ z', z' < z → (x = 0 ∨ y = 0 ∨ z' = 0) → F x y z' = 0)) n ?_ ?_ ?_
   ·simp only [↓za, ↓reduceIte, Nat.reduceEqDiff, zb, reduceCtorEq, rws_zero, s10, s11, s12, s3, s17, s18, s19, hy', hy]
    exact ⟨rfl, fun x' h => absurd h (Nat.not_lt_zero _)⟩
   ·rintro z sl ro gn hz ⟨s10, s11, s12, s3, s17, s18, s19, s5, s24, s25, s26, qz⟩
    dsimp only at s10 s11 s12 s3 s17 s18 s19 s5 s24 s25 s26
    have hz' : (z : Int) < (n : Nat) := by omega
    have v1 : atI (row (mat (cubeL F n) x) y) z = F x y z := at3_cube hx hy hz
    by_cases h1 : F x y z = 0
    ·simp (maxSteps := 10000000) (disch := first | assumption | omega) only [go_sem, ↓reduceIte, Nat.reduceEqDiff, reduceCtorEq, Nat.reduceAdd, Nat.reduceMul, Nat.reduceLeDiff, zc, Int.reduceToNat, s10, s11, s12, s3, s17, s18, s19, s5, s24, s25, s26, hz', hz, lm, lX, lr, v1, eq_true h1, undef]
     refine ⟨i64c (by omega), fun z' h => ?_⟩
     rcases Nat.lt_or_ge z' z with h' | h'
     ·exact qz z' h'
     ·rw [show z' = z by omega]; exact fun _ => h1
    ·rcases Nat.eq_zero_or_pos x with x0 | x0
     ·have x0' : (x : Int) = 0 := by omega
      simp (maxSteps := 10000000) (disch := first | assumption | omega) only [go_sem, ↓reduceIte, Nat.reduceEqDiff, reduceCtorEq, Nat.reduceAdd, Nat.reduceMul, Nat.reduceLeDiff, zc, Int.reduceToNat, s10, s11, s12, s3, s17, s18, s19, s5, s24, s25, s26, hz', hz, lm, lX, lr, v1, eq_false h1, eq_true x0', undef]
      refine Yab ?_
      exact bool_false ht fun h => h1 (h x hx y hy z hz (.inl x0))
     ·have x0' : ¬ (x : Int) = 0 := by omega
      rcases Nat.eq_zero_or_pos y with y0 | y0
      ·have y0' : (y : Int) = 0 := by omega
       simp (maxSteps := 10000000) (disch := first | assumption | omega) only [go_sem, ↓reduceIte, Nat.reduceEqDiff, reduceCtorEq, Nat.reduceAdd, Nat.reduceMul, Nat.reduceLeDiff, zc, Int.reduceToNat, s10, s11, s12, s3, s17, s18, s19, s5, s24, s25, s26, hz', hz, lm, lX, lr, v1, eq_false h1, eq_false x0', eq_true y0', undef]
       refine Yab ?_
       exact bool_false ht fun h => h1 (h x hx y hy z hz (.inr (.inl y0)))
      ·have y0' : ¬ (y : Int) = 0 := by omega
       rcases Nat.eq_zero_or_pos z with z0 | z0
       ·have z0' : (z : Int) = 0 := by omega
        simp (maxSteps := 10000000) (disch := first | assumption | omega) only [go_sem, ↓reduceIte, Nat.reduceEqDiff, reduceCtorEq, Nat.reduceAdd, Nat.reduceMul, Nat.reduceLeDiff, zc, Int.reduceToNat, s10, s11, s12, s3, s17, s18, s19, s5, s24, s25, s26, hz', hz, lm, lX, lr, v1, eq_false h1, eq_false x0', eq_false y0', eq_true z0', undef]
        refine Yab ?_
        exact bool_false ht fun h => h1 (h x hx y hy z hz (.inr (.inr z0)))
       ·have z0' : ¬ (z : Int) = 0 := by omega
        simp (maxSteps := 10000000) (disch := first | assumption | omega) only [go_sem, ↓reduceIte, Nat.reduceEqDiff, reduceCtorEq, Nat.reduceAdd, Nat.reduceMul, Nat.reduceLeDiff, zc, Int.reduceToNat, s10, s11, s12, s3, s17, s18, s19, s5, s24, s25, s26, hz', hz, lm, lX, lr, v1, eq_false h1, eq_false x0', eq_false y0', eq_false z0', undef]
        refine ⟨i64c (by omega), fun z' h => ?_⟩
        rcases Nat.lt_or_ge z' z with h' | h'
        ·exact qz z' h'
        ·rw [show z' = z by omega]; exact fun h => by omega
   ·rintro sl ro gn ⟨s10, s11, s12, s3, s17, s18, s19, s5, s24, s25, s26, qz⟩
    dsimp only at s10 s11 s12 s3 s17 s18 s19 s5 s24 s25 s26
    have hz' : ¬ ((n : Nat) : Int) < (n : Nat) := by omega
    simp (maxSteps := 10000000) (disch := first | assumption | omega) only [go_sem, ↓reduceIte, Nat.reduceEqDiff, reduceCtorEq, Nat.reduceAdd, Nat.reduceMul, Nat.reduceLeDiff, zc, Int.reduceToNat, s10, s11, s12, s3, s17, s18, s19, s5, s24, s25, s26, hz']
    refine ⟨i64c (by omega), fun y' h => ?_⟩
    rcases Nat.lt_or_ge y' y with h' | h'
    ·exact qy y' h'
    ·rw [show y' = y by omega]; exact qz
  ·rintro sl ro gn ⟨s10, s11, s12, s3, s17, s18, s19, qy⟩
   dsimp only at s10 s11 s12 s3 s17 s18 s19
   have hy' : ¬ ((n : Nat) : Int) < (n : Nat) := by omega
   simp (maxSteps := 10000000) (disch := first | assumption | omega) only [go_sem, ↓reduceIte, Nat.reduceEqDiff, reduceCtorEq, Nat.reduceAdd, Nat.reduceMul, Nat.reduceLeDiff, zc, Int.reduceToNat, s10, s11, s12, s3, s17, s18, s19, hy']
   refine ⟨i64c (by omega), fun y' h => ?_⟩
   rcases Nat.lt_or_ge y' x with h' | h'
   ·exact q y' h'
   ·rw [show y' = x by omega]; exact qy
 ·rintro sl ro gn ⟨s10, s11, s12, q⟩
  dsimp only at s10 s11 s12
  have hx' : ¬ ((n : Nat) : Int) < (n : Nat) := by omega
  simp (maxSteps := 10000000) (disch := first | assumption | omega) only [go_sem, ↓reduceIte, Nat.reduceEqDiff, reduceCtorEq, Nat.reduceAdd, Nat.reduceMul, Nat.reduceLeDiff, zc, Int.reduceToNat, s10, s11, s12, hx']
  refine Yab ?_
  exact (ht.2 q).symm
theorem cRest {T : List (List (List Int))} (ho : isL o O) (hc : isLLL c T) (hm : 1 ≤ M ∧ M ≤ 1048576) {z : Int} (hz : -4611686018427387904 < z ∧ z < 4611686018427387904) : CallOK Tryz.prog 77 [.agg [o, i64 M, c], i64 z] (i64 (z % M)) := by
 have hm0 : ¬ M = 0 := by omega
 obtain ⟨e1, e2, e3⟩ := tmod_rest (n := z) (M := M) (by omega)
 refine call_of (fn := Tryz.f77) (code := bodyOf Tryz.f77) Tryz.func77 rfl (by kernel_rfl) (rfl) ?_
 intro sl hs
 have s0 : sl 0 = .agg [o, i64 M, c] := hs 0
 have s1 : sl 1 = i64 z := hs 1
 dsimp only [Tryz.f77, bodyOf, Option.getD]
 refine Yac ?_
 refine FIN_of (by kernel_rfl) ?_
 simp (maxSteps := 10000000) (disch := first | assumption | omega) only [go_sem, ↓reduceIte, Nat.reduceEqDiff, reduceCtorEq, Nat.reduceAdd, Nat.reduceMul, Nat.reduceLeDiff, zc, Int.reduceToNat, s0, s1, e1]
 exact Yad
theorem cPlus {T : List (List (List Int))} (hc : isLLL c T) (hG : GrpP O) {x y : Nat} (hx : x < 4294967296) (hy : y < 4294967296) : CallOK Tryz.prog 76 [.agg [immL O, i64 M, c], i64 (x : Int), i64 (y : Int)] (i64 (adN O x y : Int)) := by
 have ha := cAddI hG (x := x) (y := y) (by omega) (by omega)
 rw [(hG.adN x y).1] at ha
 have ho := isL_imm O
 have hsz := hG.sz
 have hlt := (hG.adN x y).2
 refine call_of (fn := Tryz.f76) (code := bodyOf Tryz.f76) Tryz.func76 rfl (by kernel_rfl) (rfl) ?_
 intro sl hs
 have s0 : sl 0 = .agg [immL O, i64 M, c] := hs 0
 have s1 : sl 1 = i64 (x : Int) := hs 1
 have s2 : sl 2 = i64 (y : Int) := hs 2
 dsimp only [Tryz.f76, bodyOf, Option.getD]
 refine Yae ?_
 refine CLL_pure _ ha PUt rfl rfl ?_
 refine Yae ?_
 exact Yad
set_option maxHeartbeats 8000000 in
theorem cFaultI (ho : isL o O) (hO : O.length ≤ 6) (hc : isLLL c (cubeL F n)) (hs : ShC O M F n) : CallOK Tryz.prog 44 [.agg [o, i64 M, c]] (optL (ft17 O M F n)) := by
 have lX : (cubeL F n).length = n := zfe _ _
 have hG := hs.g hO
 have hm := hs.m
 have n8 := hs.n8
 have he := hs.e
 have hb := hs.b
 have hm0 : ¬ M = 0 := by omega
 have hal : ∀ x, x < n → ∀ y, y < n → CallOK Tryz.prog 76 [.agg [immL O, i64 M, c], i64 (x : Int), i64 (y : Int)] (i64 (adN O x y : Int)) := fun x hx y hy => cPlus hc hG (by omega) (by omega)
 have hlt : ∀ x y, adN O x y < n := fun x y => by have := (hG.adN x y).2; omega
 obtain rfl := isL_ne ho hs.o.1
 refine call_of (fn := Tryz.f44) (code := bodyOf Tryz.f44) Tryz.func44 rfl (by kernel_rfl) (noRef_opt _) ?_
 intro sl hs
 have s0 : sl 0 = .agg [immL O, i64 M, c] := hs 0
 dsimp only [Tryz.f44, bodyOf, Option.getD]
 refine Yag ?_
 refine WK_for (fun x st => st.sl 1 = .ptr 4096 1 [] 0 ∧ st.ro 4096 1 = some (.bx [immL O, i64 M, c]) ∧ st.sl 3 = c ∧ st.sl 12 = i64 (n : Int) ∧ st.sl 13 = i64 (x : Int) ∧ (∀ x', x' < x → (fnd n fun y => fnd n fun z => fnd n fun t => if cyE O F x' y z t % M = 0 then none else some (l4 x' y z t)) = none)) n ?_ ?_ ?_
 ·refine Yaz ?_
  exact ⟨rfl, fun x' h => absurd h (Nat.not_lt_zero _)⟩
 ·rintro x sl ro gn hx ⟨s1, r4096, s3, s12, s13, q⟩
  dsimp only at s1 r4096 s3 s12 s13
  have hx' : (x : Int) < (n : Nat) := by omega
  have ix := isLLL_mat hc (k := x) (by omega)
  have mx := cube_row F hx
  simp (maxSteps := 10000000) (disch := first | assumption | omega) only [go_sem, ↓reduceIte, Nat.reduceEqDiff, reduceCtorEq, Nat.reduceAdd, Nat.reduceMul, Nat.reduceLeDiff, zc, Int.reduceToNat, s1, r4096, s3, s12, s13, hx', hx, lX]
  refine WK_for (fun y st => st.sl 1 = .ptr 4096 1 [] 0 ∧ st.ro 4096 1 = some (.bx [immL O, i64 M, c]) ∧ st.sl 3 = c ∧ st.sl 12 = i64 (n : Int) ∧ st.sl 13 = i64 (x : Int) ∧ st.sl 4 = i64 (x : Int) ∧ st.sl 17 = i64 (n : Int) ∧ st.sl 18 = i64 (y : Int) ∧ (∀ y', y' < y → (fnd n fun z => fnd n fun t => if cyE O F x y' z t % M = 0 then none else some (l4 x y' z t)) = none)) n ?_ ?_ ?_
  ·simp only [↓za, ↓reduceIte, Nat.reduceEqDiff, zb, reduceCtorEq, rws_zero, s1, r4096, s3, s12, s13, hx', hx]
   exact ⟨rfl, fun x' h => absurd h (Nat.not_lt_zero _)⟩
  ·rintro y sl ro gn hy ⟨s1, r4096, s3, s12, s13, s4, s17, s18, qy⟩
   dsimp only at s1 r4096 s3 s12 s13 s4 s17 s18
   have hy' : (y : Int) < (n : Nat) := by omega
   have iy := isLLL_mat hc (k := y) (by omega)
   have my := cube_row F hy
   have ixy := isLL_row ix (k := y) (by omega)
   have mxy := cube_rr F hx hy
   have hxy := hlt x y
   have iX := isLLL_mat hc (k := adN O x y) (by omega)
   have mX := cube_row F hxy
   simp (maxSteps := 10000000) (disch := first | assumption | omega) only [go_sem, ↓reduceIte, Nat.reduceEqDiff, reduceCtorEq, Nat.reduceAdd, Nat.reduceMul, Nat.reduceLeDiff, zc, Int.reduceToNat, s1, r4096, s3, s12, s13, s4, s17, s18, hy', hy, lX]
   refine WK_for (fun z st => st.sl 1 = .ptr 4096 1 [] 0 ∧ st.ro 4096 1 = some (.bx [immL O, i64 M, c]) ∧ st.sl 3 = c ∧ st.sl 12 = i64 (n : Int) ∧ st.sl 13 = i64 (x : Int) ∧ st.sl 4 = i64 (x : Int) ∧ st.sl 17 = i64 (n : Int) ∧ st.sl 18 = i64 (y : Int) ∧ st.sl 5 = i64 (y : Int) ∧ st.sl 22 = i64 (n : Int) ∧ st.sl 23 = i64 (z : Int) ∧ (∀ z', z' < z → (fnd n fun t => if cyE O F x y z' t % M = 0 then none else some (l4 x y z' t)) = none)) n ?_ ?_ ?_
   ·simp only [↓za, ↓reduceIte, Nat.reduceEqDiff, zb, reduceCtorEq, rws_zero, s1, r4096, s3, s12, s13, s4, s17, s18, hy', hy]
    exact ⟨rfl, fun x' h => absurd h (Nat.not_lt_zero _)⟩
   ·rintro z sl ro gn hz ⟨s1, r4096, s3, s12, s13, s4, s17, s18, s5, s22, s23, qz⟩
    dsimp only at s1 r4096 s3 s12 s13 s4 s17 s18 s5 s22 s23
    have hz' : (z : Int) < (n : Nat) := by omega
    have hyz := hlt y z
    have iyz := isLL_row iy (k := z) (by omega)
    have myz := cube_rr F hy hz
    have iXz := isLL_row iX (k := z) (by omega)
    have mXz := cube_rr F hxy hz
    have ixY := isLL_row ix (k := adN O y z) (by omega)
    have mxY := cube_rr F hx hyz
    have v5 : atI (row (mat (cubeL F n) x) y) z = F x y z := at3_cube hx hy hz
    have b5 := hb x hx y hy z hz
    simp (maxSteps := 10000000) (disch := first | assumption | omega) only [go_sem, ↓reduceIte, Nat.reduceEqDiff, reduceCtorEq, Nat.reduceAdd, Nat.reduceMul, Nat.reduceLeDiff, zc, Int.reduceToNat, s1, r4096, s3, s12, s13, s4, s17, s18, s5, s22, s23, hz', hz, lX]
    refine WK_for (fun t st => st.sl 1 = .ptr 4096 1 [] 0 ∧ st.ro 4096 1 = some (.bx [immL O, i64 M, c]) ∧ st.sl 3 = c ∧ st.sl 12 = i64 (n : Int) ∧ st.sl 13 = i64 (x : Int) ∧ st.sl 4 = i64 (x : Int) ∧ st.sl 17 = i64 (n : Int) ∧ st.sl 18 = i64 (y : Int) ∧ st.sl 5 = i64 (y : Int) ∧ st.sl 22 = i64 (n : Int) ∧ st.sl 23 = i64 (z : Int) ∧ st.sl 6 = i64 (z : Int) ∧ st.sl 27 = i64 (n : Int) ∧ st.sl 28 = i64 (t : Int) ∧ (∀ t', t' < t → (if cyE O F x y z t' % M = 0 then none else some (l4 x y z t')) = (none : Option (List Int)))) n ?_ ?_ ?_
    ·simp only [↓za, ↓reduceIte, Nat.reduceEqDiff, zb, reduceCtorEq, rws_zero, s1, r4096, s3, s12, s13, s4, s17, s18, s5, s22, s23, hz', hz]
     exact ⟨rfl, fun x' h => absurd h (Nat.not_lt_zero _)⟩
    ·rintro t sl ro gn ht ⟨s1, r4096, s3, s12, s13, s4, s17, s18, s5, s22, s23, s6, s27, s28, qt⟩
     dsimp only at s1 r4096 s3 s12 s13 s4 s17 s18 s5 s22 s23 s6 s27 s28
     have ht' : (t : Int) < (n : Nat) := by omega
     have hzt := hlt z t
     have v1 : atI (row (mat (cubeL F n) y) z) t = F y z t := at3_cube hy hz ht
     have v2 : atI (row (mat (cubeL F n) (adN O x y)) z) t = F (adN O x y) z t := at3_cube hxy hz ht
     have v3 : atI (row (mat (cubeL F n) x) (adN O y z)) t = F x (adN O y z) t := at3_cube hx hyz ht
     have v4 : atI (row (mat (cubeL F n) x) y) (adN O z t) = F x y (adN O z t) := at3_cube hx hy hzt
     have b1 := hb y hy z hz t ht
     have b2 := hb _ hxy z hz t ht
     have b3 := hb x hx _ hyz t ht
     have b4 := hb x hx y hy _ hzt
     simp (maxSteps := 10000000) (disch := first | assumption | omega) only [go_sem, ↓reduceIte, Nat.reduceEqDiff, reduceCtorEq, Nat.reduceAdd, Nat.reduceMul, Nat.reduceLeDiff, zc, Int.reduceToNat, s1, r4096, s3, s12, s13, s4, s17, s18, s5, s22, s23, s6, s27, s28, ht', ht, v1, my, myz, lX]
     refine CLLD_pure _ (hal x hx y hy) PUt rfl ?_
     simp (maxSteps := 10000000) (disch := first | assumption | omega) only [go_sem, ↓reduceIte, Nat.reduceEqDiff, reduceCtorEq, Nat.reduceAdd, Nat.reduceMul, Nat.reduceLeDiff, zc, Int.reduceToNat, s1, r4096, s3, s12, s13, s4, s17, s18, s5, s22, s23, s6, s27, s28, ht', ht, v2, mX, mXz, lX]
     refine CLLD_pure _ (hal y hy z hz) PUt rfl ?_
     simp (maxSteps := 10000000) (disch := first | assumption | omega) only [go_sem, ↓reduceIte, Nat.reduceEqDiff, reduceCtorEq, Nat.reduceAdd, Nat.reduceMul, Nat.reduceLeDiff, zc, Int.reduceToNat, s1, r4096, s3, s12, s13, s4, s17, s18, s5, s22, s23, s6, s27, s28, ht', ht, v3, mx, mxY, lX]
     refine CLLD_pure _ (hal z hz t ht) PUt rfl ?_
     simp (maxSteps := 10000000) (disch := first | assumption | omega) only [go_sem, ↓reduceIte, Nat.reduceEqDiff, reduceCtorEq, Nat.reduceAdd, Nat.reduceMul, Nat.reduceLeDiff, zc, Int.reduceToNat, s1, r4096, s3, s12, s13, s4, s17, s18, s5, s22, s23, s6, s27, s28, ht', ht, v4, v5, mx, mxy, lX]
     refine FIN_of (by kernel_rfl) ?_
     have cr := cRest (M := M) (z := F y z t - F (adN O x y) z t + F x (adN O y z) t - F x y (adN O z t) + F x y z) (isL_imm O) hc (by omega) (by omega)
     simp (maxSteps := 10000000) (disch := first | assumption | omega) only [go_sem, ↓reduceIte, Nat.reduceEqDiff, reduceCtorEq, Nat.reduceAdd, Nat.reduceMul, Nat.reduceLeDiff, zc, Int.reduceToNat, s1, r4096, s3, s12, s13, s4, s17, s18, s5, s22, s23, s6, s27, s28, ht', ht]
     refine CLL_pure _ cr PUt rfl rfl ?_
     by_cases h0 : cyE O F x y z t % M = 0
     ·have et : (F y z t - F (adN O x y) z t + F x (adN O y z) t - F x y (adN O z t) + F x y z) % M = 0 := h0
      simp (maxSteps := 10000000) (disch := first | assumption | omega) only [go_sem, ↓reduceIte, Nat.reduceEqDiff, reduceCtorEq, Nat.reduceAdd, Nat.reduceMul, Nat.reduceLeDiff, zc, Int.reduceToNat, s1, r4096, s3, s12, s13, s4, s17, s18, s5, s22, s23, s6, s27, s28, ht', ht, eq_true et]
      refine ⟨i64c (by omega), fun t' h => ?_⟩
      rcases Nat.lt_or_ge t' t with h' | h'
      ·exact qt t' h'
      ·rw [show t' = t by omega]; exact if_pos h0
     ·have et : ¬ (F y z t - F (adN O x y) z t + F x (adN O y z) t - F x y (adN O z t) + F x y z) % M = 0 := h0
      simp (maxSteps := 10000000) (disch := first | assumption | omega) only [go_sem, ↓reduceIte, Nat.reduceEqDiff, reduceCtorEq, Nat.reduceAdd, Nat.reduceMul, Nat.reduceLeDiff, zc, Int.reduceToNat, s1, r4096, s3, s12, s13, s4, s17, s18, s5, s22, s23, s6, s27, s28, ht', ht, eq_false et]
      refine Yab ?_
      exact optL_some (fnd_some (fnd_some (fnd_some (fnd_some (if_neg h0) qt ht) qz hz) qy hy) q hx)
    ·rintro sl ro gn ⟨s1, r4096, s3, s12, s13, s4, s17, s18, s5, s22, s23, s6, s27, s28, qt⟩
     dsimp only at s1 r4096 s3 s12 s13 s4 s17 s18 s5 s22 s23 s6 s27 s28
     have ht' : ¬ ((n : Nat) : Int) < (n : Nat) := by omega
     simp (maxSteps := 10000000) (disch := first | assumption | omega) only [go_sem, ↓reduceIte, Nat.reduceEqDiff, reduceCtorEq, Nat.reduceAdd, Nat.reduceMul, Nat.reduceLeDiff, zc, Int.reduceToNat, s1, r4096, s3, s12, s13, s4, s17, s18, s5, s22, s23, s6, s27, s28, ht']
     refine ⟨i64c (by omega), fun t' h => ?_⟩
     rcases Nat.lt_or_ge t' z with h' | h'
     ·exact qz t' h'
     ·rw [show t' = z by omega]; exact fnd_none.2 qt
   ·rintro sl ro gn ⟨s1, r4096, s3, s12, s13, s4, s17, s18, s5, s22, s23, qz⟩
    dsimp only at s1 r4096 s3 s12 s13 s4 s17 s18 s5 s22 s23
    have hz' : ¬ ((n : Nat) : Int) < (n : Nat) := by omega
    simp (maxSteps := 10000000) (disch := first | assumption | omega) only [go_sem, ↓reduceIte, Nat.reduceEqDiff, reduceCtorEq, Nat.reduceAdd, Nat.reduceMul, Nat.reduceLeDiff, zc, Int.reduceToNat, s1, r4096, s3, s12, s13, s4, s17, s18, s5, s22, s23, hz']
    refine ⟨i64c (by omega), fun t' h => ?_⟩
    rcases Nat.lt_or_ge t' y with h' | h'
    ·exact qy t' h'
    ·rw [show t' = y by omega]; exact fnd_none.2 qz
  ·rintro sl ro gn ⟨s1, r4096, s3, s12, s13, s4, s17, s18, qy⟩
   dsimp only at s1 r4096 s3 s12 s13 s4 s17 s18
   have hy' : ¬ ((n : Nat) : Int) < (n : Nat) := by omega
   simp (maxSteps := 10000000) (disch := first | assumption | omega) only [go_sem, ↓reduceIte, Nat.reduceEqDiff, reduceCtorEq, Nat.reduceAdd, Nat.reduceMul, Nat.reduceLeDiff, zc, Int.reduceToNat, s1, r4096, s3, s12, s13, s4, s17, s18, hy']
   refine ⟨i64c (by omega), fun t' h => ?_⟩
   rcases Nat.lt_or_ge t' x with h' | h'
   ·exact q t' h'
   ·rw [show t' = x by omega]; exact fnd_none.2 qy
 ·rintro sl ro gn ⟨s1, r4096, s3, s12, s13, q⟩
  dsimp only at s1 r4096 s3 s12 s13
  have hx' : ¬ ((n : Nat) : Int) < (n : Nat) := by omega
  simp (maxSteps := 10000000) (disch := first | assumption | omega) only [go_sem, ↓reduceIte, Nat.reduceEqDiff, reduceCtorEq, Nat.reduceAdd, Nat.reduceMul, Nat.reduceLeDiff, zc, Int.reduceToNat, s1, r4096, s3, s12, s13, hx']
  refine Yab ?_
  exact optL_none (fnd_none.2 q)
end
end Go.Proofs.YtmchdjiigfiabaaGreat
/- Draws of the law on braidings, III. -/
namespace Go.Proofs.YtmchdjiigfiabaaGreat
open Go.RowKit
set_option maxRecDepth 1000000
def LvP (r : AV) (ro : Ro) (gn : Nat → Nat) : Prop := ∃ (O : List Int) (M : Int) (so uo sq uq k : Nat) (G : Nat → Nat → Int), r = .tup [.ref so uo [] 0 O.length, i64 M, .ref sq uq [] 0 k] ∧ uo ≤ gn so ∧ uq ≤ gn sq ∧ ro so uo = some (rowL O) ∧ ro sq uq = some (matA G k k) ∧ O.length ≤ 6 ∧ (0 ≤ M ∧ M ≤ 2000) ∧ k ≤ 8
theorem RETS_2 {k1 k2 : Nat} {Po : AV → Ro → (Nat → Nat) → Prop} {sl : Nat → AV} {ro : Ro} {gn : Nat → Nat} {x y : AV} (h1 : sl k1 = x) (h2 : sl k2 = y) (hp : Po (.tup [x, y]) ro gn) : RETS ti0 [.tmp k1, .tmp k2] Po .ret ⟨sl, ro, gn⟩ := by
 subst h1 h2
 exact ⟨.inr rfl, [sl k1, sl k2], rfl, hp⟩
def WCo : List Nat := [8288, 8256, 24608, 8192, 24576, 45072, 49232, 53280, 16400, 36912, 45088, 53312]
section
variable {a : AV} {bs : List Int} {rb : Ro} {gb : Nat → Nat}
def WBi : List Nat := 20544 :: 41056 :: 49184 :: 57376 :: 57408 :: 8256 :: 24608 :: 16400 :: WCh
end
end Go.Proofs.YtmchdjiigfiabaaGreat
/- What braidings are: the program. -/
namespace Go.Proofs.YtmchdjiigfiabaaGreat
open Go.RowKit
set_option maxRecDepth 1000000
section
variable {o c v : AV} {O : List Int} {M : Int} {F : Nat → Nat → Nat → Int} {n : Nat} {G : Nat → Nat → Int} {k l : Nat}
theorem ft17_len {lst : List Int} (hf : ft17 O M F n = some lst) : lst.length = 4 := by
 obtain ⟨x, hx, e1⟩ := fnd_ex hf
 obtain ⟨y, hy, e2⟩ := fnd_ex e1
 obtain ⟨z, hz, e3⟩ := fnd_ex e2
 obtain ⟨u, hu, e4⟩ := fnd_ex e3
 split at e4
 ·cases e4
 ·cases e4; rfl
set_option maxHeartbeats 4000000 in
theorem cIsCoI (ho : isL o O) (hO : O.length ≤ 6) (hc : isLLL c (cubeL F n)) (h16 : n ≤ 16) (hM : -1048576 ≤ M ∧ M ≤ 1048576) {t : Bool} (ht : t = true ↔ CoP O M F n) : CallOK Tryz.prog 18 [.agg [o, i64 M, c]] (bo t) := by
 by_cases h1 : ShC O M F n
 ·have c1 := cCoch (t := true) ho hO hc h16 hM (by simp [h1])
  by_cases h2 : NmC F n
  ·have c2 := cNormI (M := M) (t := true) ho hc h1.pos h16 (by simp [h2])
   have c3 := cFaultI ho hO hc h1
   rcases hf : ft17 O M F n with _ | lst
   ·rw [hf] at c3
    change CallOK Tryz.prog _ _ nilA at c3
    refine call_of (fn := Tryz.f18) (code := bodyOf Tryz.f18) Tryz.func18 rfl (by kernel_rfl) (rfl) ?_
    intro sl hs
    have s0 : sl 0 = .agg [o, i64 M, c] := hs 0
    dsimp only [Tryz.f18, bodyOf, Option.getD]
    refine Yaa ?_
    refine CLL_pure _ c1 PUt rfl rfl ?_
    refine Yaa ?_
    refine CLL_pure _ c2 PUt rfl rfl ?_
    refine Yaa ?_
    refine CLL_pure _ c3 PUt rfl rfl ?_
    refine Yaa ?_
    refine Yab ?_
    exact (ht.2 ⟨h1, h2, hf⟩).symm
   ·have hl := ft17_len hf
    rw [hf] at c3
    change CallOK Tryz.prog _ _ (rowL lst) at c3
    refine call_of (fn := Tryz.f18) (code := bodyOf Tryz.f18) Tryz.func18 rfl (by kernel_rfl) (rfl) ?_
    intro sl hs
    have s0 : sl 0 = .agg [o, i64 M, c] := hs 0
    dsimp only [Tryz.f18, bodyOf, Option.getD]
    refine Yaa ?_
    refine CLL_pure _ c1 PUt rfl rfl ?_
    refine Yaa ?_
    refine CLL_pure _ c2 PUt rfl rfl ?_
    refine Yaa ?_
    refine CLL_pure _ c3 PUt rfl rfl ?_
    refine Ycr ?_
    refine Yab ?_
    exact bool_false ht fun h => by have := h.f; rw [hf] at this; cases this
  ·have c2 := cNormI (M := M) (t := false) ho hc h1.pos h16 (by simp [h2])
   refine call_of (fn := Tryz.f18) (code := bodyOf Tryz.f18) Tryz.func18 rfl (by kernel_rfl) (rfl) ?_
   intro sl hs
   have s0 : sl 0 = .agg [o, i64 M, c] := hs 0
   dsimp only [Tryz.f18, bodyOf, Option.getD]
   refine Yaa ?_
   refine CLL_pure _ c1 PUt rfl rfl ?_
   refine Yaa ?_
   refine CLL_pure _ c2 PUt rfl rfl ?_
   refine Yaw ?_
   refine Yab ?_
   exact bool_false ht fun h => h2 h.nm
 ·have c1 := cCoch (t := false) ho hO hc h16 hM (by simp [h1])
  refine call_of (fn := Tryz.f18) (code := bodyOf Tryz.f18) Tryz.func18 rfl (by kernel_rfl) (rfl) ?_
  intro sl hs
  have s0 : sl 0 = .agg [o, i64 M, c] := hs 0
  dsimp only [Tryz.f18, bodyOf, Option.getD]
  refine Yaa ?_
  refine CLL_pure _ c1 PUt rfl rfl ?_
  refine Yaw ?_
  refine Yab ?_
  exact bool_false ht fun h => h1 h.s
theorem GrP2_mat : GrP2 (matL G k l) n M ↔ k = n ∧ ∀ x, x < n → l = n ∧ ∀ y, y < n → 0 ≤ G x y ∧ G x y ≤ M - 1 := by
 unfold GrP2
 rw [matL_len2]
 constructor
 ·rintro ⟨rfl, h⟩
  refine ⟨rfl, fun x hx => ?_⟩
  have h1 := h x hx
  rw [matL_row2 hx] at h1
  refine ⟨h1.1, fun y hy => ?_⟩
  have := h1.2 y hy
  rwa [matL_at hx (by omega)] at this
 ·rintro ⟨rfl, h⟩
  refine ⟨rfl, fun x hx => ?_⟩
  have h1 := h x hx
  refine ⟨by rw [matL_row2 hx]; exact h1.1, fun y hy => ?_⟩
  rw [matL_at hx (by omega)]
  exact h1.2 y hy
set_option maxHeartbeats 4000000 in
theorem cPairI (hv : isLL v (matL G k l)) (h16 : n ≤ 16 ∧ k ≤ 16 ∧ l ≤ 16) (hM : -1048576 ≤ M ∧ M ≤ 1048576) {t : Bool} (ht : t = true ↔ PrP n M G k l) : CallOK Tryz.prog 48 [v, i64 (n : Int), i64 M] (bo t) := by
 have lX := matL_len2 G k l
 have hxk : k ≤ maxN := Nat.le_trans h16.2.1 (by decide)
 have hxl : l ≤ maxN := Nat.le_trans h16.2.2 (by decide)
 have cg := fun t' (h' : t' = true ↔ GrP2 (matL G k l) n M) => cGrid hv (by omega) (fun j hj => by rw [matL_row2 (by omega)]; exact hxl) hM h'
 by_cases h1 : GrP2 (matL G k l) n M
 ·have c1 := cg true (by simp [h1])
  obtain ⟨rfl, h2⟩ := GrP2_mat.1 h1
  refine call_of (fn := Tryz.f48) (code := bodyOf Tryz.f48) Tryz.func48 rfl (by kernel_rfl) (rfl) ?_
  intro sl hs
  have s0 : sl 0 = v := hs 0
  have s1 : sl 1 = i64 (k : Int) := hs 1
  have s2 : sl 2 = i64 M := hs 2
  dsimp only [Tryz.f48, bodyOf, Option.getD]
  refine Yae ?_
  refine CLL_pure _ c1 PUt rfl rfl ?_
  simp (maxSteps := 10000000) (disch := first | assumption | omega) only [go_sem, ↓reduceIte, Nat.reduceEqDiff, reduceCtorEq, Nat.reduceAdd, Nat.reduceMul, Nat.reduceLeDiff, zc, Int.reduceToNat, s0, s1, s2, lX]
  refine WK_for (fun x st => st.sl 0 = v ∧ st.sl 14 = i64 (k : Int) ∧ st.sl 15 = i64 (x : Int) ∧ (∀ x', x' < x → G 0 x' = 0 ∧ G x' 0 = 0)) k ?_ ?_ ?_
  ·refine Ybv ?_
   exact ⟨rfl, fun x' h => absurd h (Nat.not_lt_zero _)⟩
  ·rintro x sl ro gn hx ⟨s0, s14, s15, q⟩
   dsimp only at s0 s14 s15
   have hx' : (x : Int) < (k : Nat) := by omega
   have hl : l = k := (h2 x hx).1
   have hj := isLL_row hv (k := x) (by omega)
   have hj0 := isLL_row hv (k := 0) (by omega)
   have lr := matL_row2 (G := G) (l := l) hx
   have lr0 := matL_row2 (G := G) (l := l) (show 0 < k by omega)
   have v1 : atI (row (matL G k l) 0) x = G 0 x := matL_at (by omega) (by omega)
   have v2 : atI (row (matL G k l) x) 0 = G x 0 := matL_at (by omega) (by omega)
   have hxl' : x < l := by omega
   have h0l : 0 < l := by omega
   have h0k : 0 < k := by omega
   by_cases e1 : G 0 x = 0
   ·by_cases e2 : G x 0 = 0
    ·simp (maxSteps := 10000000) (disch := first | assumption | omega) only [go_sem, ↓reduceIte, Nat.reduceEqDiff, reduceCtorEq, Nat.reduceAdd, Nat.reduceMul, Nat.reduceLeDiff, zc, Int.reduceToNat, s0, s14, s15, hx', hx, lX, lr, lr0, v1, v2, eq_true e1, eq_true e2]
     refine ⟨i64c (by omega), fun z' h => ?_⟩
     rcases Nat.lt_or_ge z' x with h' | h'
     ·exact q z' h'
     ·rw [show z' = x by omega]; exact ⟨e1, e2⟩
    ·simp (maxSteps := 10000000) (disch := first | assumption | omega) only [go_sem, ↓reduceIte, Nat.reduceEqDiff, reduceCtorEq, Nat.reduceAdd, Nat.reduceMul, Nat.reduceLeDiff, zc, Int.reduceToNat, s0, s14, s15, hx', hx, lX, lr, lr0, v1, v2, eq_true e1, eq_false e2]
     refine Yab ?_
     exact bool_false ht fun h => e2 (((h.2 x hx).2 0 (by omega)).2 (.inr rfl))
   ·simp (maxSteps := 10000000) (disch := first | assumption | omega) only [go_sem, ↓reduceIte, Nat.reduceEqDiff, reduceCtorEq, Nat.reduceAdd, Nat.reduceMul, Nat.reduceLeDiff, zc, Int.reduceToNat, s0, s14, s15, hx', hx, lX, lr, lr0, v1, v2, eq_false e1, undef]
    refine Yab ?_
    exact bool_false ht fun h => e1 (((h.2 0 (by omega)).2 x hx).2 (.inl rfl))
  ·rintro sl ro gn ⟨s0, s14, s15, q⟩
   dsimp only at s0 s14 s15
   have hx' : ¬ ((k : Nat) : Int) < (k : Nat) := by omega
   simp (maxSteps := 10000000) (disch := first | assumption | omega) only [go_sem, ↓reduceIte, Nat.reduceEqDiff, reduceCtorEq, Nat.reduceAdd, Nat.reduceMul, Nat.reduceLeDiff, zc, Int.reduceToNat, s0, s14, s15, hx']
   refine Yab ?_
   refine (ht.2 ⟨rfl, fun x hx => ⟨(h2 x hx).1, fun y hy => ⟨(h2 x hx).2 y hy, ?_⟩⟩⟩).symm
   rintro (rfl | rfl)
   ·exact (q y hy).1
   ·exact (q x hx).2
 ·have c1 := cg false (by simp [h1])
  refine call_of (fn := Tryz.f48) (code := bodyOf Tryz.f48) Tryz.func48 rfl (by kernel_rfl) (rfl) ?_
  intro sl hs
  have s0 : sl 0 = v := hs 0
  have s1 : sl 1 = i64 (n : Int) := hs 1
  have s2 : sl 2 = i64 M := hs 2
  dsimp only [Tryz.f48, bodyOf, Option.getD]
  refine Yae ?_
  refine CLL_pure _ c1 PUt rfl rfl ?_
  refine Yae ?_
  refine Yab ?_
  exact bool_false ht fun h => h1 (GrP2_mat.2 ⟨h.1, fun x hx => ⟨(h.2 x hx).1, fun y hy => ((h.2 x hx).2 y hy).1⟩⟩)
theorem emod_sub0 {a b m : Int} : (a % m = b % m) ↔ (a - b) % m = 0 := Int.emod_eq_emod_iff_emod_sub_eq_zero
set_option maxHeartbeats 8000000 in
theorem cHolds1 (ho : isL o O) (hO : O.length ≤ 6) (hc : isLLL c (cubeL F n)) (hv : isLL v (matL G n n)) (hB : BsP O M F n G n n) {x y z : Nat} (hx : x < n) (hy : y < n) (hz : z < n) : CallOK Tryz.prog 61 [.agg [o, i64 M, c, v], i64 1, i64 (x : Int), i64 (y : Int), i64 (z : Int)] (bo (decide (b1E O F G x y z % M = 0))) := by
 have lX : (cubeL F n).length = n := zfe _ _
 have lV := matL_len2 G n n
 have hG := hB.w.s.g hO
 have hm := hB.w.s.m
 have n8 := hB.w.s.n8
 have he := hB.w.s.e
 have hb := hB.w.s.b
 have hm0 : ¬ M = 0 := by omega
 obtain rfl := isL_ne ho hB.w.s.o.1
 have ha := cPlus (M := M) hc hG (x := y) (y := z) (by omega) (by omega)
 have hyz : adN O y z < n := by have := (hG.adN y z).2; omega
 have ix := isLLL_mat hc (k := x) (by omega)
 have iy := isLLL_mat hc (k := y) (by omega)
 have mx := cube_row F hx
 have my := cube_row F hy
 have iyz := isLL_row iy (k := z) (by omega)
 have ixy := isLL_row ix (k := y) (by omega)
 have iyx := isLL_row iy (k := x) (by omega)
 have m1 := cube_rr F hy hz
 have m2 := cube_rr F hx hy
 have m3 := cube_rr F hy hx
 have jx := isLL_row hv (k := x) (by omega)
 have r1 := matL_row2 (G := G) (l := n) hx
 have v1 : atI (row (mat (cubeL F n) y) z) x = F y z x := at3_cube hy hz hx
 have v2 : atI (row (mat (cubeL F n) x) y) z = F x y z := at3_cube hx hy hz
 have v3 : atI (row (mat (cubeL F n) y) x) z = F y x z := at3_cube hy hx hz
 have v4 : atI (row (matL G n n) x) (adN O y z) = G x (adN O y z) := matL_at hx hyz
 have v5 : atI (row (matL G n n) x) z = G x z := matL_at hx hz
 have v6 : atI (row (matL G n n) x) y = G x y := matL_at hx hy
 have b1 := hb y hy z hz x hx
 have b2 := hb x hx y hy z hz
 have b3 := hb y hy x hx z hz
 have b4 := hB.p.rg hx hyz
 have b5 := hB.p.rg hx hz
 have b6 := hB.p.rg hx hy
 have c1 := cRest (M := M) (z := F y z x + G x (adN O y z) + F x y z) (isL_imm O) hc (by omega) (by omega)
 have c2 := cRest (M := M) (z := G x z + F y x z + G x y) (isL_imm O) hc (by omega) (by omega)
 refine call_of (fn := Tryz.f61) (code := bodyOf Tryz.f61) Tryz.func61 rfl (by kernel_rfl) (rfl) ?_
 intro sl hs
 have s0 : sl 0 = .agg [immL O, i64 M, c, v] := hs 0
 have s1 : sl 1 = i64 1 := hs 1
 have s2 : sl 2 = i64 (x : Int) := hs 2
 have s3 : sl 3 = i64 (y : Int) := hs 3
 have s4 : sl 4 = i64 (z : Int) := hs 4
 dsimp only [Tryz.f61, bodyOf, Option.getD]
 refine Yas ?_
 refine FIN_of (by kernel_rfl) ?_
 refine Yba ?_
 refine CLLD_pure _ ha PUt rfl ?_
 refine Yba ?_
 refine CLLD_pure _ c1 PUt rfl ?_
 refine Yba ?_
 refine CLLD_pure _ c2 PUt rfl ?_
 have et : ((F y z x + G x (adN O y z) + F x y z) % M = (G x z + F y x z + G x y) % M) = (b1E O F G x y z % M = 0) := by
  refine propext (emod_sub0.trans ?_)
  unfold b1E
  rw [show F y z x + G x (adN O y z) + F x y z - (G x z + F y x z + G x y) = F y z x + G x (adN O y z) + F x y z - G x z - F y x z - G x y by omega]
 refine Ybu ?_
 refine FIN_of (by kernel_rfl) ?_
 refine Yas ?_
 exact Yad
set_option maxHeartbeats 8000000 in
theorem cHolds2 (ho : isL o O) (hO : O.length ≤ 6) (hc : isLLL c (cubeL F n)) (hv : isLL v (matL G n n)) (hB : BsP O M F n G n n) {x y z : Nat} (hx : x < n) (hy : y < n) (hz : z < n) : CallOK Tryz.prog 61 [.agg [o, i64 M, c, v], i64 2, i64 (x : Int), i64 (y : Int), i64 (z : Int)] (bo (decide (b2E O F G x y z % M = 0))) := by
 have lX : (cubeL F n).length = n := zfe _ _
 have lV := matL_len2 G n n
 have hG := hB.w.s.g hO
 have hm := hB.w.s.m
 have n8 := hB.w.s.n8
 have he := hB.w.s.e
 have hb := hB.w.s.b
 have hm0 : ¬ M = 0 := by omega
 obtain rfl := isL_ne ho hB.w.s.o.1
 have ha := cPlus (M := M) hc hG (x := x) (y := y) (by omega) (by omega)
 have hxy : adN O x y < n := by have := (hG.adN x y).2; omega
 have ix := isLLL_mat hc (k := x) (by omega)
 have iz := isLLL_mat hc (k := z) (by omega)
 have mx := cube_row F hx
 have mz := cube_row F hz
 have izx := isLL_row iz (k := x) (by omega)
 have ixy := isLL_row ix (k := y) (by omega)
 have ixz := isLL_row ix (k := z) (by omega)
 have m1 := cube_rr F hz hx
 have m2 := cube_rr F hx hy
 have m3 := cube_rr F hx hz
 have jX := isLL_row hv (k := adN O x y) (by omega)
 have jx := isLL_row hv (k := x) (by omega)
 have jy := isLL_row hv (k := y) (by omega)
 have r1 := matL_row2 (G := G) (l := n) hx
 have r2 := matL_row2 (G := G) (l := n) hy
 have r3 := matL_row2 (G := G) (l := n) hxy
 have v1 : atI (row (mat (cubeL F n) z) x) y = F z x y := at3_cube hz hx hy
 have v2 : atI (row (mat (cubeL F n) x) y) z = F x y z := at3_cube hx hy hz
 have v3 : atI (row (mat (cubeL F n) x) z) y = F x z y := at3_cube hx hz hy
 have v4 : atI (row (matL G n n) (adN O x y)) z = G (adN O x y) z := matL_at hxy hz
 have v5 : atI (row (matL G n n) x) z = G x z := matL_at hx hz
 have v6 : atI (row (matL G n n) y) z = G y z := matL_at hy hz
 have b1 := hb z hz x hx y hy
 have b2 := hb x hx y hy z hz
 have b3 := hb x hx z hz y hy
 have b4 := hB.p.rg hxy hz
 have b5 := hB.p.rg hx hz
 have b6 := hB.p.rg hy hz
 have c1 := cRest (M := M) (z := G (adN O x y) z - F z x y - F x y z) (isL_imm O) hc (by omega) (by omega)
 have c2 := cRest (M := M) (z := G x z + G y z - F x z y) (isL_imm O) hc (by omega) (by omega)
 refine call_of (fn := Tryz.f61) (code := bodyOf Tryz.f61) Tryz.func61 rfl (by kernel_rfl) (rfl) ?_
 intro sl hs
 have s0 : sl 0 = .agg [immL O, i64 M, c, v] := hs 0
 have s1 : sl 1 = i64 2 := hs 1
 have s2 : sl 2 = i64 (x : Int) := hs 2
 have s3 : sl 3 = i64 (y : Int) := hs 3
 have s4 : sl 4 = i64 (z : Int) := hs 4
 dsimp only [Tryz.f61, bodyOf, Option.getD]
 refine Yas ?_
 refine FIN_of (by kernel_rfl) ?_
 refine Yay ?_
 refine CLLD_pure _ ha PUt rfl ?_
 refine Yay ?_
 refine CLLD_pure _ c1 PUt rfl ?_
 refine Yay ?_
 refine CLLD_pure _ c2 PUt rfl ?_
 have et : ((G (adN O x y) z - F z x y - F x y z) % M = (G x z + G y z - F x z y) % M) = (b2E O F G x y z % M = 0) := by
  refine propext (emod_sub0.trans ?_)
  unfold b2E
  rw [show G (adN O x y) z - F z x y - F x y z - (G x z + G y z - F x z y) = G (adN O x y) z - F z x y - F x y z - G x z - G y z + F x z y by omega]
 refine Ybu ?_
 refine FIN_of (by kernel_rfl) ?_
 refine Yas ?_
 exact Yad
end
end Go.Proofs.YtmchdjiigfiabaaGreat
/- What braidings are: the program, II. -/
namespace Go.Proofs.YtmchdjiigfiabaaGreat
open Go.RowKit
set_option maxRecDepth 1000000
section
variable {o c v : AV} {O : List Int} {M : Int} {F : Nat → Nat → Nat → Int} {n : Nat} {G : Nat → Nat → Int} {k l : Nat}
set_option maxHeartbeats 8000000 in
theorem cFaultB (ho : isL o O) (hO : O.length ≤ 6) (hc : isLLL c (cubeL F n)) (hv : isLL v (matL G n n)) (hB : BsP O M F n G n n) : CallOK Tryz.prog 33 [.agg [o, i64 M, c, v]] (optL (ft18 O M F G n)) := by
 have lX : (cubeL F n).length = n := zfe _ _
 have lV := matL_len2 G n n
 have n8 := hB.w.s.n8
 refine call_of (fn := Tryz.f33) (code := bodyOf Tryz.f33) Tryz.func33 rfl (by kernel_rfl) (noRef_opt _) ?_
 intro sl hs
 have s0 : sl 0 = .agg [o, i64 M, c, v] := hs 0
 dsimp only [Tryz.f33, bodyOf, Option.getD]
 simp (maxSteps := 10000000) (disch := first | assumption | omega) only [go_sem, ↓reduceIte, Nat.reduceEqDiff, reduceCtorEq, Nat.reduceAdd, Nat.reduceMul, Nat.reduceLeDiff, zc, Int.reduceToNat, s0, lV]
 refine WK_for (fun q st => st.sl 1 = .ptr 4096 1 [] 0 ∧ st.ro 4096 1 = some (.bx [o, i64 M, c, v]) ∧ st.sl 3 = i64 ((q : Int) + 1) ∧ (∀ q', q' < q → (fnd n fun x => fnd n fun y => fnd n fun z => if bE O F G q' x y z % M = 0 then none else some (l4 (q' + 1) x y z)) = none)) 2 ?_ ?_ ?_
 ·refine Yaz ?_
  exact ⟨rfl, fun x' h => absurd h (Nat.not_lt_zero _)⟩
 ·rintro q sl ro gn hq ⟨s1, r4096, s3, p⟩
  dsimp only at s1 r4096 s3
  have hq' : (q : Int) < (2 : Nat) := by omega
  have hk : (q : Int) + 1 ≤ 2 := by omega
  simp (maxSteps := 10000000) (disch := first | assumption | omega) only [go_sem, ↓reduceIte, Nat.reduceEqDiff, reduceCtorEq, Nat.reduceAdd, Nat.reduceMul, Nat.reduceLeDiff, zc, Int.reduceToNat, s1, r4096, s3, hq', hq, eq_true hk, lV]
  refine WK_for (fun x st => st.sl 1 = .ptr 4096 1 [] 0 ∧ st.ro 4096 1 = some (.bx [o, i64 M, c, v]) ∧ st.sl 3 = i64 ((q : Int) + 1) ∧ st.sl 13 = i64 (n : Int) ∧ st.sl 14 = i64 (x : Int) ∧ (∀ x', x' < x → (fnd n fun y => fnd n fun z => if bE O F G q x' y z % M = 0 then none else some (l4 (q + 1) x' y z)) = none)) n ?_ ?_ ?_
  ·simp only [↓za, ↓reduceIte, Nat.reduceEqDiff, zb, reduceCtorEq, rws_zero, s1, r4096, s3, hq', hq]
   exact ⟨rfl, fun x' h => absurd h (Nat.not_lt_zero _)⟩
  ·rintro x sl ro gn hx ⟨s1, r4096, s3, s13, s14, px⟩
   dsimp only at s1 r4096 s3 s13 s14
   have hx' : (x : Int) < (n : Nat) := by omega
   simp (maxSteps := 10000000) (disch := first | assumption | omega) only [go_sem, ↓reduceIte, Nat.reduceEqDiff, reduceCtorEq, Nat.reduceAdd, Nat.reduceMul, Nat.reduceLeDiff, zc, Int.reduceToNat, s1, r4096, s3, s13, s14, hx', hx, lV]
   refine WK_for (fun y st => st.sl 1 = .ptr 4096 1 [] 0 ∧ st.ro 4096 1 = some (.bx [o, i64 M, c, v]) ∧ st.sl 3 = i64 ((q : Int) + 1) ∧ st.sl 13 = i64 (n : Int) ∧ st.sl 14 = i64 (x : Int) ∧ st.sl 4 = i64 (x : Int) ∧ st.sl 19 = i64 (n : Int) ∧ st.sl 20 = i64 (y : Int) ∧ (∀ y', y' < y → (fnd n fun z => if bE O F G q x y' z % M = 0 then none else some (l4 (q + 1) x y' z)) = none)) n ?_ ?_ ?_
   ·simp only [↓za, ↓reduceIte, Nat.reduceEqDiff, zb, reduceCtorEq, rws_zero, s1, r4096, s3, s13, s14, hx', hx]
    exact ⟨rfl, fun x' h => absurd h (Nat.not_lt_zero _)⟩
   ·rintro y sl ro gn hy ⟨s1, r4096, s3, s13, s14, s4, s19, s20, py⟩
    dsimp only at s1 r4096 s3 s13 s14 s4 s19 s20
    have hy' : (y : Int) < (n : Nat) := by omega
    simp (maxSteps := 10000000) (disch := first | assumption | omega) only [go_sem, ↓reduceIte, Nat.reduceEqDiff, reduceCtorEq, Nat.reduceAdd, Nat.reduceMul, Nat.reduceLeDiff, zc, Int.reduceToNat, s1, r4096, s3, s13, s14, s4, s19, s20, hy', hy, lV]
    refine WK_for (fun z st => st.sl 1 = .ptr 4096 1 [] 0 ∧ st.ro 4096 1 = some (.bx [o, i64 M, c, v]) ∧ st.sl 3 = i64 ((q : Int) + 1) ∧ st.sl 13 = i64 (n : Int) ∧ st.sl 14 = i64 (x : Int) ∧ st.sl 4 = i64 (x : Int) ∧ st.sl 19 = i64 (n : Int) ∧ st.sl 20 = i64 (y : Int) ∧ st.sl 5 = i64 (y : Int) ∧ st.sl 25 = i64 (n : Int) ∧ st.sl 26 = i64 (z : Int) ∧ (∀ z', z' < z → (if bE O F G q x y z' % M = 0 then none else some (l4 (q + 1) x y z')) = (none : Option (List Int)))) n ?_ ?_ ?_
    ·simp only [↓za, ↓reduceIte, Nat.reduceEqDiff, zb, reduceCtorEq, rws_zero, s1, r4096, s3, s13, s14, s4, s19, s20, hy', hy]
     exact ⟨rfl, fun x' h => absurd h (Nat.not_lt_zero _)⟩
    ·rintro z sl ro gn hz ⟨s1, r4096, s3, s13, s14, s4, s19, s20, s5, s25, s26, pz⟩
     dsimp only at s1 r4096 s3 s13 s14 s4 s19 s20 s5 s25 s26
     have hz' : (z : Int) < (n : Nat) := by omega
     have step : bE O F G q x y z % M = 0 → ∀ z', z' < z + 1 → (if bE O F G q x y z' % M = 0 then none else some (l4 (q + 1) x y z')) = (none : Option (List Int)) := fun h0 t' h => by
      rcases Nat.lt_or_ge t' z with h' | h'
      ·exact pz t' h'
      ·rw [show t' = z by omega]; exact if_pos h0
     have found : ¬ bE O F G q x y z % M = 0 → ft18 O M F G n = some (l4 (q + 1) x y z) := fun h0 => fnd_some (fnd_some (fnd_some (fnd_some (if_neg h0) pz hz) py hy) px hx) p hq
     rcases (by omega : q = 0 ∨ q = 1) with rfl | rfl
     ·simp (maxSteps := 10000000) (disch := first | assumption | omega) only [go_sem, ↓reduceIte, Nat.reduceEqDiff, reduceCtorEq, Nat.reduceAdd, Nat.reduceMul, Nat.reduceLeDiff, zc, Int.reduceToNat, s1, r4096, s3, s13, s14, s4, s19, s20, s5, s25, s26, hz', hz]
      refine CLL_pure _ (cHolds1 ho hO hc hv hB hx hy hz) PUt rfl rfl ?_
      by_cases h0 : b1E O F G x y z % M = 0
      ·rw [decide_eq_true h0]
       simp (maxSteps := 10000000) (disch := first | assumption | omega) only [go_sem, ↓reduceIte, Nat.reduceEqDiff, reduceCtorEq, Nat.reduceAdd, Nat.reduceMul, Nat.reduceLeDiff, zc, Int.reduceToNat, s1, r4096, s3, s13, s14, s4, s19, s20, s5, s25, s26, hz', hz]
       exact ⟨i64c (by omega), step h0⟩
      ·rw [decide_eq_false h0]
       refine Ybe ?_
       refine Yab ?_
       exact optL_some (found h0)
     ·refine Ybe ?_
      refine CLL_pure _ (cHolds2 ho hO hc hv hB hx hy hz) PUt rfl rfl ?_
      by_cases h0 : b2E O F G x y z % M = 0
      ·rw [decide_eq_true h0]
       refine Ybe ?_
       exact ⟨i64c (by omega), step h0⟩
      ·rw [decide_eq_false h0]
       refine Ybe ?_
       refine Yab ?_
       exact optL_some (found h0)
    ·rintro sl ro gn ⟨s1, r4096, s3, s13, s14, s4, s19, s20, s5, s25, s26, pz⟩
     dsimp only at s1 r4096 s3 s13 s14 s4 s19 s20 s5 s25 s26
     have hz' : ¬ ((n : Nat) : Int) < (n : Nat) := by omega
     simp (maxSteps := 10000000) (disch := first | assumption | omega) only [go_sem, ↓reduceIte, Nat.reduceEqDiff, reduceCtorEq, Nat.reduceAdd, Nat.reduceMul, Nat.reduceLeDiff, zc, Int.reduceToNat, s1, r4096, s3, s13, s14, s4, s19, s20, s5, s25, s26, hz']
     refine ⟨i64c (by omega), fun t' h => ?_⟩
     rcases Nat.lt_or_ge t' y with h' | h'
     ·exact py t' h'
     ·rw [show t' = y by omega]; exact fnd_none.2 pz
   ·rintro sl ro gn ⟨s1, r4096, s3, s13, s14, s4, s19, s20, py⟩
    dsimp only at s1 r4096 s3 s13 s14 s4 s19 s20
    have hy' : ¬ ((n : Nat) : Int) < (n : Nat) := by omega
    simp (maxSteps := 10000000) (disch := first | assumption | omega) only [go_sem, ↓reduceIte, Nat.reduceEqDiff, reduceCtorEq, Nat.reduceAdd, Nat.reduceMul, Nat.reduceLeDiff, zc, Int.reduceToNat, s1, r4096, s3, s13, s14, s4, s19, s20, hy']
    refine ⟨i64c (by omega), fun t' h => ?_⟩
    rcases Nat.lt_or_ge t' x with h' | h'
    ·exact px t' h'
    ·rw [show t' = x by omega]; exact fnd_none.2 py
  ·rintro sl ro gn ⟨s1, r4096, s3, s13, s14, px⟩
   dsimp only at s1 r4096 s3 s13 s14
   have hx' : ¬ ((n : Nat) : Int) < (n : Nat) := by omega
   simp (maxSteps := 10000000) (disch := first | assumption | omega) only [go_sem, ↓reduceIte, Nat.reduceEqDiff, reduceCtorEq, Nat.reduceAdd, Nat.reduceMul, Nat.reduceLeDiff, zc, Int.reduceToNat, s1, r4096, s3, s13, s14, hx']
   refine ⟨i64c (by omega), fun t' h => ?_⟩
   rcases Nat.lt_or_ge t' q with h' | h'
   ·exact p t' h'
   ·rw [show t' = q by omega]; exact fnd_none.2 px
 ·rintro sl ro gn ⟨s1, r4096, s3, p⟩
  dsimp only at s1 r4096 s3
  have hq' : ¬ ((2 : Nat) : Int) < (2 : Nat) := by omega
  have hk : ¬ ((2 : Nat) : Int) + 1 ≤ 2 := by omega
  simp (maxSteps := 10000000) (disch := first | assumption | omega) only [go_sem, ↓reduceIte, Nat.reduceEqDiff, reduceCtorEq, Nat.reduceAdd, Nat.reduceMul, Nat.reduceLeDiff, zc, Int.reduceToNat, s1, r4096, s3, hq', eq_false hk]
  refine Yab ?_
  exact optL_none (fnd_none.2 p)
set_option maxHeartbeats 4000000 in
theorem cHasN (ho : isL o O) (hO : O.length ≤ 6) (hc : isLLL c (cubeL F n)) (hv : isLL v (matL G k l)) (h16 : n ≤ 16 ∧ k ≤ 16 ∧ l ≤ 16) (hM : -1048576 ≤ M ∧ M ≤ 1048576) {t : Bool} (ht : t = true ↔ BsP O M F n G k l) : CallOK Tryz.prog 32 [.agg [o, i64 M, c, v]] (bo t) := by
 have lX : (cubeL F n).length = n := zfe _ _
 by_cases h1 : CoP O M F n
 ·have c1 := cIsCoI (t := true) ho hO hc h16.1 hM (by simp [h1])
  have ht' : t = true ↔ PrP n M G k l := ht.trans ⟨fun h => h.p, fun h => ⟨h1, h⟩⟩
  refine call_of (fn := Tryz.f32) (code := bodyOf Tryz.f32) Tryz.func32 rfl (by kernel_rfl) (rfl) ?_
  intro sl hs
  have s0 : sl 0 = .agg [o, i64 M, c, v] := hs 0
  dsimp only [Tryz.f32, bodyOf, Option.getD]
  refine Yaa ?_
  refine CLL_pure _ c1 PUt rfl rfl ?_
  refine Yag ?_
  refine CLL_pure _ (cPairI hv h16 hM ht') PUt rfl rfl ?_
  refine Yaa ?_
  exact Yad
 ·have c1 := cIsCoI (t := false) ho hO hc h16.1 hM (by simp [h1])
  refine call_of (fn := Tryz.f32) (code := bodyOf Tryz.f32) Tryz.func32 rfl (by kernel_rfl) (rfl) ?_
  intro sl hs
  have s0 : sl 0 = .agg [o, i64 M, c, v] := hs 0
  dsimp only [Tryz.f32, bodyOf, Option.getD]
  refine Yaa ?_
  refine CLL_pure _ c1 PUt rfl rfl ?_
  refine Yaw ?_
  refine Yab ?_
  exact bool_false ht fun h => h1 h.w
set_option maxHeartbeats 4000000 in
theorem cIsBI (ho : isL o O) (hO : O.length ≤ 6) (hc : isLLL c (cubeL F n)) (hv : isLL v (matL G k l)) (h16 : n ≤ 16 ∧ k ≤ 16 ∧ l ≤ 16) (hM : -1048576 ≤ M ∧ M ≤ 1048576) {t : Bool} (ht : t = true ↔ BrP O M F n G k l) : CallOK Tryz.prog 12 [.agg [o, i64 M, c, v]] (bo t) := by
 by_cases h1 : BsP O M F n G k l
 ·have c1 := cHasN (t := true) ho hO hc hv h16 hM (by simp [h1])
  obtain ⟨rfl, rfl⟩ := h1.sq
  have c3 := cFaultB ho hO hc hv h1
  rcases hf : ft18 O M F G l with _ | lst
  ·rw [hf] at c3
   change CallOK Tryz.prog _ _ nilA at c3
   refine call_of (fn := Tryz.f12) (code := bodyOf Tryz.f12) Tryz.func12 rfl (by kernel_rfl) (rfl) ?_
   intro sl hs
   have s0 : sl 0 = .agg [o, i64 M, c, v] := hs 0
   dsimp only [Tryz.f12, bodyOf, Option.getD]
   refine Yaa ?_
   refine CLL_pure _ c1 PUt rfl rfl ?_
   refine Yaa ?_
   refine CLL_pure _ c3 PUt rfl rfl ?_
   refine Yaa ?_
   refine Yab ?_
   exact (ht.2 ⟨h1, hf⟩).symm
  ·have hl := ft18_len hf
   rw [hf] at c3
   change CallOK Tryz.prog _ _ (rowL lst) at c3
   refine call_of (fn := Tryz.f12) (code := bodyOf Tryz.f12) Tryz.func12 rfl (by kernel_rfl) (rfl) ?_
   intro sl hs
   have s0 : sl 0 = .agg [o, i64 M, c, v] := hs 0
   dsimp only [Tryz.f12, bodyOf, Option.getD]
   refine Yaa ?_
   refine CLL_pure _ c1 PUt rfl rfl ?_
   refine Yaa ?_
   refine CLL_pure _ c3 PUt rfl rfl ?_
   refine Ycr ?_
   refine Yab ?_
   exact bool_false ht fun h => by have := h.f; rw [hf] at this; cases this
 ·have c1 := cHasN (t := false) ho hO hc hv h16 hM (by simp [h1])
  refine call_of (fn := Tryz.f12) (code := bodyOf Tryz.f12) Tryz.func12 rfl (by kernel_rfl) (rfl) ?_
  intro sl hs
  have s0 : sl 0 = .agg [o, i64 M, c, v] := hs 0
  dsimp only [Tryz.f12, bodyOf, Option.getD]
  refine Yaa ?_
  refine CLL_pure _ c1 PUt rfl rfl ?_
  refine Yaw ?_
  refine Yab ?_
  exact bool_false ht fun h => h1 h.s
end
end Go.Proofs.YtmchdjiigfiabaaGreat
