/- Texts joined: QU QX QY QZ. -/
import Derived.Test.YtmchdjiigfiabaaGreatOi
set_option linter.all false
/- Braidings that the program makes. -/
namespace Go.Proofs.YtmchdjiigfiabaaGreat
open Go.RowKit
set_option maxRecDepth 1000000
section
variable {o c v o' c' v' : AV} {O O' : List Int} {M M' : Int} {F F' : Nat → Nat → Nat → Int} {n n' : Nat} {G G' : Nat → Nat → Int} {k l k' l' : Nat}
theorem cOrdC (ho : isL o O) (hO : O.length ≤ maxN) {e : Int} (he1 : ¬ OrdP O → e = 1) (he3 : OrdP O → 8 < pfx O O.length → e = 3) (he0 : OrdP O → ¬ 8 < pfx O O.length → e = 0) : CallOK Tryz.prog 29 [o, i64 8] (i64 e) := by
 have c1 := cGs ho hO
 have hr := gs5_rng (O := O)
 by_cases h1 : OrdP O
 ·have h0 : ¬ gs5 O = 0 := fun h => gs5_0.1 h h1
  by_cases h2 : 8 < pfx O O.length
  ·have h3 : (8 : Int) < gs5 O := by
    rcases (by omega : (8 : Int) < gs5 O ∨ gs5 O ≤ 8) with h | h
    ·exact h
    ·have := (gs5_of (O := O) (by omega) (by omega)).2; omega
   have := he3 h1 h2
   subst this
   refine call_of (fn := Tryz.f29) (code := bodyOf Tryz.f29) Tryz.func29 rfl (by kernel_rfl) (rfl) ?_
   intro sl hs
   have s0 : sl 0 = o := hs 0
   have s1 : sl 1 = i64 8 := hs 1
   dsimp only [Tryz.f29, bodyOf, Option.getD]
   refine Yac ?_
   refine CLL_pure _ c1 PUt rfl rfl ?_
   simp (maxSteps := 10000000) (disch := first | assumption | omega) only [go_sem, ↓reduceIte, Nat.reduceEqDiff, reduceCtorEq, Nat.reduceAdd, Nat.reduceMul, Nat.reduceLeDiff, zc, Int.reduceToNat, s0, s1, eq_false h0, eq_true h3]
   exact Yad
  ·have h3 : ¬ (8 : Int) < gs5 O := by rw [gs5_eq h1 (by omega)]; exact h2
   have := he0 h1 h2
   subst this
   refine call_of (fn := Tryz.f29) (code := bodyOf Tryz.f29) Tryz.func29 rfl (by kernel_rfl) (rfl) ?_
   intro sl hs
   have s0 : sl 0 = o := hs 0
   have s1 : sl 1 = i64 8 := hs 1
   dsimp only [Tryz.f29, bodyOf, Option.getD]
   refine Yac ?_
   refine CLL_pure _ c1 PUt rfl rfl ?_
   simp (maxSteps := 10000000) (disch := first | assumption | omega) only [go_sem, ↓reduceIte, Nat.reduceEqDiff, reduceCtorEq, Nat.reduceAdd, Nat.reduceMul, Nat.reduceLeDiff, zc, Int.reduceToNat, s0, s1, eq_false h0, eq_false h3]
   exact Yad
 ·have h0 : gs5 O = 0 := gs5_0.2 h1
  have := he1 h1
  subst this
  refine call_of (fn := Tryz.f29) (code := bodyOf Tryz.f29) Tryz.func29 rfl (by kernel_rfl) (rfl) ?_
  intro sl hs
  have s0 : sl 0 = o := hs 0
  have s1 : sl 1 = i64 8 := hs 1
  dsimp only [Tryz.f29, bodyOf, Option.getD]
  refine Yac ?_
  refine CLL_pure _ c1 PUt rfl rfl ?_
  simp (maxSteps := 10000000) (disch := first | assumption | omega) only [go_sem, ↓reduceIte, Nat.reduceEqDiff, reduceCtorEq, Nat.reduceAdd, Nat.reduceMul, Nat.reduceLeDiff, zc, Int.reduceToNat, s0, s1, eq_true h0]
  exact Yad
end
theorem exq_br {ro : Ro} {so uo sp up sq uq n k l off j : Nat} {O : List Int} {M : Int} {F : Nat → Nat → Nat → Int} {G : Nat → Nat → Int} (h1 : ro so uo = some (rowL O)) (h2 : ro sp up = some (cubeA F n)) (h3 : ro sq uq = some (matA G (off + k) l)) (hj : 6 ≤ j) :
  exq j ro (.agg [.ref so uo [] 0 O.length, i64 M, .ref sp up [] 0 n, .ref sq uq [] off k]) (.agg [immL O, i64 M, immC F n, immLL (matL (shG G off) k l)]) := by
 obtain ⟨j, rfl⟩ : ∃ i, j = i + 1 := ⟨j - 1, by omega⟩
 exact exq_agg (.cons (exq_refL h1 rfl (by omega)) (.cons (exq_sc _ _ _ (by omega)) (.cons (exq_cube h2 (by omega)) (.cons (exq_mato h3 (by omega)) .nil))))
theorem exq_br0 {ro : Ro} {so uo sp up sq uq n k l j : Nat} {O : List Int} {M : Int} {F : Nat → Nat → Nat → Int} {G : Nat → Nat → Int} (h1 : ro so uo = some (rowL O)) (h2 : ro sp up = some (cubeA F n)) (h3 : ro sq uq = some (matA G k l)) (hj : 6 ≤ j) :
  exq j ro (.agg [.ref so uo [] 0 O.length, i64 M, .ref sp up [] 0 n, .ref sq uq [] 0 k]) (.agg [immL O, i64 M, immC F n, immLL (matL G k l)]) := by
 obtain ⟨j, rfl⟩ : ∃ i, j = i + 1 := ⟨j - 1, by omega⟩
 exact exq_agg (.cons (exq_refL h1 rfl (by omega)) (.cons (exq_sc _ _ _ (by omega)) (.cons (exq_cube h2 (by omega)) (.cons (exq_mat h3 (by omega)) .nil))))
end Go.Proofs.YtmchdjiigfiabaaGreat
/- Sums, reverses, coboundaries and standard braidings are braidings. -/
namespace Go.Proofs.YtmchdjiigfiabaaGreat
open Go.RowKit
set_option maxRecDepth 1000000
theorem md_ (u M : Int) : ∃ q, u % M = u + M * q := ⟨-(u / M), by rw [Int.emod_def, Int.mul_neg]; omega⟩
theorem mdk {u M : Int} (h : u % M = 0) : ∃ k, u = M * k := Int.dvd_of_emod_eq_zero h
theorem mdz {u M k : Int} (h : u = M * k) : u % M = 0 := by rw [h]; exact Int.mul_emod_right _ _
section
variable {O : List Int} {M : Int} {F F' : Nat → Nat → Nat → Int} {n k l : Nat} {G G' : Nat → Nat → Int}
theorem if_none {α : Type} {p : Prop} [Decidable p] {v : α} (h : (if p then none else some v) = none) : p := by
 by_cases hp : p
 ·exact hp
 ·rw [if_neg hp] at h; cases h
theorem ft18_of (h1 : ∀ x, x < n → ∀ y, y < n → ∀ z, z < n → b1E O F G x y z % M = 0) (h2 : ∀ x, x < n → ∀ y, y < n → ∀ z, z < n → b2E O F G x y z % M = 0) : ft18 O M F G n = none :=
 fnd_none.2 fun q hq => fnd_none.2 fun x hx => fnd_none.2 fun y hy => fnd_none.2 fun z hz => if_pos (by
  unfold bE
  by_cases h0 : q = 0
  ·rw [if_pos h0]; exact h1 x hx y hy z hz
  ·rw [if_neg h0]; exact h2 x hx y hy z hz)
theorem BrP.b1 (h : BrP O M F n G k l) {x y z : Nat} (hx : x < n) (hy : y < n) (hz : z < n) : b1E O F G x y z % M = 0 := by
 have := if_none (fnd_none.1 (fnd_none.1 (fnd_none.1 (fnd_none.1 h.f 0 (by omega)) x hx) y hy) z hz)
 unfold bE at this
 rwa [if_pos rfl] at this
theorem BrP.b2 (h : BrP O M F n G k l) {x y z : Nat} (hx : x < n) (hy : y < n) (hz : z < n) : b2E O F G x y z % M = 0 := by
 have := if_none (fnd_none.1 (fnd_none.1 (fnd_none.1 (fnd_none.1 h.f 1 (by omega)) x hx) y hy) z hz)
 unfold bE at this
 rwa [if_neg (by omega)] at this
theorem BsP.z (h : BsP O M F n G k l) {x y : Nat} (hx : x < n) (hy : y < n) (h0 : x = 0 ∨ y = 0) : G x y = 0 := ((h.p.2 x hx).2 y hy).2 h0
theorem emod_rg (u : Int) (hm : 1 ≤ M) : 0 ≤ u % M ∧ u % M ≤ M - 1 := by
 have := Int.emod_nonneg u (b := M) (by omega)
 have := Int.emod_lt_of_pos u (b := M) (by omega)
 omega
def cr (n x y : Nat) : Int := if n ≤ x + y then 1 else 0
end
end Go.Proofs.YtmchdjiigfiabaaGreat
/- The law's own comparisons. -/
namespace Go.Proofs.YtmchdjiigfiabaaGreat
open Go.RowKit
set_option maxRecDepth 1000000
section
theorem cLike {a b : AV} {xs : List Int} (ha : isL a xs) (hb : isL b xs) (hx : xs.length ≤ maxN) : CallOK Tryz.prog 27 [a, b] (bo true) := by
 have hx2 : xs.length ≤ 4294967296 := hx
 refine call_of (fn := Tryz.f27) (code := bodyOf Tryz.f27) Tryz.func27 rfl (by kernel_rfl) (rfl) ?_
 intro sl hs
 have s0 : sl 0 = a := hs 0
 have s1 : sl 1 = b := hs 1
 dsimp only [Tryz.f27, bodyOf, Option.getD]
 refine Yac ?_
 refine WK_for (fun i st => st.sl 0 = a ∧ st.sl 1 = b ∧ st.sl 5 = i64 (i : Int)) xs.length ?_ ?_ ?_
 ·refine Yan ?_
  exact rfl
 ·rintro i sl ro gn hi ⟨s0, s1, s5⟩
  dsimp only at s0 s1 s5
  have hi' : (i : Int) < (xs.length : Nat) := by omega
  refine Yam ?_
  refine FIN_of (by kernel_rfl) ?_
  refine Yam ?_
  exact i64c (by omega)
 ·rintro sl ro gn ⟨s0, s1, s5⟩
  dsimp only at s0 s1 s5
  have hi' : ¬ ((xs.length : Nat) : Int) < (xs.length : Nat) := by omega
  refine Ycn ?_
  exact Yad
theorem cLikeR {a b : AV} {xs : List (List Int)} (ha : isLL a xs) (hb : isLL b xs) (hx : xs.length ≤ maxN) (hr : ∀ k, k < xs.length → (row xs k).length ≤ maxN) : CallOK Tryz.prog 28 [a, b] (bo true) := by
 have hx2 : xs.length ≤ 4294967296 := hx
 refine call_of (fn := Tryz.f28) (code := bodyOf Tryz.f28) Tryz.func28 rfl (by kernel_rfl) (rfl) ?_
 intro sl hs
 have s0 : sl 0 = a := hs 0
 have s1 : sl 1 = b := hs 1
 dsimp only [Tryz.f28, bodyOf, Option.getD]
 refine Yac ?_
 refine WK_for (fun i st => st.sl 0 = a ∧ st.sl 1 = b ∧ st.sl 5 = i64 (i : Int)) xs.length ?_ ?_ ?_
 ·refine Yan ?_
  exact rfl
 ·rintro i sl ro gn hi ⟨s0, s1, s5⟩
  dsimp only at s0 s1 s5
  have hi' : (i : Int) < (xs.length : Nat) := by omega
  have r1 := isLL_row ha (k := i) (by omega)
  have r2 := isLL_row hb (k := i) (by omega)
  have c1 := cLike r1 r2 (hr i hi)
  refine Yam ?_
  refine CLLD_pure _ c1 PUt rfl ?_
  refine Yam ?_
  refine FIN_of (by kernel_rfl) ?_
  refine Yam ?_
  exact i64c (by omega)
 ·rintro sl ro gn ⟨s0, s1, s5⟩
  dsimp only at s0 s1 s5
  have hi' : ¬ ((xs.length : Nat) : Int) < (xs.length : Nat) := by omega
  refine Ycn ?_
  exact Yad
theorem cLikeC {a b : AV} {xs : List (List (List Int))} (ha : isLLL a xs) (hb : isLLL b xs) (hx : xs.length ≤ maxN) (hr : ∀ k, k < xs.length → (mat xs k).length ≤ maxN ∧ ∀ j, j < (mat xs k).length → (row (mat xs k) j).length ≤ maxN) : CallOK Tryz.prog 13 [a, b] (bo true) := by
 have hx2 : xs.length ≤ 4294967296 := hx
 refine call_of (fn := Tryz.f13) (code := bodyOf Tryz.f13) Tryz.func13 rfl (by kernel_rfl) (rfl) ?_
 intro sl hs
 have s0 : sl 0 = a := hs 0
 have s1 : sl 1 = b := hs 1
 dsimp only [Tryz.f13, bodyOf, Option.getD]
 refine Yac ?_
 refine WK_for (fun i st => st.sl 0 = a ∧ st.sl 1 = b ∧ st.sl 5 = i64 (i : Int)) xs.length ?_ ?_ ?_
 ·refine Yan ?_
  exact rfl
 ·rintro i sl ro gn hi ⟨s0, s1, s5⟩
  dsimp only at s0 s1 s5
  have hi' : (i : Int) < (xs.length : Nat) := by omega
  have r1 := isLLL_mat ha (k := i) (by omega)
  have r2 := isLLL_mat hb (k := i) (by omega)
  have c1 := cLikeR r1 r2 (hr i hi).1 (hr i hi).2
  refine Yam ?_
  refine CLLD_pure _ c1 PUt rfl ?_
  refine Yam ?_
  refine FIN_of (by kernel_rfl) ?_
  refine Yam ?_
  exact i64c (by omega)
 ·rintro sl ro gn ⟨s0, s1, s5⟩
  dsimp only at s0 s1 s5
  have hi' : ¬ ((xs.length : Nat) : Int) < (xs.length : Nat) := by omega
  refine Ycn ?_
  exact Yad
set_option maxHeartbeats 4000000 in
theorem cLikeB {o c v o' c' v' : AV} {O : List Int} {M : Int} {C : List (List (List Int))} {V : List (List Int)} (ho : isL o O) (hc : isLLL c C) (hv : isLL v V) (ho' : isL o' O) (hc' : isLLL c' C) (hv' : isLL v' V) (hO : O.length ≤ maxN)
  (hx : C.length ≤ maxN) (hr : ∀ k, k < C.length → (mat C k).length ≤ maxN ∧ ∀ j, j < (mat C k).length → (row (mat C k) j).length ≤ maxN) (hy : V.length ≤ maxN) (hs : ∀ k, k < V.length → (row V k).length ≤ maxN) :
  CallOK Tryz.prog 10 [.agg [o, i64 M, c, v], .agg [o', i64 M, c', v']] (bo true) := by
 have c1 := cLike ho ho' hO
 have c2 := cLikeC hc hc' hx hr
 have c3 := cLikeR hv hv' hy hs
 refine call_of (fn := Tryz.f10) (code := bodyOf Tryz.f10) Tryz.func10 rfl (by kernel_rfl) (rfl) ?_
 intro sl hs
 have s0 : sl 0 = .agg [o, i64 M, c, v] := hs 0
 have s1 : sl 1 = .agg [o', i64 M, c', v'] := hs 1
 dsimp only [Tryz.f10, bodyOf, Option.getD]
 refine Yac ?_
 refine CLL_pure _ c1 PUt rfl rfl ?_
 refine Yac ?_
 refine CLL_pure _ c2 PUt rfl rfl ?_
 refine Yac ?_
 refine CLL_pure _ c3 PUt rfl rfl ?_
 refine Yac ?_
 exact Yad
theorem cBig {a : AV} {bs : List Int} (hb : isB a bs) : CallOK Tryz.prog 4 [a] (bo (decide (4096 < (bs.length : Int)))) := by
 refine call_of (fn := Tryz.f4) (code := bodyOf Tryz.f4) Tryz.func4 rfl (by kernel_rfl) (rfl) ?_
 intro sl hs
 have s0 : sl 0 = a := hs 0
 dsimp only [Tryz.f4, bodyOf, Option.getD]
 refine Yaa ?_
 exact Yad
end
end Go.Proofs.YtmchdjiigfiabaaGreat
/- The law on braidings, its first parts. -/
namespace Go.Proofs.YtmchdjiigfiabaaGreat
open Go.RowKit
set_option maxRecDepth 1000000
def tlC : Nat → Code → Code
 | 0, c => c
 | n + 1, .seq _ b => tlC n b
 | _, c => c
def hdC : Nat → Code → Code → Code
 | 0, _, T => T
 | n + 1, .seq a b, T => .seq a (hdC n b T)
 | _, c, _ => c
theorem hd_tl : ∀ (n : Nat) (c : Code), hdC n c (tlC n c) = c
 | 0, c => rfl
 | n + 1, .seq a b => by simp only [hdC, tlC, hd_tl n b]
 | n + 1, .skip => rfl
 | n + 1, .region .. => rfl
 | n + 1, .cond .. => rfl
 | n + 1, .block .. => rfl
 | n + 1, .loop .. => rfl
 | n + 1, .exit .. => rfl
 | n + 1, .ret => rfl
 | n + 1, .rangeFunc .. => rfl
 | n + 1, .scope .. => rfl
 | n + 1, .label .. => rfl
 | n + 1, .goto .. => rfl
 | n + 1, .refuse .. => rfl
def Kp (rb : Ro) (gb : Nat → Nat) (ro : Ro) : Prop := ∀ x y, y ≤ gb x → ro x y = rb x y
theorem Kp.rf {rb : Ro} {gb : Nat → Nat} : Kp rb gb rb := fun _ _ _ => rfl
theorem Kp.wr {rb ro : Ro} {gb : Nat → Nat} (h : Kp rb gb ro) {s g : Nat} {v : AV} (hg : gb s < g) : Kp rb gb (upr ro s g v) := fun x y hy => by
 rw [zdb, if_neg (by rintro ⟨rfl, rfl⟩; omega)]
 exact h x y hy
theorem isL_nil : isL nilA [] := .inr ⟨rfl, rfl⟩
theorem isLL_nil : isLL nilA [] := .inr ⟨rfl, rfl⟩
theorem isLLL_nil : isLLL nilA [] := .inr ⟨rfl, rfl⟩
theorem impE_tupLq (b : Nat) (gn : Nat → Nat) (xs : List AV) (v : Value) : impE b gn (.tup [.row xs, .sc v]) = ⟨.tup [.ref b (gn b + 1) [] 0 xs.length, .sc v], none, [], [(b, .row xs)]⟩ := nr _
attribute [go_sem] impE_tupLq
theorem cLikeK {O : List Int} {M : Int} {F : Nat → Nat → Nat → Int} {n : Nat} {G : Nat → Nat → Int} (hO : O.length ≤ 6) (hn : n ≤ 8) : CallOK Tryz.prog 10 [.agg [immL O, i64 M, immC F n, immLL (matL G n n)], .agg [immL O, i64 M, immC F n, immLL (matL G n n)]] (bo true) := by
 have lX : (cubeL F n).length = n := zfe _ _
 have h8 : n ≤ maxN := Nat.le_trans hn (by decide)
 refine cLikeB (isL_imm O) (isLLL_immC F n) (isLL_imm _) (isL_imm O) (isLLL_immC F n) (isLL_imm _) (Nat.le_trans hO (by decide)) (by rw [lX]; exact h8) (fun k hk => ?_) (by rw [matL_len2]; exact h8) (fun k hk => ?_)
 ·rw [lX] at hk
  rw [cube_row F hk]
  exact ⟨h8, fun j hj => by rw [cube_rr F hk hj]; exact h8⟩
 ·rw [matL_len2] at hk
  rw [matL_row2 hk]; exact h8
theorem cLikeN : CallOK Tryz.prog 10 [.agg [nilA, i64 0, nilA, nilA], .agg [nilA, i64 0, nilA, nilA]] (bo true) :=
 cLikeB isL_nil isLLL_nil isLL_nil isL_nil isLLL_nil isLL_nil (by decide) (by decide) (fun k hk => absurd hk (Nat.not_lt_zero _)) (by decide) (fun k hk => absurd hk (Nat.not_lt_zero _))
section
variable {a : AV} {bs : List Int} {T : Code}
abbrev QL : Exit → St → Prop := RET ti0 [.tmp 2] (bo true)
end
end Go.Proofs.YtmchdjiigfiabaaGreat
