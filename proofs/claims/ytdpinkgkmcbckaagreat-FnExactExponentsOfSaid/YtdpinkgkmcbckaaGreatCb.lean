/- Texts joined: S0 T2 T3 T4 T5. -/
import Derived.Test.YtdpinkgkmcbckaaGreatMi
import Derived.Test.YtdpinkgkmcbckaaGreatCa
set_option linter.all false
/- Copies of lists: of the reference's and of the library's. -/
namespace Go.Proofs.YtdpinkgkmcbckaaGreat
open Go.RowKit
set_option maxRecDepth 1000000
theorem cOwn1 {xs : List Int} (hx : xs.length ≤ maxN) : CallOK Tryz.prog 71 [immL xs] (rowL xs) := by
 have hx' : 0 + xs.length ≤ 4294967296 := by have : xs.length ≤ 4294967296 := hx; omega
 have hall : (xs.map i64).all zez = true := List.all_eq_true.2 fun x hx => by obtain ⟨y, -, rfl⟩ := List.mem_map.1 hx; rfl
 refine call_of (fn := Tryz.f71) (code := bodyOf Tryz.f71) Tryz.func71 rfl (by kernel_rfl) (noRef_rowL _) ?_
 intro sl hs
 have s0 : sl 0 = immL xs := hs 0
 dsimp only [Tryz.f71, bodyOf, Option.getD]
 simp (maxSteps := 10000000) (disch := first | assumption | omega) only [go_sem, ↓reduceIte, Nat.reduceEqDiff, reduceCtorEq, Nat.reduceAdd, Nat.reduceMul, Nat.reduceLeDiff, zc, Int.reduceToNat, s0, hall, List.length_map, hx']
 exact Yac
theorem cOwn0 : CallOK Tryz.prog 71 [nilA] (rowL []) := by
 have hnil : isNilV (Value.slice none 0 0) = true := rfl
 refine call_of (fn := Tryz.f71) (code := bodyOf Tryz.f71) Tryz.func71 rfl (by kernel_rfl) (noRef_rowL _) ?_
 intro sl hs
 have s0 : sl 0 = nilA := hs 0
 dsimp only [Tryz.f71, bodyOf, Option.getD]
 simp (maxSteps := 10000000) (disch := first | assumption | omega) only [go_sem, ↓reduceIte, Nat.reduceEqDiff, reduceCtorEq, Nat.reduceAdd, Nat.reduceMul, Nat.reduceLeDiff, zc, Int.reduceToNat, s0, hnil]
 refine Yab ?_
 rfl
theorem cOwn {a : AV} {xs : List Int} (ha : isL a xs) (hx : xs.length ≤ maxN) : CallOK Tryz.prog 71 [a] (rowL xs) := by
 rcases ha with rfl | ⟨rfl, rfl⟩
 ·exact cOwn1 hx
 ·exact cOwn0
theorem cClo {xs : List Int} (hx : xs.length ≤ maxN) : CallOK Tryz.prog 50 [immL xs] (rowL xs) := by
 have hx' : 0 + xs.length ≤ 4294967296 := by have : xs.length ≤ 4294967296 := hx; omega
 have hall : (xs.map i64).all zez = true := List.all_eq_true.2 fun x hx => by obtain ⟨y, -, rfl⟩ := List.mem_map.1 hx; rfl
 refine call_of (fn := Tryz.f50) (code := bodyOf Tryz.f50) Tryz.func50 rfl (by kernel_rfl) (noRef_rowL _) ?_
 intro sl hs
 have s0 : sl 0 = immL xs := hs 0
 dsimp only [Tryz.f50, bodyOf, Option.getD]
 simp (maxSteps := 10000000) (disch := first | assumption | omega) only [go_sem, ↓reduceIte, Nat.reduceEqDiff, reduceCtorEq, Nat.reduceAdd, Nat.reduceMul, Nat.reduceLeDiff, zc, Int.reduceToNat, s0, hall, List.length_map, hx']
 exact Yac
theorem cCloP {a : AV} {xs : List Int} (ha : isL a xs) (hx : xs.length ≤ maxN) (hp : 0 < xs.length) : CallOK Tryz.prog 50 [a] (rowL xs) := by
 rcases ha with rfl | ⟨rfl, rfl⟩
 ·exact cClo hx
 ·exact absurd hp (by decide)
theorem cOwn2 {a : AV} {S : List (List Int)} (ha : isLL a S) (hS : S.length ≤ maxN) (hR : ∀ i, i < S.length → (row S i).length ≤ maxN) : CallOK Tryz.prog 72 [a] (.row (rws (fun x => rowL (row S x)) S.length)) := by
 have hS' : S.length ≤ 4294967296 := hS
 refine call_of (fn := Tryz.f72) (code := bodyOf Tryz.f72) Tryz.func72 rfl (by kernel_rfl) (noRef_row _ (noRefL_rws _ _ fun _ => noRef_rowL _)) ?_
 intro sl hs
 have s0 : sl 0 = a := hs 0
 dsimp only [Tryz.f72, bodyOf, Option.getD]
 refine Yad ?_
 refine WK_for (fun i st => st.sl 0 = a ∧ st.sl 3 = .ref 8192 (st.gn 8192) [] 0 i ∧ st.ro 8192 (st.gn 8192) = some (.row (rws (fun x => rowL (row S x)) i)) ∧ st.sl 4 = i64 (i : Int)) S.length ?_ ?_ ?_
 ·refine Yaj ?_
  exact rfl
 ·rintro i sl ro gn hi ⟨s0, s3, r8192, s4⟩
  dsimp only at s0 s3 r8192 s4
  have hi' : (i : Int) < (S.length : Nat) := by omega
  have hi2 : i + 1 ≤ 4294967296 := by omega
  have hr := isLL_row ha hi
  simp (maxSteps := 10000000) (disch := first | assumption | omega) only [go_sem, ↓reduceIte, Nat.reduceEqDiff, reduceCtorEq, Nat.reduceAdd, Nat.reduceMul, Nat.reduceLeDiff, zc, Int.reduceToNat, s0, s3, r8192, s4, hi', hi]
  refine CLL_pure _ (cOwn hr (hR i hi)) PUt rfl rfl ?_
  simp (maxSteps := 10000000) (disch := first | assumption | omega) only [go_sem, ↓reduceIte, Nat.reduceEqDiff, reduceCtorEq, Nat.reduceAdd, Nat.reduceMul, Nat.reduceLeDiff, zc, Int.reduceToNat, s0, s3, r8192, s4, hi', hi, hi2]
  exact i64c (by omega)
 ·rintro sl ro gn ⟨s0, s3, r8192, s4⟩
  dsimp only at s0 s3 r8192 s4
  have hi' : ¬ ((S.length : Nat) : Int) < (S.length : Nat) := by omega
  simp (maxSteps := 10000000) (disch := first | assumption | omega) only [go_sem, ↓reduceIte, Nat.reduceEqDiff, reduceCtorEq, Nat.reduceAdd, Nat.reduceMul, Nat.reduceLeDiff, zc, Int.reduceToNat, s0, s3, r8192, s4, hi']
  exact Yao
end Go.Proofs.YtdpinkgkmcbckaaGreat
/- Simple functions over matrices: the reference's and the program's. -/
namespace Go.Proofs.YtdpinkgkmcbckaaGreat
open Go.RowKit
set_option maxRecDepth 1000000
def unM (i j : Nat) : Int := if j = i then 1 else 0
theorem cUnit {n : Nat} (hn : n ≤ maxN) : CallOK Tryz.prog 41 [i64 n] (matA unM n n) := by
 have hn' : n ≤ 4294967296 := hn
 have hm' : (n : Int) ≤ ((4294967296 : Nat) : Int) := by omega
 refine call_of (fn := Tryz.f41) (code := bodyOf Tryz.f41) Tryz.func41 rfl (by kernel_rfl) (noRef_mat _ _ _) ?_
 intro sl hs
 have s0 : sl 0 = i64 n := hs 0
 dsimp only [Tryz.f41, bodyOf, Option.getD]
 refine Yad ?_
 refine WK_for (fun i st => st.sl 0 = i64 n ∧ st.sl 4 = i64 (i : Int) ∧ st.sl 3 = .ref 8192 (st.gn 8192) [] 0 i ∧ st.ro 8192 (st.gn 8192) = some (.row (rws (fun i => .row (rws (fun j => i64 (unM i j)) n)) i))) n ?_ ?_ ?_
 ·refine Yaj ?_
  rfl
 ·rintro i sl ro gn hi ⟨s0, s4, s3, r8192⟩
  dsimp only at s0 s4 s3 r8192
  have hi' : (i : Int) < (n : Nat) := by omega
  have hi2 : i + 1 ≤ 4294967296 := by omega
  have e0 : (rws (fun _ => i64 0) n).set i (i64 1) = rws (fun j => i64 (unM i j)) n := by
   rw [rws_set]
   refine rws_congr fun j _ => ?_
   unfold unM
   split <;> rfl
  simp (maxSteps := 10000000) (disch := first | assumption | omega) only [go_sem, ↓reduceIte, Nat.reduceEqDiff, reduceCtorEq, Nat.reduceAdd, Nat.reduceMul, Nat.reduceLeDiff, zc, Int.reduceToNat, s0, s4, s3, r8192, hi', hi, kMake, Int.natCast_nonneg, Int.le_refl, hm', List.getD_cons_zero, rep_rws, hi2, e0]
  exact i64c (by omega)
 ·rintro sl ro gn ⟨s0, s4, s3, r8192⟩
  dsimp only at s0 s4 s3 r8192
  have hi' : ¬ ((n : Nat) : Int) < (n : Nat) := by omega
  simp (maxSteps := 10000000) (disch := first | assumption | omega) only [go_sem, ↓reduceIte, Nat.reduceEqDiff, reduceCtorEq, Nat.reduceAdd, Nat.reduceMul, Nat.reduceLeDiff, zc, Int.reduceToNat, s0, s4, s3, r8192, hi']
  exact Yao
def tmG (A B : List (List Int)) (i k : Nat) : Int := sm (fun j => atI (row A i) j * atI (row B j) k) B.length % 55441
def plV (xs ys : List Int) (k : Int) (i : Nat) : Int := (atI xs i + k * atI ys i) % 55441
theorem cPlus {a b : AV} {xs ys : List Int} {k : Int} (ha : isL a xs) (hb : isL b ys) (hx : xs.length ≤ maxN) (hl : xs.length ≤ ys.length) (nx : numL xs) (ny : numL ys) (hk : num k) : CallOK Tryz.prog 75 [a, b, i64 k] (.row (rws (fun i => i64 (plV xs ys k i)) xs.length)) := by
 have hx' : xs.length ≤ 4294967296 := hx
 refine call_of (fn := Tryz.f75) (code := bodyOf Tryz.f75) Tryz.func75 rfl (by kernel_rfl) (noRef_row _ (noRefL_rws _ _ fun _ => rfl)) ?_
 intro sl hs
 have s0 : sl 0 = a := hs 0
 have s1 : sl 1 = b := hs 1
 have s2 : sl 2 = i64 k := hs 2
 dsimp only [Tryz.f75, bodyOf, Option.getD]
 refine Ybx ?_
 refine WK_for (fun i st => st.sl 0 = a ∧ st.sl 1 = b ∧ st.sl 2 = i64 k ∧ st.sl 8 = i64 (i : Int) ∧ st.sl 7 = .ref 8192 (st.gn 8192) [] 0 i ∧ st.ro 8192 (st.gn 8192) = some (.row (rws (fun i => i64 (plV xs ys k i)) i))) xs.length ?_ ?_ ?_
 ·simp only [↓za, ↓reduceIte, Nat.reduceEqDiff, zb, reduceCtorEq, rws_zero, s0, s1, s2]
  rfl
 ·rintro i sl ro gn hi ⟨s0, s1, s2, s8, s7, r8192⟩
  dsimp only at s0 s1 s2 s8 s7 r8192
  have hi' : (i : Int) < (xs.length : Nat) := by omega
  have hi2 : i + 1 ≤ 4294967296 := by omega
  have hb1 := num_mul hk (ny i)
  have hb3 := nx i
  unfold num at hb3
  simp (maxSteps := 10000000) (disch := first | assumption | omega) only [go_sem, ↓reduceIte, Nat.reduceEqDiff, reduceCtorEq, Nat.reduceAdd, Nat.reduceMul, Nat.reduceLeDiff, zc, Int.reduceToNat, s0, s1, s2, s8, s7, r8192, hi', hi, isL_len ha, isL_idx ha hi, isL_idx hb (Nat.lt_of_lt_of_le hi hl), isL_sites ha, isL_sites hb, Int.tmod_eq_emod_of_nonneg, hi2]
  refine FIN_of (by kernel_rfl) ?_
  simp (maxSteps := 10000000) (disch := first | assumption | omega) only [go_sem, ↓reduceIte, Nat.reduceEqDiff, reduceCtorEq, Nat.reduceAdd, Nat.reduceMul, Nat.reduceLeDiff, zc, Int.reduceToNat, s0, s1, s2, s8, s7, r8192, hi', hi]
  exact ⟨i64c (by omega), congrArg some (congrArg AV.row (rws_succ (fun i => i64 (plV xs ys k i)) i).symm)⟩
 ·rintro sl ro gn ⟨s0, s1, s2, s8, s7, r8192⟩
  dsimp only at s0 s1 s2 s8 s7 r8192
  have hi' : ¬ ((xs.length : Nat) : Int) < (xs.length : Nat) := by omega
  simp (maxSteps := 10000000) (disch := first | assumption | omega) only [go_sem, ↓reduceIte, Nat.reduceEqDiff, reduceCtorEq, Nat.reduceAdd, Nat.reduceMul, Nat.reduceLeDiff, zc, Int.reduceToNat, s0, s1, s2, s8, s7, r8192, hi', isL_len ha]
  exact Yao
theorem cScale {a : AV} {xs : List Int} {k : Int} (ha : isL a xs) (hx : xs.length ≤ maxN) (nx : numL xs) (hk : num k) : CallOK Tryz.prog 73 [a, i64 k] (.row (rws (fun i => i64 (atI xs i * k % 55441)) xs.length)) := by
 have hx' : xs.length ≤ 4294967296 := hx
 refine call_of (fn := Tryz.f73) (code := bodyOf Tryz.f73) Tryz.func73 rfl (by kernel_rfl) (noRef_row _ (noRefL_rws _ _ fun _ => rfl)) ?_
 intro sl hs
 have s0 : sl 0 = a := hs 0
 have s1 : sl 1 = i64 k := hs 1
 dsimp only [Tryz.f73, bodyOf, Option.getD]
 refine Yaa ?_
 refine WK_for (fun i st => st.sl 0 = a ∧ st.sl 1 = i64 k ∧ st.sl 6 = i64 (i : Int) ∧ st.sl 5 = .ref 8192 (st.gn 8192) [] 0 i ∧ st.ro 8192 (st.gn 8192) = some (.row (rws (fun i => i64 (atI xs i * k % 55441)) i))) xs.length ?_ ?_ ?_
 ·refine Yak ?_
  rfl
 ·rintro i sl ro gn hi ⟨s0, s1, s6, s5, r8192⟩
  dsimp only at s0 s1 s6 s5 r8192
  have hi' : (i : Int) < (xs.length : Nat) := by omega
  have hi2 : i + 1 ≤ 4294967296 := by omega
  have hb1 := num_mul (nx i) hk
  simp (maxSteps := 10000000) (disch := first | assumption | omega) only [go_sem, ↓reduceIte, Nat.reduceEqDiff, reduceCtorEq, Nat.reduceAdd, Nat.reduceMul, Nat.reduceLeDiff, zc, Int.reduceToNat, s0, s1, s6, s5, r8192, hi', hi, isL_len ha, isL_idx ha hi, Int.tmod_eq_emod_of_nonneg, hi2]
  exact i64c (by omega)
 ·rintro sl ro gn ⟨s0, s1, s6, s5, r8192⟩
  dsimp only at s0 s1 s6 s5 r8192
  have hi' : ¬ ((xs.length : Nat) : Int) < (xs.length : Nat) := by omega
  simp (maxSteps := 10000000) (disch := first | assumption | omega) only [go_sem, ↓reduceIte, Nat.reduceEqDiff, reduceCtorEq, Nat.reduceAdd, Nat.reduceMul, Nat.reduceLeDiff, zc, Int.reduceToNat, s0, s1, s6, s5, r8192, hi', isL_len ha]
  exact Yao
theorem cModS {x : Int} (h1 : -4611686018427387904 ≤ x) (h2 : x ≤ 4611686018427387904) : CallOK Tryz.prog 76 [i64 x] (i64 (x % 55441)) := by
 have e1 := Int.tmod_eq_emod (a := x) (b := 55441)
 have e2 : -55441 < x.tmod 55441 ∧ x.tmod 55441 < 55441 := ⟨by rw [e1]; split <;> omega, by rw [e1]; split <;> omega⟩
 have e3 : (x.tmod 55441 + 55441).tmod 55441 = x % 55441 := by
  rw [Int.tmod_eq_emod_of_nonneg (by omega), e1]; split <;> omega
 refine call_of (fn := Tryz.f76) (code := bodyOf Tryz.f76) Tryz.func76 rfl (by kernel_rfl) (rfl) ?_
 intro sl hs
 have s0 : sl 0 = i64 x := hs 0
 dsimp only [Tryz.f76, bodyOf, Option.getD]
 simp (maxSteps := 10000000) (disch := first | assumption | omega) only [go_sem, ↓reduceIte, Nat.reduceEqDiff, reduceCtorEq, Nat.reduceAdd, Nat.reduceMul, Nat.reduceLeDiff, zc, Int.reduceToNat, s0, e3]
 exact Yac
theorem cModI {x : Int} (h1 : -4611686018427387904 ≤ x) (h2 : x ≤ 4611686018427387904) : CallOK Tryz.prog 55 [i64 x] (i64 (x % 55441)) := by
 have e1 := Int.tmod_eq_emod (a := x) (b := 55441)
 have e2 : -55441 < x.tmod 55441 ∧ x.tmod 55441 < 55441 := ⟨by rw [e1]; split <;> omega, by rw [e1]; split <;> omega⟩
 have e3 : (x.tmod 55441 + 55441).tmod 55441 = x % 55441 := by
  rw [Int.tmod_eq_emod_of_nonneg (by omega), e1]; split <;> omega
 refine call_of (fn := Tryz.f55) (code := bodyOf Tryz.f55) Tryz.func55 rfl (by kernel_rfl) (rfl) ?_
 intro sl hs
 have s0 : sl 0 = i64 x := hs 0
 dsimp only [Tryz.f55, bodyOf, Option.getD]
 simp (maxSteps := 10000000) (disch := first | assumption | omega) only [go_sem, ↓reduceIte, Nat.reduceEqDiff, reduceCtorEq, Nat.reduceAdd, Nat.reduceMul, Nat.reduceLeDiff, zc, Int.reduceToNat, s0, e3]
 exact Yac
theorem cTrI {a : AV} {A : List (List Int)} (ha : isLL a A) (hA : A.length ≤ 65536) (hl : ∀ i, i < A.length → i < (row A i).length) (nA : numLL A) : CallOK Tryz.prog 115 [a] (i64 (sm (fun i => atI (row A i) i) A.length % 55441)) := by
 have hA' : A.length ≤ 4294967296 := by omega
 have hB := fun k => sm_bnd (f := fun i => atI (row A i) i) (B := 55440) (fun i => by have := nA i i; unfold num at this; omega) k
 refine call_of (fn := Tryz.f115) (code := bodyOf Tryz.f115) Tryz.func115 rfl (by kernel_rfl) (rfl) ?_
 intro sl hs
 have s0 : sl 0 = a := hs 0
 dsimp only [Tryz.f115, bodyOf, Option.getD]
 simp (maxSteps := 10000000) (disch := first | assumption | omega) only [go_sem, ↓reduceIte, Nat.reduceEqDiff, reduceCtorEq, Nat.reduceAdd, Nat.reduceMul, Nat.reduceLeDiff, zc, Int.reduceToNat, s0, isLL_len ha]
 refine WK_for (fun i st => st.sl 0 = a ∧ st.sl 6 = i64 A.length ∧ st.sl 7 = i64 (i : Int) ∧ st.sl 3 = i64 (sm (fun i => atI (row A i) i) i)) A.length ?_ ?_ ?_
 ·refine Yaj ?_
  exact ⟨rfl, rfl⟩
 ·rintro i sl ro gn hi ⟨s0, s6, s7, s3⟩
  dsimp only at s0 s6 s7 s3
  have hi' : (i : Int) < (A.length : Nat) := by omega
  have h1 := isLL_row ha hi
  have hb1 := nA i i
  unfold num at hb1
  have hb3 := hB i
  simp (maxSteps := 10000000) (disch := first | assumption | omega) only [go_sem, ↓reduceIte, Nat.reduceEqDiff, reduceCtorEq, Nat.reduceAdd, Nat.reduceMul, Nat.reduceLeDiff, zc, Int.reduceToNat, s0, s6, s7, s3, hi', hi, isLL_idx ha hi, isL_idx h1 (hl i hi)]
  exact ⟨i64c (by omega), rfl⟩
 ·rintro sl ro gn ⟨s0, s6, s7, s3⟩
  dsimp only at s0 s6 s7 s3
  have hi' : ¬ ((A.length : Nat) : Int) < (A.length : Nat) := by omega
  have hb3 := hB A.length
  simp (maxSteps := 10000000) (disch := first | assumption | omega) only [go_sem, ↓reduceIte, Nat.reduceEqDiff, reduceCtorEq, Nat.reduceAdd, Nat.reduceMul, Nat.reduceLeDiff, zc, Int.reduceToNat, s0, s6, s7, s3, hi', Int.tmod_eq_emod_of_nonneg]
  exact Yac
end Go.Proofs.YtdpinkgkmcbckaaGreat
/- Reduced bases: arrays of aliases. -/
namespace Go.Proofs.YtdpinkgkmcbckaaGreat
open Go.RowKit
set_option maxRecDepth 1000000
structure Arr (ro : Ro) (gn : Nat → Nat) (S g : Nat) (σ : Nat → Nat × Nat) (M : Nat → Nat → Int) (n w : Nat) : Prop where
 arr : ro S g = some (.bx (rws (fun i => .ref (σ i).1 (σ i).2 [] 0 w) n))
 rw : ∀ i, i < n → ro (σ i).1 (σ i).2 = some (.row (rws (fun j => i64 (M i j)) w))
 gnn : ∀ i, i < n → (σ i).2 ≤ gn (σ i).1
 ne : ∀ i, i < n → (σ i).1 ≠ S
 inj : ∀ i j, i < n → j < n → σ i = σ j → i = j
theorem Arr.unp {st : St} {S g b n w : Nat} {M : Nat → Nat → Int} (hb : S ≠ b) (h : st.ro S g = some (matA M n w)) :
  Gh st (unp st S g b n fun i => rws (fun j => i64 (M i j)) w) ∧
  Arr (unp st S g b n fun i => rws (fun j => i64 (M i j)) w).ro (unp st S g b n fun i => rws (fun j => i64 (M i j)) w).gn S g (fun i => (b, st.gn b + 1 + i)) M n w := by
 refine ⟨.unp S g b n _ hb h, ⟨?_, fun i hi => ?_, fun i hi => ?_, fun i _ => fun e => hb e.symm, fun i j _ _ e => ?_⟩⟩
 ·show (if S = S ∧ g = g then _ else _) = _
  rw [if_pos ⟨rfl, rfl⟩]
  simp only [zfe]
  rfl
 ·show (if b = S ∧ st.gn b + 1 + i = g then _ else if _ then _ else _) = _
  rw [if_neg (fun e => hb e.1.symm), if_pos ⟨rfl, by omega, by omega⟩]
  have : st.gn b + 1 + i - (st.gn b + 1) = i := by omega
  rw [this]
 ·show st.gn b + 1 + i ≤ upg st.gn b (st.gn b + n) b
  simp only [upg, if_true]; omega
 ·simp only [Prod.mk.injEq, true_and] at e; omega
theorem unp_other {st : St} {S g b n : Nat} {R : Nat → List AV} {s' g' : Nat} (h1 : s' ≠ S) (h2 : s' ≠ b) : (unp st S g b n R).ro s' g' = st.ro s' g' := by
 show (if s' = S ∧ g' = g then _ else if _ then _ else _) = _
 rw [if_neg (fun e => h1 e.1), if_neg (fun e => h2 e.1)]
theorem unp_gn {st : St} {S g b n : Nat} {R : Nat → List AV} {s' : Nat} (h2 : s' ≠ b) : (unp st S g b n R).gn s' = st.gn s' := if_neg h2
theorem unp_sl {st : St} {S g b n : Nat} {R : Nat → List AV} (k : Nat) : (unp st S g b n R).sl k = st.sl k := nr _
theorem kIdx_refZ {ro : Ro} {s g : Nat} {p : List Nat} {off n : Nat} {a1 : Nat} {a2 : Bool} {a3 : List Value} {e : Nat} {a5 : List (Nat × Nat)} {a6 : Option IntKind} {a7 a8 : Bool} : kIdx (some ⟨a1, a2, a3, some e, a5, a6, a7, a8⟩) ro (.ref s g p off n) (.sc (.int .i64 0)) = if 0 < n ∧ (ro.cells s g p).isSome = true then some ⟨.ptr s g p (off + 0), none, [], []⟩ else none :=
 zen (k := 0)
theorem kSlice_hi {ro : Ro} {s g : Nat} {p : List Nat} {off n h : Nat} {a1 : Nat} {a2 : Bool} {a3 : List Value} {e : Nat} {a5 : List (Nat × Nat)} {a6 : Option IntKind} {a7 a8 : Bool} : kSlice (some ⟨a1, a2, a3, some e, a5, a6, a7, a8⟩) ro (.ref s g p off n) none (some (i64 (h : Int))) = if h ≤ n ∧ (ro.cells s g p).isSome = true then some ⟨.ref s g p off h, none, [], []⟩ else none := by
 simp only [kSlice, evInt, Option.isSome_some, if_true, Int.le_refl, Int.natCast_nonneg, true_and, Int.ofNat_le, Int.toNat_zero, Nat.add_zero, Int.sub_zero, Int.toNat_natCast]
theorem kSlice_lo {ro : Ro} {s g : Nat} {p : List Nat} {off n l : Nat} {a1 : Nat} {a2 : Bool} {a3 : List Value} {e : Nat} {a5 : List (Nat × Nat)} {a6 : Option IntKind} {a7 a8 : Bool} : kSlice (some ⟨a1, a2, a3, some e, a5, a6, a7, a8⟩) ro (.ref s g p off n) (some (i64 (l : Int))) none = if l ≤ n ∧ (ro.cells s g p).isSome = true then some ⟨.ref s g p (off + l) (n - l), none, [], []⟩ else none := by
 rw [zfx]
 simp only [Int.natCast_nonneg, true_and, Int.ofNat_le, Int.toNat_natCast]
 by_cases h : l ≤ n
 ·have : ((n : Int) - l).toNat = n - l := by omega
  rw [this]
 ·simp only [h, false_and, if_false]
theorem upr_ne {ro : Ro} {s g : Nat} {a : AV} {s' g' : Nat} (h : s' ≠ s) : upr ro s g a s' g' = ro s' g' := if_neg fun e => h e.1
theorem upr_eq {ro : Ro} {s g : Nat} {a : AV} : upr ro s g a s g = some a := if_pos ⟨rfl, rfl⟩
def widen : List Bool → List FP → List FP
 | true :: bs, a :: l => ⟨none, a.wr⟩ :: widen bs l
 | false :: bs, a :: l => a :: widen bs l
 | _, l => l
theorem leFP_widen : ∀ (bs : List Bool) (l : List FP), leFP l (widen bs l)
 | [], l => by cases l <;> exact leFP.refl _
 | true :: bs, [] => trivial
 | false :: bs, [] => trivial
 | true :: bs, a :: l => ⟨⟨trivial, fun _ h => h⟩, leFP_widen bs l⟩
 | false :: bs, a :: l => ⟨FP.le_refl a, leFP_widen bs l⟩
theorem leFP.get : ∀ {l m : List FP}, leFP l m → ∀ (i : Nat), (l[i]? = none ∧ m[i]? = none) ∨ ∃ a b, l[i]? = some a ∧ m[i]? = some b ∧ FP.le a b
 | [], [], _, i => .inl ⟨rfl, rfl⟩
 | a :: l, b :: m, h, 0 => .inr ⟨a, b, rfl, rfl, h.1⟩
 | a :: l, b :: m, h, i + 1 => by simpa using leFP.get h.2 i
 | [], _ :: _, h, _ => h.elim
 | _ :: _, [], h, _ => h.elim
theorem disj_mono {q r w w' : List Nat} (h1 : ∀ s, s ∈ q → s ∈ r) (h2 : ∀ s, s ∈ w → s ∈ w') (h : disj r w' = true) : disj q w = true := by
 unfold disj at *
 rw [List.all_eq_true] at *
 intro x hx
 have := h x (h1 x hx)
 simp only [Bool.not_eq_true', List.contains_eq_mem, decide_eq_false_iff_not] at *
 exact fun hm => this (h2 x hm)
theorem FP.half {a b a' b' : FP} (ha : FP.le a a') (hb : FP.le b b') (h : (match a'.rd with | some r => disj r b'.wr | none => b'.wr.isEmpty) = true) : (match a.rd with | some r => disj r b.wr | none => b.wr.isEmpty) = true := by
 have h1 := ha.1
 cases hr : a'.rd with
 | none =>
  rw [hr] at h
  have e : b.wr = [] := by
   cases hw : b.wr with
   | nil => rfl
   | cons x l =>
    have := hb.2 x (by rw [hw]; simp)
    rw [List.isEmpty_iff.1 h] at this
    cases this
  rw [e]
  cases a.rd with
  | none => rfl
  | some r => simp [disj]
 | some r =>
  rw [hr] at h h1
  obtain ⟨q, e, hq⟩ := h1
  rw [e]
  exact disj_mono hq hb.2 h
theorem FP.apart_mono {a b a' b' : FP} (ha : FP.le a a') (hb : FP.le b b') (h : a'.apart b' = true) : a.apart b = true := by
 unfold FP.apart at *
 simp only [Bool.and_eq_true] at *
 exact ⟨⟨FP.half ha hb h.1.1, FP.half hb ha h.1.2⟩, disj_mono ha.2 hb.2 h.2⟩
theorem okD_le {ops : Array Oper} {fp fin : List FP} (h : leFP fp fin) (hok : okD ops fin = true) : okD ops fp = true := by
 unfold okD at *
 rw [List.all_eq_true] at *
 intro i hi
 have := hok i hi
 rw [Bool.and_eq_true] at *
 refine ⟨this.1, ?_⟩
 have h2 := this.2
 rw [List.all_eq_true] at *
 intro j hj
 have h3 := h2 j hj
 unfold okPair at *
 cases hx : ops[j]? with
 | none => simp [hx] at h3
 | some x =>
  cases hy : ops[i]? with
  | none => simp [hx, hy] at h3
  | some y =>
   simp only [hx, hy] at h3 ⊢
   rcases h.get j with ⟨g1, g2⟩ | ⟨a, a', g1, g2, ga⟩
   ·simp [g2] at h3
   ·rcases h.get i with ⟨k1, k2⟩ | ⟨b, b', k1, k2, gb⟩
    ·simp [g2, k2] at h3
    ·simp only [g1, g2, k1, k2, Bool.or_eq_true, Bool.and_eq_true] at h3 ⊢
     rcases h3 with ⟨h4, h5⟩ | h4
     ·exact .inl ⟨h4, FP.apart_mono ga gb h5⟩
     ·exact .inr h4
theorem FIN_w {X : WX} {ops : Array Oper} {fp : List FP} {K : List Fr} {Q : Exit → St → Prop} {st : St} (bs : List Bool) (h : okD ops (widen bs fp) = true) (h2 : AFT X K Q .normal st) : FIN X ops fp K Q st := ⟨okD_le (leFP_widen bs fp) h, h2⟩
theorem Arr.exq {ro : Ro} {gn : Nat → Nat} {S g n w : Nat} {σ : Nat → Nat × Nat} {M : Nat → Nat → Int} (h : Arr ro gn S g σ M n w) {off m k : Nat} (hm : off + m ≤ n) (hk : 3 ≤ k) :
  exq k ro (.ref S g [] off m) (immLL (matL (fun i j => M (off + i) j) m w)) := by
 refine ⟨fun q hq => ?_, fun hp => by simp [pureA] at hp⟩
 obtain ⟨j, rfl⟩ : ∃ j, q = j + 3 := ⟨q - 3, by omega⟩
 simp only [ex, zef, h.arr, zei]
 have e : ((rws (fun i => AV.ref (σ i).1 (σ i).2 [] 0 w) n).drop off).take m = rws (fun i => AV.ref (σ (off + i)).1 (σ (off + i)).2 [] 0 w) m := by
  apply List.ext_getElem?
  intro i
  rw [List.getElem?_take]
  split
  ·rename_i hi
   rw [List.getElem?_drop, rws_get _ _ _ (by omega), rws_get _ _ _ hi]
  ·rename_i hi
   exact (List.getElem?_eq_none (by rw [zfe]; omega)).symm
 rw [e, rws_map]
 show AV.imm (rws _ m) = AV.imm ((matL _ m w).map immL)
 rw [show matL (fun i j => M (off + i) j) m w = rws (fun i => rws (fun j => M (off + i) j) w) m from rfl, rws_map]
 congr 1
 refine rws_congr fun i hi => ?_
 have hr := h.rw (off + i) (by omega)
 simp only [ex, zef, hr, zeh, List.drop_zero]
 rw [List.take_of_length_le (by rw [zfe]; exact Nat.le_refl _)]
 show AV.imm _ = AV.imm _
 rw [rws_map, rws_map]
theorem upg_le {gn : Nat → Nat} {T s m : Nat} (h : m ≤ gn s) : m ≤ upg gn T (gn T + 1) s := by
 unfold upg
 split
 ·rename_i e; subst e; omega
 ·exact h
theorem Arr.set {ro : Ro} {gn : Nat → Nat} {S g n w : Nat} {σ : Nat → Nat × Nat} {M M' : Nat → Nat → Int} (A : Arr ro gn S g σ M n w) {x T : Nat} {R : List AV} (hT : T ≠ S) (hR : R = rws (fun j => i64 (M' x j)) w)
  (hM : ∀ i, i ≠ x → i < n → ∀ j, j < w → M' i j = M i j) :
  Arr (upr (upr ro T (gn T + 1) (.row R)) S g (.bx ((rws (fun i => AV.ref (σ i).1 (σ i).2 [] 0 w) n).set x (.ref T (gn T + 1) [] 0 w)))) (upg gn T (gn T + 1)) S g (fun i => if i = x then (T, gn T + 1) else σ i) M' n w := by
 have new : ∀ i, i < n → ¬ ((σ i).1 = T ∧ (σ i).2 = gn T + 1) := by
  rintro i hi ⟨e1, e2⟩
  have := A.gnn i hi
  rw [e1, e2] at this; omega
 refine ⟨?_, fun i hi => ?_, fun i hi => ?_, fun i hi => ?_, fun i j hi hj e => ?_⟩
 ·rw [upr_eq, rws_set]
  congr 2
  refine rws_congr fun i _ => ?_
  split <;> rfl
 ·by_cases e : i = x
  ·subst e
   simp only [if_true]
   rw [upr_ne hT, upr_eq, hR]
  ·simp only [if_neg e]
   rw [upr_ne (A.ne i hi)]
   unfold upr
   rw [if_neg (new i hi), A.rw i hi]
   congr 2
   exact rws_congr fun j hj => by rw [hM i e hi j hj]
 ·by_cases e : i = x
  ·simp only [if_pos e, upg, if_true]; exact Nat.le_refl _
  ·simp only [if_neg e, upg]
   have := A.gnn i hi
   split
   ·rename_i e2; rw [e2] at this; omega
   ·exact this
 ·by_cases e : i = x
  ·simp only [if_pos e]; exact hT
  ·simp only [if_neg e]; exact A.ne i hi
 ·by_cases e1 : i = x <;> by_cases e2 : j = x
  ·omega
  ·simp only [if_pos e1, if_neg e2] at e
   exact absurd ⟨by rw [← e], by rw [← e]⟩ (new j hj)
  ·simp only [if_neg e1, if_pos e2] at e
   exact absurd ⟨by rw [e], by rw [e]⟩ (new i hi)
  ·simp only [if_neg e1, if_neg e2] at e
   exact A.inj i j hi hj e
theorem Arr.piv {ro : Ro} {gn : Nat → Nat} {S g n w : Nat} {σ : Nat → Nat × Nat} {M M' : Nat → Nat → Int} (A : Arr ro gn S g σ M n w) {d f T : Nat} {R : List AV} {X1 : AV} (hd : d < n) (hf : f < n) (hT : T ≠ S) (hR : R = rws (fun j => i64 (M' d j)) w)
  (hM : ∀ i, i ≠ d → i < n → ∀ j, j < w → M' i j = M (if i = f then d else i) j) :
  Arr (upr (upr (upr ro S g X1) T (gn T + 1) (.row R)) S g (.bx (((rws (fun i => AV.ref (σ i).1 (σ i).2 [] 0 w) n).set f (.ref (σ d).1 (σ d).2 [] 0 w)).set d (.ref T (gn T + 1) [] 0 w)))) (upg gn T (gn T + 1)) S g
   (fun i => if i = d then (T, gn T + 1) else if i = f then σ d else σ i) M' n w := by
 have new : ∀ i, i < n → ¬ ((σ i).1 = T ∧ (σ i).2 = gn T + 1) := by
  rintro i hi ⟨e1, e2⟩
  have := A.gnn i hi
  rw [e1, e2] at this; omega
 have old : ∀ i, i ≠ d → i < n → (if i = f then σ d else σ i) = σ (if i = f then d else i) := fun i _ _ => by split <;> rfl
 have lt : ∀ i, i < n → (if i = f then d else i) < n := fun i hi => by split <;> omega
 refine ⟨?_, fun i hi => ?_, fun i hi => ?_, fun i hi => ?_, fun i j hi hj e => ?_⟩
 ·rw [upr_eq, rws_set, rws_set]
  congr 2
  refine rws_congr fun i _ => ?_
  split
  ·rfl
  ·split <;> rfl
 ·by_cases e : i = d
  ·subst e
   simp only [if_true]
   rw [upr_ne hT, upr_eq, hR]
  ·simp only [if_neg e]
   rw [old i e hi, upr_ne (A.ne _ (lt i hi))]
   have := new _ (lt i hi)
   have h3 : upr (upr ro S g X1) T (gn T + 1) (.row R) (σ (if i = f then d else i)).1 (σ (if i = f then d else i)).2 = upr ro S g X1 (σ (if i = f then d else i)).1 (σ (if i = f then d else i)).2 := if_neg this
   rw [h3, upr_ne (A.ne _ (lt i hi)), A.rw _ (lt i hi)]
   congr 2
   exact rws_congr fun j hj => by rw [hM i e hi j hj]
 ·by_cases e : i = d
  ·simp only [if_pos e, upg, if_true]; exact Nat.le_refl _
  ·simp only [if_neg e]
   rw [old i e hi]
   exact upg_le (A.gnn _ (lt i hi))
 ·by_cases e : i = d
  ·simp only [if_pos e]; exact hT
  ·simp only [if_neg e]; rw [old i e hi]; exact A.ne _ (lt i hi)
 ·by_cases e1 : i = d <;> by_cases e2 : j = d
  ·omega
  ·simp only [if_pos e1, if_neg e2] at e
   rw [old j e2 hj] at e
   exact absurd ⟨by rw [← e], by rw [← e]⟩ (new _ (lt j hj))
  ·simp only [if_neg e1, if_pos e2] at e
   rw [old i e1 hi] at e
   exact absurd ⟨by rw [e], by rw [e]⟩ (new _ (lt i hi))
  ·simp only [if_neg e1, if_neg e2] at e
   rw [old i e1 hi, old j e2 hj] at e
   have := A.inj _ _ (lt i hi) (lt j hj) e
   split at this <;> split at this <;> omega
theorem Arr.wr {ro : Ro} {gn : Nat → Nat} {S g n w : Nat} {σ : Nat → Nat × Nat} {M M' : Nat → Nat → Int} (A : Arr ro gn S g σ M n w) {x : Nat} (hx : x < n) {R : List AV} (hR : R = rws (fun j => i64 (M' x j)) w) (hM : ∀ i, i ≠ x → i < n → ∀ j, j < w → M' i j = M i j) :
  Arr (upr ro (σ x).1 (σ x).2 (.row R)) gn S g σ M' n w := by
 refine ⟨?_, fun i hi => ?_, A.gnn, A.ne, A.inj⟩
 ·rw [upr_ne (fun e => A.ne x hx e.symm)]; exact A.arr
 ·by_cases e : i = x
  ·subst e; rw [upr_eq, hR]
  ·have : ¬ ((σ i).1 = (σ x).1 ∧ (σ i).2 = (σ x).2) := fun h => e (A.inj i x hi hx (Prod.ext h.1 h.2))
   have h3 : upr ro (σ x).1 (σ x).2 (.row R) (σ i).1 (σ i).2 = ro (σ i).1 (σ i).2 := if_neg this
   rw [h3, A.rw i hi]
   congr 2
   exact rws_congr fun j hj => by rw [hM i e hi j hj]
theorem Arr.swap {ro : Ro} {gn : Nat → Nat} {S g n w : Nat} {σ : Nat → Nat × Nat} {M : Nat → Nat → Int} (A : Arr ro gn S g σ M n w) {d f : Nat} {X1 : AV} (hd : d < n) (hf : f < n) :
  Arr (upr (upr ro S g X1) S g (.bx (((rws (fun i => AV.ref (σ i).1 (σ i).2 [] 0 w) n).set d (.ref (σ f).1 (σ f).2 [] 0 w)).set f (.ref (σ d).1 (σ d).2 [] 0 w)))) gn S g (fun i => σ (if i = d then f else if i = f then d else i)) (swp M f d) n w := by
 have lt : ∀ i, i < n → (if i = d then f else if i = f then d else i) < n := fun i hi => by split <;> (try split) <;> omega
 refine ⟨?_, fun i hi => ?_, fun i hi => A.gnn _ (lt i hi), fun i hi => A.ne _ (lt i hi), fun i j hi hj e => ?_⟩
 ·rw [upr_eq, rws_set, rws_set]
  congr 2
  refine rws_congr fun i _ => ?_
  by_cases h1 : i = f
  ·rw [if_pos h1]
   by_cases h2 : i = d
   ·rw [if_pos h2]; subst h1; subst h2; rfl
   ·rw [if_neg h2, if_pos h1]
  ·rw [if_neg h1]
   by_cases h2 : i = d
   ·rw [if_pos h2, if_pos h2]
   ·rw [if_neg h2, if_neg h2, if_neg h1]
 ·show upr (upr ro S g X1) S g _ _ _ = _
  rw [upr_ne (A.ne _ (lt i hi)), upr_ne (A.ne _ (lt i hi)), A.rw _ (lt i hi)]
  rfl
 ·have := A.inj _ _ (lt i hi) (lt j hj) e
  split at this <;> split at this <;> (try split at this) <;> (try split at this) <;> omega
theorem Arr.congr {ro : Ro} {gn : Nat → Nat} {S g n w : Nat} {σ : Nat → Nat × Nat} {M M' : Nat → Nat → Int} (A : Arr ro gn S g σ M n w) (h : ∀ i, i < n → ∀ j, j < w → M' i j = M i j) : Arr ro gn S g σ M' n w :=
 ⟨A.arr, fun i hi => by rw [A.rw i hi]; congr 2; exact rws_congr fun j hj => by rw [h i hi j hj], A.gnn, A.ne, A.inj⟩
theorem Arr.frame {ro ro' : Ro} {gn gn' : Nat → Nat} {S g n w : Nat} {σ : Nat → Nat × Nat} {M : Nat → Nat → Int} (A : Arr ro gn S g σ M n w) (h1 : ro' S g = ro S g) (h2 : ∀ i, i < n → ro' (σ i).1 (σ i).2 = ro (σ i).1 (σ i).2) (h3 : ∀ i, i < n → gn (σ i).1 ≤ gn' (σ i).1) : Arr ro' gn' S g σ M n w :=
 ⟨h1.trans A.arr, fun i hi => (h2 i hi).trans (A.rw i hi), fun i hi => Nat.le_trans (A.gnn i hi) (h3 i hi), A.ne, A.inj⟩
theorem outL_arr {w : Nat} {σ : Nat → Nat × Nat} {R : Nat → List AV} : ∀ (l : List Nat) {ro : Ro}, l.Nodup → (∀ i j, i ∈ l → j ∈ l → σ i = σ j → i = j) → (∀ i, i ∈ l → ro (σ i).1 (σ i).2 = some (.row (R i)) ∧ (R i).length = w) →
  outL ro (l.map fun i => .ref (σ i).1 (σ i).2 [] 0 w) = some (l.map fun i => .row (R i), l.map σ)
 | [], ro, _, _, _ => rfl
 | i :: l, ro, hn, hi, hr => by
  obtain ⟨h1, h2⟩ := hr i (by simp)
  have hn' := List.nodup_cons.1 hn
  have ih := outL_arr (w := w) (σ := σ) (R := R) l (ro := ro.dl [((σ i).1, (σ i).2)]) hn'.2 (fun a b ha hb => hi a b (by simp [ha]) (by simp [hb])) (fun a ha => by
   refine ⟨?_, (hr a (by simp [ha])).2⟩
   show upr ro (σ i).1 (σ i).2 .dead (σ a).1 (σ a).2 = _
   unfold upr
   rw [if_neg]
   ·exact (hr a (by simp [ha])).1
   ·rintro ⟨e1, e2⟩
    have := hi a i (by simp [ha]) (by simp) (Prod.ext e1 e2)
    subst this
    exact hn'.1 ha)
  simp only [List.map_cons, outL, zes, h1, h2, if_true, ih]
  rfl
theorem Arr.out {ro : Ro} {gn : Nat → Nat} {S g n w : Nat} {σ : Nat → Nat × Nat} {M : Nat → Nat → Int} (h : Arr ro gn S g σ M n w) {d : Nat} (hd : d ≤ n) : ∃ dl, zhk ro (.ref S g [] 0 d) = some (matA M d w, dl) := by
 have key : ∀ m, m ≤ n → outL (upr ro S g .dead) (rws (fun i => AV.ref (σ i).1 (σ i).2 [] 0 w) m) = some (rws (fun i => .row (rws (fun j => i64 (M i j)) w)) m, (List.range m).map σ) := by
  intro m hm
  refine outL_arr (R := fun i => rws (fun j => i64 (M i j)) w) (List.range m) List.nodup_range (fun i j hi hj => h.inj i j (by simp at hi; omega) (by simp at hj; omega)) (fun i hi => ?_)
  have hi : i < n := by simp at hi; omega
  refine ⟨?_, zfe _ _⟩
  unfold upr
  rw [if_neg (fun e => h.ne i hi e.1)]
  exact h.rw i hi
 have e : (rws (fun i => AV.ref (σ i).1 (σ i).2 [] 0 w) n).take d = rws (fun i => AV.ref (σ i).1 (σ i).2 [] 0 w) d := by
  apply List.ext_getElem?
  intro i
  rw [List.getElem?_take]
  split
  ·rename_i hi
   rw [rws_get _ _ _ (by omega), rws_get _ _ _ hi]
  ·rename_i hi
   exact (List.getElem?_eq_none (by rw [zfe]; omega)).symm
 refine ⟨(S, g) :: (List.range d).map σ, ?_⟩
 simp only [zhk, h.arr, zfe]
 by_cases hdn : d = n
 ·subst hdn
  rw [if_pos rfl, key d (Nat.le_refl _)]
 ·rw [if_neg hdn, if_pos hd, e, key d hd]
end Go.Proofs.YtdpinkgkmcbckaaGreat
/- Reduced bases by the reference. -/
namespace Go.Proofs.YtdpinkgkmcbckaaGreat
open Go.RowKit
set_option maxRecDepth 1000000
theorem matL_len2 (G : Nat → Nat → Int) (k l : Nat) : (matL G k l).length = k := zfe _ _
theorem matL_row2 {G : Nat → Nat → Int} {k l x : Nat} (hx : x < k) : (row (matL G k l) x).length = l := by rw [matL_row hx, zfe]
theorem rowLL_matLs {M : Nat → Nat → Int} {n w : Nat} : AV.row (rws (fun x => rowL (row (matL M n w) x)) (matL M n w).length) = matA M n w := by
 rw [matL_len2]
 congr 1
 refine rws_congr fun x hx => ?_
 rw [matL_row hx, rowL, rws_map]
theorem cBasis {a : AV} {n w : Nat} {M : Nat → Nat → Int} (ha : isLL a (matL M n w)) (h0 : 0 < n) (hn : n ≤ 65536) (hw : w ≤ 65536) (hM : numM M) : CallOK Tryz.prog 39 [a] (matA (gj n M w).1 (gj n M w).2.1 w) := by
 have c1 := cOwn2 ha (by rw [matL_len2]; exact Nat.le_trans hn (by decide)) (fun i hi => by rw [matL_len2] at hi; rw [matL_row2 hi]; exact Nat.le_trans hw (by decide))
 rw [rowLL_matLs] at c1
 have h0' : (0 : Int) < n := by omega
 refine call_of (fn := Tryz.f39) (code := bodyOf Tryz.f39) Tryz.func39 rfl (by kernel_rfl) (noRef_mat _ _ _) ?_
 intro sl hs
 have s0 : sl 0 = a := hs 0
 dsimp only [Tryz.f39, bodyOf, Option.getD]
 refine Yad ?_
 refine CLL_pure _ c1 PUt rfl rfl ?_
 simp (maxSteps := 10000000) (disch := first | assumption | omega) only [go_sem, ↓reduceIte, Nat.reduceEqDiff, reduceCtorEq, Nat.reduceAdd, Nat.reduceMul, Nat.reduceLeDiff, zc, Int.reduceToNat, s0, impE_row]
 refine WK_forG (fun k st => st.sl 3 = .ref 8208 (st.gn 8208) [] 0 n ∧ st.sl 4 = i64 ((gj n M k).2.1 : Nat) ∧ st.sl 5 = i64 (k : Int) ∧ (∃ σ, Arr st.ro st.gn 8208 (st.gn 8208) σ (gj n M k).1 n w)) w (Arr.unp (S := 8208) (g := 1) (b := 3) (n := n) (w := w) (M := M) (by decide) Ur).1 ?_ ?_ ?_
 ·simp only [unp_sl, unp_gn (show (8208 : Nat) ≠ 3 by decide), ↓za, ↓reduceIte, Nat.reduceEqDiff, zb, reduceCtorEq]
  exact ⟨rfl, rfl, _, (Arr.unp (S := 8208) (g := 1) (b := 3) (n := n) (w := w) (M := M) (by decide) Ur).2⟩
 ·rintro k sl ro gn hk ⟨s3, s4, s5, q⟩
  dsimp only at s3 s4 s5
  have hk' : (k : Int) < (w : Nat) := by omega
  obtain ⟨σ, A⟩ := q
  have ok := gj_ok (n := n) hM k
  obtain ⟨G, d, z, hX⟩ : ∃ G d z, gj n M k = (G, d, z) := ⟨_, _, _, rfl⟩
  have hS : gj n M (k + 1) = gst n k (G, d, z) := by rw [gj, hX]
  rw [hX] at A s4 ok
  dsimp only at A s4 ok
  obtain ⟨hG, hd, -⟩ := ok
  obtain ⟨f1, f2, f3, f4⟩ := fdf_spec G (k := k) hd
  generalize hf : fdf G k n d = f at f1 f2 f3 f4
  have a1 := A.arr
  have a2 := A.rw 0 h0
  simp (maxSteps := 10000000) (disch := first | assumption | omega) only [go_sem, ↓reduceIte, Nat.reduceEqDiff, reduceCtorEq, Nat.reduceAdd, Nat.reduceMul, Nat.reduceLeDiff, zc, Int.reduceToNat, s3, s4, s5, hk', hk, a1, a2, rws_get, h0', h0, kIdx_refZ]
  refine WK_for (fun x st => st.sl 3 = .ref 8208 (st.gn 8208) [] 0 n ∧ st.sl 4 = i64 (d : Nat) ∧ st.sl 5 = i64 (k : Int) ∧ st.sl 6 = i64 ((d + x : Nat) : Int) ∧ (Arr st.ro st.gn 8208 (st.gn 8208) σ G n w)) ((f - d)) ?_ ?_ ?_
  ·refine Ycn ?_
   exact ⟨s3, s4, s5, rfl, A⟩
  ·rintro x sl ro gn hx ⟨s3, s4, s5, s6, A⟩
   dsimp only at s3 s4 s5 s6
   have hx' : (x : Int) < ((f - d) : Nat) := by omega
   dsimp only at A
   have hx1 : d + x < n := by omega
   have hx2 : ((d + x : Nat) : Int) < n := by omega
   have a1 := A.arr
   have a3 := A.rw (d + x) hx1
   have e1 := f3 (d + x) (by omega) (by omega)
   simp (maxSteps := 10000000) (disch := first | assumption | omega) only [go_sem, ↓reduceIte, Nat.reduceEqDiff, reduceCtorEq, Nat.reduceAdd, Nat.reduceMul, Nat.reduceLeDiff, zc, Int.reduceToNat, s3, s4, s5, s6, hx', hx, a1, a3, rws_get, hx1, hx2, e1, hk]
   exact ⟨i64c (by omega), A⟩
  ·rintro sl ro gn ⟨s3, s4, s5, s6, A⟩
   dsimp only at s3 s4 s5 s6
   have hx' : ¬ (((f - d) : Nat) : Int) < ((f - d) : Nat) := by omega
   dsimp only at A
   have a1 := A.arr
   have ef : d + (f - d) = f := by omega
   rw [ef] at s6
   by_cases hfn : f = n
   ·have e0 : gst n k (G, d, z) = (G, d, 0) := by simp only [gst, hf, hfn, if_true]
    subst hfn
    simp (maxSteps := 10000000) (disch := first | assumption | omega) only [go_sem, ↓reduceIte, Nat.reduceEqDiff, reduceCtorEq, Nat.reduceAdd, Nat.reduceMul, Nat.reduceLeDiff, zc, Int.reduceToNat, s3, s4, s5, s6, hx', a1]
    rw [hS, e0]
    exact ⟨rfl, i64c (by omega), σ, A⟩
   ·have hlt : f < n := by omega
    have hlt' : (f : Int) < n := by omega
    have hlt2 : f + 1 ≤ n := hlt
    have hdn : d < n := by omega
    have hdn2 : d + 1 ≤ n := hdn
    have a3 := A.rw f hlt
    have a4 := A.rw d hdn
    have n3 := A.ne f hlt
    have n4 := A.ne d hdn
    have e1 := f4 hlt
    have hE : elm (swp G f d) d k = elm (swp G f d) d k := rfl
    simp (maxSteps := 10000000) (disch := first | assumption | omega) only [go_sem, ↓reduceIte, Nat.reduceEqDiff, reduceCtorEq, Nat.reduceAdd, Nat.reduceMul, Nat.reduceLeDiff, zc, Int.reduceToNat, s3, s4, s5, s6, hx', a1, a3, a4, rws_get, hlt, hlt', hlt2, hdn, hdn2, eq_false e1, eq_false n3, eq_false n4, hk]
    refine CLL_pure _ (c59 (hG f k).1 (hG f k).2) PUt rfl rfl ?_
    simp (maxSteps := 10000000) (disch := first | assumption | omega) only [go_sem, ↓reduceIte, Nat.reduceEqDiff, reduceCtorEq, Nat.reduceAdd, Nat.reduceMul, Nat.reduceLeDiff, zc, Int.reduceToNat, s3, s4, s5, s6, hx']
    refine CLL_q _ (cScale (isL_imm _) (by rw [zfe]; exact Nat.le_trans hw (by decide)) (fun j => ?_) (num_pw (G f k) 55439)) (.cons (exq_refL (xs := rws (fun j => G f j) w) (by rw [upr_ne n3, a3, rowL, rws_map]) (zfe _ _).symm (by decide)) (.cons (exq_sc _ _ _ (by decide)) .nil)) rfl rfl (noI_row _ (noIL_map _ (fun _ => rfl) _)) ?_
    ·exact numL_rws _ _ (fun i _ => hG f i) j
    simp (maxSteps := 10000000) (disch := first | assumption | omega) only [go_sem, ↓reduceIte, Nat.reduceEqDiff, reduceCtorEq, Nat.reduceAdd, Nat.reduceMul, Nat.reduceLeDiff, zc, Int.reduceToNat, s3, s4, s5, s6, hx', impE_row, a1, a3, a4, rws_get, hdn, hdn2, zfe, List.length_set]
    refine WK_for (fun x st => st.sl 3 = .ref 8208 (st.gn 8208) [] 0 n ∧ st.sl 4 = i64 (d : Nat) ∧ st.sl 5 = i64 (k : Int) ∧ st.sl 8 = i64 (x : Int) ∧ (∃ σ', st.sl 7 = .ref (σ' d).1 (σ' d).2 [] 0 w ∧ Arr st.ro st.gn 8208 (st.gn 8208) σ' (elx G f d k x) n w)) n ?_ ?_ ?_
    ·simp only [↓za, ↓reduceIte, Nat.reduceEqDiff, zb, reduceCtorEq, s3, s4, s5]
     refine ⟨rfl, _, ?_, A.piv (M' := elx G f d k 0) hdn hlt (by decide) (rws_congr fun j hj => by rw [elx_d, nrm_swp, atI_rws _ hj]) fun i h1 h2 j hj => by rw [elx_ge h1 (Nat.zero_le _)]; unfold swp; rw [if_neg h1]⟩
     simp only [if_true]
    ·rintro x sl ro gn hx ⟨s3, s4, s5, s8, q⟩
     dsimp only at s3 s4 s5 s8
     have hx' : (x : Int) < (n : Nat) := by omega
     obtain ⟨τ, s7, B⟩ := q
     dsimp only at s7 B
     have b1 := B.arr
     have b3 := B.rw x hx
     have b4 := B.rw d hdn
     have m3 := B.ne x hx
     have m4 := B.ne d hdn
     have hx2 : x + 1 ≤ n := hx
     by_cases hxd : x = d
     ·have hxd' : (x : Int) = d := by omega
      simp (maxSteps := 10000000) (disch := first | assumption | omega) only [go_sem, ↓reduceIte, Nat.reduceEqDiff, reduceCtorEq, Nat.reduceAdd, Nat.reduceMul, Nat.reduceLeDiff, zc, Int.reduceToNat, s3, s4, s5, s8, hx', hx, b1, hxd']
      refine ⟨i64c (by omega), τ, s7, ?_⟩
      rw [hxd]
      rw [hxd] at B
      have : elx G f d k (d + 1) = elx G f d k d := by funext i j; exact elx_same
      rw [this]; exact B
     ·have hxd' : ¬ (x : Int) = d := by omega
      have eg : ∀ j, elx G f d k x x j = swp G f d x j := fun j => elx_ge hxd (Nat.le_refl _)
      simp only [eg, elx_d] at b3 b4
      have hq := num_swp hG f d x k
      have hq2 := hq
      unfold num at hq2
      simp (maxSteps := 10000000) (disch := first | assumption | omega) only [go_sem, ↓reduceIte, Nat.reduceEqDiff, reduceCtorEq, Nat.reduceAdd, Nat.reduceMul, Nat.reduceLeDiff, zc, Int.reduceToNat, s3, s4, s5, s8, hx', hx, b1, b3, b4, s7, eq_false hxd', rws_get, hx2, eq_false m3, eq_false m4, hk]
      refine CLLD_pure _ (cModS (by omega) (by omega)) PUt rfl ?_
      simp (maxSteps := 10000000) (disch := first | assumption | omega) only [go_sem, ↓reduceIte, Nat.reduceEqDiff, reduceCtorEq, Nat.reduceAdd, Nat.reduceMul, Nat.reduceLeDiff, zc, Int.reduceToNat, s3, s4, s5, s8, hx', hx]
      have l1 : (rws (fun j => swp G f d x j) w).length = w := zfe _ _
      have l2 : (rws (fun j => nrm (swp G f d) d k j) w).length = w := zfe _ _
      have cP := cPlus (isL_imm (rws (fun j => swp G f d x j) w)) (isL_imm (rws (fun j => nrm (swp G f d) d k j) w)) (by rw [l1]; exact Nat.le_trans hw (by decide)) (by rw [l1, l2]; exact Nat.le_refl _) (numL_rws _ _ fun j _ => num_swp hG f d x j) (numL_rws _ _ fun j _ => num_nrm _ _ _ _) (num_mod (0 - swp G f d x k))
      have e2 : (rws (fun j => i64 (plV (rws (fun j => swp G f d x j) w) (rws (fun j => nrm (swp G f d) d k j) w) ((0 - swp G f d x k) % 55441) j)) w) = rws (fun j => i64 (elx G f d k (x + 1) x j)) w := by
       refine rws_congr fun j hj => ?_
       unfold plV
       rw [atI_rws _ hj, atI_rws _ hj, elx_at hxd, show (0 - swp G f d x k) = - swp G f d x k by omega, neg_emod_mul]
      rw [l1, e2] at cP
      refine CLLD_q _ cP (.cons (exq_refL (by rw [b3, rowL, rws_map]) l1.symm (by decide)) (.cons (exq_refL (by rw [b4, rowL, rws_map]) l2.symm (by decide)) (.cons (exq_sc _ _ _ (by decide)) .nil))) rfl (noI_row _ (noIL_map _ (fun _ => rfl) _)) ?_
      simp (maxSteps := 10000000) (disch := first | assumption | omega) only [go_sem, ↓reduceIte, Nat.reduceEqDiff, reduceCtorEq, Nat.reduceAdd, Nat.reduceMul, Nat.reduceLeDiff, zc, Int.reduceToNat, s3, s4, s5, s8, hx', hx, impE_row, b1, rws_get, hx2, zfe]
      refine FIN_w [false, false, false, false, false, false, false, false, false, false, false, false, true, true, false, false, true] (by kernel_rfl) ?_
      simp (maxSteps := 10000000) (disch := first | assumption | omega) only [go_sem, ↓reduceIte, Nat.reduceEqDiff, reduceCtorEq, Nat.reduceAdd, Nat.reduceMul, Nat.reduceLeDiff, zc, Int.reduceToNat, s3, s4, s5, s8, hx', hx, b1, s7]
      have nd : ¬ d = x := fun e => hxd e.symm
      refine ⟨i64c (by omega), _, ?_, B.set (by decide) rfl fun i h1 h2 j hj => elx_ne h1⟩
      simp only [if_neg nd]
    ·rintro sl ro gn ⟨s3, s4, s5, s8, q⟩
     dsimp only at s3 s4 s5 s8
     have hx' : ¬ ((n : Nat) : Int) < (n : Nat) := by omega
     obtain ⟨τ, s7, B⟩ := q
     dsimp only at s7 B
     have b1 := B.arr
     simp (maxSteps := 10000000) (disch := first | assumption | omega) only [go_sem, ↓reduceIte, Nat.reduceEqDiff, reduceCtorEq, Nat.reduceAdd, Nat.reduceMul, Nat.reduceLeDiff, zc, Int.reduceToNat, s3, s4, s5, s8, hx', b1]
     have e3 : gst n k (G, d, z) = (elm (swp G f d) d k, d + 1, (if d < f then -z % 55441 else z) * G f k % 55441) := by simp only [gst, hf, hfn, if_false]
     rw [hS, e3]
     dsimp only
     refine ⟨i64c (by omega), i64c (by omega), τ, ⟨B.arr, fun i hi => ?_, B.gnn, B.ne, B.inj⟩⟩
     rw [B.rw i hi]
     congr 2
     exact rws_congr fun j _ => by rw [elx_end hi]
 ·rintro sl ro gn ⟨s3, s4, s5, q⟩
  dsimp only at s3 s4 s5
  have hk' : ¬ ((w : Nat) : Int) < (w : Nat) := by omega
  obtain ⟨σ, A⟩ := q
  dsimp only at A
  have ok := gj_ok (n := n) hM w
  have a1 := A.arr
  have a2 := A.rw 0 h0
  have hd' : ((gj n M w).2.1 : Int) ≤ n := by have := ok.2.1; omega
  simp (maxSteps := 10000000) (disch := first | assumption | omega) only [go_sem, ↓reduceIte, Nat.reduceEqDiff, reduceCtorEq, Nat.reduceAdd, Nat.reduceMul, Nat.reduceLeDiff, zc, Int.reduceToNat, s3, s4, s5, hk', a1, a2, rws_get, h0', h0, kIdx_refZ, hd', ok.2.1, Option.map_none, Option.map_some, kSlice_hi]
  obtain ⟨dl, ho⟩ := A.out ok.2.1
  simp only [retR, resL, outT, ↓za, ↓reduceIte, Nat.reduceEqDiff, zb, reduceCtorEq, ho]
end Go.Proofs.YtdpinkgkmcbckaaGreat
/- Reduced bases by the program. -/
namespace Go.Proofs.YtdpinkgkmcbckaaGreat
open Go.RowKit
set_option maxRecDepth 1000000
theorem cRed1 {x : AV} {xs : List Int} {k : Nat} (hx : isL x xs) (hk : k < xs.length) : CallOK Tryz.prog 57 [x, .iptr [i64 k]] (bo (!decide (atI xs k = 0))) := by
 refine call_of (fn := Tryz.f57) (code := bodyOf Tryz.f57) Tryz.func57 rfl (by kernel_rfl) (rfl) ?_
 intro sl hs
 have s0 : sl 0 = x := hs 0
 have s1 : sl 1 = .iptr [i64 k] := hs 1
 by_cases h : atI xs k = 0
 ·dsimp only [Tryz.f57, bodyOf, Option.getD]
  simp (maxSteps := 10000000) (disch := first | assumption | omega) only [go_sem, ↓reduceIte, Nat.reduceEqDiff, reduceCtorEq, Nat.reduceAdd, Nat.reduceMul, Nat.reduceLeDiff, zc, Int.reduceToNat, s0, s1, isL_idx hx hk, h]
  exact Yac
 ·dsimp only [Tryz.f57, bodyOf, Option.getD]
  simp (maxSteps := 10000000) (disch := first | assumption | omega) only [go_sem, ↓reduceIte, Nat.reduceEqDiff, reduceCtorEq, Nat.reduceAdd, Nat.reduceMul, Nat.reduceLeDiff, zc, Int.reduceToNat, s0, s1, isL_idx hx hk, eq_false h]
  exact Yac
def nmx (G : Nat → Nat → Int) (d k x i j : Nat) : Int := if i = d ∧ j < x then nrm G d k j else G i j
def pex (G : Nat → Nat → Int) (f d k x y i j : Nat) : Int := if i = x ∧ j < y then elm (swp G f d) d k x j else elx G f d k x i j
theorem nmx_zero (G : Nat → Nat → Int) (d k i j : Nat) : nmx G d k 0 i j = G i j := if_neg (fun h => Nat.not_lt_zero _ h.2)
theorem nmx_at (G : Nat → Nat → Int) (d k x : Nat) : nmx G d k x d x = G d x := if_neg (fun h => Nat.lt_irrefl _ h.2)
theorem nmx_ne {G : Nat → Nat → Int} {d k x i j : Nat} (h : ¬ (i = d ∧ j = x)) : nmx G d k (x + 1) i j = nmx G d k x i j := by
 unfold nmx
 by_cases h1 : i = d ∧ j < x
 ·rw [if_pos h1, if_pos ⟨h1.1, by omega⟩]
 ·rw [if_neg h1, if_neg]
  rintro ⟨a, b⟩
  by_cases e : j = x
  ·exact h ⟨a, e⟩
  ·exact h1 ⟨a, by omega⟩
theorem nmx_new (G : Nat → Nat → Int) (d k x : Nat) : nmx G d k (x + 1) d x = nrm G d k x := if_pos ⟨rfl, by omega⟩
theorem nmx_end {G : Nat → Nat → Int} {f d k w i j : Nat} (h : j < w) : elx G f d k 0 i j = nmx (swp G f d) d k w i j := by
 unfold nmx
 by_cases e : i = d
 ·subst e; rw [elx_d, if_pos ⟨rfl, h⟩]
 ·rw [elx_ge e (Nat.zero_le _), if_neg (fun h => e h.1)]
theorem pex_zero (G : Nat → Nat → Int) (f d k x i j : Nat) : pex G f d k x 0 i j = elx G f d k x i j := if_neg (fun h => Nat.not_lt_zero _ h.2)
theorem pex_at {G : Nat → Nat → Int} {f d k x y : Nat} (h : x ≠ d) : pex G f d k x y x y = swp G f d x y := by
 unfold pex; rw [if_neg (fun h => Nat.lt_irrefl _ h.2), elx_ge h (Nat.le_refl _)]
theorem pex_d {G : Nat → Nat → Int} {f d k x y j : Nat} (h : x ≠ d) : pex G f d k x y d j = nrm (swp G f d) d k j := by
 unfold pex; rw [if_neg (fun e => h e.1.symm), elx_d]
theorem pex_ne {G : Nat → Nat → Int} {f d k x y i j : Nat} (h : ¬ (i = x ∧ j = y)) : pex G f d k x (y + 1) i j = pex G f d k x y i j := by
 unfold pex
 by_cases h1 : i = x ∧ j < y
 ·rw [if_pos h1, if_pos ⟨h1.1, by omega⟩]
 ·rw [if_neg h1, if_neg]
  rintro ⟨a, b⟩
  by_cases e : j = y
  ·exact h ⟨a, e⟩
  ·exact h1 ⟨a, by omega⟩
theorem pex_new (G : Nat → Nat → Int) (f d k x y : Nat) (h : x ≠ d) : pex G f d k x (y + 1) x y = (swp G f d x y - swp G f d x k * nrm (swp G f d) d k y) % 55441 := by
 unfold pex elm; rw [if_pos ⟨rfl, by omega⟩, if_neg h]
theorem pex_end {G : Nat → Nat → Int} {f d k x w i j : Nat} (hx : x ≠ d) (h : j < w) : elx G f d k (x + 1) i j = pex G f d k x w i j := by
 unfold pex
 by_cases e : i = x
 ·subst e; rw [if_pos ⟨rfl, h⟩, elx_at hx]; unfold elm; rw [if_neg hx]
 ·rw [if_neg (fun h => e h.1), elx_ne e]
theorem elx_skip {G : Nat → Nat → Int} {f d k x i j : Nat} (hG : ∀ i j, num (G i j)) (hx : x ≠ d) (h0 : swp G f d x k = 0) : elx G f d k (x + 1) i j = elx G f d k x i j := by
 by_cases e : i = x
 ·subst e
  rw [elx_at hx, elx_ge hx (Nat.le_refl _), h0, Int.zero_mul, Int.sub_zero]
  have := num_swp hG f d i j
  exact Int.emod_eq_of_lt this.1 this.2
 ·exact elx_ne e
theorem swp_same (G : Nat → Nat → Int) (d : Nat) : swp G d d = G := by
 funext i j
 unfold swp
 by_cases e : i = d
 ·rw [if_pos e, e]
 ·rw [if_neg e, if_neg e]
set_option maxHeartbeats 4000000 in
theorem cReduce {a : AV} {n w : Nat} {M : Nat → Nat → Int} (ha : isLL a (matL M n w)) (h0 : 0 < n) (hn : n ≤ 65536) (hw0 : 0 < w) (hw : w ≤ 65536) (hM : numM M) : CallOK Tryz.prog 28 [a] (.tup [matA (gj n M w).1 (gj n M w).2.1 w, i64 (gj n M w).2.2]) := by
 have h0' : (0 : Int) < n := by omega
 refine call_of (fn := Tryz.f28) (code := bodyOf Tryz.f28) Tryz.func28 rfl (by kernel_rfl) (by have := noRef_mat (gj n M w).1 (gj n M w).2.1 w; simp only [noRef, noRefL, Bool.and_true] at *; exact this) ?_
 intro sl hs
 have s0 : sl 0 = a := hs 0
 dsimp only [Tryz.f28, bodyOf, Option.getD]
 simp (maxSteps := 10000000) (disch := first | assumption | omega) only [go_sem, ↓reduceIte, Nat.reduceEqDiff, reduceCtorEq, Nat.reduceAdd, Nat.reduceMul, Nat.reduceLeDiff, zc, Int.reduceToNat, s0, isLL_len ha, matL_len2]
 refine WK_for (fun i st => st.sl 19 = a ∧ st.sl 20 = i64 (n : Nat) ∧ st.sl 21 = i64 (i : Int) ∧ st.sl 5 = i64 1 ∧ st.sl 4 = .ref 8192 (st.gn 8192) [] 0 i ∧ st.ro 8192 (st.gn 8192) = some (.row (rws (fun i => .row (rws (fun j => i64 (M i j)) w)) i))) n ?_ ?_ ?_
 ·refine Yaj ?_
  rfl
 ·rintro i sl ro gn hi ⟨s19, s20, s21, s5, s4, r8192⟩
  dsimp only at s19 s20 s21 s5 s4 r8192
  have hi' : (i : Int) < (n : Nat) := by omega
  have hi1 : i < (matL M n w).length := by rw [matL_len2]; exact hi
  have hr := isLL_row ha hi1
  have hi2 : i + 1 ≤ 4294967296 := by omega
  have e1 : rowL (row (matL M n w) i) = .row (rws (fun j => i64 (M i j)) w) := by rw [matL_row hi, rowL, rws_map]
  have c1 := cCloP hr (by rw [matL_row2 hi]; exact Nat.le_trans hw (by decide)) (by rw [matL_row2 hi]; exact hw0)
  rw [e1] at c1
  simp (maxSteps := 10000000) (disch := first | assumption | omega) only [go_sem, ↓reduceIte, Nat.reduceEqDiff, reduceCtorEq, Nat.reduceAdd, Nat.reduceMul, Nat.reduceLeDiff, zc, Int.reduceToNat, s19, s20, s21, s5, s4, r8192, hi', hi, isLL_idx ha hi1]
  refine CLL_pure _ c1 PUt rfl rfl ?_
  simp (maxSteps := 10000000) (disch := first | assumption | omega) only [go_sem, ↓reduceIte, Nat.reduceEqDiff, reduceCtorEq, Nat.reduceAdd, Nat.reduceMul, Nat.reduceLeDiff, zc, Int.reduceToNat, s19, s20, s21, s5, s4, r8192, hi', hi, impE_row, hi2]
  exact i64c (by omega)
 ·rintro sl ro gn ⟨s19, s20, s21, s5, s4, r8192⟩
  dsimp only at s19 s20 s21 s5 s4 r8192
  have hi' : ¬ ((n : Nat) : Int) < (n : Nat) := by omega
  simp (maxSteps := 10000000) (disch := first | assumption | omega) only [go_sem, ↓reduceIte, Nat.reduceEqDiff, reduceCtorEq, Nat.reduceAdd, Nat.reduceMul, Nat.reduceLeDiff, zc, Int.reduceToNat, s19, s20, s21, s5, s4, r8192, hi']
  refine WK_forG (fun k st => st.sl 4 = .ref 8192 (st.gn 8192) [] 0 n ∧ st.sl 8 = i64 ((gj n M k).2.1 : Nat) ∧ st.sl 5 = i64 (gj n M k).2.2 ∧ (∃ u v, st.sl 9 = .ptr u v [] 0 ∧ st.ro u v = some (.bx [i64 (k : Int)]) ∧ v ≤ st.gn u ∧ u ≠ 8192 ∧ u ≠ 3) ∧ (∃ τ : Nat → Nat, Arr st.ro st.gn 8192 (st.gn 8192) (fun i => (3, τ i)) (gj n M k).1 n w)) w (Arr.unp (S := 8192) (g := gn 8192) (b := 3) (n := n) (w := w) (M := M) (by decide) (Ue r8192)).1 ?_ ?_ ?_
  ·simp only [unp_sl, unp_gn (show (8192 : Nat) ≠ 3 by decide), ↓za, ↓reduceIte, Nat.reduceEqDiff, zb, reduceCtorEq]
   refine ⟨s4, rfl, s5, ⟨36864, gn 36864 + 1, rfl, ?_, ?_, by decide, by decide⟩, _, (Arr.unp (S := 8192) (g := gn 8192) (b := 3) (n := n) (w := w) (M := M) (by decide) (Ue r8192)).2⟩
   ·rw [unp_other (by decide) (by decide)]; simp only [↓za, ↓reduceIte, Nat.reduceEqDiff, zb, reduceCtorEq]; rfl
   ·rw [unp_gn (by decide)]; simp only [↓za, ↓reduceIte, Nat.reduceEqDiff, zb, reduceCtorEq]; exact Nat.le_refl _
  ·rintro k sl ro gn hk ⟨s4, s8, s5, q9, q⟩
   dsimp only at s4 s8 s5
   have hk' : (k : Int) < (w : Nat) := by omega
   obtain ⟨u, v, s9, r9, g9, u1, u3⟩ := q9
   obtain ⟨τ, A⟩ := q
   dsimp only at s9 r9 g9 A
   have ok := gj_ok (n := n) hM k
   obtain ⟨G, d, z, hX⟩ : ∃ G d z, gj n M k = (G, d, z) := ⟨_, _, _, rfl⟩
   have hS : gj n M (k + 1) = gst n k (G, d, z) := by rw [gj, hX]
   rw [hX] at A s8 s5 ok
   dsimp only at A s8 s5 ok
   obtain ⟨hG, hd, hz⟩ := ok
   obtain ⟨f1, f2, f3, f4⟩ := fdf_spec G (k := k) hd
   generalize hf : fdf G k n d = f at f1 f2 f3 f4
   have a1 := A.arr
   have a2 := A.rw 0 h0
   dsimp only at a1 a2
   simp (maxSteps := 10000000) (disch := first | assumption | omega) only [go_sem, ↓reduceIte, Nat.reduceEqDiff, reduceCtorEq, Nat.reduceAdd, Nat.reduceMul, Nat.reduceLeDiff, zc, Int.reduceToNat, s4, s8, s5, hk', hk, a1, a2, rws_get, h0', h0, kIdx_refZ, s9, r9]
   refine FIN_w [false, false, false, false, true] (by kernel_rfl) ?_
   simp (maxSteps := 10000000) (disch := first | assumption | omega) only [go_sem, ↓reduceIte, Nat.reduceEqDiff, reduceCtorEq, Nat.reduceAdd, Nat.reduceMul, Nat.reduceLeDiff, zc, Int.reduceToNat, s4, s8, s5, hk', hk, a1, a2, rws_get, s9, r9, Option.map_some, Option.map_none, kSlice_lo, hd]
   have cI : ∀ q : Int, (f = n → q = -1) → (f < n → q = ((f - d : Nat) : Int)) → CallOK Tryz.prog 56 [immLL (matL (fun i j => G (d + i) j) (n - d) w), .fn 57 [.iptr [i64 k]]] (i64 q) := by
    intro q q1 q2
    refine c148 (p := fun x => !decide (G (d + x) k = 0)) (isLL_imm _) (by rw [matL_len2]; exact Nat.le_trans (Nat.le_trans (Nat.sub_le _ _) hn) (by decide)) rfl rfl (fun x hx => ?_) (fun h => ?_) (fun x hx h1 h2 => ?_)
    ·have hx' : x < n - d := by rw [matL_len2] at hx; exact hx
     have := cRed1 (isLL_row (isLL_imm _) hx) (k := k) (by rw [matL_row2 hx']; exact hk)
     rw [matL_row hx', atI_rws _ hk] at this
     exact this
    ·refine q1 (Decidable.byContradiction fun hne => ?_)
     have := h (f - d) (by rw [matL_len2]; omega)
     simp only [Bool.not_eq_false', decide_eq_true_eq] at this
     exact f4 (by omega) (by rw [show d + (f - d) = f by omega] at this; exact this)
    ·have hx' : x < n - d := by rw [matL_len2] at hx; exact hx
     simp only [Bool.not_eq_true', decide_eq_false_iff_not] at h1
     have : fdf G k n d = d + x := fdf_uniq (by omega) (by omega) (fun y g1 g2 => by
      have := h2 (y - d) (by omega)
      simp only [Bool.not_eq_false', decide_eq_true_eq] at this
      rw [show d + (y - d) = y by omega] at this; exact this) (fun _ => h1)
     rw [hf] at this
     rw [q2 (by omega)]; omega
   by_cases hfn : f = n
   ·have e0 : gst n k (G, d, z) = (G, d, 0) := by simp only [gst, hf, hfn, if_true]
    refine CLL_q _ (cI (-1) (fun _ => rfl) (fun h => by omega)) (.cons (A.exq (by omega) (by decide)) (.cons (exq_fn (.cons (exq_ptr r9 (by decide)) .nil)) .nil)) rfl rfl rfl ?_
    simp (maxSteps := 10000000) (disch := first | assumption | omega) only [go_sem, ↓reduceIte, Nat.reduceEqDiff, reduceCtorEq, Nat.reduceAdd, Nat.reduceMul, Nat.reduceLeDiff, zc, Int.reduceToNat, s4, s8, s5, hk', hk, a1, s9, r9]
    rw [hS, e0]
    refine ⟨rfl, rfl, ⟨159744, gn 159744 + 1, rfl, ?_, ?_, by decide, by decide⟩, τ, A.frame Ur (fun i hi => by simp only [↓za, ↓reduceIte, Nat.reduceEqDiff, zb, reduceCtorEq]) (fun i hi => by simp only [↓za, ↓reduceIte, Nat.reduceEqDiff, zb, reduceCtorEq]; exact Nat.le_refl _)⟩
    ·refine Ycn ?_
     exact congrArg (fun x => some (AV.bx [x])) (i64c (by omega))
    ·simp only [↓za, ↓reduceIte, Nat.reduceEqDiff, zb, reduceCtorEq]; exact Nat.le_refl _
   ·have hlt : f < n := by omega
    refine CLL_q _ (cI ((f - d : Nat) : Int) (fun h => absurd h hfn) (fun _ => rfl)) (.cons (A.exq (by omega) (by decide)) (.cons (exq_fn (.cons (exq_ptr r9 (by decide)) .nil)) .nil)) rfl rfl rfl ?_
    have e3 : gst n k (G, d, z) = (elm (swp G f d) d k, d + 1, (if d < f then -z % 55441 else z) * G f k % 55441) := by simp only [gst, hf, hfn, if_false]
    by_cases hfd : f = d
    ·have hz1 := hz
     have e4 : (if d < f then -z % 55441 else z) = z := if_neg (by omega)
     rw [e4] at e3
     have B := A
     rw [← swp_same G d] at B
     have e5 : ((f - d : Nat) : Int) = 0 := by omega
     rw [show swp G d d = swp G f d by rw [hfd]] at B
     have hdn0 : d < n := by omega
     have bd0 := A.rw d hdn0
     dsimp only at bd0
     simp (maxSteps := 10000000) (disch := first | assumption | omega) only [go_sem, ↓reduceIte, Nat.reduceEqDiff, reduceCtorEq, Nat.reduceAdd, Nat.reduceMul, Nat.reduceLeDiff, zc, Int.reduceToNat, s4, s8, s5, hk', hk, e5, s9, r9]
     have hdn : d < n := by omega
     have b1 := B.arr
     have bd := B.rw d hdn
     dsimp only at b1 bd
     have hl : swp G f d d k = G f k := by unfold swp; rw [if_pos rfl]
     have hl2 := hG f k
     have hz2 := num_mul hz1 hl2
     simp (maxSteps := 10000000) (disch := first | assumption | omega) only [go_sem, ↓reduceIte, Nat.reduceEqDiff, reduceCtorEq, Nat.reduceAdd, Nat.reduceMul, Nat.reduceLeDiff, zc, Int.reduceToNat, s4, s8, s5, hk', hk, b1, bd, rws_get, hdn, s9, r9, hk]
     refine FIN_w [false, false, false, false, true] (by kernel_rfl) ?_
     simp (maxSteps := 10000000) (disch := first | assumption | omega) only [go_sem, ↓reduceIte, Nat.reduceEqDiff, reduceCtorEq, Nat.reduceAdd, Nat.reduceMul, Nat.reduceLeDiff, zc, Int.reduceToNat, s4, s8, s5, hk', hk, b1, hl, Int.tmod_eq_emod_of_nonneg]
     refine CLL_pure _ (c65 (a := 1) (b := G f k) (by decide) (by decide) hl2.1 hl2.2) PUt rfl rfl ?_
     rw [qt_1]
     simp (maxSteps := 10000000) (disch := first | assumption | omega) only [go_sem, ↓reduceIte, Nat.reduceEqDiff, reduceCtorEq, Nat.reduceAdd, Nat.reduceMul, Nat.reduceLeDiff, zc, Int.reduceToNat, s4, s8, s5, hk', hk, b1, bd, rws_get, hdn]
     refine WK_for (fun x st => st.sl 4 = .ref 8192 (st.gn 8192) [] 0 n ∧ st.sl 8 = i64 (d : Nat) ∧ st.sl 5 = i64 (z * G f k % 55441) ∧ st.sl 9 = .ptr u v [] 0 ∧ st.sl 12 = i64 (pw (G f k) 55439) ∧ st.sl 91 = i64 (w : Nat) ∧ st.sl 92 = i64 (x : Int) ∧ (st.ro u v = some (.bx [i64 (k : Int)])) ∧ (v ≤ st.gn u) ∧ (Arr st.ro st.gn 8192 (st.gn 8192) (fun i => (3, τ i)) (nmx (swp G f d) d k x) n w)) w ?_ ?_ ?_
     ·simp only [↓za, ↓reduceIte, Nat.reduceEqDiff, zb, reduceCtorEq, s4, s8, s9]
      first | exact ⟨rfl, g9, B.congr fun i _ j _ => nmx_zero _ _ _ _ _⟩ | exact ⟨rfl, r9, g9, B.congr fun i _ j _ => nmx_zero _ _ _ _ _⟩
     ·rintro x sl ro gn hx ⟨s4, s8, s5, s9, s12, s91, s92, r9, g9, B⟩
      dsimp only at s4 s8 s5 s9 s12 s91 s92
      have hx' : (x : Int) < (w : Nat) := by omega
      dsimp only at r9 g9 B
      have b1 := B.arr
      have bd := B.rw d hdn
      dsimp only at b1 bd
      have e7 := nmx_at (swp G f d) d k x
      have hq := num_mul (num_swp hG f d d x) (num_pw (G f k) 55439)
      have hx2 : x + 1 ≤ w := hx
      refine Yca ?_
      refine FIN_of (by kernel_rfl) ?_
      simp (maxSteps := 10000000) (disch := first | assumption | omega) only [go_sem, ↓reduceIte, Nat.reduceEqDiff, reduceCtorEq, Nat.reduceAdd, Nat.reduceMul, Nat.reduceLeDiff, zc, Int.reduceToNat, s4, s8, s5, s9, s12, s91, s92, hx', hx, r9, eq_false u3]
      refine ⟨i64c (by omega), g9, (B.wr (M' := nmx (swp G f d) d k (x + 1)) hdn ?_ fun i h1 _ j _ => nmx_ne fun h => h1 h.1)⟩
      rw [rws_set]
      refine rws_congr fun j _ => ?_
      split
      ·rename_i e; subst e; rw [nmx_new]; unfold nrm; rw [hl]
      ·rename_i e; rw [nmx_ne fun h => e h.2]
     ·rintro sl ro gn ⟨s4, s8, s5, s9, s12, s91, s92, r9, g9, B⟩
      dsimp only at s4 s8 s5 s9 s12 s91 s92
      have hx' : ¬ ((w : Nat) : Int) < (w : Nat) := by omega
      dsimp only at r9 g9 B
      replace B := B.congr fun i _ j hj => nmx_end hj
      have b1 := B.arr
      simp (maxSteps := 10000000) (disch := first | assumption | omega) only [go_sem, ↓reduceIte, Nat.reduceEqDiff, reduceCtorEq, Nat.reduceAdd, Nat.reduceMul, Nat.reduceLeDiff, zc, Int.reduceToNat, s4, s8, s5, s9, s12, s91, s92, hx', b1]
      refine WK_for (fun x st => st.sl 4 = .ref 8192 (st.gn 8192) [] 0 n ∧ st.sl 8 = i64 (d : Nat) ∧ st.sl 5 = i64 (z * G f k % 55441) ∧ st.sl 9 = .ptr u v [] 0 ∧ st.sl 112 = .ref 8192 (st.gn 8192) [] 0 n ∧ st.sl 113 = i64 (n : Nat) ∧ st.sl 114 = i64 (x : Int) ∧ (st.ro u v = some (.bx [i64 (k : Int)])) ∧ (v ≤ st.gn u) ∧ (Arr st.ro st.gn 8192 (st.gn 8192) (fun i => (3, τ i)) (elx G f d k x) n w)) n ?_ ?_ ?_
      ·simp only [↓za, ↓reduceIte, Nat.reduceEqDiff, zb, reduceCtorEq, s4, s8, s9, s5]
       first | exact ⟨rfl, g9, B⟩ | exact ⟨rfl, r9, g9, B⟩
      ·rintro x sl ro gn hx ⟨s4, s8, s5, s9, s112, s113, s114, r9, g9, B⟩
       dsimp only at s4 s8 s5 s9 s112 s113 s114
       have hx' : (x : Int) < (n : Nat) := by omega
       dsimp only at r9 g9 B
       have b1 := B.arr
       have bx := B.rw x hx
       have bd := B.rw d hdn
       dsimp only at b1 bx bd
       by_cases hxd : x = d
       ·have hxd' : (x : Int) = d := by omega
        simp (maxSteps := 10000000) (disch := first | assumption | omega) only [go_sem, ↓reduceIte, Nat.reduceEqDiff, reduceCtorEq, Nat.reduceAdd, Nat.reduceMul, Nat.reduceLeDiff, zc, Int.reduceToNat, s4, s8, s5, s9, s112, s113, s114, hx', hx, b1, bx, rws_get, hxd', hx]
        first | exact ⟨i64c (by omega), g9, B.congr fun i _ j _ => by rw [hxd]; exact elx_same⟩ | exact ⟨i64c (by omega), r9, g9, B.congr fun i _ j _ => by rw [hxd]; exact elx_same⟩
       ·have hxd' : ¬ (x : Int) = d := by omega
        have eg : ∀ j, elx G f d k x x j = swp G f d x j := fun j => elx_ge hxd (Nat.le_refl _)
        simp only [eg, elx_d] at bx bd
        by_cases h0 : swp G f d x k = 0
        ·refine Ycc ?_
         exact ⟨i64c (by omega), g9, B.congr fun i _ j _ => elx_skip hG hxd h0⟩
        ·refine Ycb ?_
         refine WK_for (fun y st => st.sl 4 = .ref 8192 (st.gn 8192) [] 0 n ∧ st.sl 8 = i64 (d : Nat) ∧ st.sl 5 = i64 (z * G f k % 55441) ∧ st.sl 9 = .ptr u v [] 0 ∧ st.sl 112 = .ref 8192 (st.gn 8192) [] 0 n ∧ st.sl 113 = i64 (n : Nat) ∧ st.sl 114 = i64 (x : Int) ∧ st.sl 15 = .ref 3 (τ x) [] 0 w ∧ st.sl 16 = i64 (swp G f d x k) ∧ st.sl 134 = i64 (w : Nat) ∧ st.sl 135 = i64 (y : Int) ∧ (st.ro u v = some (.bx [i64 (k : Int)])) ∧ (v ≤ st.gn u) ∧ (Arr st.ro st.gn 8192 (st.gn 8192) (fun i => (3, τ i)) (pex G f d k x y) n w)) w ?_ ?_ ?_
         ·simp only [↓za, ↓reduceIte, Nat.reduceEqDiff, zb, reduceCtorEq, s4, s8, s9, s5, s112, s113, s114]
          exact ⟨rfl, r9, g9, B.congr fun i _ j _ => pex_zero _ _ _ _ _ _ _⟩
         ·rintro y sl ro gn hy ⟨s4, s8, s5, s9, s112, s113, s114, s15, s16, s134, s135, r9, g9, B⟩
          dsimp only at s4 s8 s5 s9 s112 s113 s114 s15 s16 s134 s135
          have hy' : (y : Int) < (w : Nat) := by omega
          dsimp only at r9 g9 B
          have b1 := B.arr
          have bx := B.rw x hx
          have bd := B.rw d hdn
          dsimp only at b1 bx bd
          simp only [pex_d hxd] at bd
          have e7 := pex_at (G := G) (f := f) (d := d) (k := k) (y := y) hxd
          have q1 := num_swp hG f d x y
          have q2 := num_swp hG f d x k
          have q3 := num_nrm (swp G f d) d k y
          have q4 := num_mul q2 q3
          unfold num at q1
          have hy2 : y + 1 ≤ w := hy
          refine Yar ?_
          refine CLLD_pure _ (cModI (by omega) (by omega)) PUt rfl ?_
          refine Yar ?_
          refine FIN_of (by kernel_rfl) ?_
          refine Yci ?_
          refine ⟨i64c (by omega), g9, (B.wr (M' := pex G f d k x (y + 1)) hx ?_ fun i h1 _ j _ => pex_ne fun h => h1 h.1)⟩
          rw [rws_set]
          refine rws_congr fun j _ => ?_
          split
          ·rename_i e; subst e; rw [pex_new _ _ _ _ _ _ hxd]
          ·rename_i e; rw [pex_ne fun h => e h.2]
         ·rintro sl ro gn ⟨s4, s8, s5, s9, s112, s113, s114, s15, s16, s134, s135, r9, g9, B⟩
          dsimp only at s4 s8 s5 s9 s112 s113 s114 s15 s16 s134 s135
          have hy' : ¬ ((w : Nat) : Int) < (w : Nat) := by omega
          dsimp only at r9 g9 B
          simp (maxSteps := 10000000) (disch := first | assumption | omega) only [go_sem, ↓reduceIte, Nat.reduceEqDiff, reduceCtorEq, Nat.reduceAdd, Nat.reduceMul, Nat.reduceLeDiff, zc, Int.reduceToNat, s4, s8, s5, s9, s112, s113, s114, s15, s16, s134, s135, hy']
          exact ⟨i64c (by omega), r9, g9, B.congr fun i _ j hj => pex_end hxd hj⟩
      ·rintro sl ro gn ⟨s4, s8, s5, s9, s112, s113, s114, r9, g9, B⟩
       dsimp only at s4 s8 s5 s9 s112 s113 s114
       have hx' : ¬ ((n : Nat) : Int) < (n : Nat) := by omega
       dsimp only at r9 g9 B
       have b1 := B.arr
       simp (maxSteps := 10000000) (disch := first | assumption | omega) only [go_sem, ↓reduceIte, Nat.reduceEqDiff, reduceCtorEq, Nat.reduceAdd, Nat.reduceMul, Nat.reduceLeDiff, zc, Int.reduceToNat, s4, s8, s5, s9, s112, s113, s114, hx', b1, r9]
       rw [hS, e3]
       dsimp only
       refine ⟨i64c (by omega), rfl, ⟨159744, gn 159744 + 1, rfl, ?_, ?_, by decide, by decide⟩, τ, (B.congr fun i hi j _ => (elx_end hi).symm).frame Ur (fun i hi => by simp only [↓za, ↓reduceIte, Nat.reduceEqDiff, zb, reduceCtorEq]) (fun i hi => by simp only [↓za, ↓reduceIte, Nat.reduceEqDiff, zb, reduceCtorEq]; exact Nat.le_refl _)⟩
       ·refine Ycn ?_
        exact congrArg (fun x => some (AV.bx [x])) (i64c (by omega))
       ·simp only [↓za, ↓reduceIte, Nat.reduceEqDiff, zb, reduceCtorEq]; exact Nat.le_refl _
    ·have hp : (0 : Int) < ((f - d : Nat) : Int) := by omega
     have hp2 : ¬ ((f - d : Nat) : Int) < 0 := by omega
     have e1 : (d : Int) + ((f - d : Nat) : Int) = (f : Nat) := by omega
     have e4 : (if d < f then -z % 55441 else z) = -z % 55441 := if_pos (by omega)
     rw [e4, show -z % 55441 = (0 - z) % 55441 by rw [Int.zero_sub]] at e3
     have hdn0 : d < n := by omega
     have hdn2 : d + 1 ≤ n := hdn0
     have hlt2 : f + 1 ≤ n := hlt
     have bd0 := A.rw d hdn0
     have bf0 := A.rw f hlt
     dsimp only at bd0 bf0
     simp (maxSteps := 10000000) (disch := first | assumption | omega) only [go_sem, ↓reduceIte, Nat.reduceEqDiff, reduceCtorEq, Nat.reduceAdd, Nat.reduceMul, Nat.reduceLeDiff, zc, Int.reduceToNat, s4, s8, s5, hk', hk, a1, s9, r9, hp, hp2, e1, bd0, bf0, rws_get, hdn2, hlt2, zfe, List.length_set, hdn0, hlt]
     refine FIN_of (by kernel_rfl) ?_
     have hz0 := hz
     unfold num at hz0
     simp (maxSteps := 10000000) (disch := first | assumption | omega) only [go_sem, ↓reduceIte, Nat.reduceEqDiff, reduceCtorEq, Nat.reduceAdd, Nat.reduceMul, Nat.reduceLeDiff, zc, Int.reduceToNat, s4, s8, s5, hk', hk]
     refine CLL_pure _ (cModI (by omega) (by omega)) PUt rfl rfl ?_
     have B := A.swap (d := d) (f := f) (X1 := .bx ((rws (fun i => AV.ref 3 (τ i) [] 0 w) n).set d (AV.ref 3 (τ f) [] 0 w))) hdn0 hlt
     dsimp only at B
     generalize hr2 : upr (upr ro 8192 (gn 8192) (.bx ((rws (fun i => AV.ref 3 (τ i) [] 0 w) n).set d (AV.ref 3 (τ f) [] 0 w)))) 8192 (gn 8192) (.bx (((rws (fun i => AV.ref 3 (τ i) [] 0 w) n).set d (AV.ref 3 (τ f) [] 0 w)).set f (AV.ref 3 (τ d) [] 0 w))) = ro2 at B ⊢
     replace r9 : ro2 u v = some (.bx [i64 k]) := by rw [← hr2, upr_ne u1, upr_ne u1]; exact r9
     have hz1 := num_mod (0 - z)
     obtain ⟨ρ, B⟩ : ∃ ρ : Nat → Nat, Arr ro2 gn 8192 (gn 8192) (fun i => (3, ρ i)) (swp G f d) n w := ⟨_, B⟩
     have hdn : d < n := by omega
     have b1 := B.arr
     have bd := B.rw d hdn
     dsimp only at b1 bd
     have hl : swp G f d d k = G f k := by unfold swp; rw [if_pos rfl]
     have hl2 := hG f k
     have hz2 := num_mul hz1 hl2
     simp (maxSteps := 10000000) (disch := first | assumption | omega) only [go_sem, ↓reduceIte, Nat.reduceEqDiff, reduceCtorEq, Nat.reduceAdd, Nat.reduceMul, Nat.reduceLeDiff, zc, Int.reduceToNat, s4, s8, s5, hk', hk, b1, bd, rws_get, hdn, s9, r9, hk]
     refine FIN_w [false, false, false, false, true] (by kernel_rfl) ?_
     simp (maxSteps := 10000000) (disch := first | assumption | omega) only [go_sem, ↓reduceIte, Nat.reduceEqDiff, reduceCtorEq, Nat.reduceAdd, Nat.reduceMul, Nat.reduceLeDiff, zc, Int.reduceToNat, s4, s8, s5, hk', hk, b1, hl, Int.tmod_eq_emod_of_nonneg]
     refine CLL_pure _ (c65 (a := 1) (b := G f k) (by decide) (by decide) hl2.1 hl2.2) PUt rfl rfl ?_
     rw [qt_1]
     simp (maxSteps := 10000000) (disch := first | assumption | omega) only [go_sem, ↓reduceIte, Nat.reduceEqDiff, reduceCtorEq, Nat.reduceAdd, Nat.reduceMul, Nat.reduceLeDiff, zc, Int.reduceToNat, s4, s8, s5, hk', hk, b1, bd, rws_get, hdn]
     refine WK_for (fun x st => st.sl 4 = .ref 8192 (st.gn 8192) [] 0 n ∧ st.sl 8 = i64 (d : Nat) ∧ st.sl 5 = i64 (((0 - z) % 55441) * G f k % 55441) ∧ st.sl 9 = .ptr u v [] 0 ∧ st.sl 12 = i64 (pw (G f k) 55439) ∧ st.sl 91 = i64 (w : Nat) ∧ st.sl 92 = i64 (x : Int) ∧ (st.ro u v = some (.bx [i64 (k : Int)])) ∧ (v ≤ st.gn u) ∧ (Arr st.ro st.gn 8192 (st.gn 8192) (fun i => (3, ρ i)) (nmx (swp G f d) d k x) n w)) w ?_ ?_ ?_
     ·simp only [↓za, ↓reduceIte, Nat.reduceEqDiff, zb, reduceCtorEq, s4, s8, s9]
      first | exact ⟨rfl, g9, B.congr fun i _ j _ => nmx_zero _ _ _ _ _⟩ | exact ⟨rfl, r9, g9, B.congr fun i _ j _ => nmx_zero _ _ _ _ _⟩
     ·rintro x sl ro gn hx ⟨s4, s8, s5, s9, s12, s91, s92, r9, g9, B⟩
      dsimp only at s4 s8 s5 s9 s12 s91 s92
      have hx' : (x : Int) < (w : Nat) := by omega
      dsimp only at r9 g9 B
      have b1 := B.arr
      have bd := B.rw d hdn
      dsimp only at b1 bd
      have e7 := nmx_at (swp G f d) d k x
      have hq := num_mul (num_swp hG f d d x) (num_pw (G f k) 55439)
      have hx2 : x + 1 ≤ w := hx
      refine Yca ?_
      refine FIN_of (by kernel_rfl) ?_
      simp (maxSteps := 10000000) (disch := first | assumption | omega) only [go_sem, ↓reduceIte, Nat.reduceEqDiff, reduceCtorEq, Nat.reduceAdd, Nat.reduceMul, Nat.reduceLeDiff, zc, Int.reduceToNat, s4, s8, s5, s9, s12, s91, s92, hx', hx, r9, eq_false u3]
      refine ⟨i64c (by omega), g9, (B.wr (M' := nmx (swp G f d) d k (x + 1)) hdn ?_ fun i h1 _ j _ => nmx_ne fun h => h1 h.1)⟩
      rw [rws_set]
      refine rws_congr fun j _ => ?_
      split
      ·rename_i e; subst e; rw [nmx_new]; unfold nrm; rw [hl]
      ·rename_i e; rw [nmx_ne fun h => e h.2]
     ·rintro sl ro gn ⟨s4, s8, s5, s9, s12, s91, s92, r9, g9, B⟩
      dsimp only at s4 s8 s5 s9 s12 s91 s92
      have hx' : ¬ ((w : Nat) : Int) < (w : Nat) := by omega
      dsimp only at r9 g9 B
      replace B := B.congr fun i _ j hj => nmx_end hj
      have b1 := B.arr
      simp (maxSteps := 10000000) (disch := first | assumption | omega) only [go_sem, ↓reduceIte, Nat.reduceEqDiff, reduceCtorEq, Nat.reduceAdd, Nat.reduceMul, Nat.reduceLeDiff, zc, Int.reduceToNat, s4, s8, s5, s9, s12, s91, s92, hx', b1]
      refine WK_for (fun x st => st.sl 4 = .ref 8192 (st.gn 8192) [] 0 n ∧ st.sl 8 = i64 (d : Nat) ∧ st.sl 5 = i64 (((0 - z) % 55441) * G f k % 55441) ∧ st.sl 9 = .ptr u v [] 0 ∧ st.sl 112 = .ref 8192 (st.gn 8192) [] 0 n ∧ st.sl 113 = i64 (n : Nat) ∧ st.sl 114 = i64 (x : Int) ∧ (st.ro u v = some (.bx [i64 (k : Int)])) ∧ (v ≤ st.gn u) ∧ (Arr st.ro st.gn 8192 (st.gn 8192) (fun i => (3, ρ i)) (elx G f d k x) n w)) n ?_ ?_ ?_
      ·simp only [↓za, ↓reduceIte, Nat.reduceEqDiff, zb, reduceCtorEq, s4, s8, s9, s5]
       first | exact ⟨rfl, g9, B⟩ | exact ⟨rfl, r9, g9, B⟩
      ·rintro x sl ro gn hx ⟨s4, s8, s5, s9, s112, s113, s114, r9, g9, B⟩
       dsimp only at s4 s8 s5 s9 s112 s113 s114
       have hx' : (x : Int) < (n : Nat) := by omega
       dsimp only at r9 g9 B
       have b1 := B.arr
       have bx := B.rw x hx
       have bd := B.rw d hdn
       dsimp only at b1 bx bd
       by_cases hxd : x = d
       ·have hxd' : (x : Int) = d := by omega
        simp (maxSteps := 10000000) (disch := first | assumption | omega) only [go_sem, ↓reduceIte, Nat.reduceEqDiff, reduceCtorEq, Nat.reduceAdd, Nat.reduceMul, Nat.reduceLeDiff, zc, Int.reduceToNat, s4, s8, s5, s9, s112, s113, s114, hx', hx, b1, bx, rws_get, hxd', hx]
        first | exact ⟨i64c (by omega), g9, B.congr fun i _ j _ => by rw [hxd]; exact elx_same⟩ | exact ⟨i64c (by omega), r9, g9, B.congr fun i _ j _ => by rw [hxd]; exact elx_same⟩
       ·have hxd' : ¬ (x : Int) = d := by omega
        have eg : ∀ j, elx G f d k x x j = swp G f d x j := fun j => elx_ge hxd (Nat.le_refl _)
        simp only [eg, elx_d] at bx bd
        by_cases h0 : swp G f d x k = 0
        ·refine Ycc ?_
         exact ⟨i64c (by omega), g9, B.congr fun i _ j _ => elx_skip hG hxd h0⟩
        ·refine Ycb ?_
         refine WK_for (fun y st => st.sl 4 = .ref 8192 (st.gn 8192) [] 0 n ∧ st.sl 8 = i64 (d : Nat) ∧ st.sl 5 = i64 (((0 - z) % 55441) * G f k % 55441) ∧ st.sl 9 = .ptr u v [] 0 ∧ st.sl 112 = .ref 8192 (st.gn 8192) [] 0 n ∧ st.sl 113 = i64 (n : Nat) ∧ st.sl 114 = i64 (x : Int) ∧ st.sl 15 = .ref 3 (ρ x) [] 0 w ∧ st.sl 16 = i64 (swp G f d x k) ∧ st.sl 134 = i64 (w : Nat) ∧ st.sl 135 = i64 (y : Int) ∧ (st.ro u v = some (.bx [i64 (k : Int)])) ∧ (v ≤ st.gn u) ∧ (Arr st.ro st.gn 8192 (st.gn 8192) (fun i => (3, ρ i)) (pex G f d k x y) n w)) w ?_ ?_ ?_
         ·simp only [↓za, ↓reduceIte, Nat.reduceEqDiff, zb, reduceCtorEq, s4, s8, s9, s5, s112, s113, s114]
          exact ⟨rfl, r9, g9, B.congr fun i _ j _ => pex_zero _ _ _ _ _ _ _⟩
         ·rintro y sl ro gn hy ⟨s4, s8, s5, s9, s112, s113, s114, s15, s16, s134, s135, r9, g9, B⟩
          dsimp only at s4 s8 s5 s9 s112 s113 s114 s15 s16 s134 s135
          have hy' : (y : Int) < (w : Nat) := by omega
          dsimp only at r9 g9 B
          have b1 := B.arr
          have bx := B.rw x hx
          have bd := B.rw d hdn
          dsimp only at b1 bx bd
          simp only [pex_d hxd] at bd
          have e7 := pex_at (G := G) (f := f) (d := d) (k := k) (y := y) hxd
          have q1 := num_swp hG f d x y
          have q2 := num_swp hG f d x k
          have q3 := num_nrm (swp G f d) d k y
          have q4 := num_mul q2 q3
          unfold num at q1
          have hy2 : y + 1 ≤ w := hy
          refine Yar ?_
          refine CLLD_pure _ (cModI (by omega) (by omega)) PUt rfl ?_
          refine Yar ?_
          refine FIN_of (by kernel_rfl) ?_
          refine Yci ?_
          refine ⟨i64c (by omega), g9, (B.wr (M' := pex G f d k x (y + 1)) hx ?_ fun i h1 _ j _ => pex_ne fun h => h1 h.1)⟩
          rw [rws_set]
          refine rws_congr fun j _ => ?_
          split
          ·rename_i e; subst e; rw [pex_new _ _ _ _ _ _ hxd]
          ·rename_i e; rw [pex_ne fun h => e h.2]
         ·rintro sl ro gn ⟨s4, s8, s5, s9, s112, s113, s114, s15, s16, s134, s135, r9, g9, B⟩
          dsimp only at s4 s8 s5 s9 s112 s113 s114 s15 s16 s134 s135
          have hy' : ¬ ((w : Nat) : Int) < (w : Nat) := by omega
          dsimp only at r9 g9 B
          simp (maxSteps := 10000000) (disch := first | assumption | omega) only [go_sem, ↓reduceIte, Nat.reduceEqDiff, reduceCtorEq, Nat.reduceAdd, Nat.reduceMul, Nat.reduceLeDiff, zc, Int.reduceToNat, s4, s8, s5, s9, s112, s113, s114, s15, s16, s134, s135, hy']
          exact ⟨i64c (by omega), r9, g9, B.congr fun i _ j hj => pex_end hxd hj⟩
      ·rintro sl ro gn ⟨s4, s8, s5, s9, s112, s113, s114, r9, g9, B⟩
       dsimp only at s4 s8 s5 s9 s112 s113 s114
       have hx' : ¬ ((n : Nat) : Int) < (n : Nat) := by omega
       dsimp only at r9 g9 B
       have b1 := B.arr
       simp (maxSteps := 10000000) (disch := first | assumption | omega) only [go_sem, ↓reduceIte, Nat.reduceEqDiff, reduceCtorEq, Nat.reduceAdd, Nat.reduceMul, Nat.reduceLeDiff, zc, Int.reduceToNat, s4, s8, s5, s9, s112, s113, s114, hx', b1, r9]
       rw [hS, e3]
       dsimp only
       refine ⟨i64c (by omega), rfl, ⟨159744, gn 159744 + 1, rfl, ?_, ?_, by decide, by decide⟩, ρ, (B.congr fun i hi j _ => (elx_end hi).symm).frame Ur (fun i hi => by simp only [↓za, ↓reduceIte, Nat.reduceEqDiff, zb, reduceCtorEq]) (fun i hi => by simp only [↓za, ↓reduceIte, Nat.reduceEqDiff, zb, reduceCtorEq]; exact Nat.le_refl _)⟩
       ·refine Ycn ?_
        exact congrArg (fun x => some (AV.bx [x])) (i64c (by omega))
       ·simp only [↓za, ↓reduceIte, Nat.reduceEqDiff, zb, reduceCtorEq]; exact Nat.le_refl _
  ·rintro sl ro gn ⟨s4, s8, s5, q9, q⟩
   dsimp only at s4 s8 s5
   have hk' : ¬ ((w : Nat) : Int) < (w : Nat) := by omega
   obtain ⟨u, v, s9, r9, g9, u1, u3⟩ := q9
   obtain ⟨τ, A⟩ := q
   dsimp only at s9 r9 g9 A
   have ok := gj_ok (n := n) hM w
   have a1 := A.arr
   have a2 := A.rw 0 h0
   dsimp only at a1 a2
   simp (maxSteps := 10000000) (disch := first | assumption | omega) only [go_sem, ↓reduceIte, Nat.reduceEqDiff, reduceCtorEq, Nat.reduceAdd, Nat.reduceMul, Nat.reduceLeDiff, zc, Int.reduceToNat, s4, s8, s5, hk', a1, a2, rws_get, h0', h0, kIdx_refZ, s9, r9]
   refine FIN_w [false, false, false, false, true] (by kernel_rfl) ?_
   simp (maxSteps := 10000000) (disch := first | assumption | omega) only [go_sem, ↓reduceIte, Nat.reduceEqDiff, reduceCtorEq, Nat.reduceAdd, Nat.reduceMul, Nat.reduceLeDiff, zc, Int.reduceToNat, s4, s8, s5, hk', a1, Option.map_none, Option.map_some, kSlice_hi, ok.2.1]
   obtain ⟨dl, ho⟩ := A.out ok.2.1
   simp only [retR, resL, outT, ↓za, ↓reduceIte, Nat.reduceEqDiff, zb, reduceCtorEq, ho]
   rfl
end Go.Proofs.YtdpinkgkmcbckaaGreat
