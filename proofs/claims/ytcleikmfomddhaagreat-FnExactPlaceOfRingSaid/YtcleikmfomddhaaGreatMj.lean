/- Texts joined: F6 G1 G2 G3 O1 Y1. -/
import Derived.ChangeOld
import Derived.Below
import Derived.Carry
import Derived.Deep.Slices
import Derived.ChangeSlices
import Derived.Lib.SmallJoins
import Derived.Test.YtcleikmfomddhaaGreatMh
set_option linter.all false
/- The reference's and the program's data. -/
namespace Go.Proofs.YtcleikmfomddhaaGreat
open Go.RowKit
set_option maxRecDepth 1000000
def Sta2 (S : List (List Int)) (T : List Int) (i j : Nat) : Prop := atI (row S i) j = atI (row S j) i ∧ atI (row S 0) i ≠ 0 ∧ atI T i ≠ 0 ∧ atI (row S 0) 0 = 1 ∧ atI T 0 = 1
open Classical in
noncomputable def DF (S : List (List Int)) (T : List Int) : Int :=
 if ¬ StaP S T then 0 else if whl S T.length = 0 then 1 else if ¬ CjP S T then 2 else if ¬ TurP S T then 3 else if ¬ RingP (cubeL (nmE S T.length (cjL S T)) T.length) then 4 else -1
def DataP (S : List (List Int)) (T : List Int) : Prop := ShpP S T ∧ DF S T = -1
end Go.Proofs.YtcleikmfomddhaaGreat
/- Sizes and copies of the statements' data; charges. -/
namespace Go.Proofs.YtcleikmfomddhaaGreat
open Go.RowKit
set_option maxRecDepth 1000000
def isLw (a : AV) (xs : List Int) : Prop := a = .imm (xs.map i64) ∨ (xs = [] ∧ ∃ o c, a = .sc (.slice o 0 c))
def isLws : List AV → List (List Int) → Prop
 | [], [] => True
 | a :: bs, x :: xs => isLw a x ∧ isLws bs xs
 | _, _ => False
def isLLw (a : AV) (xss : List (List Int)) : Prop := (∃ cs, a = .imm cs ∧ isLws cs xss) ∨ (xss = [] ∧ ∃ o c, a = .sc (.slice o 0 c))
theorem isLws_len : ∀ {cs : List AV} {T : List (List Int)}, isLws cs T → cs.length = T.length
 | [], [], _ => rfl
 | a :: bs, x :: xs, h => by simp only [List.length_cons]; rw [isLws_len h.2]
 | [], _ :: _, h => h.elim
 | _ :: _, [], h => h.elim
theorem isLws_get : ∀ {cs : List AV} {T : List (List Int)} {k : Nat}, isLws cs T → k < T.length → ∃ c, cs[k]? = some c ∧ isLw c (T.getD k [])
 | a :: bs, x :: xs, 0, h, _ => ⟨a, rfl, h.1⟩
 | a :: bs, x :: xs, k + 1, h, hk => by
  obtain ⟨c, h1, h2⟩ := isLws_get (k := k) h.2 (by simpa using hk)
  exact ⟨c, by simpa using h1, by simpa using h2⟩
 | [], [], k, _, hk => by simp at hk
 | [], _ :: _, _, h, _ => h.elim
 | _ :: _, [], _, h, _ => h.elim
theorem isLw_pure {a : AV} {xs : List Int} (h : isLw a xs) : pureA a = true := by
 rcases h with rfl | ⟨_, o, c, rfl⟩
 ·simp [pureA, pureL_map]
 ·rfl
theorem isLws_pure : ∀ {cs : List AV} {T : List (List Int)}, isLws cs T → pureL cs = true
 | [], [], _ => rfl
 | a :: bs, x :: xs, h => by simp [pureL, isLw_pure h.1, isLws_pure h.2]
 | [], _ :: _, h => h.elim
 | _ :: _, [], h => h.elim
theorem isLLw_pure {a : AV} {xs : List (List Int)} (h : isLLw a xs) : pureA a = true := by
 rcases h with ⟨cs, rfl, h⟩ | ⟨_, o, c, rfl⟩
 ·simp [pureA, isLws_pure h]
 ·rfl
theorem isLw_len {a : AV} {xs : List Int} (h : isLw a xs) {ro : Ro} {a1 : Nat} {a2 : Bool} {a3 : List Value} {e : Nat} {a5 : List (Nat × Nat)} {a6 : Option IntKind} {a7 a8 : Bool} {a9 a10 : Option (Nat × Nat)} : kLen1 (some ⟨a1, a2, a3, some e, a5, a6, a7, a8, a9, a10⟩) ro a = some ⟨i64 xs.length, none, [], []⟩ := by
 rcases h with rfl | ⟨rfl, o, c, rfl⟩
 ·simp [kLen1]
 ·rfl
theorem isLLw_len {a : AV} {xs : List (List Int)} (h : isLLw a xs) {ro : Ro} {a1 : Nat} {a2 : Bool} {a3 : List Value} {e : Nat} {a5 : List (Nat × Nat)} {a6 : Option IntKind} {a7 a8 : Bool} {a9 a10 : Option (Nat × Nat)} : kLen1 (some ⟨a1, a2, a3, some e, a5, a6, a7, a8, a9, a10⟩) ro a = some ⟨i64 xs.length, none, [], []⟩ := by
 rcases h with ⟨cs, rfl, h⟩ | ⟨rfl, o, c, rfl⟩
 ·simp [kLen1, isLws_len h]
 ·rfl
theorem isLw_idx {a : AV} {xs : List Int} (h : isLw a xs) {k : Nat} (hk : k < xs.length) {ro : Ro} {a1 : Nat} {a2 : Bool} {a3 : List Value} {e : Nat} {a5 : List (Nat × Nat)} {a6 : Option IntKind} {a7 a8 : Bool} {a9 a10 : Option (Nat × Nat)} : kIdx (some ⟨a1, a2, a3, some e, a5, a6, a7, a8, a9, a10⟩) ro a (i64 (k : Int)) = some ⟨.iptr [i64 (atI xs k)], none, [], []⟩ := by
 rcases h with rfl | ⟨rfl, o, c, rfl⟩
 ·exact isL_idx (isL_imm xs) hk
 ·simp at hk
theorem isLLw_idx {a : AV} {xs : List (List Int)} (h : isLLw a xs) {k : Nat} (hk : k < xs.length) {ro : Ro} {a1 : Nat} {a2 : Bool} {a3 : List Value} {e : Nat} {a5 : List (Nat × Nat)} {a6 : Option IntKind} {a7 a8 : Bool} {a9 a10 : Option (Nat × Nat)} : kIdx (some ⟨a1, a2, a3, some e, a5, a6, a7, a8, a9, a10⟩) ro a (i64 (k : Int)) = some ⟨.iptr [atA a k], none, [], []⟩ := by
 rcases h with ⟨cs, rfl, h⟩ | ⟨rfl, o, c, rfl⟩
 ·obtain ⟨c, h1, h2⟩ := isLws_get h hk
  simp [kIdx, h1, atA]
 ·simp at hk
theorem isLLw_row {a : AV} {xs : List (List Int)} (h : isLLw a xs) {k : Nat} (hk : k < xs.length) : isLw (atA a k) (row xs k) := by
 rcases h with ⟨cs, rfl, h⟩ | ⟨rfl, o, c, rfl⟩
 ·obtain ⟨c, h1, h2⟩ := isLws_get h hk
  have e : atA (.imm cs) k = c := by simp [atA, h1]
  rw [e]; exact h2
 ·simp at hk
attribute [go_sem] isLw_len isLLw_len isLw_idx isLLw_idx isLw_pure isLLw_pure
def szV (z : Int) : Int := if z < 0 then -1 else z
theorem c56 {a : AV} {xs : List Int} {left : Int} (ha : isLw a xs) (hx : xs.length < 2^63) (h1 : 0 ≤ left) (h2 : left < 2^63) : CallOK Tryz.prog 48 [a, i64 left] (i64 (szV (left - xs.length))) := by
 refine call_of (fn := Tryz.f48) (code := bodyOf Tryz.f48) Tryz.func48 rfl (by kernel_rfl) (rfl) ?_
 intro sl hs
 have s0 : sl 0 = a := hs 0
 have s1 : sl 1 = i64 left := hs 1
 by_cases h : left - (xs.length : Int) < 0
 ·dsimp only [Tryz.f48, bodyOf, Option.getD]
  refine Yab ?_
  refine Yaa ?_
  unfold szV; rw [if_pos h]
 ·dsimp only [Tryz.f48, bodyOf, Option.getD]
  refine Yab ?_
  refine Yaa ?_
  unfold szV; rw [if_neg h]
def szA (S : List (List Int)) (l : Int) : Nat → Int
 | 0 => l
 | i + 1 => szA S l i - (row S i).length
theorem szA_le (S : List (List Int)) (l : Int) : ∀ {i j : Nat}, i ≤ j → szA S l j ≤ szA S l i
 | i, 0, h => by
  have : i = 0 := by omega
  subst this; exact Int.le_refl _
 | i, j + 1, h => by
  rcases Nat.lt_or_ge i (j + 1) with h2 | h2
  ·have := szA_le S l (i := i) (j := j) (by omega)
   simp only [szA]; omega
  ·have : i = j + 1 := by omega
   subst this; exact Int.le_refl _
theorem c55 {a : AV} {S : List (List Int)} {left : Int} (ha : isLLw a S) (hx : S.length < 2^63) (hr : ∀ i, i < S.length → (row S i).length < 2^63) (h1 : 0 ≤ left) (h2 : left ≤ 1048576) : CallOK Tryz.prog 24 [a, i64 left] (i64 (szV (szA S (left - S.length) S.length))) := by
 refine call_of (fn := Tryz.f24) (code := bodyOf Tryz.f24) Tryz.func24 rfl (by kernel_rfl) (rfl) ?_
 intro sl hs
 have s0 : sl 0 = a := hs 0
 have s1 : sl 1 = i64 left := hs 1
 have hle := szA_le S (left - S.length) (Nat.zero_le S.length)
 simp only [szA] at hle
 by_cases h : left - (S.length : Int) < 0
 ·dsimp only [Tryz.f24, bodyOf, Option.getD]
  refine Yab ?_
  refine Yaa ?_
  unfold szV; rw [if_pos (by omega)]
 ·dsimp only [Tryz.f24, bodyOf, Option.getD]
  refine Yab ?_
  refine WK_for (fun i st => st.sl 0 = a ∧ st.sl 1 = i64 (szA S (left - S.length) i) ∧ st.sl 5 = i64 (i : Int) ∧ (0 ≤ szA S (left - S.length) i)) S.length ?_ ?_ ?_
  ·refine Yao ?_
   exact ⟨rfl, rfl, by simp only [szA]; omega⟩
  ·rintro i sl ro gn hi ⟨s0, s1, s5, q⟩
   dsimp only at s0 s1 s5
   have hi' : (i : Int) < (S.length : Nat) := by omega
   have hrow := isLLw_row ha hi
   have hri := hr i hi
   have hle2 := szA_le S (left - S.length) (Nat.zero_le i)
   have hle3 := szA_le S (left - S.length) (show i + 1 ≤ S.length by omega)
   simp only [szA] at hle2 hle3
   refine Yae ?_
   refine CLL_pure _ (c56 hrow hri q (by omega)) (by simp (disch := assumption) only [pureL, pureA, isLw_pure, isLLw_pure, pureL_map, Bool.and_self, Bool.and_true]) rfl rfl ?_
   by_cases hn : szA S (left - S.length) i - ((row S i).length : Int) < 0
   ·have e : szV (szA S (left - S.length) i - ((row S i).length : Int)) = -1 := if_pos hn
    rw [e]
    refine Yae ?_
    refine Yaa ?_
    unfold szV; rw [if_pos (by omega)]
   ·have e : szV (szA S (left - S.length) i - ((row S i).length : Int)) = szA S (left - S.length) (i + 1) := if_neg hn
    rw [e]
    have hn' : ¬ szA S (left - S.length) (i + 1) < 0 := hn
    refine Yae ?_
    exact ⟨i64c (by omega), by omega⟩
  ·rintro sl ro gn ⟨s0, s1, s5, q⟩
   dsimp only at s0 s1 s5
   have hi' : ¬ ((S.length : Nat) : Int) < (S.length : Nat) := by omega
   refine Ybx ?_
   refine Yaa ?_
   unfold szV; rw [if_neg (by omega)]
def szD (S : List (List Int)) (T : List Int) (left : Int) : Int := if szA S (left - S.length) S.length < 0 then -1 else szV (szA S (left - S.length) S.length - T.length)
theorem c61 {a : AV} {xs : List Int} (ha : isLw a xs) (hx : xs.length ≤ maxN) : CallOK Tryz.prog 55 [a] (rowL xs) := by
 have hx' : xs.length ≤ 4294967296 := hx
 have hm' : (xs.length : Int) ≤ ((4294967296 : Nat) : Int) := by omega
 have e0 : rowL xs = .row (rws (fun k => i64 (if k < xs.length then atI xs k else 0)) xs.length) := by
  have : xs = rws (fun k => if k < xs.length then atI xs k else 0) xs.length := eq_of_atI (zfe _ _).symm fun j hj => by rw [atI_rws _ hj, if_pos hj]
  conv => lhs; rw [this]
  simp only [rowL, rws_map]
 rw [e0]
 refine call_of (fn := Tryz.f55) (code := bodyOf Tryz.f55) Tryz.func55 rfl (by kernel_rfl) (e0 ▸ noRef_rowL _) ?_
 intro sl hs
 have s0 : sl 0 = a := hs 0
 dsimp only [Tryz.f55, bodyOf, Option.getD]
 refine Ybc ?_
 refine WK_for (fun i st => st.sl 0 = a ∧ st.sl 3 = .ref 8224 1 [] 0 xs.length ∧ st.ro 8224 1 = some (.row (rws (fun k => i64 (if k < i then atI xs k else 0)) xs.length)) ∧ st.sl 4 = i64 (i : Int)) xs.length ?_ ?_ ?_
 ·refine Yas ?_
  exact ⟨congrArg some (congrArg AV.row (rws_congr fun k hk => by rw [if_neg (by omega)])), rfl⟩
 ·rintro i sl ro gn hi ⟨s0, s3, r8224, s4⟩
  dsimp only at s0 s3 r8224 s4
  have hi' : (i : Int) < (xs.length : Nat) := by omega
  refine Ybr ?_
  refine ⟨congrArg (fun x => some (AV.row x)) ?_, i64c (by omega)⟩
  rw [rws_set]
  refine rws_congr fun k hk => ?_
  by_cases hki : k = i
  ·subst hki; rw [if_pos rfl, if_pos (by omega)]
  ·rw [if_neg hki]
   have e : (k < i) ↔ (k < i + 1) := by omega
   simp only [e]
 ·rintro sl ro gn ⟨s0, s3, r8224, s4⟩
  dsimp only at s0 s3 r8224 s4
  have hi' : ¬ ((xs.length : Nat) : Int) < (xs.length : Nat) := by omega
  refine Ybt ?_
  simp only [zr, zb, retR, resL, outT, outL, zes, zez, oneV, zcp, zed, zfi, Ro.dl, St.ev, zhk, ↓za, ↓reduceIte, Nat.reduceEqDiff, Nat.reduceAdd, Nat.reduceLeDiff, r8224]
theorem outL_refs (f : Nat → List Int) (s : Nat) : ∀ (l : List Nat) (ro : Ro), l.Nodup → (∀ k, k ∈ l → ro s (k + 1) = some (rowL (f k))) → ∃ ws, outL ro (l.map fun k => .ref s (k + 1) [] 0 (f k).length) = some (l.map fun k => rowL (f k), ws)
 | [], ro, _, _ => ⟨[], rfl⟩
 | k :: l, ro, hn, h => by
  have hk := h k (by simp)
  have hn' := List.nodup_cons.1 hn
  obtain ⟨ws, hw⟩ := outL_refs f s l (ro.dl [(s, k + 1)]) hn'.2 (fun j hj => by
   have : j ≠ k := fun e => hn'.1 (e ▸ hj)
   show upr ro s (k + 1) .dead s (j + 1) = _
   rw [zdb, if_neg (by omega)]
   exact h j (by simp [hj]))
  refine ⟨(s, k + 1) :: ws, ?_⟩
  simp only [List.map_cons, outL, zes, hk, List.length_map, if_true, hw, List.cons_append, List.nil_append]
theorem c60 {a : AV} {S : List (List Int)} (ha : isLLw a S) (hx : S.length ≤ maxN) (hr : ∀ i, i < S.length → (row S i).length ≤ maxN) : CallOK Tryz.prog 33 [a] (rowLL S) := by
 have hx' : S.length ≤ 4294967296 := hx
 have hm' : (S.length : Int) ≤ ((4294967296 : Nat) : Int) := by omega
 have e0 : rowLL S = .row ((List.range S.length).map fun k => rowL (row S k)) := by
  have : S = (List.range S.length).map (row S) := isLs_inj (by simp) fun j hj => by simp [row, hj]
  conv => lhs; rw [this]
  simp only [rowLL, List.map_map]; rfl
 rw [e0]
 refine call_of (fn := Tryz.f33) (code := bodyOf Tryz.f33) Tryz.func33 rfl (by kernel_rfl) (e0 ▸ noRef_rowLL _) ?_
 intro sl hs
 have s0 : sl 0 = a := hs 0
 dsimp only [Tryz.f33, bodyOf, Option.getD]
 refine Ybc ?_
 refine WK_for (fun i st => st.sl 0 = a ∧ st.sl 3 = .ref 8224 1 [] 0 S.length ∧ st.ro 8224 1 = some (.bx (rws (fun k => if k < i then .ref 24672 (k + 1) [] 0 (row S k).length else nilA) S.length)) ∧ st.sl 4 = i64 (i : Int) ∧ (st.gn 24672 = i) ∧ (∀ k, k < i → st.ro 24672 (k + 1) = some (rowL (row S k)))) S.length ?_ ?_ ?_
 ·refine Yas ?_
  exact ⟨congrArg some (congrArg AV.bx (rws_congr fun k hk => by rw [if_neg (by omega)])), rfl, lt0⟩
 ·rintro i sl ro gn hi ⟨s0, s3, r8224, s4, g, q⟩
  dsimp only at s0 s3 r8224 s4
  have hi' : (i : Int) < (S.length : Nat) := by omega
  dsimp only at g q
  have hrow := isLLw_row ha hi
  refine Ybr ?_
  refine CLL_pure _ (c61 hrow (hr i hi)) (by simp (disch := assumption) only [pureL, pureA, isLw_pure, isLLw_pure, pureL_map, Bool.and_self, Bool.and_true]) rfl rfl ?_
  simp (maxSteps := 10000000) (disch := first | assumption | omega) only [go_sem, ↓reduceIte, Nat.reduceEqDiff, reduceCtorEq, Nat.reduceAdd, Nat.reduceMul, Nat.reduceLeDiff, zc, Int.reduceToNat, s0, s3, r8224, s4, hi', hi, g]
  refine ⟨congrArg (fun x => some (AV.bx x)) ?_, i64c (by omega), fun k hk => ?_⟩
  ·rw [rws_set]
   refine rws_congr fun k hk => ?_
   by_cases hki : k = i
   ·subst hki; rw [if_pos rfl, if_pos (by omega)]
   ·rw [if_neg hki]
    have e : (k < i) ↔ (k < i + 1) := by omega
    simp only [e]
  ·by_cases hki : k = i
   ·subst hki; simp
   ·rw [if_neg hki]; exact q k (by omega)
 ·rintro sl ro gn ⟨s0, s3, r8224, s4, g, q⟩
  dsimp only at s0 s3 r8224 s4
  have hi' : ¬ ((S.length : Nat) : Int) < (S.length : Nat) := by omega
  dsimp only at g q
  refine Ybt ?_
  have e1 : rws (fun k => if k < S.length then (AV.ref 24672 (k + 1) [] 0 (row S k).length) else nilA) S.length = (List.range S.length).map fun k => .ref 24672 (k + 1) [] 0 (row S k).length := rws_congr fun k hk => if_pos hk
  obtain ⟨ws, hw⟩ := outL_refs (row S) 24672 (List.range S.length) (upr ro 8224 1 .dead) List.nodup_range (fun k hk => by
   rw [zdb, if_neg (by omega)]; exact q k (List.mem_range.1 hk))
  simp only [zr, zb, retR, resL, outT, outL, zes, zez, oneV, zcp, zed, zfi, Ro.dl, St.ev, zhk, ↓za, ↓reduceIte, Nat.reduceEqDiff, Nat.reduceAdd, Nat.reduceLeDiff, r8224, e1, hw, List.length_range]
end Go.Proofs.YtcleikmfomddhaaGreat
/- Charges; balances. -/
namespace Go.Proofs.YtcleikmfomddhaaGreat
open Go.RowKit
set_option maxRecDepth 1000000
noncomputable def chg (S : List (List Int)) (T : List Int) (i : Int) : Int := by
 classical exact if DataP S T then (if 0 ≤ i ∧ i ≤ (T.length : Int) - 1 then 0 else 2) else 1
section
variable {a b : AV} {S : List (List Int)} {T : List Int}
end
structure Dat (S : List (List Int)) (T : List Int) : Prop where
 shp : Shp S T
 m16 : T.length ≤ 16
 sta : StaP S T
 whl : ¬ whl S T.length = 0
 cj : CjP S T
 tur : TurP S T
 ring : RingP (cubeL (nmE S T.length (cjL S T)) T.length)
def in2 (i j : Nat) : Option AV → Option (List AV)
 | some (.row cs) => match cs[i]? with
  | some (.row ds) => rowO ds[j]?
  | _ => none
 | _ => none
attribute [go_sem] impE_agg1 kFieldV
def baT (S : List (List Int)) (T : List Int) (c j k : Nat) : Int := nmE S T.length (cjL S T) c j k * (atI T k * atI (row S 0) k % 55441)
def baS (S : List (List Int)) (T : List Int) (c j : Nat) : Nat → Int
 | 0 => 0
 | k + 1 => (baS S T c j k + baT S T c j k) % 55441
def bbT (S : List (List Int)) (T : List Int) (c j k : Nat) : Int := nmE S T.length (cjL S T) c j k * atI T k % 55441 * atI (row S 0) k % 55441
def balV (S : List (List Int)) (T : List Int) (c i j : Nat) : Int := baS S T c j T.length * pw (atI T i) 55439 % 55441 * pw (atI T j) 55439 % 55441
section
variable {a b : AV} {S : List (List Int)} {T : List Int}
end
end Go.Proofs.YtcleikmfomddhaaGreat
/- The law of BalanceOf answers true. -/
namespace Go.Proofs.YtcleikmfomddhaaGreat
open Go.RowKit
set_option maxRecDepth 1000000
theorem row_max {S : List (List Int)} (hR : ∀ i, i < S.length → (row S i).length ≤ maxN) (j : Nat) : (S.getD j []).length ≤ maxN := by
 rcases Nat.lt_or_ge j S.length with h | h
 ·exact hR j h
 ·have : S.getD j [] = [] := by simp [List.getD_eq_getElem?_getD, List.getElem?_eq_none h]
  rw [this]; exact Nat.zero_le _
end Go.Proofs.YtcleikmfomddhaaGreat
/- What a statement hands in, read by the machine. -/
namespace Go.Proofs.YtcleikmfomddhaaGreat
open Go.RowKit Go.ChangeShapes Go.WideShapes Go.Deep Go.Joins
theorem walk_below {P : Program} {f : Nat} {args : List AV} {b : Bool} (h : CallOK P f args (bo b)) {w : World} {vs : List Value} (hv : RelL (cx0 w (fun _ => False)) args vs []) (hg : Gd w) :
  Calls P f vs.toArray w fun e w' => e = .returned (.bool b) ∧ Below w.heap.size w w' := by
 refine (h.2.2 w (fun _ => False) vs hv (fun _ h => h.elim) hg).mono ?_
 rintro e w' ⟨v, A', F', rfl, h1, _, _, h4⟩
 obtain ⟨h2, _⟩ := Rel.sc_inv h1
 exact ⟨by rw [h2], ⟨h4.os, h4.tape, h4.output.1, h4.size, fun k hk => h4.block k hk (by simp)⟩⟩
theorem RelL.mapO {c : Cx} {f : Nat → AV} {g : Nat → Value} : ∀ {l : List Nat}, (∀ i, i ∈ l → Rel c (f i) (g i) []) → RelL c (l.map f) (l.map g) []
 | [], _ => .nil
 | i :: l, h => RelL.cons (h i (by simp)) (RelL.mapO fun j hj => h j (by simp [hj])) (by simp)
theorem isLws_map {f : Nat → AV} {g : Nat → List Int} : ∀ {l : List Nat}, (∀ i, i ∈ l → isLw (f i) (g i)) → isLws (l.map f) (l.map g)
 | [], _ => trivial
 | i :: l, h => ⟨h i (by simp), isLws_map fun j hj => h j (by simp [hj])⟩
theorem cell_spot {w : World} {a : Addr} {v : Value} (h : w.cell? a = some v) : a.spot = none ∧ a.block < w.heap.size := by
 unfold World.cell? at h
 split at h
 ·rename_i c E fr hb
  split at h
  ·cases h
  ·rename_i hs
   refine ⟨by cases hsp : a.spot <;> simp_all, ?_⟩
   exact (Array.getElem?_eq_some_iff.1 hb).1
 ·cases h
theorem add_plain {a : Addr} (h : a.spot = none) (i : Nat) : a.add i = ⟨a.block, a.off + i, none⟩ := by
 unfold Addr.add
 split
 ·rename_i hi; subst hi; cases a; simp_all
 ·rfl
theorem wf64 {a : Int} (h : (Lit.int .i64 a).wf = true) : -2^63 ≤ a ∧ a < 2^63 := by
 simp only [Lit.wf, Bool.and_eq_true, decide_eq_true_eq] at h
 have h1 : -2^63 ≤ a := h.1
 have h2 : a ≤ 2^63 - 1 := h.2
 omega
section
variable {H : Type} {enc : TypeId × Value → H} {P : Program} {w : World} {held : Bool}
theorem open_w1 {t e : TypeId} {fuel : Nat} {v : Value} {x : DataW H × List MemPlace} (ht : P.underlying t = some (.slice e)) (he : P.underlying e = some (.int .i64)) (hc : P.cellsOf e = 1) (h : DataW.trod enc P w 0 (fun _ => true) held fuel t [v] = some x) :
  ∃ a xs, Rel (cx0 w (fun _ => False)) a v [] ∧ isLw a xs ∧ xs.length < 2^63 ∧ ∀ j, -2^63 ≤ atI xs j ∧ atI xs j < 2^63 := by
 rcases open_ints ht he hc h with ⟨hcs, _⟩ | ⟨ad, len, cap, zs, hcs, _, hl, hm, hz, _, hcell, hwf⟩
 ·simp only [List.cons.injEq, and_true] at hcs
  subst hcs
  exact ⟨.sc (.slice none 0 0), [], .sc _ .nil, .inr ⟨rfl, _, _, rfl⟩, by simp, fun j => by simp [atI]⟩
 ·simp only [List.cons.injEq, and_true] at hcs
  subst hcs
  simp only [if_true] at hz
  have hmx : cap < 2^63 := Nat.lt_of_le_of_lt hm (by decide)
  rcases Nat.eq_zero_or_pos len with h0 | hpos
  ·subst h0
   exact ⟨.sc (.slice (some ad) 0 cap), [], .sc _ .nil, .inr ⟨rfl, _, _, rfl⟩, by simp, fun j => by simp [atI]⟩
  ·have hc0 := hcell 0 (by omega)
   obtain ⟨hs, hb⟩ := cell_spot hc0
   have hs' : ad.spot = none := by simpa [Addr.add] using hs
   have hb' : ad.block < w.heap.size := by simpa [Addr.add] using hb
   have hlen : (zs.take len).length = len := by rw [List.length_take]; omega
   have hlen2 : ((zs.take len).map (Value.int .i64)).length = len := by rw [List.length_map, hlen]
   refine ⟨.imm ((zs.take len).map i64), zs.take len, ?_, .inl rfl, by omega, fun j => ?_⟩
   ·have hr : RelL (cx0 w (fun _ => False)) ((zs.take len).map i64) ((zs.take len).map (Value.int .i64)) [] := by
     have := relL_sc (cx0 w (fun _ => False)) ((zs.take len).map (Value.int .i64))
     rwa [List.map_map] at this
    have := RelL.imm (c := cx0 w (fun _ => False)) ad.block ad.off cap hr ⟨fun h => h, hb', fun i u hu => ?_⟩ (by rw [hlen2]; exact hl) RelL.nil
    ·rw [hlen2] at this
     have e : (⟨ad.block, ad.off, none⟩ : Addr) = ad := by cases ad; simp_all
     rwa [e] at this
    ·show w.cell? ⟨ad.block, ad.off + i, none⟩ = some u
     rw [← add_plain hs' i]
     have hi : i < len := by
      have := (List.getElem?_eq_some_iff.1 hu).1
      rwa [hlen2] at this
     rw [hcell i (by omega)]
     rw [List.getElem?_map, List.getElem?_take, if_pos hi] at hu
     cases hzi : zs[i]? with
     | none => rw [hzi] at hu; cases hu
     | some z =>
      rw [hzi] at hu
      simp only [Option.map_some, Option.some.injEq] at hu
      rw [← hu]
      simp [List.getD_eq_getElem?_getD, hzi]
   ·rcases Nat.lt_or_ge j (zs.take len).length with hj | hj
    ·have hmem : atI (zs.take len) j ∈ zs := by
      have : atI (zs.take len) j = (zs.take len)[j] := by simp only [atI, List.getD_eq_getElem?_getD, List.getElem?_eq_getElem hj, Option.getD_some]
      rw [this]
      exact List.mem_of_mem_take (List.getElem_mem hj)
     exact wf64 (hwf _ hmem)
    ·rw [atI_out hj]; exact ⟨by decide, by decide⟩
theorem open_w2 {t t1 e : TypeId} {fuel : Nat} {v : Value} {x : DataW H × List MemPlace} (ht : P.underlying t = some (.slice t1)) (ht1 : P.underlying t1 = some (.slice e)) (he : P.underlying e = some (.int .i64)) (hc1 : P.cellsOf t1 = 1) (hc : P.cellsOf e = 1)
  (h : DataW.trod enc P w 0 (fun _ => true) held fuel t [v] = some x) :
  ∃ a S, Rel (cx0 w (fun _ => False)) a v [] ∧ isLLw a S ∧ S.length < 2^63 ∧ (∀ i, (row S i).length < 2^63) ∧ ∀ i j, -2^63 ≤ atI (row S i) j ∧ atI (row S i) j < 2^63 := by
 rcases open_slice ht h with ⟨hcs, _⟩ | ⟨ad, len, cap, m, n, D, Pl, hcs, _, hl, hm, hmm, _, hel⟩
 ·simp only [List.cons.injEq, and_true] at hcs
  subst hcs
  exact ⟨.sc (.slice none 0 0), [], .sc _ .nil, .inr ⟨rfl, _, _, rfl⟩, by simp, fun i => by simp [row], fun i j => by simp [row, atI]⟩
 ·simp only [List.cons.injEq, and_true] at hcs
  subst hcs
  simp only [if_true] at hmm
  subst hmm
  have hmx : m < 2^63 := Nat.lt_of_le_of_lt hm (by decide)
  rcases Nat.eq_zero_or_pos len with h0 | hpos
  ·subst h0
   exact ⟨.sc (.slice (some ad) 0 m), [], .sc _ .nil, .inr ⟨rfl, _, _, rfl⟩, by simp, fun i => by simp [row], fun i j => by simp [row, atI]⟩
  ·have hrow : ∀ i, i < m → ∃ u a xs, w.cell? (ad.add i) = some u ∧ Rel (cx0 w (fun _ => False)) a u [] ∧ isLw a xs ∧ xs.length < 2^63 ∧ ∀ j, -2^63 ≤ atI xs j ∧ atI xs j < 2^63 := by
    intro i hi
    obtain ⟨cs', hcl, htr⟩ := hel i hi
    rw [hc1] at hcl
    obtain ⟨_, hlen, hat⟩ := World.cells?_some hcl
    obtain ⟨u, rfl⟩ : ∃ u, cs' = [u] := by
     match cs', hlen with
     | [u], _ => exact ⟨u, rfl⟩
    have h0 := hat 0 (by omega)
    obtain ⟨a, xs, r1, r2, r3, r4⟩ := open_w1 ht1 he hc htr
    refine ⟨u, a, xs, ?_, r1, r2, r3, r4⟩
    simpa [Addr.add, Nat.mul_one] using h0
   obtain ⟨hs, hb⟩ := cell_spot (hrow 0 (by omega)).choose_spec.choose_spec.choose_spec.1
   have hs' : ad.spot = none := by simpa [Addr.add] using hs
   have hb' : ad.block < w.heap.size := by simpa [Addr.add] using hb
   have hall : ∀ i, ∃ q : Value × AV × List Int, i < m → w.cell? (ad.add i) = some q.1 ∧ Rel (cx0 w (fun _ => False)) q.2.1 q.1 [] ∧ isLw q.2.1 q.2.2 ∧ q.2.2.length < 2^63 ∧ ∀ j, -2^63 ≤ atI q.2.2 j ∧ atI q.2.2 j < 2^63 := by
    intro i
    by_cases hi : i < m
    ·obtain ⟨u, a, xs, r⟩ := hrow i hi
     exact ⟨(u, a, xs), fun _ => r⟩
    ·exact ⟨(.bool false, .dead, []), fun h => absurd h hi⟩
   obtain ⟨q, hq⟩ := Classical.axiomOfChoice hall
   have hget : ∀ i, i < len → row ((List.range len).map fun i => (q i).2.2) i = (q i).2.2 := fun i hi => by simp [row, hi]
   refine ⟨.imm ((List.range len).map fun i => (q i).2.1), (List.range len).map fun i => (q i).2.2, ?_, .inl ⟨_, rfl, isLws_map fun i hi => ?_⟩, by simp; omega, fun i => ?_, fun i j => ?_⟩
   ·have hr : RelL (cx0 w (fun _ => False)) ((List.range len).map fun i => (q i).2.1) ((List.range len).map fun i => (q i).1) [] :=
     RelL.mapO fun i hi => (hq i (by have := List.mem_range.1 hi; omega)).2.1
    have hlen2 : ((List.range len).map fun i => (q i).1).length = len := by simp
    have := RelL.imm (c := cx0 w (fun _ => False)) ad.block ad.off m hr ⟨fun h => h, hb', fun i u hu => ?_⟩ (by rw [hlen2]; exact hl) RelL.nil
    ·rw [hlen2] at this
     have e : (⟨ad.block, ad.off, none⟩ : Addr) = ad := by cases ad; simp_all
     rwa [e] at this
    ·show w.cell? ⟨ad.block, ad.off + i, none⟩ = some u
     rw [← add_plain hs' i]
     have hi : i < len := by
      have := (List.getElem?_eq_some_iff.1 hu).1
      rwa [hlen2] at this
     rw [(hq i (by omega)).1]
     simp [hi] at hu
     rw [hu]
   ·exact (hq i (by have := List.mem_range.1 hi; omega)).2.2.1
   ·rcases Nat.lt_or_ge i len with hi | hi
    ·rw [hget i hi]; exact (hq i (by omega)).2.2.2.1
    ·rw [row_out (by simpa using hi)]; simp
   ·rcases Nat.lt_or_ge i len with hi | hi
    ·rw [hget i hi]; exact (hq i (by omega)).2.2.2.2 j
    ·rw [row_out (by simpa using hi), atI_out (by simp)]; exact ⟨by decide, by decide⟩
end
end Go.Proofs.YtcleikmfomddhaaGreat
/- Three levels of lists as a statement hands them in: readings, sizes, copies, equality. -/
namespace Go.Proofs.YtcleikmfomddhaaGreat
open Go.RowKit Go.ChangeShapes Go.WideShapes Go.Deep Go.Joins
set_option maxRecDepth 1000000
def isLLws : List AV → List (List (List Int)) → Prop
 | [], [] => True
 | a :: bs, x :: xs => isLLw a x ∧ isLLws bs xs
 | _, _ => False
def isLLLw (a : AV) (xss : List (List (List Int))) : Prop := (∃ cs, a = .imm cs ∧ isLLws cs xss) ∨ (xss = [] ∧ ∃ o c, a = .sc (.slice o 0 c))
theorem isLLws_len : ∀ {cs : List AV} {T : List (List (List Int))}, isLLws cs T → cs.length = T.length
 | [], [], _ => rfl
 | a :: bs, x :: xs, h => by simp only [List.length_cons]; rw [isLLws_len h.2]
 | [], _ :: _, h => h.elim
 | _ :: _, [], h => h.elim
theorem isLLws_get : ∀ {cs : List AV} {T : List (List (List Int))} {k : Nat}, isLLws cs T → k < T.length → ∃ c, cs[k]? = some c ∧ isLLw c (T.getD k [])
 | a :: bs, x :: xs, 0, h, _ => ⟨a, rfl, h.1⟩
 | a :: bs, x :: xs, k + 1, h, hk => by
  obtain ⟨c, h1, h2⟩ := isLLws_get (k := k) h.2 (by simpa using hk)
  exact ⟨c, by simpa using h1, by simpa using h2⟩
 | [], [], k, _, hk => by simp at hk
 | [], _ :: _, _, h, _ => h.elim
 | _ :: _, [], _, h, _ => h.elim
theorem isLLws_pure : ∀ {cs : List AV} {T : List (List (List Int))}, isLLws cs T → pureL cs = true
 | [], [], _ => rfl
 | a :: bs, x :: xs, h => by simp [pureL, isLLw_pure h.1, isLLws_pure h.2]
 | [], _ :: _, h => h.elim
 | _ :: _, [], h => h.elim
theorem isLLLw_pure {a : AV} {xs : List (List (List Int))} (h : isLLLw a xs) : pureA a = true := by
 rcases h with ⟨cs, rfl, h⟩ | ⟨_, o, c, rfl⟩
 ·simp [pureA, isLLws_pure h]
 ·rfl
theorem isLLLw_cellB {a : AV} {xs : List (List (List Int))} (ro : Ro) (h : isLLLw a xs) : cellOkB ro a = true := by
 rcases h with ⟨cs, rfl, h⟩ | ⟨_, o, c, rfl⟩ <;> rfl
theorem isLLLw_lift {a : AV} {xs : List (List (List Int))} (s g : Nat) (p : List Nat) (h : isLLLw a xs) : lift s g p a = a := by
 rcases h with ⟨cs, rfl, h⟩ | ⟨_, o, c, rfl⟩ <;> rfl
theorem isLLLw_len {a : AV} {xs : List (List (List Int))} (h : isLLLw a xs) {ro : Ro} {a1 : Nat} {a2 : Bool} {a3 : List Value} {e : Nat} {a5 : List (Nat × Nat)} {a6 : Option IntKind} {a7 a8 : Bool} {a9 a10 : Option (Nat × Nat)} : kLen1 (some ⟨a1, a2, a3, some e, a5, a6, a7, a8, a9, a10⟩) ro a = some ⟨i64 xs.length, none, [], []⟩ := by
 rcases h with ⟨cs, rfl, h⟩ | ⟨rfl, o, c, rfl⟩
 ·simp [kLen1, isLLws_len h]
 ·rfl
theorem isLLLw_idx {a : AV} {xs : List (List (List Int))} (h : isLLLw a xs) {k : Nat} (hk : k < xs.length) {ro : Ro} {a1 : Nat} {a2 : Bool} {a3 : List Value} {e : Nat} {a5 : List (Nat × Nat)} {a6 : Option IntKind} {a7 a8 : Bool} {a9 a10 : Option (Nat × Nat)} : kIdx (some ⟨a1, a2, a3, some e, a5, a6, a7, a8, a9, a10⟩) ro a (i64 (k : Int)) = some ⟨.iptr [atA a k], none, [], []⟩ := by
 rcases h with ⟨cs, rfl, h⟩ | ⟨rfl, o, c, rfl⟩
 ·obtain ⟨c, h1, h2⟩ := isLLws_get h hk
  simp [kIdx, h1, atA]
 ·simp at hk
theorem isLLLw_mat {a : AV} {xs : List (List (List Int))} (h : isLLLw a xs) {k : Nat} (hk : k < xs.length) : isLLw (atA a k) (mat xs k) := by
 rcases h with ⟨cs, rfl, h⟩ | ⟨rfl, o, c, rfl⟩
 ·obtain ⟨c, h1, h2⟩ := isLLws_get h hk
  have e : atA (.imm cs) k = c := by simp [atA, h1]
  rw [e]; exact h2
 ·simp at hk
theorem isLLws_map {f : Nat → AV} {g : Nat → List (List Int)} : ∀ {l : List Nat}, (∀ i, i ∈ l → isLLw (f i) (g i)) → isLLws (l.map f) (l.map g)
 | [], _ => trivial
 | i :: l, h => ⟨h i (by simp), isLLws_map fun j hj => h j (by simp [hj])⟩
theorem mat_out {T : List (List (List Int))} {k : Nat} (h : T.length ≤ k) : mat T k = [] := by
 unfold mat; rw [List.getD_eq_getElem?_getD, List.getElem?_eq_none h]; rfl
attribute [go_sem] isLLLw_len isLLLw_idx isLLLw_lift isLLLw_cellB isLLLw_pure
section
variable {H : Type} {enc : TypeId × Value → H} {P : Program} {w : World} {held : Bool}
theorem open_w3 {t t1 t2 e : TypeId} {fuel : Nat} {v : Value} {x : DataW H × List MemPlace} (ht : P.underlying t = some (.slice t1)) (ht1 : P.underlying t1 = some (.slice t2)) (ht2 : P.underlying t2 = some (.slice e)) (he : P.underlying e = some (.int .i64)) (hc1 : P.cellsOf t1 = 1) (hc2 : P.cellsOf t2 = 1) (hc : P.cellsOf e = 1)
  (h : DataW.trod enc P w 0 (fun _ => true) held fuel t [v] = some x) :
  ∃ a T, Rel (cx0 w (fun _ => False)) a v [] ∧ isLLLw a T ∧ T.length < 2^63 ∧ (∀ i, (mat T i).length < 2^63) ∧ ∀ i j, (row (mat T i) j).length < 2^63 := by
 rcases open_slice ht h with ⟨hcs, _⟩ | ⟨ad, len, cap, m, n, D, Pl, hcs, _, hl, hm, hmm, _, hel⟩
 ·simp only [List.cons.injEq, and_true] at hcs
  subst hcs
  exact ⟨.sc (.slice none 0 0), [], .sc _ .nil, .inr ⟨rfl, _, _, rfl⟩, by simp, fun i => by simp [mat], fun i j => by simp [row, mat]⟩
 ·simp only [List.cons.injEq, and_true] at hcs
  subst hcs
  simp only [if_true] at hmm
  subst hmm
  have hmx : m < 2^63 := Nat.lt_of_le_of_lt hm (by decide)
  rcases Nat.eq_zero_or_pos len with h0 | hpos
  ·subst h0
   exact ⟨.sc (.slice (some ad) 0 m), [], .sc _ .nil, .inr ⟨rfl, _, _, rfl⟩, by simp, fun i => by simp [mat], fun i j => by simp [row, mat]⟩
  ·have hrow : ∀ i, i < m → ∃ u a xs, w.cell? (ad.add i) = some u ∧ Rel (cx0 w (fun _ => False)) a u [] ∧ isLLw a xs ∧ xs.length < 2^63 ∧ ∀ j, (row xs j).length < 2^63 := by
    intro i hi
    obtain ⟨cs', hcl, htr⟩ := hel i hi
    rw [hc1] at hcl
    obtain ⟨_, hlen, hat⟩ := World.cells?_some hcl
    obtain ⟨u, rfl⟩ : ∃ u, cs' = [u] := by
     match cs', hlen with
     | [u], _ => exact ⟨u, rfl⟩
    have h0 := hat 0 (by omega)
    obtain ⟨a, xs, r1, r2, r3, r4, _⟩ := open_w2 ht1 ht2 he hc2 hc htr
    refine ⟨u, a, xs, ?_, r1, r2, r3, r4⟩
    simpa [Addr.add, Nat.mul_one] using h0
   obtain ⟨hs, hb⟩ := cell_spot (hrow 0 (by omega)).choose_spec.choose_spec.choose_spec.1
   have hs' : ad.spot = none := by simpa [Addr.add] using hs
   have hb' : ad.block < w.heap.size := by simpa [Addr.add] using hb
   have hall : ∀ i, ∃ q : Value × AV × List (List Int), i < m → w.cell? (ad.add i) = some q.1 ∧ Rel (cx0 w (fun _ => False)) q.2.1 q.1 [] ∧ isLLw q.2.1 q.2.2 ∧ q.2.2.length < 2^63 ∧ ∀ j, (row q.2.2 j).length < 2^63 := by
    intro i
    by_cases hi : i < m
    ·obtain ⟨u, a, xs, r⟩ := hrow i hi
     exact ⟨(u, a, xs), fun _ => r⟩
    ·exact ⟨(.bool false, .dead, []), fun h => absurd h hi⟩
   obtain ⟨q, hq⟩ := Classical.axiomOfChoice hall
   have hget : ∀ i, i < len → mat ((List.range len).map fun i => (q i).2.2) i = (q i).2.2 := fun i hi => by simp [mat, hi]
   refine ⟨.imm ((List.range len).map fun i => (q i).2.1), (List.range len).map fun i => (q i).2.2, ?_, .inl ⟨_, rfl, isLLws_map fun i hi => ?_⟩, by simp; omega, fun i => ?_, fun i j => ?_⟩
   ·have hr : RelL (cx0 w (fun _ => False)) ((List.range len).map fun i => (q i).2.1) ((List.range len).map fun i => (q i).1) [] :=
     RelL.mapO fun i hi => (hq i (by have := List.mem_range.1 hi; omega)).2.1
    have hlen2 : ((List.range len).map fun i => (q i).1).length = len := by simp
    have := RelL.imm (c := cx0 w (fun _ => False)) ad.block ad.off m hr ⟨fun h => h, hb', fun i u hu => ?_⟩ (by rw [hlen2]; exact hl) RelL.nil
    ·rw [hlen2] at this
     have e : (⟨ad.block, ad.off, none⟩ : Addr) = ad := by cases ad; simp_all
     rwa [e] at this
    ·show w.cell? ⟨ad.block, ad.off + i, none⟩ = some u
     rw [← add_plain hs' i]
     have hi : i < len := by
      have := (List.getElem?_eq_some_iff.1 hu).1
      rwa [hlen2] at this
     rw [(hq i (by omega)).1]
     simp [hi] at hu
     rw [hu]
   ·exact (hq i (by have := List.mem_range.1 hi; omega)).2.2.1
   ·rcases Nat.lt_or_ge i len with hi | hi
    ·rw [hget i hi]; exact (hq i (by omega)).2.2.2.1
    ·rw [mat_out (by simpa using hi)]; simp
   ·rcases Nat.lt_or_ge i len with hi | hi
    ·rw [hget i hi]; exact (hq i (by omega)).2.2.2.2 j
    ·rw [mat_out (by simpa using hi), row_out (by simp)]; simp
end
def szT (T : List (List (List Int))) (l : Int) : Nat → Int
 | 0 => l
 | i + 1 => szA (mat T i) (szT T l i - (mat T i).length) (mat T i).length
theorem szA_top (S : List (List Int)) (l : Int) (n : Nat) : szA S l n ≤ l := szA_le S l (Nat.zero_le n)
theorem szT_le (T : List (List (List Int))) (l : Int) : ∀ {i j : Nat}, i ≤ j → szT T l j ≤ szT T l i
 | i, 0, h => by
  have : i = 0 := by omega
  subst this; exact Int.le_refl _
 | i, j + 1, h => by
  rcases Nat.lt_or_ge i (j + 1) with h2 | h2
  ·have := szT_le T l (i := i) (j := j) (by omega)
   have h3 := szA_top (mat T j) (szT T l j - (mat T j).length) (mat T j).length
   simp only [szT]; omega
  ·have : i = j + 1 := by omega
   subst this; exact Int.le_refl _
theorem cSzT {a : AV} {T : List (List (List Int))} {left : Int} (ha : isLLLw a T) (hx : T.length < 2^63) (hr : ∀ i, (mat T i).length < 2^63) (hr2 : ∀ i j, (row (mat T i) j).length < 2^63) (h1 : 0 ≤ left) (h2 : left ≤ 1048576) : CallOK Tryz.prog 9 [a, i64 left] (i64 (szV (szT T (left - T.length) T.length))) := by
 refine call_of (fn := Tryz.f9) (code := bodyOf Tryz.f9) Tryz.func9 rfl (by kernel_rfl) (rfl) ?_
 intro sl hs
 have s0 : sl 0 = a := hs 0
 have s1 : sl 1 = i64 left := hs 1
 have hle := szT_le T (left - T.length) (Nat.zero_le T.length)
 simp only [szT] at hle
 by_cases h : left - (T.length : Int) < 0
 ·dsimp only [Tryz.f9, bodyOf, Option.getD]
  refine Yab ?_
  refine Yaa ?_
  unfold szV; rw [if_pos (by omega)]
 ·dsimp only [Tryz.f9, bodyOf, Option.getD]
  refine Yab ?_
  refine WK_for (fun i st => st.sl 0 = a ∧ st.sl 1 = i64 (szT T (left - T.length) i) ∧ st.sl 5 = i64 (i : Int) ∧ (0 ≤ szT T (left - T.length) i)) T.length ?_ ?_ ?_
  ·refine Yao ?_
   exact ⟨rfl, rfl, by simp only [szT]; omega⟩
  ·rintro i sl ro gn hi ⟨s0, s1, s5, q⟩
   dsimp only at s0 s1 s5
   have hi' : (i : Int) < (T.length : Nat) := by omega
   have hrow := isLLLw_mat ha hi
   have hri := hr i
   have hle2 := szT_le T (left - T.length) (Nat.zero_le i)
   have hle3 := szT_le T (left - T.length) (show i + 1 ≤ T.length by omega)
   simp only [szT] at hle2
   refine Yae ?_
   refine CLL_pure _ (c55 hrow hri (fun j _ => hr2 i j) q (by omega)) (by simp (disch := assumption) only [pureL, pureA, isLw_pure, isLLw_pure, pureL_map, Bool.and_self, Bool.and_true]) rfl rfl ?_
   by_cases hn : szA (mat T i) (szT T (left - T.length) i - (mat T i).length) (mat T i).length < 0
   ·have e : szV (szA (mat T i) (szT T (left - T.length) i - (mat T i).length) (mat T i).length) = -1 := if_pos hn
    have hn2 : szT T (left - T.length) (i + 1) < 0 := hn
    rw [e]
    refine Yae ?_
    refine Yaa ?_
    unfold szV; rw [if_pos (by omega)]
   ·have e : szV (szA (mat T i) (szT T (left - T.length) i - (mat T i).length) (mat T i).length) = szT T (left - T.length) (i + 1) := if_neg hn
    rw [e]
    have hn' : ¬ szT T (left - T.length) (i + 1) < 0 := hn
    refine Yae ?_
    exact ⟨i64c (by omega), by omega⟩
  ·rintro sl ro gn ⟨s0, s1, s5, q⟩
   dsimp only at s0 s1 s5
   have hi' : ¬ ((T.length : Nat) : Int) < (T.length : Nat) := by omega
   refine Ybx ?_
   refine Yaa ?_
   unfold szV; rw [if_neg (by omega)]
theorem szA_ok {S : List (List Int)} {l : Int} (h : ¬ szA S l S.length < 0) : 0 ≤ l ∧ ∀ i, i < S.length → (row S i).length ≤ l := by
 refine ⟨by have := szA_top S l S.length; omega, fun i hi => ?_⟩
 have h3 := szA_le S l (show i + 1 ≤ S.length by omega)
 have h4 := szA_le S l (Nat.zero_le i)
 simp only [szA] at h3 h4
 omega
theorem szT_ok {T : List (List (List Int))} {left : Int} (h : ¬ szT T (left - T.length) T.length < 0) : T.length ≤ left ∧ ∀ i, i < T.length → (mat T i).length ≤ left ∧ ∀ j, j < (mat T i).length → (row (mat T i) j).length ≤ left := by
 have h0 := szT_le T (left - T.length) (Nat.zero_le T.length)
 simp only [szT] at h0
 refine ⟨by omega, fun i hi => ?_⟩
 have h1 := szT_le T (left - T.length) (show i + 1 ≤ T.length by omega)
 have h2 := szT_le T (left - T.length) (Nat.zero_le i)
 simp only [szT] at h1 h2
 obtain ⟨h3, h4⟩ := szA_ok (S := mat T i) (l := szT T (left - T.length) i - (mat T i).length) (by omega)
 exact ⟨by omega, fun j hj => by have := h4 j hj; omega⟩
abbrev rowLLL (T : List (List (List Int))) : AV := .row (T.map rowLL)
abbrev immLLL (T : List (List (List Int))) : AV := .imm (T.map immLL)
theorem isLLs_imm : ∀ T : List (List (List Int)), isLLs (T.map immLL) T
 | [] => trivial
 | x :: T => ⟨isLL_imm x, isLLs_imm T⟩
theorem isLLL_imm (T : List (List (List Int))) : isLLL (immLLL T) T := .inl ⟨_, rfl, isLLs_imm T⟩
theorem noRef_rowLLL (T : List (List (List Int))) : noRef (rowLLL T) = true := by
 refine noRef_row _ ?_
 induction T with
 | nil => rfl
 | cons x T ih => simp only [List.map_cons, noRefL, noRef_rowLL x, ih, Bool.and_self]
theorem ex_refLLL {ro : Ro} {s g : Nat} {T : List (List (List Int))} (h : ro s g = some (rowLLL T)) (k : Nat) : ex ro (k + 4) (.ref s g [] 0 T.length) = immLLL T := by
 have hc : ro.cells s g [] = some (T.map rowLL) := by simp only [Ro.cells, h, blk]
 have h1 : ∀ x : List Int, ex ro (k + 1 + 1) (rowL x) = immL x := fun x => by
  show AV.imm ((x.map i64).map (ex ro (k + 1))) = _
  rw [List.map_map]; rfl
 have h2 : ∀ x : List (List Int), ex ro (k + 3) (rowLL x) = immLL x := fun x => by
  show AV.imm ((x.map rowL).map (ex ro (k + 2))) = _
  rw [List.map_map]
  exact congrArg AV.imm (List.map_congr_left fun y _ => h1 y)
 show (match ro.cells s g [] with
  | some cs => AV.imm (((cs.drop 0).take T.length).map (ex ro (k + 3)))
  | none => .dead) = _
 rw [hc]
 show AV.imm ((((T.map rowLL).drop 0).take T.length).map (ex ro (k + 3))) = _
 rw [List.drop_zero, List.take_of_length_le (by simp), List.map_map]
 exact congrArg AV.imm (List.map_congr_left fun x _ => h2 x)
theorem exq_refLLL {n : Nat} {ro : Ro} {s g m : Nat} {T : List (List (List Int))} (h : ro s g = some (rowLLL T)) (hm : m = T.length) (hn : 4 ≤ n) : exq n ro (.ref s g [] 0 m) (immLLL T) := by
 refine ⟨fun k hk => ?_, fun hp => by simp [pureA] at hp⟩
 subst hm
 obtain ⟨j, rfl⟩ : ∃ j, k = j + 4 := ⟨k - 4, by omega⟩
 exact ex_refLLL h j
theorem outL_refsL (f : Nat → List (List Int)) (s : Nat) : ∀ (l : List Nat) (ro : Ro), l.Nodup → (∀ k, k ∈ l → ro s (k + 1) = some (rowLL (f k))) → ∃ ws, outL ro (l.map fun k => .ref s (k + 1) [] 0 (f k).length) = some (l.map fun k => rowLL (f k), ws)
 | [], ro, _, _ => ⟨[], rfl⟩
 | k :: l, ro, hn, h => by
  have hk := h k (by simp)
  have hn' := List.nodup_cons.1 hn
  obtain ⟨ws, hw⟩ := outL_refsL f s l (ro.dl [(s, k + 1)]) hn'.2 (fun j hj => by
   have : j ≠ k := fun e => hn'.1 (e ▸ hj)
   show upr ro s (k + 1) .dead s (j + 1) = _
   rw [zdb, if_neg (by omega)]
   exact h j (by simp [hj]))
  refine ⟨(s, k + 1) :: ws, ?_⟩
  simp only [List.map_cons, outL, zes, hk, List.length_map, if_true, hw, List.cons_append, List.nil_append]
theorem cToT {a : AV} {T : List (List (List Int))} (ha : isLLLw a T) (hx : T.length ≤ maxN) (hr : ∀ i, i < T.length → (mat T i).length ≤ maxN ∧ ∀ j, j < (mat T i).length → (row (mat T i) j).length ≤ maxN) : CallOK Tryz.prog 15 [a] (rowLLL T) := by
 have hx' : T.length ≤ 4294967296 := hx
 have hm' : (T.length : Int) ≤ ((4294967296 : Nat) : Int) := by omega
 have e0 : rowLLL T = .row ((List.range T.length).map fun k => rowLL (mat T k)) := by
  have : T.map rowLL = (List.range T.length).map fun k => rowLL (mat T k) := by
   apply List.ext_getElem
   ·simp
   ·intro i h1 h2
    have hi : i < T.length := by simpa using h1
    simp [mat, hi]
  rw [rowLLL, this]
 rw [e0]
 refine call_of (fn := Tryz.f15) (code := bodyOf Tryz.f15) Tryz.func15 rfl (by kernel_rfl) (e0 ▸ noRef_rowLLL _) ?_
 intro sl hs
 have s0 : sl 0 = a := hs 0
 dsimp only [Tryz.f15, bodyOf, Option.getD]
 refine Ybc ?_
 refine WK_for (fun i st => st.sl 0 = a ∧ st.sl 3 = .ref 8224 1 [] 0 T.length ∧ st.ro 8224 1 = some (.bx (rws (fun k => if k < i then .ref 24672 (k + 1) [] 0 (mat T k).length else nilA) T.length)) ∧ st.sl 4 = i64 (i : Int) ∧ (st.gn 24672 = i) ∧ (∀ k, k < i → st.ro 24672 (k + 1) = some (rowLL (mat T k)))) T.length ?_ ?_ ?_
 ·refine Yas ?_
  exact ⟨congrArg some (congrArg AV.bx (rws_congr fun k hk => by rw [if_neg (by omega)])), rfl, lt0⟩
 ·rintro i sl ro gn hi ⟨s0, s3, r8224, s4, g, q⟩
  dsimp only at s0 s3 r8224 s4
  have hi' : (i : Int) < (T.length : Nat) := by omega
  dsimp only at g q
  have hrow := isLLLw_mat ha hi
  refine Ybr ?_
  refine CLL_pure _ (c60 hrow (hr i hi).1 (hr i hi).2) (by simp (disch := assumption) only [pureL, pureA, isLw_pure, isLLw_pure, pureL_map, Bool.and_self, Bool.and_true]) rfl rfl ?_
  simp (maxSteps := 10000000) (disch := first | assumption | omega) only [go_sem, ↓reduceIte, Nat.reduceEqDiff, reduceCtorEq, Nat.reduceAdd, Nat.reduceMul, Nat.reduceLeDiff, zc, Int.reduceToNat, s0, s3, r8224, s4, hi', hi, g]
  refine ⟨congrArg (fun x => some (AV.bx x)) ?_, i64c (by omega), fun k hk => ?_⟩
  ·rw [rws_set]
   refine rws_congr fun k hk => ?_
   by_cases hki : k = i
   ·subst hki; rw [if_pos rfl, if_pos (by omega)]
   ·rw [if_neg hki]
    have e : (k < i) ↔ (k < i + 1) := by omega
    simp only [e]
  ·by_cases hki : k = i
   ·subst hki; simp
   ·rw [if_neg hki]; exact q k (by omega)
 ·rintro sl ro gn ⟨s0, s3, r8224, s4, g, q⟩
  dsimp only at s0 s3 r8224 s4
  have hi' : ¬ ((T.length : Nat) : Int) < (T.length : Nat) := by omega
  dsimp only at g q
  refine Ybt ?_
  have e1 : rws (fun k => if k < T.length then (AV.ref 24672 (k + 1) [] 0 (mat T k).length) else nilA) T.length = (List.range T.length).map fun k => .ref 24672 (k + 1) [] 0 (mat T k).length := rws_congr fun k hk => if_pos hk
  obtain ⟨ws, hw⟩ := outL_refsL (mat T) 24672 (List.range T.length) (upr ro 8224 1 .dead) List.nodup_range (fun k hk => by
   rw [zdb, if_neg (by omega)]; exact q k (List.mem_range.1 hk))
  simp only [zr, zb, retR, resL, outT, outL, zes, zez, oneV, zcp, zed, zfi, Ro.dl, St.ev, zhk, ↓za, ↓reduceIte, Nat.reduceEqDiff, Nat.reduceAdd, Nat.reduceLeDiff, r8224, e1, hw, List.length_range]
theorem cEqT {a b : AV} {T : List (List (List Int))} (ha : isLLL a T) (hb : isLLL b T) (hx : T.length ≤ maxN) (hr : ∀ i, i < T.length → (mat T i).length ≤ maxN ∧ ∀ j, j < (mat T i).length → (row (mat T i) j).length ≤ maxN) : CallOK Tryz.prog 23 [a, b] (bo true) := by
 have hx' : T.length ≤ 4294967296 := hx
 refine call_of (fn := Tryz.f23) (code := bodyOf Tryz.f23) Tryz.func23 rfl (by kernel_rfl) (rfl) ?_
 intro sl hs
 have s0 : sl 0 = a := hs 0
 have s1 : sl 1 = b := hs 1
 dsimp only [Tryz.f23, bodyOf, Option.getD]
 refine Yab ?_
 refine WK_for (fun i st => st.sl 0 = a ∧ st.sl 1 = b ∧ st.sl 5 = i64 (i : Int)) T.length ?_ ?_ ?_
 ·refine Yao ?_
  (repeat' first | rfl | exact i64c rfl | exact i64c (by omega) | exact trivial | apply And.intro)
 ·rintro i sl ro gn hi ⟨s0, s1, s5⟩
  dsimp only at s0 s1 s5
  have hi' : (i : Int) < (T.length : Nat) := by omega
  have h1 := isLLL_mat ha hi
  have h2 := isLLL_mat hb hi
  have c := c42 h1 h2 (hr i hi).1 (row_max (hr i hi).2)
  rw [decide_eq_true rfl] at c
  refine Yae ?_
  refine CLLD_pure _ c PUt rfl ?_
  refine Yae ?_
  refine FIN_of (by kernel_rfl) ?_
  refine Yae ?_
  exact i64c (by omega)
 ·rintro sl ro gn ⟨s0, s1, s5⟩
  dsimp only at s0 s1 s5
  have hi' : ¬ ((T.length : Nat) : Int) < (T.length : Nat) := by omega
  refine Ybx ?_
  exact Yac
end Go.Proofs.YtcleikmfomddhaaGreat
