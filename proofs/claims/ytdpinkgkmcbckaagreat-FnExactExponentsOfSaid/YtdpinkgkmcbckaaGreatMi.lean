/- Texts joined: F6 G1 G2 G3 G6 H1 H2 H3 O1 I1. -/
import Derived.ChangeOld
import Derived.Below
import Derived.Carry
import Derived.Deep.Slices
import Derived.ChangeSlices
import Derived.Lib.SmallJoins
import Derived.Test.YtdpinkgkmcbckaaGreatMh
set_option linter.all false
/- The reference's and the program's data. -/
namespace Go.Proofs.YtdpinkgkmcbckaaGreat
open Go.RowKit
set_option maxRecDepth 1000000
def Sta2 (S : List (List Int)) (T : List Int) (i j : Nat) : Prop := atI (row S i) j = atI (row S j) i ∧ atI (row S 0) i ≠ 0 ∧ atI T i ≠ 0 ∧ atI (row S 0) 0 = 1 ∧ atI T 0 = 1
open Classical in
noncomputable def DF (S : List (List Int)) (T : List Int) : Int :=
 if ¬ StaP S T then 0 else if whl S T.length = 0 then 1 else if ¬ CjP S T then 2 else if ¬ TurP S T then 3 else if ¬ RingP (cubeL (nmE S T.length (cjL S T)) T.length) then 4 else -1
def DataP (S : List (List Int)) (T : List Int) : Prop := ShpP S T ∧ DF S T = -1
end Go.Proofs.YtdpinkgkmcbckaaGreat
/- Sizes and copies of the statements' data; charges. -/
namespace Go.Proofs.YtdpinkgkmcbckaaGreat
open Go.RowKit
set_option maxRecDepth 1000000
def isLw (a : AV) (xs : List Int) : Prop := a = .imm (xs.map i64) ∨ (xs = [] ∧ ∃ o c, a = .sc (.slice o 0 c))
def isLws : List AV → List (List Int) → Prop
 | [], [] => True
 | a :: bs, x :: xs => isLw a x ∧ isLws bs xs
 | _, _ => False
def isLLw (a : AV) (xss : List (List Int)) : Prop := (∃ cs, a = .imm cs ∧ isLws cs xss) ∨ (xss = [] ∧ ∃ o c, a = .sc (.slice o 0 c))
theorem isLws_len : ∀ {cs : List AV} {T : List (List Int)}, isLws cs T → cs.length = T.length
 | [], [], _ => rfl
 | a :: bs, x :: xs, h => by simp only [List.length_cons]; rw [isLws_len h.2]
 | [], _ :: _, h => h.elim
 | _ :: _, [], h => h.elim
theorem isLws_get : ∀ {cs : List AV} {T : List (List Int)} {k : Nat}, isLws cs T → k < T.length → ∃ c, cs[k]? = some c ∧ isLw c (T.getD k [])
 | a :: bs, x :: xs, 0, h, _ => ⟨a, rfl, h.1⟩
 | a :: bs, x :: xs, k + 1, h, hk => by
  obtain ⟨c, h1, h2⟩ := isLws_get (k := k) h.2 (by simpa using hk)
  exact ⟨c, by simpa using h1, by simpa using h2⟩
 | [], [], k, _, hk => by simp at hk
 | [], _ :: _, _, h, _ => h.elim
 | _ :: _, [], _, h, _ => h.elim
theorem isLw_pure {a : AV} {xs : List Int} (h : isLw a xs) : pureA a = true := by
 rcases h with rfl | ⟨_, o, c, rfl⟩
 ·simp [pureA, pureL_map]
 ·rfl
theorem isLws_pure : ∀ {cs : List AV} {T : List (List Int)}, isLws cs T → pureL cs = true
 | [], [], _ => rfl
 | a :: bs, x :: xs, h => by simp [pureL, isLw_pure h.1, isLws_pure h.2]
 | [], _ :: _, h => h.elim
 | _ :: _, [], h => h.elim
theorem isLLw_pure {a : AV} {xs : List (List Int)} (h : isLLw a xs) : pureA a = true := by
 rcases h with ⟨cs, rfl, h⟩ | ⟨_, o, c, rfl⟩
 ·simp [pureA, isLws_pure h]
 ·rfl
theorem isLw_len {a : AV} {xs : List Int} (h : isLw a xs) {ro : Ro} {a1 : Nat} {a2 : Bool} {a3 : List Value} {e : Nat} {a5 : List (Nat × Nat)} {a6 : Option IntKind} {a7 a8 : Bool} : kLen1 (some ⟨a1, a2, a3, some e, a5, a6, a7, a8⟩) ro a = some ⟨i64 xs.length, none, [], []⟩ := by
 rcases h with rfl | ⟨rfl, o, c, rfl⟩
 ·simp [kLen1]
 ·rfl
theorem isLLw_len {a : AV} {xs : List (List Int)} (h : isLLw a xs) {ro : Ro} {a1 : Nat} {a2 : Bool} {a3 : List Value} {e : Nat} {a5 : List (Nat × Nat)} {a6 : Option IntKind} {a7 a8 : Bool} : kLen1 (some ⟨a1, a2, a3, some e, a5, a6, a7, a8⟩) ro a = some ⟨i64 xs.length, none, [], []⟩ := by
 rcases h with ⟨cs, rfl, h⟩ | ⟨rfl, o, c, rfl⟩
 ·simp [kLen1, isLws_len h]
 ·rfl
theorem isLw_idx {a : AV} {xs : List Int} (h : isLw a xs) {k : Nat} (hk : k < xs.length) {ro : Ro} {a1 : Nat} {a2 : Bool} {a3 : List Value} {e : Nat} {a5 : List (Nat × Nat)} {a6 : Option IntKind} {a7 a8 : Bool} : kIdx (some ⟨a1, a2, a3, some e, a5, a6, a7, a8⟩) ro a (i64 (k : Int)) = some ⟨.iptr [i64 (atI xs k)], none, [], []⟩ := by
 rcases h with rfl | ⟨rfl, o, c, rfl⟩
 ·exact isL_idx (isL_imm xs) hk
 ·simp at hk
theorem isLLw_idx {a : AV} {xs : List (List Int)} (h : isLLw a xs) {k : Nat} (hk : k < xs.length) {ro : Ro} {a1 : Nat} {a2 : Bool} {a3 : List Value} {e : Nat} {a5 : List (Nat × Nat)} {a6 : Option IntKind} {a7 a8 : Bool} : kIdx (some ⟨a1, a2, a3, some e, a5, a6, a7, a8⟩) ro a (i64 (k : Int)) = some ⟨.iptr [atA a k], none, [], []⟩ := by
 rcases h with ⟨cs, rfl, h⟩ | ⟨rfl, o, c, rfl⟩
 ·obtain ⟨c, h1, h2⟩ := isLws_get h hk
  simp [kIdx, h1, atA]
 ·simp at hk
theorem isLLw_row {a : AV} {xs : List (List Int)} (h : isLLw a xs) {k : Nat} (hk : k < xs.length) : isLw (atA a k) (row xs k) := by
 rcases h with ⟨cs, rfl, h⟩ | ⟨rfl, o, c, rfl⟩
 ·obtain ⟨c, h1, h2⟩ := isLws_get h hk
  have e : atA (.imm cs) k = c := by simp [atA, h1]
  rw [e]; exact h2
 ·simp at hk
attribute [go_sem] isLw_len isLLw_len isLw_idx isLLw_idx isLw_pure isLLw_pure
def szV (z : Int) : Int := if z < 0 then -1 else z
theorem c56 {a : AV} {xs : List Int} {left : Int} (ha : isLw a xs) (hx : xs.length < 2^63) (h1 : 0 ≤ left) (h2 : left < 2^63) : CallOK Tryz.prog 61 [a, i64 left] (i64 (szV (left - xs.length))) := by
 refine call_of (fn := Tryz.f61) (code := bodyOf Tryz.f61) Tryz.func61 rfl (by kernel_rfl) (rfl) ?_
 intro sl hs
 have s0 : sl 0 = a := hs 0
 have s1 : sl 1 = i64 left := hs 1
 by_cases h : left - (xs.length : Int) < 0
 ·dsimp only [Tryz.f61, bodyOf, Option.getD]
  refine Yaa ?_
  refine Yab ?_
  unfold szV; rw [if_pos h]
 ·dsimp only [Tryz.f61, bodyOf, Option.getD]
  refine Yaa ?_
  refine Yab ?_
  unfold szV; rw [if_neg h]
def szA (S : List (List Int)) (l : Int) : Nat → Int
 | 0 => l
 | i + 1 => szA S l i - (row S i).length
theorem szA_le (S : List (List Int)) (l : Int) : ∀ {i j : Nat}, i ≤ j → szA S l j ≤ szA S l i
 | i, 0, h => by
  have : i = 0 := by omega
  subst this; exact Int.le_refl _
 | i, j + 1, h => by
  rcases Nat.lt_or_ge i (j + 1) with h2 | h2
  ·have := szA_le S l (i := i) (j := j) (by omega)
   simp only [szA]; omega
  ·have : i = j + 1 := by omega
   subst this; exact Int.le_refl _
theorem c55 {a : AV} {S : List (List Int)} {left : Int} (ha : isLLw a S) (hx : S.length < 2^63) (hr : ∀ i, i < S.length → (row S i).length < 2^63) (h1 : 0 ≤ left) (h2 : left ≤ 1048576) : CallOK Tryz.prog 32 [a, i64 left] (i64 (szV (szA S (left - S.length) S.length))) := by
 refine call_of (fn := Tryz.f32) (code := bodyOf Tryz.f32) Tryz.func32 rfl (by kernel_rfl) (rfl) ?_
 intro sl hs
 have s0 : sl 0 = a := hs 0
 have s1 : sl 1 = i64 left := hs 1
 have hle := szA_le S (left - S.length) (Nat.zero_le S.length)
 simp only [szA] at hle
 by_cases h : left - (S.length : Int) < 0
 ·dsimp only [Tryz.f32, bodyOf, Option.getD]
  refine Yaa ?_
  refine Yab ?_
  unfold szV; rw [if_pos (by omega)]
 ·dsimp only [Tryz.f32, bodyOf, Option.getD]
  refine Yaa ?_
  refine WK_for (fun i st => st.sl 0 = a ∧ st.sl 1 = i64 (szA S (left - S.length) i) ∧ st.sl 5 = i64 (i : Int) ∧ (0 ≤ szA S (left - S.length) i)) S.length ?_ ?_ ?_
  ·refine Yak ?_
   exact ⟨rfl, rfl, by simp only [szA]; omega⟩
  ·rintro i sl ro gn hi ⟨s0, s1, s5, q⟩
   dsimp only at s0 s1 s5
   have hi' : (i : Int) < (S.length : Nat) := by omega
   have hrow := isLLw_row ha hi
   have hri := hr i hi
   have hle2 := szA_le S (left - S.length) (Nat.zero_le i)
   have hle3 := szA_le S (left - S.length) (show i + 1 ≤ S.length by omega)
   simp only [szA] at hle2 hle3
   refine Yai ?_
   refine CLL_pure _ (c56 hrow hri q (by omega)) (by simp (disch := assumption) only [pureL, pureA, isLw_pure, isLLw_pure, pureL_map, Bool.and_self, Bool.and_true]) rfl rfl ?_
   by_cases hn : szA S (left - S.length) i - ((row S i).length : Int) < 0
   ·have e : szV (szA S (left - S.length) i - ((row S i).length : Int)) = -1 := if_pos hn
    rw [e]
    refine Yai ?_
    refine Yab ?_
    unfold szV; rw [if_pos (by omega)]
   ·have e : szV (szA S (left - S.length) i - ((row S i).length : Int)) = szA S (left - S.length) (i + 1) := if_neg hn
    rw [e]
    have hn' : ¬ szA S (left - S.length) (i + 1) < 0 := hn
    refine Yai ?_
    exact ⟨i64c (by omega), by omega⟩
  ·rintro sl ro gn ⟨s0, s1, s5, q⟩
   dsimp only at s0 s1 s5
   have hi' : ¬ ((S.length : Nat) : Int) < (S.length : Nat) := by omega
   refine Ybw ?_
   refine Yab ?_
   unfold szV; rw [if_neg (by omega)]
def szD (S : List (List Int)) (T : List Int) (left : Int) : Int := if szA S (left - S.length) S.length < 0 then -1 else szV (szA S (left - S.length) S.length - T.length)
theorem c61 {a : AV} {xs : List Int} (ha : isLw a xs) (hx : xs.length ≤ maxN) : CallOK Tryz.prog 79 [a] (rowL xs) := by
 have hx' : xs.length ≤ 4294967296 := hx
 have hm' : (xs.length : Int) ≤ ((4294967296 : Nat) : Int) := by omega
 have e0 : rowL xs = .row (rws (fun k => i64 (if k < xs.length then atI xs k else 0)) xs.length) := by
  have : xs = rws (fun k => if k < xs.length then atI xs k else 0) xs.length := eq_of_atI (zfe _ _).symm fun j hj => by rw [atI_rws _ hj, if_pos hj]
  conv => lhs; rw [this]
  simp only [rowL, rws_map]
 rw [e0]
 refine call_of (fn := Tryz.f79) (code := bodyOf Tryz.f79) Tryz.func79 rfl (by kernel_rfl) (e0 ▸ noRef_rowL _) ?_
 intro sl hs
 have s0 : sl 0 = a := hs 0
 dsimp only [Tryz.f79, bodyOf, Option.getD]
 refine Ybk ?_
 refine WK_for (fun i st => st.sl 0 = a ∧ st.sl 3 = .ref 8224 1 [] 0 xs.length ∧ st.ro 8224 1 = some (.row (rws (fun k => i64 (if k < i then atI xs k else 0)) xs.length)) ∧ st.sl 4 = i64 (i : Int)) xs.length ?_ ?_ ?_
 ·refine Yaj ?_
  exact ⟨congrArg some (congrArg AV.row (rws_congr fun k hk => by rw [if_neg (by omega)])), rfl⟩
 ·rintro i sl ro gn hi ⟨s0, s3, r8224, s4⟩
  dsimp only at s0 s3 r8224 s4
  have hi' : (i : Int) < (xs.length : Nat) := by omega
  refine Ybr ?_
  refine ⟨congrArg (fun x => some (AV.row x)) ?_, i64c (by omega)⟩
  rw [rws_set]
  refine rws_congr fun k hk => ?_
  by_cases hki : k = i
  ·subst hki; rw [if_pos rfl, if_pos (by omega)]
  ·rw [if_neg hki]
   have e : (k < i) ↔ (k < i + 1) := by omega
   simp only [e]
 ·rintro sl ro gn ⟨s0, s3, r8224, s4⟩
  dsimp only at s0 s3 r8224 s4
  have hi' : ¬ ((xs.length : Nat) : Int) < (xs.length : Nat) := by omega
  refine Ybt ?_
  simp only [zr, zb, retR, resL, outT, outL, zes, zez, oneV, zcp, zed, zfi, Ro.dl, St.ev, zhk, ↓za, ↓reduceIte, Nat.reduceEqDiff, Nat.reduceAdd, Nat.reduceLeDiff, r8224]
theorem outL_refs (f : Nat → List Int) (s : Nat) : ∀ (l : List Nat) (ro : Ro), l.Nodup → (∀ k, k ∈ l → ro s (k + 1) = some (rowL (f k))) → ∃ ws, outL ro (l.map fun k => .ref s (k + 1) [] 0 (f k).length) = some (l.map fun k => rowL (f k), ws)
 | [], ro, _, _ => ⟨[], rfl⟩
 | k :: l, ro, hn, h => by
  have hk := h k (by simp)
  have hn' := List.nodup_cons.1 hn
  obtain ⟨ws, hw⟩ := outL_refs f s l (ro.dl [(s, k + 1)]) hn'.2 (fun j hj => by
   have : j ≠ k := fun e => hn'.1 (e ▸ hj)
   show upr ro s (k + 1) .dead s (j + 1) = _
   rw [zdb, if_neg (by omega)]
   exact h j (by simp [hj]))
  refine ⟨(s, k + 1) :: ws, ?_⟩
  simp only [List.map_cons, outL, zes, hk, List.length_map, if_true, hw, List.cons_append, List.nil_append]
theorem c60 {a : AV} {S : List (List Int)} (ha : isLLw a S) (hx : S.length ≤ maxN) (hr : ∀ i, i < S.length → (row S i).length ≤ maxN) : CallOK Tryz.prog 43 [a] (rowLL S) := by
 have hx' : S.length ≤ 4294967296 := hx
 have hm' : (S.length : Int) ≤ ((4294967296 : Nat) : Int) := by omega
 have e0 : rowLL S = .row ((List.range S.length).map fun k => rowL (row S k)) := by
  have : S = (List.range S.length).map (row S) := isLs_inj (by simp) fun j hj => by simp [row, hj]
  conv => lhs; rw [this]
  simp only [rowLL, List.map_map]; rfl
 rw [e0]
 refine call_of (fn := Tryz.f43) (code := bodyOf Tryz.f43) Tryz.func43 rfl (by kernel_rfl) (e0 ▸ noRef_rowLL _) ?_
 intro sl hs
 have s0 : sl 0 = a := hs 0
 dsimp only [Tryz.f43, bodyOf, Option.getD]
 refine Ybk ?_
 refine WK_for (fun i st => st.sl 0 = a ∧ st.sl 3 = .ref 8224 1 [] 0 S.length ∧ st.ro 8224 1 = some (.bx (rws (fun k => if k < i then .ref 24672 (k + 1) [] 0 (row S k).length else nilA) S.length)) ∧ st.sl 4 = i64 (i : Int) ∧ (st.gn 24672 = i) ∧ (∀ k, k < i → st.ro 24672 (k + 1) = some (rowL (row S k)))) S.length ?_ ?_ ?_
 ·refine Yaj ?_
  exact ⟨congrArg some (congrArg AV.bx (rws_congr fun k hk => by rw [if_neg (by omega)])), rfl, lt0⟩
 ·rintro i sl ro gn hi ⟨s0, s3, r8224, s4, g, q⟩
  dsimp only at s0 s3 r8224 s4
  have hi' : (i : Int) < (S.length : Nat) := by omega
  dsimp only at g q
  have hrow := isLLw_row ha hi
  refine Ybr ?_
  refine CLL_pure _ (c61 hrow (hr i hi)) (by simp (disch := assumption) only [pureL, pureA, isLw_pure, isLLw_pure, pureL_map, Bool.and_self, Bool.and_true]) rfl rfl ?_
  simp (maxSteps := 10000000) (disch := first | assumption | omega) only [go_sem, ↓reduceIte, Nat.reduceEqDiff, reduceCtorEq, Nat.reduceAdd, Nat.reduceMul, Nat.reduceLeDiff, zc, Int.reduceToNat, s0, s3, r8224, s4, hi', hi, g]
  refine ⟨congrArg (fun x => some (AV.bx x)) ?_, i64c (by omega), fun k hk => ?_⟩
  ·rw [rws_set]
   refine rws_congr fun k hk => ?_
   by_cases hki : k = i
   ·subst hki; rw [if_pos rfl, if_pos (by omega)]
   ·rw [if_neg hki]
    have e : (k < i) ↔ (k < i + 1) := by omega
    simp only [e]
  ·by_cases hki : k = i
   ·subst hki; simp
   ·rw [if_neg hki]; exact q k (by omega)
 ·rintro sl ro gn ⟨s0, s3, r8224, s4, g, q⟩
  dsimp only at s0 s3 r8224 s4
  have hi' : ¬ ((S.length : Nat) : Int) < (S.length : Nat) := by omega
  dsimp only at g q
  refine Ybt ?_
  have e1 : rws (fun k => if k < S.length then (AV.ref 24672 (k + 1) [] 0 (row S k).length) else nilA) S.length = (List.range S.length).map fun k => .ref 24672 (k + 1) [] 0 (row S k).length := rws_congr fun k hk => if_pos hk
  obtain ⟨ws, hw⟩ := outL_refs (row S) 24672 (List.range S.length) (upr ro 8224 1 .dead) List.nodup_range (fun k hk => by
   rw [zdb, if_neg (by omega)]; exact q k (List.mem_range.1 hk))
  simp only [zr, zb, retR, resL, outT, outL, zes, zez, oneV, zcp, zed, zfi, Ro.dl, St.ev, zhk, ↓za, ↓reduceIte, Nat.reduceEqDiff, Nat.reduceAdd, Nat.reduceLeDiff, r8224, e1, hw, List.length_range]
end Go.Proofs.YtdpinkgkmcbckaaGreat
/- Charges; balances. -/
namespace Go.Proofs.YtdpinkgkmcbckaaGreat
open Go.RowKit
set_option maxRecDepth 1000000
noncomputable def chg (S : List (List Int)) (T : List Int) (i : Int) : Int := by
 classical exact if DataP S T then (if 0 ≤ i ∧ i ≤ (T.length : Int) - 1 then 0 else 2) else 1
section
variable {a b : AV} {S : List (List Int)} {T : List Int}
end
structure Dat (S : List (List Int)) (T : List Int) : Prop where
 shp : Shp S T
 m16 : T.length ≤ 16
 sta : StaP S T
 whl : ¬ whl S T.length = 0
 cj : CjP S T
 tur : TurP S T
 ring : RingP (cubeL (nmE S T.length (cjL S T)) T.length)
def in2 (i j : Nat) : Option AV → Option (List AV)
 | some (.row cs) => match cs[i]? with
  | some (.row ds) => rowO ds[j]?
  | _ => none
 | _ => none
attribute [go_sem] impE_agg1 kFieldV
def baT (S : List (List Int)) (T : List Int) (c j k : Nat) : Int := nmE S T.length (cjL S T) c j k * (atI T k * atI (row S 0) k % 55441)
def baS (S : List (List Int)) (T : List Int) (c j : Nat) : Nat → Int
 | 0 => 0
 | k + 1 => (baS S T c j k + baT S T c j k) % 55441
def bbT (S : List (List Int)) (T : List Int) (c j k : Nat) : Int := nmE S T.length (cjL S T) c j k * atI T k % 55441 * atI (row S 0) k % 55441
theorem MM.add {a b c d : Int} (h1 : MM a b) (h2 : MM c d) : MM (a + c) (b + d) := by
 unfold MM at *; rw [Int.add_emod, h1, h2, ← Int.add_emod]
def balV (S : List (List Int)) (T : List Int) (c i j : Nat) : Int := baS S T c j T.length * pw (atI T i) 55439 % 55441 * pw (atI T j) 55439 % 55441
section
variable {a b : AV} {S : List (List Int)} {T : List Int}
end
end Go.Proofs.YtdpinkgkmcbckaaGreat
/- The law of BalanceOf answers true. -/
namespace Go.Proofs.YtdpinkgkmcbckaaGreat
open Go.RowKit
set_option maxRecDepth 1000000
theorem row_max {S : List (List Int)} (hR : ∀ i, i < S.length → (row S i).length ≤ maxN) (j : Nat) : (S.getD j []).length ≤ maxN := by
 rcases Nat.lt_or_ge j S.length with h | h
 ·exact hR j h
 ·have : S.getD j [] = [] := by simp [List.getD_eq_getElem?_getD, List.getElem?_eq_none h]
  rw [this]; exact Nat.zero_le _
end Go.Proofs.YtdpinkgkmcbckaaGreat
/- The second indicator; the law of SecondIndicator answers true. -/
namespace Go.Proofs.YtdpinkgkmcbckaaGreat
open Go.RowKit
set_option maxRecDepth 1000000
section
variable (S : List (List Int)) (T : List Int)
def sqT (j : Nat) : Int := atI T j * atI T j % 55441
def upT (j : Nat) : Int := atI (row S 0) j * sqT T j % 55441
def dnT (j : Nat) : Int := atI (row S 0) j * pw (sqT T j) 55439 % 55441
def nmC (i j k : Nat) : Int := nmE S T.length (cjL S T) i j k
def siI (i : Nat) (s : Int) (j : Nat) : Nat → Int
 | 0 => s
 | k + 1 => (siI i s j k + nmC S T j k i * (upT S T j * dnT S T k % 55441)) % 55441
def siO (i : Nat) : Nat → Int
 | 0 => 0
 | j + 1 => siI S T i (siO i j) j T.length
def wtT (j k : Nat) : Int := atI (row S 0) j * atI (row S 0) k % 55441 * qt (pwz (atI T j) 2) (pwz (atI T k) 2) % 55441
def tmT (i j k : Nat) : Int := nmC S T j k i * wtT S T j k % 55441
def rwT (i j : Nat) : Int := sm (tmT S T i j) T.length
end
def sinV (S : List (List Int)) (T : List Int) (i : Nat) : Int := siO S T i T.length * pw (whl S T.length) 55439 % 55441
section
variable {a b : AV} {S : List (List Int)} {T : List Int}
end
end Go.Proofs.YtdpinkgkmcbckaaGreat
/- The field: inverses. -/
namespace Go.Proofs.YtdpinkgkmcbckaaGreat
open Go.RowKit
set_option maxRecDepth 1000000
def frm (E x : Nat) : Bool := x ^ E % 55441 == 1
def frmAll (E : Nat) : Nat → Bool
 | 0 => true
 | n + 1 => frm E (n + 1) && (55441 % (n + 2) != 0) && frmAll E n
theorem frmAll_get {E : Nat} : ∀ {n x : Nat}, frmAll E n = true → 0 < x → x ≤ n → x ^ E % 55441 = 1 ∧ 55441 % (x + 1) ≠ 0
 | 0, x, _, h1, h2 => by omega
 | n + 1, x, h, h1, h2 => by
  simp only [frmAll, Bool.and_eq_true, frm, beq_iff_eq, bne_iff_ne] at h
  obtain ⟨⟨h3, h4⟩, h5⟩ := h
  rcases Nat.lt_or_ge x (n + 1) with hx | hx
  ·exact frmAll_get h5 h1 (by omega)
  ·have : x = n + 1 := by omega
   subst this
   exact ⟨h3, h4⟩
theorem pow_modN (a n : Nat) : (a % 55441) ^ n % 55441 = a ^ n % 55441 := by
 rw [← Nat.pow_mod]
theorem fermatE {E F : Nat} (hE : E = 2 * F) (hs : frmAll E 236 = true) : ∀ x : Nat, 0 < x → x < 55441 → x ^ E % 55441 = 1 := by
 intro x
 induction x using Nat.strongRecOn with
 | _ x ih =>
  intro h0 hP
  rcases Nat.lt_or_ge x 237 with hx | hx
  ·exact (frmAll_get hs h0 (by omega)).1
  ·have hdm := Nat.div_add_mod 55441 x
   have hr := Nat.mod_lt 55441 h0
   generalize 55441 / x = q at *
   generalize 55441 % x = r at *
   have hq1 : 0 < q := by
    rcases Nat.eq_zero_or_pos q with h | h
    ·subst h; omega
    ·exact h
   have hq2 : q < 236 := by
    rcases Nat.lt_or_ge q 236 with h | h
    ·exact h
    ·have : 237 * 236 ≤ x * q := Nat.mul_le_mul hx h
     omega
   have hr0 : 0 < r := by
    rcases Nat.eq_zero_or_pos r with h | h
    ·subst h
     have hxq : x * q = 55441 := by omega
     have hd : 55441 % q = 0 := by rw [← hxq]; exact Nat.mul_mod_left x q
     have hq3 : q ≠ 1 := by rintro rfl; omega
     have := (frmAll_get hs (x := q - 1) (by omega) (by omega)).2
     rw [Nat.sub_add_cancel (by omega)] at this
     exact absurd hd this
    ·exact h
   have iq := ih q (by omega) hq1 (by omega)
   have ir := ih r (by omega) hr0 (by omega)
   have e1 : (x * q) ^ E % 55441 = r ^ E % 55441 := by
    have e2 : x * q * (x * q) % 55441 = r * r % 55441 := by
     have hxr : x * q + r = 55441 := by omega
     have : x * q * (x * q) + 55441 * r = r * r + 55441 * (x * q) := by
      generalize x * q = y at hxr
      have : r + y = 55441 := by omega
      rw [← this, Nat.add_mul, Nat.add_mul, Nat.mul_comm y r]; omega
     omega
    have hp : ∀ a : Nat, a ^ E = (a * a) ^ F := by
     intro a
     rw [hE, Nat.pow_mul, Nat.pow_two]
    rw [hp (x * q), hp r, ← pow_modN (x * q * (x * q)), e2, pow_modN]
   rw [Nat.mul_pow, Nat.mul_mod, iq, Nat.mul_one, Nat.mod_mod, ir] at e1
   exact e1
theorem frm_small : frmAll (55439 + 1) 236 = true := by kernel_rfl
theorem pw_nat (n k : Nat) : pw n k = ((n ^ k % 55441 : Nat) : Int) := by
 unfold pw
 rw [Int.toNat_natCast, Int.natCast_emod, Int.natCast_pow]; rfl
theorem inv_mulE {n k : Nat} (h : n ^ (k + 1) % 55441 = 1) : MM (pw n k * n) 1 := by
 unfold MM
 rw [pw_nat]
 have : ((n ^ k % 55441 : Nat) : Int) * n % 55441 = ((n ^ k % 55441 * n % 55441 : Nat) : Int) := by
  norm_cast
 rw [this, Nat.mod_mul_mod, ← Nat.pow_succ, h]; rfl
theorem exp_ex : ∃ k : Nat, (k : Int) = 55439 ∧ ∃ F, k + 1 = 2 * F ∧ frmAll (k + 1) 236 = true := ⟨55439, rfl, 27720, rfl, frm_small⟩
theorem inv_mul {a : Int} (h : num a) (h0 : a ≠ 0) : MM (pw a 55439 * a) 1 := by
 obtain ⟨k, hk, F, hF, hs⟩ := exp_ex
 obtain ⟨n, rfl⟩ := Int.eq_ofNat_of_zero_le h.1
 rw [← hk]
 exact inv_mulE (fermatE hF hs n (by omega) (by have := h.2; omega))
end Go.Proofs.YtdpinkgkmcbckaaGreat
/- Data: squares of S, the numbers N with 0, Verlinde's law. -/
namespace Go.Proofs.YtdpinkgkmcbckaaGreat
open Go.RowKit
set_option maxRecDepth 1000000
theorem sm_zero {f : Nat → Int} : ∀ {n : Nat}, (∀ k, k < n → f k = 0) → sm f n = 0
 | 0, _ => rfl
 | n + 1, h => by simp only [sm]; rw [sm_zero fun k hk => h k (by omega), h n (by omega)]; rfl
theorem sm_addf (f g : Nat → Int) : ∀ n : Nat, sm (fun k => f k + g k) n = sm f n + sm g n
 | 0 => rfl
 | n + 1 => by simp only [sm]; rw [sm_addf f g n]; omega
theorem sm_comm (f : Nat → Nat → Int) (n : Nat) : ∀ m : Nat, sm (fun k => sm (f k) n) m = sm (fun l => sm (fun k => f k l) m) n
 | 0 => by
  simp only [sm]
  exact (sm_zero fun _ _ => rfl).symm
 | m + 1 => by
  simp only [sm]
  rw [sm_comm f n m, ← sm_addf]
theorem MM.of_eq {a b : Int} (h : a = b) : MM a b := by rw [h]; exact MM.rfl
section
variable {S : List (List Int)} {T : List Int}
abbrev ss (S : List (List Int)) (i j : Nat) : Int := atI (row S i) j
def sg (S : List (List Int)) (T : List Int) (i : Nat) : Nat := (cjA S T i).toNat
theorem sm_pick {f : Nat → Int} {j n : Nat} {v : Int} (hj : j < n) (h : ∀ k, k < n → f k = if k = j then v else 0) : sm f n = v := by
 rw [sm_one (j := j) fun k hk hne => by rw [h k hk, if_neg hne], if_pos hj, h j hj, if_pos rfl]
end
end Go.Proofs.YtdpinkgkmcbckaaGreat
/- Rings of data; invertible charges. -/
namespace Go.Proofs.YtdpinkgkmcbckaaGreat
open Go.RowKit
set_option maxRecDepth 1000000
section
variable {S : List (List Int)} {T : List Int}
def uniR (f : Nat → Int) (n m : Nat) : Prop := m < n ∧ f m = 1 ∧ ∀ k, k < n → k ≠ m → f k = 0
def Inv (S : List (List Int)) (T : List Int) (i : Nat) : Prop := uniR (nmC S T i (sg S T i)) T.length 0
open Classical in
noncomputable def mv (S : List (List Int)) (T : List Int) (i a : Nat) : Nat := if h : ∃ m, uniR (nmC S T a i) T.length m then Classical.choose h else 0
noncomputable def orb (S : List (List Int)) (T : List Int) (i : Nat) : Nat → Nat
 | 0 => i
 | k + 1 => mv S T i (orb S T i k)
end
end Go.Proofs.YtdpinkgkmcbckaaGreat
/- What a statement hands in, read by the machine. -/
namespace Go.Proofs.YtdpinkgkmcbckaaGreat
open Go.RowKit Go.ChangeShapes Go.WideShapes Go.Deep Go.Joins
theorem walk_below {P : Program} {f : Nat} {args : List AV} {b : Bool} (h : CallOK P f args (bo b)) {w : World} {vs : List Value} (hv : RelL (cx0 w (fun _ => False)) args vs []) (hg : Gd w) :
  Calls P f vs.toArray w fun e w' => e = .returned (.bool b) ∧ Below w.heap.size w w' := by
 refine (h.2.2 w (fun _ => False) vs hv (fun _ h => h.elim) hg).mono ?_
 rintro e w' ⟨v, A', F', rfl, h1, _, _, h4⟩
 obtain ⟨h2, _⟩ := Rel.sc_inv h1
 exact ⟨by rw [h2], ⟨h4.os, h4.tape, h4.output, h4.size, fun k hk => h4.block k hk (by simp)⟩⟩
theorem RelL.mapO {c : Cx} {f : Nat → AV} {g : Nat → Value} : ∀ {l : List Nat}, (∀ i, i ∈ l → Rel c (f i) (g i) []) → RelL c (l.map f) (l.map g) []
 | [], _ => .nil
 | i :: l, h => RelL.cons (h i (by simp)) (RelL.mapO fun j hj => h j (by simp [hj])) (by simp)
theorem isLws_map {f : Nat → AV} {g : Nat → List Int} : ∀ {l : List Nat}, (∀ i, i ∈ l → isLw (f i) (g i)) → isLws (l.map f) (l.map g)
 | [], _ => trivial
 | i :: l, h => ⟨h i (by simp), isLws_map fun j hj => h j (by simp [hj])⟩
theorem cell_spot {w : World} {a : Addr} {v : Value} (h : w.cell? a = some v) : a.spot = none ∧ a.block < w.heap.size := by
 unfold World.cell? at h
 split at h
 ·rename_i c E fr hb
  split at h
  ·cases h
  ·rename_i hs
   refine ⟨by cases hsp : a.spot <;> simp_all, ?_⟩
   exact (Array.getElem?_eq_some_iff.1 hb).1
 ·cases h
theorem add_plain {a : Addr} (h : a.spot = none) (i : Nat) : a.add i = ⟨a.block, a.off + i, none⟩ := by
 unfold Addr.add
 split
 ·rename_i hi; subst hi; cases a; simp_all
 ·rfl
theorem wf64 {a : Int} (h : (Lit.int .i64 a).wf = true) : -2^63 ≤ a ∧ a < 2^63 := by
 simp only [Lit.wf, Bool.and_eq_true, decide_eq_true_eq] at h
 have h1 : -2^63 ≤ a := h.1
 have h2 : a ≤ 2^63 - 1 := h.2
 omega
section
variable {H : Type} {enc : TypeId × Value → H} {P : Program} {w : World} {held : Bool}
theorem open_w1 {t e : TypeId} {fuel : Nat} {v : Value} {x : DataW H × List MemPlace} (ht : P.underlying t = some (.slice e)) (he : P.underlying e = some (.int .i64)) (hc : P.cellsOf e = 1) (h : DataW.trod enc P w 0 (fun _ => true) held fuel t [v] = some x) :
  ∃ a xs, Rel (cx0 w (fun _ => False)) a v [] ∧ isLw a xs ∧ xs.length < 2^63 ∧ ∀ j, -2^63 ≤ atI xs j ∧ atI xs j < 2^63 := by
 rcases open_ints ht he hc h with ⟨hcs, _⟩ | ⟨ad, len, cap, zs, hcs, _, hl, hm, hz, _, hcell, hwf⟩
 ·simp only [List.cons.injEq, and_true] at hcs
  subst hcs
  exact ⟨.sc (.slice none 0 0), [], .sc _ .nil, .inr ⟨rfl, _, _, rfl⟩, by simp, fun j => by simp [atI]⟩
 ·simp only [List.cons.injEq, and_true] at hcs
  subst hcs
  simp only [if_true] at hz
  have hmx : cap < 2^63 := Nat.lt_of_le_of_lt hm (by decide)
  rcases Nat.eq_zero_or_pos len with h0 | hpos
  ·subst h0
   exact ⟨.sc (.slice (some ad) 0 cap), [], .sc _ .nil, .inr ⟨rfl, _, _, rfl⟩, by simp, fun j => by simp [atI]⟩
  ·have hc0 := hcell 0 (by omega)
   obtain ⟨hs, hb⟩ := cell_spot hc0
   have hs' : ad.spot = none := by simpa [Addr.add] using hs
   have hb' : ad.block < w.heap.size := by simpa [Addr.add] using hb
   have hlen : (zs.take len).length = len := by rw [List.length_take]; omega
   have hlen2 : ((zs.take len).map (Value.int .i64)).length = len := by rw [List.length_map, hlen]
   refine ⟨.imm ((zs.take len).map i64), zs.take len, ?_, .inl rfl, by omega, fun j => ?_⟩
   ·have hr : RelL (cx0 w (fun _ => False)) ((zs.take len).map i64) ((zs.take len).map (Value.int .i64)) [] := by
     have := relL_sc (cx0 w (fun _ => False)) ((zs.take len).map (Value.int .i64))
     rwa [List.map_map] at this
    have := RelL.imm (c := cx0 w (fun _ => False)) ad.block ad.off cap hr ⟨fun h => h, hb', fun i u hu => ?_⟩ (by rw [hlen2]; exact hl) RelL.nil
    ·rw [hlen2] at this
     have e : (⟨ad.block, ad.off, none⟩ : Addr) = ad := by cases ad; simp_all
     rwa [e] at this
    ·show w.cell? ⟨ad.block, ad.off + i, none⟩ = some u
     rw [← add_plain hs' i]
     have hi : i < len := by
      have := (List.getElem?_eq_some_iff.1 hu).1
      rwa [hlen2] at this
     rw [hcell i (by omega)]
     rw [List.getElem?_map, List.getElem?_take, if_pos hi] at hu
     cases hzi : zs[i]? with
     | none => rw [hzi] at hu; cases hu
     | some z =>
      rw [hzi] at hu
      simp only [Option.map_some, Option.some.injEq] at hu
      rw [← hu]
      simp [List.getD_eq_getElem?_getD, hzi]
   ·rcases Nat.lt_or_ge j (zs.take len).length with hj | hj
    ·have hmem : atI (zs.take len) j ∈ zs := by
      have : atI (zs.take len) j = (zs.take len)[j] := by simp only [atI, List.getD_eq_getElem?_getD, List.getElem?_eq_getElem hj, Option.getD_some]
      rw [this]
      exact List.mem_of_mem_take (List.getElem_mem hj)
     exact wf64 (hwf _ hmem)
    ·rw [atI_out hj]; exact ⟨by decide, by decide⟩
theorem open_w2 {t t1 e : TypeId} {fuel : Nat} {v : Value} {x : DataW H × List MemPlace} (ht : P.underlying t = some (.slice t1)) (ht1 : P.underlying t1 = some (.slice e)) (he : P.underlying e = some (.int .i64)) (hc1 : P.cellsOf t1 = 1) (hc : P.cellsOf e = 1)
  (h : DataW.trod enc P w 0 (fun _ => true) held fuel t [v] = some x) :
  ∃ a S, Rel (cx0 w (fun _ => False)) a v [] ∧ isLLw a S ∧ S.length < 2^63 ∧ (∀ i, (row S i).length < 2^63) ∧ ∀ i j, -2^63 ≤ atI (row S i) j ∧ atI (row S i) j < 2^63 := by
 rcases open_slice ht h with ⟨hcs, _⟩ | ⟨ad, len, cap, m, n, D, Pl, hcs, _, hl, hm, hmm, _, hel⟩
 ·simp only [List.cons.injEq, and_true] at hcs
  subst hcs
  exact ⟨.sc (.slice none 0 0), [], .sc _ .nil, .inr ⟨rfl, _, _, rfl⟩, by simp, fun i => by simp [row], fun i j => by simp [row, atI]⟩
 ·simp only [List.cons.injEq, and_true] at hcs
  subst hcs
  simp only [if_true] at hmm
  subst hmm
  have hmx : m < 2^63 := Nat.lt_of_le_of_lt hm (by decide)
  rcases Nat.eq_zero_or_pos len with h0 | hpos
  ·subst h0
   exact ⟨.sc (.slice (some ad) 0 m), [], .sc _ .nil, .inr ⟨rfl, _, _, rfl⟩, by simp, fun i => by simp [row], fun i j => by simp [row, atI]⟩
  ·have hrow : ∀ i, i < m → ∃ u a xs, w.cell? (ad.add i) = some u ∧ Rel (cx0 w (fun _ => False)) a u [] ∧ isLw a xs ∧ xs.length < 2^63 ∧ ∀ j, -2^63 ≤ atI xs j ∧ atI xs j < 2^63 := by
    intro i hi
    obtain ⟨cs', hcl, htr⟩ := hel i hi
    rw [hc1] at hcl
    obtain ⟨_, hlen, hat⟩ := World.cells?_some hcl
    obtain ⟨u, rfl⟩ : ∃ u, cs' = [u] := by
     match cs', hlen with
     | [u], _ => exact ⟨u, rfl⟩
    have h0 := hat 0 (by omega)
    obtain ⟨a, xs, r1, r2, r3, r4⟩ := open_w1 ht1 he hc htr
    refine ⟨u, a, xs, ?_, r1, r2, r3, r4⟩
    simpa [Addr.add, Nat.mul_one] using h0
   obtain ⟨hs, hb⟩ := cell_spot (hrow 0 (by omega)).choose_spec.choose_spec.choose_spec.1
   have hs' : ad.spot = none := by simpa [Addr.add] using hs
   have hb' : ad.block < w.heap.size := by simpa [Addr.add] using hb
   have hall : ∀ i, ∃ q : Value × AV × List Int, i < m → w.cell? (ad.add i) = some q.1 ∧ Rel (cx0 w (fun _ => False)) q.2.1 q.1 [] ∧ isLw q.2.1 q.2.2 ∧ q.2.2.length < 2^63 ∧ ∀ j, -2^63 ≤ atI q.2.2 j ∧ atI q.2.2 j < 2^63 := by
    intro i
    by_cases hi : i < m
    ·obtain ⟨u, a, xs, r⟩ := hrow i hi
     exact ⟨(u, a, xs), fun _ => r⟩
    ·exact ⟨(.bool false, .dead, []), fun h => absurd h hi⟩
   obtain ⟨q, hq⟩ := Classical.axiomOfChoice hall
   have hget : ∀ i, i < len → row ((List.range len).map fun i => (q i).2.2) i = (q i).2.2 := fun i hi => by simp [row, hi]
   refine ⟨.imm ((List.range len).map fun i => (q i).2.1), (List.range len).map fun i => (q i).2.2, ?_, .inl ⟨_, rfl, isLws_map fun i hi => ?_⟩, by simp; omega, fun i => ?_, fun i j => ?_⟩
   ·have hr : RelL (cx0 w (fun _ => False)) ((List.range len).map fun i => (q i).2.1) ((List.range len).map fun i => (q i).1) [] :=
     RelL.mapO fun i hi => (hq i (by have := List.mem_range.1 hi; omega)).2.1
    have hlen2 : ((List.range len).map fun i => (q i).1).length = len := by simp
    have := RelL.imm (c := cx0 w (fun _ => False)) ad.block ad.off m hr ⟨fun h => h, hb', fun i u hu => ?_⟩ (by rw [hlen2]; exact hl) RelL.nil
    ·rw [hlen2] at this
     have e : (⟨ad.block, ad.off, none⟩ : Addr) = ad := by cases ad; simp_all
     rwa [e] at this
    ·show w.cell? ⟨ad.block, ad.off + i, none⟩ = some u
     rw [← add_plain hs' i]
     have hi : i < len := by
      have := (List.getElem?_eq_some_iff.1 hu).1
      rwa [hlen2] at this
     rw [(hq i (by omega)).1]
     simp [hi] at hu
     rw [hu]
   ·exact (hq i (by have := List.mem_range.1 hi; omega)).2.2.1
   ·rcases Nat.lt_or_ge i len with hi | hi
    ·rw [hget i hi]; exact (hq i (by omega)).2.2.2.1
    ·rw [row_out (by simpa using hi)]; simp
   ·rcases Nat.lt_or_ge i len with hi | hi
    ·rw [hget i hi]; exact (hq i (by omega)).2.2.2.2 j
    ·rw [row_out (by simpa using hi), atI_out (by simp)]; exact ⟨by decide, by decide⟩
end
end Go.Proofs.YtdpinkgkmcbckaaGreat
/- Products of data: sums over pairs; the conditions of the product. -/
namespace Go.Proofs.YtdpinkgkmcbckaaGreat
open Go.RowKit
set_option maxRecDepth 1000000
theorem MM_num {a b : Int} (h : MM a b) (ha : num a) (hb : num b) : a = b := by
 unfold MM at h
 rwa [Int.emod_eq_of_lt ha.1 ha.2, Int.emod_eq_of_lt hb.1 hb.2] at h
section
variable (S S' : List (List Int)) (T T' : List Int)
def pS (x y : Nat) : Int := ss S (x / T'.length) (y / T'.length) * ss S' (x % T'.length) (y % T'.length) % 55441
def pT (x : Nat) : Int := atI T (x / T'.length) * atI T' (x % T'.length) % 55441
def PS : List (List Int) := matL (pS S S' T') (T.length * T'.length) (T.length * T'.length)
def PT : List Int := rws (pT T T') (T.length * T'.length)
def psg (x : Nat) : Nat := sg S T (x / T'.length) * T'.length + sg S' T' (x % T'.length)
end
section
variable {S S' : List (List Int)} {T T' : List Int}
end
end Go.Proofs.YtdpinkgkmcbckaaGreat
