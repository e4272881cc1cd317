/- Texts joined: S0 T1 T2 T3 T4. -/
import Derived.Shelf.Strings.SlTrimAscii
import Derived.Shelf.Spec.SlicesGrow
import Derived.Test.YtkimbjcaoolfpaaGreatDoorMi
set_option linter.all false
/- Copies of lists: of the reference's and of the library's. -/
namespace Go.Proofs.YtkimbjcaoolfpaaGreatDoor
open Go.RowKit
set_option maxRecDepth 1000000
theorem cOwn1 {xs : List Int} (hx : xs.length ≤ maxN) : CallOK Tryz.prog 63 [immL xs] (rowL xs) := by
 have hx' : 0 + xs.length ≤ 4294967296 := by have : xs.length ≤ 4294967296 := hx; omega
 have hall : (xs.map i64).all zez = true := List.all_eq_true.2 fun x hx => by obtain ⟨y, -, rfl⟩ := List.mem_map.1 hx; rfl
 refine call_of (fn := Tryz.f63) (code := bodyOf Tryz.f63) Tryz.func63 rfl (by kernel_rfl) (noRef_rowL _) ?_
 intro sl hs
 have s0 : sl 0 = immL xs := hs 0
 dsimp only [Tryz.f63, bodyOf, Option.getD]
 simp (maxSteps := 10000000) (disch := first | assumption | omega) only [go_sem, ↓reduceIte, Nat.reduceEqDiff, reduceCtorEq, Nat.reduceAdd, Nat.reduceMul, Nat.reduceLeDiff, zc, Int.reduceToNat, s0, hall, List.length_map, hx']
 simp only [zr, zb, retR, resL, outT, outL, zes, zez, oneV, zcp, zed, zfi, Ro.dl, St.ev, zhk, ↓za, ↓reduceIte, Nat.reduceEqDiff, Nat.reduceAdd, Nat.reduceLeDiff]
theorem cOwn0 : CallOK Tryz.prog 63 [nilA] (rowL []) := by
 have hnil : isNilV (Value.slice none 0 0) = true := rfl
 refine call_of (fn := Tryz.f63) (code := bodyOf Tryz.f63) Tryz.func63 rfl (by kernel_rfl) (noRef_rowL _) ?_
 intro sl hs
 have s0 : sl 0 = nilA := hs 0
 dsimp only [Tryz.f63, bodyOf, Option.getD]
 simp (maxSteps := 10000000) (disch := first | assumption | omega) only [go_sem, ↓reduceIte, Nat.reduceEqDiff, reduceCtorEq, Nat.reduceAdd, Nat.reduceMul, Nat.reduceLeDiff, zc, Int.reduceToNat, s0, hnil]
 simp only [zr, zb, retR, resL, outT, outL, zes, zez, oneV, zcp, zed, zfi, Ro.dl, St.ev, zhk, ↓za, ↓reduceIte, Nat.reduceEqDiff, Nat.reduceAdd, Nat.reduceLeDiff]
 rfl
theorem cOwn {a : AV} {xs : List Int} (ha : isL a xs) (hx : xs.length ≤ maxN) : CallOK Tryz.prog 63 [a] (rowL xs) := by
 rcases ha with rfl | ⟨rfl, rfl⟩
 ·exact cOwn1 hx
 ·exact cOwn0
theorem cClo {xs : List Int} (hx : xs.length ≤ maxN) : CallOK Tryz.prog 75 [immL xs] (rowL xs) := by
 have hx' : 0 + xs.length ≤ 4294967296 := by have : xs.length ≤ 4294967296 := hx; omega
 have hall : (xs.map i64).all zez = true := List.all_eq_true.2 fun x hx => by obtain ⟨y, -, rfl⟩ := List.mem_map.1 hx; rfl
 refine call_of (fn := Tryz.f75) (code := bodyOf Tryz.f75) Tryz.func75 rfl (by kernel_rfl) (noRef_rowL _) ?_
 intro sl hs
 have s0 : sl 0 = immL xs := hs 0
 dsimp only [Tryz.f75, bodyOf, Option.getD]
 simp (maxSteps := 10000000) (disch := first | assumption | omega) only [go_sem, ↓reduceIte, Nat.reduceEqDiff, reduceCtorEq, Nat.reduceAdd, Nat.reduceMul, Nat.reduceLeDiff, zc, Int.reduceToNat, s0, hall, List.length_map, hx']
 simp only [zr, zb, retR, resL, outT, outL, zes, zez, oneV, zcp, zed, zfi, Ro.dl, St.ev, zhk, ↓za, ↓reduceIte, Nat.reduceEqDiff, Nat.reduceAdd, Nat.reduceLeDiff]
theorem cCloP {a : AV} {xs : List Int} (ha : isL a xs) (hx : xs.length ≤ maxN) (hp : 0 < xs.length) : CallOK Tryz.prog 75 [a] (rowL xs) := by
 rcases ha with rfl | ⟨rfl, rfl⟩
 ·exact cClo hx
 ·exact absurd hp (by decide)
theorem cOwn2 {a : AV} {S : List (List Int)} (ha : isLL a S) (hS : S.length ≤ maxN) (hR : ∀ i, i < S.length → (row S i).length ≤ maxN) : CallOK Tryz.prog 84 [a] (.row (rws (fun x => rowL (row S x)) S.length)) := by
 have hS' : S.length ≤ 4294967296 := hS
 refine call_of (fn := Tryz.f84) (code := bodyOf Tryz.f84) Tryz.func84 rfl (by kernel_rfl) (noRef_row _ (noRefL_rws _ _ fun _ => noRef_rowL _)) ?_
 intro sl hs
 have s0 : sl 0 = a := hs 0
 dsimp only [Tryz.f84, bodyOf, Option.getD]
 simp (maxSteps := 10000000) (disch := first | assumption | omega) only [go_sem, ↓reduceIte, Nat.reduceEqDiff, reduceCtorEq, Nat.reduceAdd, Nat.reduceMul, Nat.reduceLeDiff, zc, Int.reduceToNat, s0]
 refine WK_for (fun i st => st.sl 0 = a ∧ st.sl 3 = .ref 8192 (st.gn 8192) [] 0 i ∧ st.ro 8192 (st.gn 8192) = some (.row (rws (fun x => rowL (row S x)) i)) ∧ st.sl 4 = i64 (i : Int)) S.length ?_ ?_ ?_
 ·simp only [↓za, ↓reduceIte, Nat.reduceEqDiff, zb, reduceCtorEq, rws_zero, s0]
  exact rfl
 ·rintro i sl ro gn hi ⟨s0, s3, r8192, s4⟩
  dsimp only at s0 s3 r8192 s4
  have hi' : (i : Int) < (S.length : Nat) := by omega
  have hi2 : i + 1 ≤ 4294967296 := by omega
  have hr := isLL_row ha hi
  simp (maxSteps := 10000000) (disch := first | assumption | omega) only [go_sem, ↓reduceIte, Nat.reduceEqDiff, reduceCtorEq, Nat.reduceAdd, Nat.reduceMul, Nat.reduceLeDiff, zc, Int.reduceToNat, s0, s3, r8192, s4, hi', hi]
  refine CLL_pure _ (cOwn hr (hR i hi)) PUt rfl rfl ?_
  simp (maxSteps := 10000000) (disch := first | assumption | omega) only [go_sem, ↓reduceIte, Nat.reduceEqDiff, reduceCtorEq, Nat.reduceAdd, Nat.reduceMul, Nat.reduceLeDiff, zc, Int.reduceToNat, s0, s3, r8192, s4, hi', hi, hi2]
  exact i64c (by omega)
 ·rintro sl ro gn ⟨s0, s3, r8192, s4⟩
  dsimp only at s0 s3 r8192 s4
  have hi' : ¬ ((S.length : Nat) : Int) < (S.length : Nat) := by omega
  simp (maxSteps := 10000000) (disch := first | assumption | omega) only [go_sem, ↓reduceIte, Nat.reduceEqDiff, reduceCtorEq, Nat.reduceAdd, Nat.reduceMul, Nat.reduceLeDiff, zc, Int.reduceToNat, s0, s3, r8192, s4, hi']
  simp only [zr, zb, retR, resL, outT, outL, zes, zez, oneV, zcp, zed, zfi, Ro.dl, St.ev, zhk, ↓za, ↓reduceIte, Nat.reduceEqDiff, Nat.reduceAdd, Nat.reduceLeDiff, r8192]
end Go.Proofs.YtkimbjcaoolfpaaGreatDoor
/- strings.Trim and slices.Grow at this program: the kit's contracts, laid (plain text, by lay.py), as contracts of the machine. -/
namespace Go.Proofs.YtkimbjcaoolfpaaGreatDoor
open Go.RowKit
set_option maxRecDepth 1000000
def laysTrim_ren : Go.Shelf.Ren := ⟨fun | 160 => 69 | 232 => 97 | 231 => 96 | 227 => 98 | 234 => 100 | 233 => 99 | 236 => 102 | 235 => 101 | 228 => 126 | 271 => 129 | 151 => 128 | 197 => 127 | 120 => 145 | 152 => 144 | 260 => 143 | 137 => 149 | 119 => 150 | 224 => 151 | 225 => 152 | 217 => 153 | 266 => 154 | n => n, fun | 9 => 9 | 4 => 4 | 3 => 3 | 5 => 5 | 117 => 92 | 116 => 91 | 0 => 0 | 124 => 95 | 21 => 21 | 105 => 111 | 46 => 124 | 119 => 123 | 139 => 127 | 138 => 126 | n => n, fun | 3 => 0 | 4 => 1 | n => n⟩
theorem laysTrim : Lays.n160 Tryz.prog laysTrim_ren where
 mixed := by kernel_rfl
 f119 := Tryz.func150.trans (congrArg some (by kernel_rfl))
 f120 := Tryz.func145.trans (congrArg some (by kernel_rfl))
 f137 := Tryz.func149.trans (congrArg some (by kernel_rfl))
 f151 := Tryz.func128.trans (congrArg some (by kernel_rfl))
 f152 := Tryz.func144.trans (congrArg some (by kernel_rfl))
 f160 := Tryz.func69.trans (congrArg some (by kernel_rfl))
 f197 := Tryz.func127.trans (congrArg some (by kernel_rfl))
 f217 := Tryz.func153.trans (congrArg some (by kernel_rfl))
 f224 := Tryz.func151.trans (congrArg some (by kernel_rfl))
 f225 := Tryz.func152.trans (congrArg some (by kernel_rfl))
 f227 := Tryz.func98.trans (congrArg some (by kernel_rfl))
 f228 := Tryz.func126.trans (congrArg some (by kernel_rfl))
 f231 := Tryz.func96.trans (congrArg some (by kernel_rfl))
 f232 := Tryz.func97.trans (congrArg some (by kernel_rfl))
 f233 := Tryz.func99.trans (congrArg some (by kernel_rfl))
 f234 := Tryz.func100.trans (congrArg some (by kernel_rfl))
 f235 := Tryz.func101.trans (congrArg some (by kernel_rfl))
 f236 := Tryz.func102.trans (congrArg some (by kernel_rfl))
 f260 := Tryz.func143.trans (congrArg some (by kernel_rfl))
 f266 := Tryz.func154.trans (congrArg some (by kernel_rfl))
 f271 := Tryz.func129.trans (congrArg some (by kernel_rfl))
 t0 := Tryz.underlying0
 a0 := Tryz.isAgg0
 z0 := Tryz.sizeOf0
 v0 := Tryz.zeroValue0
 t3 := Tryz.underlying3
 a3 := Tryz.isAgg3
 z3 := Tryz.sizeOf3
 v3 := Tryz.zeroValue3
 t4 := Tryz.underlying4
 a4 := Tryz.isAgg4
 z4 := Tryz.sizeOf4
 v4 := Tryz.zeroValue4
 t5 := Tryz.underlying5
 a5 := Tryz.isAgg5
 z5 := Tryz.sizeOf5
 v5 := Tryz.zeroValue5
 t9 := Tryz.underlying9
 a9 := Tryz.isAgg9
 z9 := Tryz.sizeOf9
 v9 := Tryz.zeroValue9
 t21 := Tryz.underlying21
 a21 := Tryz.isAgg21
 z21 := Tryz.sizeOf21
 v21 := Tryz.zeroValue21
 t46 := Tryz.underlying124
 a46 := Tryz.isAgg124
 z46 := Tryz.sizeOf124
 v46 := Tryz.zeroValue124
 t105 := Tryz.underlying111
 a105 := Tryz.isAgg111
 z105 := Tryz.sizeOf111
 v105 := Tryz.zeroValue111
 t116 := Tryz.underlying91
 a116 := Tryz.isAgg91
 z116 := Tryz.sizeOf91
 t117 := Tryz.underlying92
 a117 := Tryz.isAgg92
 z117 := Tryz.sizeOf92
 v117 := Tryz.zeroValue92
 t119 := Tryz.underlying123
 a119 := Tryz.isAgg123
 z119 := Tryz.sizeOf123
 t124 := Tryz.underlying95
 a124 := Tryz.isAgg95
 z124 := Tryz.sizeOf95
 v124 := Tryz.zeroValue95
 t138 := Tryz.underlying126
 a138 := Tryz.isAgg126
 z138 := Tryz.sizeOf126
 v138 := Tryz.zeroValue126
 t139 := Tryz.underlying127
 a139 := Tryz.isAgg127
 z139 := Tryz.sizeOf127
 v139 := Tryz.zeroValue127
 g3 := by kernel_rfl
 g4 := by kernel_rfl
def laysGrow_ren : Go.Shelf.Ren := ⟨fun | 4 => 103 | n => n, fun | 22 => 23 | 25 => 2 | 3 => 3 | 4 => 4 | 9 => 9 | 20 => 20 | 0 => 0 | n => n, fun n => n⟩
theorem laysGrow : Lays8.n4 Tryz.prog laysGrow_ren where
 mixed := by kernel_rfl
 f4 := ⟨"slices.Grow[[]int64,int64]", by decide, Tryz.func103.trans (congrArg some (by kernel_rfl))⟩
 t0 := Tryz.underlying0
 a0 := Tryz.isAgg0
 z0 := Tryz.sizeOf0
 v0 := Tryz.zeroValue0
 t3 := Tryz.underlying3
 a3 := Tryz.isAgg3
 z3 := Tryz.sizeOf3
 v3 := Tryz.zeroValue3
 t4 := Tryz.underlying4
 a4 := Tryz.isAgg4
 z4 := Tryz.sizeOf4
 v4 := Tryz.zeroValue4
 t9 := Tryz.underlying9
 a9 := Tryz.isAgg9
 z9 := Tryz.sizeOf9
 v9 := Tryz.zeroValue9
 t20 := Tryz.underlying20
 a20 := Tryz.isAgg20
 z20 := Tryz.sizeOf20
 v20 := Tryz.zeroValue20
 t22 := Tryz.underlying23
 a22 := Tryz.isAgg23
 z22 := Tryz.sizeOf23
 v22 := Tryz.zeroValue23
theorem cTrim (s : ByteArray) (hs : s.size ≤ 60) : CallOK Tryz.prog 69 [.sc (.string s), .sc (.string ⟨#[115, 116, 83, 84]⟩)] (.sc (.string ⟨(Go.Lib.trimS s.data.toList [115, 116, 83, 84]).toArray⟩)) := by
 refine ⟨⟨_, Tryz.func69, by kernel_rfl, by kernel_rfl⟩, rfl, fun w A vs hv hA => ?_⟩
 obtain ⟨v, vs', rfl, h1, h2⟩ := RelL.uncons0 hv
 obtain ⟨v', vs'', rfl, h3, h4⟩ := RelL.uncons0 h2
 obtain rfl := (RelL.nilF h4).1
 obtain ⟨rfl, -⟩ := Rel.sc_inv h1
 obtain ⟨rfl, -⟩ := Rel.sc_inv h3
 refine (Any.strings_Trim_laid laysTrim (by kernel_rfl) s ⟨#[115, 116, 83, 84]⟩ w (by omega) (by decide) (ascii_of_all (by decide))).mono ?_
 rintro e w' ⟨rfl, hb⟩
 exact ⟨_, A, [], rfl, .sc _ .nil, fun _ h => h, (fun _ h => by cases h), ⟨hb.os, hb.tape, hb.output, hb.size, fun k hk _ => hb.block k hk⟩⟩
theorem cGrow {n : Nat} (h1 : 1 ≤ n) (hn : n ≤ maxN) : CallOK Tryz.prog 103 [nilA, i64 n] (.row []) := by
 have hn' : n ≤ 4294967296 := hn
 refine ⟨⟨_, Tryz.func103, by kernel_rfl, by kernel_rfl⟩, rfl, fun w A vs hv hA => ?_⟩
 obtain ⟨v, vs', rfl, h1', h2⟩ := RelL.uncons0 hv
 obtain ⟨v', vs'', rfl, h3, h4⟩ := RelL.uncons0 h2
 obtain rfl := (RelL.nilF h4).1
 obtain ⟨rfl, -⟩ := Rel.sc_inv h1'
 obtain ⟨rfl, -⟩ := Rel.sc_inv h3
 obtain ⟨inf, z, hi, hsz, hz, hzc⟩ := ((tiG_ok Tryz.prog).ok 2 _ ti2).info
 have hb8 : (some inf).map (·.bytes) = some 8 := by rw [← hi]; kernel_rfl
 have hb8 : inf.bytes = 8 := by simpa using hb8
 have hzl : z.cells.size = 1 := by rw [← Array.length_toList, hzc]; rfl
 refine (Any8.slices_Grow_grow laysGrow inf z hi hz (by rw [hsz]; decide) none 0 0 n [] w (by omega) (by omega) (by rw [hb8]; omega) (by omega) (by simp) (fun _ => rfl) (fun a h => by cases h)).mono ?_
 rintro e w' ⟨rfl, rfl⟩
 have g1 := grownCap_ge w (0 + n) 0 (laysGrow_ren.t 25)
 have g2 := grownCap_le_maxLen w (0 + n) 0 (laysGrow_ren.t 25) (by unfold maxLen; omega)
 refine ⟨_, fun b => A b ∨ b = w.heap.size, [w.heap.size], rfl, ?_, fun _ h => .inl h, fun x hx => ?_, ?_⟩
 ·refine Rel.mk_row w.heap.size 0 _ (us := []) .nil ⟨_, _, heap_alloc_new w.drew _, ?_, Nat.zero_le _, g2, fun i u hu => by simp at hu⟩ (by simp)
  simp only [Array.size_append, size_zeroCells, hzl]
  simp
  omega
 ·simp only [List.mem_singleton] at hx
  subst hx
  exact ⟨.inr rfl, Nat.le_refl _⟩
 ·exact ⟨rfl, rfl, rfl, Nat.le_of_lt (Array.getElem?_eq_some_iff.1 (heap_alloc_new w.drew _)).1, fun k hk _ => Below.heap_alloc w.drew _ k hk⟩
end Go.Proofs.YtkimbjcaoolfpaaGreatDoor
/- Simple functions over matrices: the reference's and the program's. -/
namespace Go.Proofs.YtkimbjcaoolfpaaGreatDoor
open Go.RowKit
set_option maxRecDepth 1000000
def unM (i j : Nat) : Int := if j = i then 1 else 0
theorem cUnit {n : Nat} (hn : n ≤ maxN) : CallOK Tryz.prog 37 [i64 n] (matA unM n n) := by
 have hn' : n ≤ 4294967296 := hn
 have hm' : (n : Int) ≤ ((4294967296 : Nat) : Int) := by omega
 refine call_of (fn := Tryz.f37) (code := bodyOf Tryz.f37) Tryz.func37 rfl (by kernel_rfl) (noRef_mat _ _ _) ?_
 intro sl hs
 have s0 : sl 0 = i64 n := hs 0
 dsimp only [Tryz.f37, bodyOf, Option.getD]
 simp (maxSteps := 10000000) (disch := first | assumption | omega) only [go_sem, ↓reduceIte, Nat.reduceEqDiff, reduceCtorEq, Nat.reduceAdd, Nat.reduceMul, Nat.reduceLeDiff, zc, Int.reduceToNat, s0]
 refine WK_for (fun i st => st.sl 0 = i64 n ∧ st.sl 4 = i64 (i : Int) ∧ st.sl 3 = .ref 8192 (st.gn 8192) [] 0 i ∧ st.ro 8192 (st.gn 8192) = some (.row (rws (fun i => .row (rws (fun j => i64 (unM i j)) n)) i))) n ?_ ?_ ?_
 ·simp only [↓za, ↓reduceIte, Nat.reduceEqDiff, zb, reduceCtorEq, rws_zero, s0]
  rfl
 ·rintro i sl ro gn hi ⟨s0, s4, s3, r8192⟩
  dsimp only at s0 s4 s3 r8192
  have hi' : (i : Int) < (n : Nat) := by omega
  have hi2 : i + 1 ≤ 4294967296 := by omega
  have e0 : (rws (fun _ => i64 0) n).set i (i64 1) = rws (fun j => i64 (unM i j)) n := by
   rw [rws_set]
   refine rws_congr fun j _ => ?_
   unfold unM
   split <;> rfl
  simp (maxSteps := 10000000) (disch := first | assumption | omega) only [go_sem, ↓reduceIte, Nat.reduceEqDiff, reduceCtorEq, Nat.reduceAdd, Nat.reduceMul, Nat.reduceLeDiff, zc, Int.reduceToNat, s0, s4, s3, r8192, hi', hi, kMake, Int.natCast_nonneg, Int.le_refl, hm', List.getD_cons_zero, rep_rws, hi2, e0]
  exact i64c (by omega)
 ·rintro sl ro gn ⟨s0, s4, s3, r8192⟩
  dsimp only at s0 s4 s3 r8192
  have hi' : ¬ ((n : Nat) : Int) < (n : Nat) := by omega
  simp (maxSteps := 10000000) (disch := first | assumption | omega) only [go_sem, ↓reduceIte, Nat.reduceEqDiff, reduceCtorEq, Nat.reduceAdd, Nat.reduceMul, Nat.reduceLeDiff, zc, Int.reduceToNat, s0, s4, s3, r8192, hi']
  simp only [zr, zb, retR, resL, outT, outL, zes, zez, oneV, zcp, zed, zfi, Ro.dl, St.ev, zhk, ↓za, ↓reduceIte, Nat.reduceEqDiff, Nat.reduceAdd, Nat.reduceLeDiff, r8192]
def tmG (A B : List (List Int)) (i k : Nat) : Int := sm (fun j => atI (row A i) j * atI (row B j) k) B.length % 55441
theorem sm_step (f : Nat → Int) (k : Nat) : (sm f k % 55441 + f k) % 55441 = sm f (k + 1) % 55441 := by
 simp only [sm]; omega
theorem cTimes {a b : AV} {A B : List (List Int)} (ha : isLL a A) (hb : isLL b B) (hA : A.length ≤ maxN) (hB : B.length ≤ maxN) (h0 : 0 < B.length) (hm : (row B 0).length ≤ maxN) (lA : ∀ i, i < A.length → B.length ≤ (row A i).length) (lB : ∀ i, i < B.length → (row B 0).length ≤ (row B i).length) (nA : numLL A) (nB : numLL B) :
  CallOK Tryz.prog 38 [a, b] (matA (tmG A B) A.length (row B 0).length) := by
 have hA' : A.length ≤ 4294967296 := hA
 have hB' : B.length ≤ 4294967296 := hB
 have hm' : (row B 0).length ≤ 4294967296 := hm
 have g0 := isLL_row hb h0
 refine call_of (fn := Tryz.f38) (code := bodyOf Tryz.f38) Tryz.func38 rfl (by kernel_rfl) (noRef_mat _ _ _) ?_
 intro sl hs
 have s0 : sl 0 = a := hs 0
 have s1 : sl 1 = b := hs 1
 dsimp only [Tryz.f38, bodyOf, Option.getD]
 simp (maxSteps := 10000000) (disch := first | assumption | omega) only [go_sem, ↓reduceIte, Nat.reduceEqDiff, reduceCtorEq, Nat.reduceAdd, Nat.reduceMul, Nat.reduceLeDiff, zc, Int.reduceToNat, s0, s1]
 refine WK_for (fun i st => st.sl 0 = a ∧ st.sl 1 = b ∧ st.sl 6 = i64 (i : Int) ∧ st.sl 5 = .ref 8192 (st.gn 8192) [] 0 i ∧ st.ro 8192 (st.gn 8192) = some (.row (rws (fun i => .row (rws (fun j => i64 (tmG A B i j)) (row B 0).length)) i))) A.length ?_ ?_ ?_
 ·simp only [↓za, ↓reduceIte, Nat.reduceEqDiff, zb, reduceCtorEq, rws_zero, s0, s1]
  rfl
 ·rintro i sl ro gn hi ⟨s0, s1, s6, s5, r8192⟩
  dsimp only at s0 s1 s6 s5 r8192
  have hi' : (i : Int) < (A.length : Nat) := by omega
  have hi2 : i + 1 ≤ 4294967296 := by omega
  simp (maxSteps := 10000000) (disch := first | assumption | omega) only [go_sem, ↓reduceIte, Nat.reduceEqDiff, reduceCtorEq, Nat.reduceAdd, Nat.reduceMul, Nat.reduceLeDiff, zc, Int.reduceToNat, s0, s1, s6, s5, r8192, hi', hi, isLL_len ha]
  refine WK_for (fun j st => st.sl 0 = a ∧ st.sl 1 = b ∧ st.sl 6 = i64 (i : Int) ∧ st.sl 5 = .ref 8192 (st.gn 8192) [] 0 i ∧ st.ro 8192 (st.gn 8192) = some (.row (rws (fun i => .row (rws (fun j => i64 (tmG A B i j)) (row B 0).length)) i)) ∧ st.sl 8 = i64 (j : Int) ∧ st.sl 7 = .ref 24576 (st.gn 24576) [] 0 j ∧ st.ro 24576 (st.gn 24576) = some (.row (rws (fun j => i64 (tmG A B i j)) j))) ((row B 0).length) ?_ ?_ ?_
  ·simp only [↓za, ↓reduceIte, Nat.reduceEqDiff, zb, reduceCtorEq, rws_zero, s0, s1, s6, s5, r8192, hi', hi]
   rfl
  ·rintro j sl ro gn hj ⟨s0, s1, s6, s5, r8192, s8, s7, r24576⟩
   dsimp only at s0 s1 s6 s5 r8192 s8 s7 r24576
   have hj' : (j : Int) < ((row B 0).length : Nat) := by omega
   have hj2 : j + 1 ≤ 4294967296 := by omega
   simp (maxSteps := 10000000) (disch := first | assumption | omega) only [go_sem, ↓reduceIte, Nat.reduceEqDiff, reduceCtorEq, Nat.reduceAdd, Nat.reduceMul, Nat.reduceLeDiff, zc, Int.reduceToNat, s0, s1, s6, s5, r8192, s8, s7, r24576, hj', hj, isLL_idx hb h0, isL_len g0]
   refine WK_for (fun k st => st.sl 0 = a ∧ st.sl 1 = b ∧ st.sl 6 = i64 (i : Int) ∧ st.sl 5 = .ref 8192 (st.gn 8192) [] 0 i ∧ st.ro 8192 (st.gn 8192) = some (.row (rws (fun i => .row (rws (fun j => i64 (tmG A B i j)) (row B 0).length)) i)) ∧ st.sl 8 = i64 (j : Int) ∧ st.sl 7 = .ref 24576 (st.gn 24576) [] 0 j ∧ st.ro 24576 (st.gn 24576) = some (.row (rws (fun j => i64 (tmG A B i j)) j)) ∧ st.sl 10 = i64 (k : Int) ∧ st.sl 9 = i64 (sm (fun k => atI (row A i) k * atI (row B k) j) k % 55441)) B.length ?_ ?_ ?_
   ·simp only [↓za, ↓reduceIte, Nat.reduceEqDiff, zb, reduceCtorEq, rws_zero, s0, s1, s6, s5, r8192, s8, s7, r24576, hj', hj]
    exact ⟨rfl, rfl⟩
   ·rintro k sl ro gn hk ⟨s0, s1, s6, s5, r8192, s8, s7, r24576, s10, s9⟩
    dsimp only at s0 s1 s6 s5 r8192 s8 s7 r24576 s10 s9
    have hk' : (k : Int) < (B.length : Nat) := by omega
    have h1 := isLL_row ha hi
    have h2 := isLL_row hb hk
    have hb1 := num_mul (nA i k) (nB k j)
    have hb3 := num_mod (sm (fun k => atI (row A i) k * atI (row B k) j) k)
    unfold num at hb3
    have hs := sm_step (fun k => atI (row A i) k * atI (row B k) j) k
    simp (maxSteps := 10000000) (disch := first | assumption | omega) only [go_sem, ↓reduceIte, Nat.reduceEqDiff, reduceCtorEq, Nat.reduceAdd, Nat.reduceMul, Nat.reduceLeDiff, zc, Int.reduceToNat, s0, s1, s6, s5, r8192, s8, s7, r24576, s10, s9, hk', hk, isLL_len hb, isLL_idx ha hi, isLL_idx hb hk, isL_idx h1 (Nat.lt_of_lt_of_le hk (lA i hi)), isL_idx h2 (Nat.lt_of_lt_of_le hj (lB k hk)), isLL_sites ha, isLL_sites hb, isL_sites h1, isL_sites h2, Int.tmod_eq_emod_of_nonneg]
    refine FIN_of (by kernel_rfl) ?_
    simp (maxSteps := 10000000) (disch := first | assumption | omega) only [go_sem, ↓reduceIte, Nat.reduceEqDiff, reduceCtorEq, Nat.reduceAdd, Nat.reduceMul, Nat.reduceLeDiff, zc, Int.reduceToNat, s0, s1, s6, s5, r8192, s8, s7, r24576, s10, s9, hk', hk]
    exact ⟨i64c (by omega), i64c hs⟩
   ·rintro sl ro gn ⟨s0, s1, s6, s5, r8192, s8, s7, r24576, s10, s9⟩
    dsimp only at s0 s1 s6 s5 r8192 s8 s7 r24576 s10 s9
    have hk' : ¬ ((B.length : Nat) : Int) < (B.length : Nat) := by omega
    simp (maxSteps := 10000000) (disch := first | assumption | omega) only [go_sem, ↓reduceIte, Nat.reduceEqDiff, reduceCtorEq, Nat.reduceAdd, Nat.reduceMul, Nat.reduceLeDiff, zc, Int.reduceToNat, s0, s1, s6, s5, r8192, s8, s7, r24576, s10, s9, hk', isLL_len hb, hj2]
    first | exact i64c (by omega) | exact ⟨i64c (by omega), congrArg some (congrArg AV.row (rws_succ (fun j => i64 (tmG A B i j)) j).symm)⟩
  ·rintro sl ro gn ⟨s0, s1, s6, s5, r8192, s8, s7, r24576⟩
   dsimp only at s0 s1 s6 s5 r8192 s8 s7 r24576
   have hj' : ¬ (((row B 0).length : Nat) : Int) < ((row B 0).length : Nat) := by omega
   simp (maxSteps := 10000000) (disch := first | assumption | omega) only [go_sem, ↓reduceIte, Nat.reduceEqDiff, reduceCtorEq, Nat.reduceAdd, Nat.reduceMul, Nat.reduceLeDiff, zc, Int.reduceToNat, s0, s1, s6, s5, r8192, s8, s7, r24576, hj', isLL_idx hb h0, isL_len g0, hi2]
   exact i64c (by omega)
 ·rintro sl ro gn ⟨s0, s1, s6, s5, r8192⟩
  dsimp only at s0 s1 s6 s5 r8192
  have hi' : ¬ ((A.length : Nat) : Int) < (A.length : Nat) := by omega
  simp (maxSteps := 10000000) (disch := first | assumption | omega) only [go_sem, ↓reduceIte, Nat.reduceEqDiff, reduceCtorEq, Nat.reduceAdd, Nat.reduceMul, Nat.reduceLeDiff, zc, Int.reduceToNat, s0, s1, s6, s5, r8192, hi', isLL_len ha]
  simp only [zr, zb, retR, resL, outT, outL, zes, zez, oneV, zcp, zed, zfi, Ro.dl, St.ev, zhk, ↓za, ↓reduceIte, Nat.reduceEqDiff, Nat.reduceAdd, Nat.reduceLeDiff, r8192]
def plV (xs ys : List Int) (k : Int) (i : Nat) : Int := (atI xs i + k * atI ys i) % 55441
theorem cPlus {a b : AV} {xs ys : List Int} {k : Int} (ha : isL a xs) (hb : isL b ys) (hx : xs.length ≤ maxN) (hl : xs.length ≤ ys.length) (nx : numL xs) (ny : numL ys) (hk : num k) : CallOK Tryz.prog 85 [a, b, i64 k] (.row (rws (fun i => i64 (plV xs ys k i)) xs.length)) := by
 have hx' : xs.length ≤ 4294967296 := hx
 refine call_of (fn := Tryz.f85) (code := bodyOf Tryz.f85) Tryz.func85 rfl (by kernel_rfl) (noRef_row _ (noRefL_rws _ _ fun _ => rfl)) ?_
 intro sl hs
 have s0 : sl 0 = a := hs 0
 have s1 : sl 1 = b := hs 1
 have s2 : sl 2 = i64 k := hs 2
 dsimp only [Tryz.f85, bodyOf, Option.getD]
 simp (maxSteps := 10000000) (disch := first | assumption | omega) only [go_sem, ↓reduceIte, Nat.reduceEqDiff, reduceCtorEq, Nat.reduceAdd, Nat.reduceMul, Nat.reduceLeDiff, zc, Int.reduceToNat, s0, s1, s2]
 refine WK_for (fun i st => st.sl 0 = a ∧ st.sl 1 = b ∧ st.sl 2 = i64 k ∧ st.sl 8 = i64 (i : Int) ∧ st.sl 7 = .ref 8192 (st.gn 8192) [] 0 i ∧ st.ro 8192 (st.gn 8192) = some (.row (rws (fun i => i64 (plV xs ys k i)) i))) xs.length ?_ ?_ ?_
 ·simp only [↓za, ↓reduceIte, Nat.reduceEqDiff, zb, reduceCtorEq, rws_zero, s0, s1, s2]
  rfl
 ·rintro i sl ro gn hi ⟨s0, s1, s2, s8, s7, r8192⟩
  dsimp only at s0 s1 s2 s8 s7 r8192
  have hi' : (i : Int) < (xs.length : Nat) := by omega
  have hi2 : i + 1 ≤ 4294967296 := by omega
  have hb1 := num_mul hk (ny i)
  have hb3 := nx i
  unfold num at hb3
  simp (maxSteps := 10000000) (disch := first | assumption | omega) only [go_sem, ↓reduceIte, Nat.reduceEqDiff, reduceCtorEq, Nat.reduceAdd, Nat.reduceMul, Nat.reduceLeDiff, zc, Int.reduceToNat, s0, s1, s2, s8, s7, r8192, hi', hi, isL_len ha, isL_idx ha hi, isL_idx hb (Nat.lt_of_lt_of_le hi hl), isL_sites ha, isL_sites hb, Int.tmod_eq_emod_of_nonneg, hi2]
  refine FIN_of (by kernel_rfl) ?_
  simp (maxSteps := 10000000) (disch := first | assumption | omega) only [go_sem, ↓reduceIte, Nat.reduceEqDiff, reduceCtorEq, Nat.reduceAdd, Nat.reduceMul, Nat.reduceLeDiff, zc, Int.reduceToNat, s0, s1, s2, s8, s7, r8192, hi', hi]
  exact ⟨i64c (by omega), congrArg some (congrArg AV.row (rws_succ (fun i => i64 (plV xs ys k i)) i).symm)⟩
 ·rintro sl ro gn ⟨s0, s1, s2, s8, s7, r8192⟩
  dsimp only at s0 s1 s2 s8 s7 r8192
  have hi' : ¬ ((xs.length : Nat) : Int) < (xs.length : Nat) := by omega
  simp (maxSteps := 10000000) (disch := first | assumption | omega) only [go_sem, ↓reduceIte, Nat.reduceEqDiff, reduceCtorEq, Nat.reduceAdd, Nat.reduceMul, Nat.reduceLeDiff, zc, Int.reduceToNat, s0, s1, s2, s8, s7, r8192, hi', isL_len ha]
  simp only [zr, zb, retR, resL, outT, outL, zes, zez, oneV, zcp, zed, zfi, Ro.dl, St.ev, zhk, ↓za, ↓reduceIte, Nat.reduceEqDiff, Nat.reduceAdd, Nat.reduceLeDiff, r8192]
theorem cScale {a : AV} {xs : List Int} {k : Int} (ha : isL a xs) (hx : xs.length ≤ maxN) (nx : numL xs) (hk : num k) : CallOK Tryz.prog 47 [a, i64 k] (.row (rws (fun i => i64 (atI xs i * k % 55441)) xs.length)) := by
 have hx' : xs.length ≤ 4294967296 := hx
 refine call_of (fn := Tryz.f47) (code := bodyOf Tryz.f47) Tryz.func47 rfl (by kernel_rfl) (noRef_row _ (noRefL_rws _ _ fun _ => rfl)) ?_
 intro sl hs
 have s0 : sl 0 = a := hs 0
 have s1 : sl 1 = i64 k := hs 1
 dsimp only [Tryz.f47, bodyOf, Option.getD]
 simp (maxSteps := 10000000) (disch := first | assumption | omega) only [go_sem, ↓reduceIte, Nat.reduceEqDiff, reduceCtorEq, Nat.reduceAdd, Nat.reduceMul, Nat.reduceLeDiff, zc, Int.reduceToNat, s0, s1]
 refine WK_for (fun i st => st.sl 0 = a ∧ st.sl 1 = i64 k ∧ st.sl 6 = i64 (i : Int) ∧ st.sl 5 = .ref 8192 (st.gn 8192) [] 0 i ∧ st.ro 8192 (st.gn 8192) = some (.row (rws (fun i => i64 (atI xs i * k % 55441)) i))) xs.length ?_ ?_ ?_
 ·simp only [↓za, ↓reduceIte, Nat.reduceEqDiff, zb, reduceCtorEq, rws_zero, s0, s1]
  rfl
 ·rintro i sl ro gn hi ⟨s0, s1, s6, s5, r8192⟩
  dsimp only at s0 s1 s6 s5 r8192
  have hi' : (i : Int) < (xs.length : Nat) := by omega
  have hi2 : i + 1 ≤ 4294967296 := by omega
  have hb1 := num_mul (nx i) hk
  simp (maxSteps := 10000000) (disch := first | assumption | omega) only [go_sem, ↓reduceIte, Nat.reduceEqDiff, reduceCtorEq, Nat.reduceAdd, Nat.reduceMul, Nat.reduceLeDiff, zc, Int.reduceToNat, s0, s1, s6, s5, r8192, hi', hi, isL_len ha, isL_idx ha hi, Int.tmod_eq_emod_of_nonneg, hi2]
  exact i64c (by omega)
 ·rintro sl ro gn ⟨s0, s1, s6, s5, r8192⟩
  dsimp only at s0 s1 s6 s5 r8192
  have hi' : ¬ ((xs.length : Nat) : Int) < (xs.length : Nat) := by omega
  simp (maxSteps := 10000000) (disch := first | assumption | omega) only [go_sem, ↓reduceIte, Nat.reduceEqDiff, reduceCtorEq, Nat.reduceAdd, Nat.reduceMul, Nat.reduceLeDiff, zc, Int.reduceToNat, s0, s1, s6, s5, r8192, hi', isL_len ha]
  simp only [zr, zb, retR, resL, outT, outL, zes, zez, oneV, zcp, zed, zfi, Ro.dl, St.ev, zhk, ↓za, ↓reduceIte, Nat.reduceEqDiff, Nat.reduceAdd, Nat.reduceLeDiff, r8192]
theorem cModS {x : Int} (h1 : -4611686018427387904 ≤ x) (h2 : x ≤ 4611686018427387904) : CallOK Tryz.prog 86 [i64 x] (i64 (x % 55441)) := by
 have e1 := Int.tmod_eq_emod (a := x) (b := 55441)
 have e2 : -55441 < x.tmod 55441 ∧ x.tmod 55441 < 55441 := ⟨by rw [e1]; split <;> omega, by rw [e1]; split <;> omega⟩
 have e3 : (x.tmod 55441 + 55441).tmod 55441 = x % 55441 := by
  rw [Int.tmod_eq_emod_of_nonneg (by omega), e1]; split <;> omega
 refine call_of (fn := Tryz.f86) (code := bodyOf Tryz.f86) Tryz.func86 rfl (by kernel_rfl) (rfl) ?_
 intro sl hs
 have s0 : sl 0 = i64 x := hs 0
 dsimp only [Tryz.f86, bodyOf, Option.getD]
 simp (maxSteps := 10000000) (disch := first | assumption | omega) only [go_sem, ↓reduceIte, Nat.reduceEqDiff, reduceCtorEq, Nat.reduceAdd, Nat.reduceMul, Nat.reduceLeDiff, zc, Int.reduceToNat, s0, e3]
 simp only [zr, zb, retR, resL, outT, outL, zes, zez, oneV, zcp, zed, zfi, Ro.dl, St.ev, zhk, ↓za, ↓reduceIte, Nat.reduceEqDiff, Nat.reduceAdd, Nat.reduceLeDiff]
theorem cModI {x : Int} (h1 : -4611686018427387904 ≤ x) (h2 : x ≤ 4611686018427387904) : CallOK Tryz.prog 106 [i64 x] (i64 (x % 55441)) := by
 have e1 := Int.tmod_eq_emod (a := x) (b := 55441)
 have e2 : -55441 < x.tmod 55441 ∧ x.tmod 55441 < 55441 := ⟨by rw [e1]; split <;> omega, by rw [e1]; split <;> omega⟩
 have e3 : (x.tmod 55441 + 55441).tmod 55441 = x % 55441 := by
  rw [Int.tmod_eq_emod_of_nonneg (by omega), e1]; split <;> omega
 refine call_of (fn := Tryz.f106) (code := bodyOf Tryz.f106) Tryz.func106 rfl (by kernel_rfl) (rfl) ?_
 intro sl hs
 have s0 : sl 0 = i64 x := hs 0
 dsimp only [Tryz.f106, bodyOf, Option.getD]
 simp (maxSteps := 10000000) (disch := first | assumption | omega) only [go_sem, ↓reduceIte, Nat.reduceEqDiff, reduceCtorEq, Nat.reduceAdd, Nat.reduceMul, Nat.reduceLeDiff, zc, Int.reduceToNat, s0, e3]
 simp only [zr, zb, retR, resL, outT, outL, zes, zez, oneV, zcp, zed, zfi, Ro.dl, St.ev, zhk, ↓za, ↓reduceIte, Nat.reduceEqDiff, Nat.reduceAdd, Nat.reduceLeDiff]
theorem cTrS {a : AV} {A : List (List Int)} (ha : isLL a A) (hA : A.length ≤ maxN) (hl : ∀ i, i < A.length → i < (row A i).length) (nA : numLL A) : CallOK Tryz.prog 25 [a] (i64 (sm (fun i => atI (row A i) i) A.length % 55441)) := by
 have hA' : A.length ≤ 4294967296 := hA
 refine call_of (fn := Tryz.f25) (code := bodyOf Tryz.f25) Tryz.func25 rfl (by kernel_rfl) (rfl) ?_
 intro sl hs
 have s0 : sl 0 = a := hs 0
 dsimp only [Tryz.f25, bodyOf, Option.getD]
 simp (maxSteps := 10000000) (disch := first | assumption | omega) only [go_sem, ↓reduceIte, Nat.reduceEqDiff, reduceCtorEq, Nat.reduceAdd, Nat.reduceMul, Nat.reduceLeDiff, zc, Int.reduceToNat, s0]
 refine WK_for (fun i st => st.sl 0 = a ∧ st.sl 4 = i64 (i : Int) ∧ st.sl 3 = i64 (sm (fun i => atI (row A i) i) i % 55441)) A.length ?_ ?_ ?_
 ·simp only [↓za, ↓reduceIte, Nat.reduceEqDiff, zb, reduceCtorEq, rws_zero, s0]
  exact ⟨rfl, rfl⟩
 ·rintro i sl ro gn hi ⟨s0, s4, s3⟩
  dsimp only at s0 s4 s3
  have hi' : (i : Int) < (A.length : Nat) := by omega
  have hs := sm_step (fun i => atI (row A i) i) i
  have h1 := isLL_row ha hi
  have hb1 := nA i i
  unfold num at hb1
  have hb3 := num_mod (sm (fun i => atI (row A i) i) i)
  unfold num at hb3
  simp (maxSteps := 10000000) (disch := first | assumption | omega) only [go_sem, ↓reduceIte, Nat.reduceEqDiff, reduceCtorEq, Nat.reduceAdd, Nat.reduceMul, Nat.reduceLeDiff, zc, Int.reduceToNat, s0, s4, s3, hi', hi, isLL_len ha, isLL_idx ha hi, isL_idx h1 (hl i hi), Int.tmod_eq_emod_of_nonneg]
  exact ⟨i64c (by omega), i64c hs⟩
 ·rintro sl ro gn ⟨s0, s4, s3⟩
  dsimp only at s0 s4 s3
  have hi' : ¬ ((A.length : Nat) : Int) < (A.length : Nat) := by omega
  simp (maxSteps := 10000000) (disch := first | assumption | omega) only [go_sem, ↓reduceIte, Nat.reduceEqDiff, reduceCtorEq, Nat.reduceAdd, Nat.reduceMul, Nat.reduceLeDiff, zc, Int.reduceToNat, s0, s4, s3, hi', isLL_len ha]
  simp only [zr, zb, retR, resL, outT, outL, zes, zez, oneV, zcp, zed, zfi, Ro.dl, St.ev, zhk, ↓za, ↓reduceIte, Nat.reduceEqDiff, Nat.reduceAdd, Nat.reduceLeDiff]
theorem cTrI {a : AV} {A : List (List Int)} (ha : isLL a A) (hA : A.length ≤ 65536) (hl : ∀ i, i < A.length → i < (row A i).length) (nA : numLL A) : CallOK Tryz.prog 29 [a] (i64 (sm (fun i => atI (row A i) i) A.length % 55441)) := by
 have hA' : A.length ≤ 4294967296 := by omega
 have hB := fun k => sm_bnd (f := fun i => atI (row A i) i) (B := 55440) (fun i => by have := nA i i; unfold num at this; omega) k
 refine call_of (fn := Tryz.f29) (code := bodyOf Tryz.f29) Tryz.func29 rfl (by kernel_rfl) (rfl) ?_
 intro sl hs
 have s0 : sl 0 = a := hs 0
 dsimp only [Tryz.f29, bodyOf, Option.getD]
 simp (maxSteps := 10000000) (disch := first | assumption | omega) only [go_sem, ↓reduceIte, Nat.reduceEqDiff, reduceCtorEq, Nat.reduceAdd, Nat.reduceMul, Nat.reduceLeDiff, zc, Int.reduceToNat, s0, isLL_len ha]
 refine WK_for (fun i st => st.sl 0 = a ∧ st.sl 6 = i64 A.length ∧ st.sl 7 = i64 (i : Int) ∧ st.sl 3 = i64 (sm (fun i => atI (row A i) i) i)) A.length ?_ ?_ ?_
 ·simp only [↓za, ↓reduceIte, Nat.reduceEqDiff, zb, reduceCtorEq, rws_zero, s0]
  exact ⟨rfl, rfl⟩
 ·rintro i sl ro gn hi ⟨s0, s6, s7, s3⟩
  dsimp only at s0 s6 s7 s3
  have hi' : (i : Int) < (A.length : Nat) := by omega
  have h1 := isLL_row ha hi
  have hb1 := nA i i
  unfold num at hb1
  have hb3 := hB i
  simp (maxSteps := 10000000) (disch := first | assumption | omega) only [go_sem, ↓reduceIte, Nat.reduceEqDiff, reduceCtorEq, Nat.reduceAdd, Nat.reduceMul, Nat.reduceLeDiff, zc, Int.reduceToNat, s0, s6, s7, s3, hi', hi, isLL_idx ha hi, isL_idx h1 (hl i hi)]
  exact ⟨i64c (by omega), rfl⟩
 ·rintro sl ro gn ⟨s0, s6, s7, s3⟩
  dsimp only at s0 s6 s7 s3
  have hi' : ¬ ((A.length : Nat) : Int) < (A.length : Nat) := by omega
  have hb3 := hB A.length
  simp (maxSteps := 10000000) (disch := first | assumption | omega) only [go_sem, ↓reduceIte, Nat.reduceEqDiff, reduceCtorEq, Nat.reduceAdd, Nat.reduceMul, Nat.reduceLeDiff, zc, Int.reduceToNat, s0, s6, s7, s3, hi', Int.tmod_eq_emod_of_nonneg]
  simp only [zr, zb, retR, resL, outT, outL, zes, zez, oneV, zcp, zed, zfi, Ro.dl, St.ev, zhk, ↓za, ↓reduceIte, Nat.reduceEqDiff, Nat.reduceAdd, Nat.reduceLeDiff]
end Go.Proofs.YtkimbjcaoolfpaaGreatDoor
/- Reduced bases: the plain rule; arrays of aliases. -/
namespace Go.Proofs.YtkimbjcaoolfpaaGreatDoor
open Go.RowKit
set_option maxRecDepth 1000000
def fst0 (p : Nat → Bool) : Nat → Nat → Nat
 | d, 0 => d
 | d, r + 1 => if p d then d else fst0 p (d + 1) r
theorem fst0_spec (p : Nat → Bool) : ∀ (d r : Nat), d ≤ fst0 p d r ∧ fst0 p d r ≤ d + r ∧ (∀ x, d ≤ x → x < fst0 p d r → p x = false) ∧ (fst0 p d r < d + r → p (fst0 p d r) = true)
 | d, 0 => ⟨Nat.le_refl _, Nat.le_refl _, fun x h1 h2 => by simp only [fst0] at h2; omega, fun h => by simp only [fst0] at h; omega⟩
 | d, r + 1 => by
  simp only [fst0]
  split
  ·rename_i hp
   exact ⟨Nat.le_refl _, by omega, fun x h1 h2 => by omega, fun _ => hp⟩
  ·rename_i hp
   obtain ⟨h1, h2, h3, h4⟩ := fst0_spec p (d + 1) r
   refine ⟨by omega, by omega, fun x g1 g2 => ?_, fun h => h4 (by omega)⟩
   rcases Nat.eq_or_lt_of_le g1 with e | e
   ·subst e; simpa using hp
   ·exact h3 x e g2
theorem fst0_uniq {p : Nat → Bool} {d r f : Nat} (h1 : d ≤ f) (h2 : f ≤ d + r) (h3 : ∀ x, d ≤ x → x < f → p x = false) (h4 : f < d + r → p f = true) : fst0 p d r = f := by
 obtain ⟨g1, g2, g3, g4⟩ := fst0_spec p d r
 rcases Nat.lt_trichotomy (fst0 p d r) f with h | h | h
 ·have a := h3 _ g1 h
  rw [g4 (by omega)] at a; cases a
 ·exact h
 ·have a := g3 f h1 h
  rw [h4 (by omega)] at a; cases a
def fdf (M : Nat → Nat → Int) (k n d : Nat) : Nat := fst0 (fun x => !decide (M x k = 0)) d (n - d)
theorem fdf_spec (M : Nat → Nat → Int) {k n d : Nat} (h : d ≤ n) : d ≤ fdf M k n d ∧ fdf M k n d ≤ n ∧ (∀ x, d ≤ x → x < fdf M k n d → M x k = 0) ∧ (fdf M k n d < n → M (fdf M k n d) k ≠ 0) := by
 obtain ⟨h1, h2, h3, h4⟩ := fst0_spec (fun x => !decide (M x k = 0)) d (n - d)
 refine ⟨h1, by unfold fdf; omega, fun x g1 g2 => ?_, fun g => ?_⟩
 ·simpa using h3 x g1 g2
 ·have := h4 (by unfold fdf at g; omega)
  unfold fdf; simpa using this
theorem fdf_uniq {M : Nat → Nat → Int} {k n d f : Nat} (h1 : d ≤ f) (h2 : f ≤ n) (h3 : ∀ x, d ≤ x → x < f → M x k = 0) (h4 : f < n → M f k ≠ 0) : fdf M k n d = f :=
 fst0_uniq h1 (by omega) (fun x a b => by simpa using h3 x a b) (fun h => by simpa using h4 (by omega))
def swp (M : Nat → Nat → Int) (f d : Nat) (i j : Nat) : Int := M (if i = d then f else if i = f then d else i) j
def nrm (M : Nat → Nat → Int) (d k j : Nat) : Int := M d j * pw (M d k) 55439 % 55441
def elm (M : Nat → Nat → Int) (d k : Nat) (i j : Nat) : Int := if i = d then nrm M d k j else (M i j - M i k * nrm M d k j) % 55441
def elx (G : Nat → Nat → Int) (f d k x i j : Nat) : Int := if i = d then nrm (swp G f d) d k j else if i < x then elm (swp G f d) d k i j else swp G f d i j
theorem elx_d (G : Nat → Nat → Int) (f d k x j : Nat) : elx G f d k x d j = nrm (swp G f d) d k j := if_pos rfl
theorem elx_ge {G : Nat → Nat → Int} {f d k x i j : Nat} (h1 : i ≠ d) (h2 : x ≤ i) : elx G f d k x i j = swp G f d i j := by unfold elx; rw [if_neg h1, if_neg (by omega)]
theorem elx_ne {G : Nat → Nat → Int} {f d k x i j : Nat} (h : i ≠ x) : elx G f d k (x + 1) i j = elx G f d k x i j := by
 unfold elx
 by_cases h1 : i = d
 ·rw [if_pos h1, if_pos h1]
 ·rw [if_neg h1, if_neg h1]
  by_cases h2 : i < x
  ·rw [if_pos h2, if_pos (by omega)]
  ·rw [if_neg h2, if_neg (by omega)]
theorem elx_same {G : Nat → Nat → Int} {f d k i j : Nat} : elx G f d k (d + 1) i j = elx G f d k d i j := by
 by_cases h : i = d
 ·subst h; rw [elx_d, elx_d]
 ·exact elx_ne h
theorem elx_at {G : Nat → Nat → Int} {f d k x j : Nat} (h : x ≠ d) : elx G f d k (x + 1) x j = (swp G f d x j - swp G f d x k * nrm (swp G f d) d k j) % 55441 := by
 unfold elx
 rw [if_neg h, if_pos (by omega)]
 unfold elm
 rw [if_neg h]
theorem elx_end {G : Nat → Nat → Int} {f d k n i j : Nat} (h : i < n) : elx G f d k n i j = elm (swp G f d) d k i j := by
 unfold elx
 by_cases h1 : i = d
 ·subst h1; rw [if_pos rfl]; unfold elm; rw [if_pos rfl]
 ·rw [if_neg h1, if_pos h]
theorem nrm_swp (G : Nat → Nat → Int) (f d k j : Nat) : nrm (swp G f d) d k j = G f j * pw (G f k) 55439 % 55441 := by
 unfold nrm swp; rw [if_pos rfl]
theorem num_swp {G : Nat → Nat → Int} (h : ∀ i j, num (G i j)) (f d i j : Nat) : num (swp G f d i j) := h _ _
theorem num_nrm (G : Nat → Nat → Int) (d k j : Nat) : num (nrm G d k j) := num_mod _
def gst (n k : Nat) (x : (Nat → Nat → Int) × Nat × Int) : (Nat → Nat → Int) × Nat × Int :=
 if fdf x.1 k n x.2.1 = n then (x.1, x.2.1, 0)
 else (elm (swp x.1 (fdf x.1 k n x.2.1) x.2.1) x.2.1 k, x.2.1 + 1, (if x.2.1 < fdf x.1 k n x.2.1 then -x.2.2 % 55441 else x.2.2) * x.1 (fdf x.1 k n x.2.1) k % 55441)
def gj (n : Nat) (M : Nat → Nat → Int) : Nat → (Nat → Nat → Int) × Nat × Int
 | 0 => (M, 0, 1)
 | k + 1 => gst n k (gj n M k)
def numM (M : Nat → Nat → Int) : Prop := ∀ i j, num (M i j)
theorem num_elm {M : Nat → Nat → Int} (d k : Nat) : numM (elm M d k) := by
 intro i j
 unfold elm
 split
 ·exact num_mod _
 ·exact num_mod _
theorem gj_ok {n : Nat} {M : Nat → Nat → Int} (h : numM M) : ∀ k, numM (gj n M k).1 ∧ (gj n M k).2.1 ≤ n ∧ num (gj n M k).2.2
 | 0 => ⟨h, Nat.zero_le _, by show num 1; unfold num; decide⟩
 | k + 1 => by
  obtain ⟨h1, h2, h3⟩ := gj_ok h k
  obtain ⟨f1, f2, f3, f4⟩ := fdf_spec (gj n M k).1 (k := k) h2
  simp only [gj, gst]
  split
  ·exact ⟨h1, h2, by show num 0; unfold num; decide⟩
  ·exact ⟨num_elm _ _, by simp only; omega, num_mod _⟩
theorem qt_1 (x : Int) : qt 1 x = pw x 55439 := by
 have := pw_lt x 55439
 have := pw_nonneg x 55439
 unfold qt; rw [Int.one_mul]; exact Int.emod_eq_of_lt (by omega) (by omega)
theorem num_pw (a k : Int) : num (pw a k) := ⟨pw_nonneg a k, pw_lt a k⟩
theorem neg_emod_mul (a f r : Int) : (a + (-f % 55441) * r) % 55441 = (a - f * r) % 55441 := by
 have e : -f % 55441 = -f - 55441 * (-f / 55441) := Int.emod_def _ _
 have : a + (-f % 55441) * r = a - f * r + 55441 * (-(-f / 55441) * r) := by
  rw [e]
  simp only [Int.sub_mul, Int.neg_mul, Int.mul_neg, Int.mul_assoc]
  omega
 rw [this, Int.add_mul_emod_self_left]
structure Arr (ro : Ro) (gn : Nat → Nat) (S g : Nat) (σ : Nat → Nat × Nat) (M : Nat → Nat → Int) (n w : Nat) : Prop where
 arr : ro S g = some (.bx (rws (fun i => .ref (σ i).1 (σ i).2 [] 0 w) n))
 rw : ∀ i, i < n → ro (σ i).1 (σ i).2 = some (.row (rws (fun j => i64 (M i j)) w))
 gnn : ∀ i, i < n → (σ i).2 ≤ gn (σ i).1
 ne : ∀ i, i < n → (σ i).1 ≠ S
 inj : ∀ i j, i < n → j < n → σ i = σ j → i = j
theorem Arr.unp {st : St} {S g b n w : Nat} {M : Nat → Nat → Int} (hb : S ≠ b) (h : st.ro S g = some (matA M n w)) :
  Gh st (unp st S g b n fun i => rws (fun j => i64 (M i j)) w) ∧
  Arr (unp st S g b n fun i => rws (fun j => i64 (M i j)) w).ro (unp st S g b n fun i => rws (fun j => i64 (M i j)) w).gn S g (fun i => (b, st.gn b + 1 + i)) M n w := by
 refine ⟨.unp S g b n _ hb h, ⟨?_, fun i hi => ?_, fun i hi => ?_, fun i _ => fun e => hb e.symm, fun i j _ _ e => ?_⟩⟩
 ·show (if S = S ∧ g = g then _ else _) = _
  rw [if_pos ⟨rfl, rfl⟩]
  simp only [zfe]
  rfl
 ·show (if b = S ∧ st.gn b + 1 + i = g then _ else if _ then _ else _) = _
  rw [if_neg (fun e => hb e.1.symm), if_pos ⟨rfl, by omega, by omega⟩]
  have : st.gn b + 1 + i - (st.gn b + 1) = i := by omega
  rw [this]
 ·show st.gn b + 1 + i ≤ upg st.gn b (st.gn b + n) b
  simp only [upg, if_true]; omega
 ·simp only [Prod.mk.injEq, true_and] at e; omega
theorem unp_other {st : St} {S g b n : Nat} {R : Nat → List AV} {s' g' : Nat} (h1 : s' ≠ S) (h2 : s' ≠ b) : (unp st S g b n R).ro s' g' = st.ro s' g' := by
 show (if s' = S ∧ g' = g then _ else if _ then _ else _) = _
 rw [if_neg (fun e => h1 e.1), if_neg (fun e => h2 e.1)]
theorem unp_gn {st : St} {S g b n : Nat} {R : Nat → List AV} {s' : Nat} (h2 : s' ≠ b) : (unp st S g b n R).gn s' = st.gn s' := if_neg h2
theorem unp_sl {st : St} {S g b n : Nat} {R : Nat → List AV} (k : Nat) : (unp st S g b n R).sl k = st.sl k := nr _
theorem kIdx_refZ {ro : Ro} {s g : Nat} {p : List Nat} {off n : Nat} {a1 : Nat} {a2 : Bool} {a3 : List Value} {e : Nat} {a5 : List (Nat × Nat)} {a6 : Option IntKind} {a7 a8 : Bool} : kIdx (some ⟨a1, a2, a3, some e, a5, a6, a7, a8⟩) ro (.ref s g p off n) (.sc (.int .i64 0)) = if 0 < n ∧ (ro.cells s g p).isSome = true then some ⟨.ptr s g p (off + 0), none, [], []⟩ else none :=
 zen (k := 0)
theorem kSlice_hi {ro : Ro} {s g : Nat} {p : List Nat} {off n h : Nat} {a1 : Nat} {a2 : Bool} {a3 : List Value} {e : Nat} {a5 : List (Nat × Nat)} {a6 : Option IntKind} {a7 a8 : Bool} : kSlice (some ⟨a1, a2, a3, some e, a5, a6, a7, a8⟩) ro (.ref s g p off n) none (some (i64 (h : Int))) = if h ≤ n ∧ (ro.cells s g p).isSome = true then some ⟨.ref s g p off h, none, [], []⟩ else none := by
 simp only [kSlice, evInt, Option.isSome_some, if_true, Int.le_refl, Int.natCast_nonneg, true_and, Int.ofNat_le, Int.toNat_zero, Nat.add_zero, Int.sub_zero, Int.toNat_natCast]
theorem kSlice_lo {ro : Ro} {s g : Nat} {p : List Nat} {off n l : Nat} {a1 : Nat} {a2 : Bool} {a3 : List Value} {e : Nat} {a5 : List (Nat × Nat)} {a6 : Option IntKind} {a7 a8 : Bool} : kSlice (some ⟨a1, a2, a3, some e, a5, a6, a7, a8⟩) ro (.ref s g p off n) (some (i64 (l : Int))) none = if l ≤ n ∧ (ro.cells s g p).isSome = true then some ⟨.ref s g p (off + l) (n - l), none, [], []⟩ else none := by
 rw [zfx]
 simp only [Int.natCast_nonneg, true_and, Int.ofNat_le, Int.toNat_natCast]
 by_cases h : l ≤ n
 ·have : ((n : Int) - l).toNat = n - l := by omega
  rw [this]
 ·simp only [h, false_and, if_false]
theorem upr_ne {ro : Ro} {s g : Nat} {a : AV} {s' g' : Nat} (h : s' ≠ s) : upr ro s g a s' g' = ro s' g' := if_neg fun e => h e.1
theorem upr_eq {ro : Ro} {s g : Nat} {a : AV} : upr ro s g a s g = some a := if_pos ⟨rfl, rfl⟩
def widen : List Bool → List FP → List FP
 | true :: bs, a :: l => ⟨none, a.wr⟩ :: widen bs l
 | false :: bs, a :: l => a :: widen bs l
 | _, l => l
theorem leFP_widen : ∀ (bs : List Bool) (l : List FP), leFP l (widen bs l)
 | [], l => by cases l <;> exact leFP.refl _
 | true :: bs, [] => trivial
 | false :: bs, [] => trivial
 | true :: bs, a :: l => ⟨⟨trivial, fun _ h => h⟩, leFP_widen bs l⟩
 | false :: bs, a :: l => ⟨FP.le_refl a, leFP_widen bs l⟩
theorem leFP.get : ∀ {l m : List FP}, leFP l m → ∀ (i : Nat), (l[i]? = none ∧ m[i]? = none) ∨ ∃ a b, l[i]? = some a ∧ m[i]? = some b ∧ FP.le a b
 | [], [], _, i => .inl ⟨rfl, rfl⟩
 | a :: l, b :: m, h, 0 => .inr ⟨a, b, rfl, rfl, h.1⟩
 | a :: l, b :: m, h, i + 1 => by simpa using leFP.get h.2 i
 | [], _ :: _, h, _ => h.elim
 | _ :: _, [], h, _ => h.elim
theorem disj_mono {q r w w' : List Nat} (h1 : ∀ s, s ∈ q → s ∈ r) (h2 : ∀ s, s ∈ w → s ∈ w') (h : disj r w' = true) : disj q w = true := by
 unfold disj at *
 rw [List.all_eq_true] at *
 intro x hx
 have := h x (h1 x hx)
 simp only [Bool.not_eq_true', List.contains_eq_mem, decide_eq_false_iff_not] at *
 exact fun hm => this (h2 x hm)
theorem FP.half {a b a' b' : FP} (ha : FP.le a a') (hb : FP.le b b') (h : (match a'.rd with | some r => disj r b'.wr | none => b'.wr.isEmpty) = true) : (match a.rd with | some r => disj r b.wr | none => b.wr.isEmpty) = true := by
 have h1 := ha.1
 cases hr : a'.rd with
 | none =>
  rw [hr] at h
  have e : b.wr = [] := by
   cases hw : b.wr with
   | nil => rfl
   | cons x l =>
    have := hb.2 x (by rw [hw]; simp)
    rw [List.isEmpty_iff.1 h] at this
    cases this
  rw [e]
  cases a.rd with
  | none => rfl
  | some r => simp [disj]
 | some r =>
  rw [hr] at h h1
  obtain ⟨q, e, hq⟩ := h1
  rw [e]
  exact disj_mono hq hb.2 h
theorem FP.apart_mono {a b a' b' : FP} (ha : FP.le a a') (hb : FP.le b b') (h : a'.apart b' = true) : a.apart b = true := by
 unfold FP.apart at *
 simp only [Bool.and_eq_true] at *
 exact ⟨⟨FP.half ha hb h.1.1, FP.half hb ha h.1.2⟩, disj_mono ha.2 hb.2 h.2⟩
theorem okD_le {ops : Array Oper} {fp fin : List FP} (h : leFP fp fin) (hok : okD ops fin = true) : okD ops fp = true := by
 unfold okD at *
 rw [List.all_eq_true] at *
 intro i hi
 have := hok i hi
 rw [Bool.and_eq_true] at *
 refine ⟨this.1, ?_⟩
 have h2 := this.2
 rw [List.all_eq_true] at *
 intro j hj
 have h3 := h2 j hj
 unfold okPair at *
 cases hx : ops[j]? with
 | none => simp [hx] at h3
 | some x =>
  cases hy : ops[i]? with
  | none => simp [hx, hy] at h3
  | some y =>
   simp only [hx, hy] at h3 ⊢
   rcases h.get j with ⟨g1, g2⟩ | ⟨a, a', g1, g2, ga⟩
   ·simp [g2] at h3
   ·rcases h.get i with ⟨k1, k2⟩ | ⟨b, b', k1, k2, gb⟩
    ·simp [g2, k2] at h3
    ·simp only [g1, g2, k1, k2, Bool.or_eq_true, Bool.and_eq_true] at h3 ⊢
     rcases h3 with ⟨h4, h5⟩ | h4
     ·exact .inl ⟨h4, FP.apart_mono ga gb h5⟩
     ·exact .inr h4
theorem FIN_w {X : WX} {ops : Array Oper} {fp : List FP} {K : List Fr} {Q : Exit → St → Prop} {st : St} (bs : List Bool) (h : okD ops (widen bs fp) = true) (h2 : AFT X K Q .normal st) : FIN X ops fp K Q st := ⟨okD_le (leFP_widen bs fp) h, h2⟩
theorem Arr.exq {ro : Ro} {gn : Nat → Nat} {S g n w : Nat} {σ : Nat → Nat × Nat} {M : Nat → Nat → Int} (h : Arr ro gn S g σ M n w) {off m k : Nat} (hm : off + m ≤ n) (hk : 3 ≤ k) :
  exq k ro (.ref S g [] off m) (immLL (matL (fun i j => M (off + i) j) m w)) := by
 refine ⟨fun q hq => ?_, fun hp => by simp [pureA] at hp⟩
 obtain ⟨j, rfl⟩ : ∃ j, q = j + 3 := ⟨q - 3, by omega⟩
 simp only [ex, zef, h.arr, zei]
 have e : ((rws (fun i => AV.ref (σ i).1 (σ i).2 [] 0 w) n).drop off).take m = rws (fun i => AV.ref (σ (off + i)).1 (σ (off + i)).2 [] 0 w) m := by
  apply List.ext_getElem?
  intro i
  rw [List.getElem?_take]
  split
  ·rename_i hi
   rw [List.getElem?_drop, rws_get _ _ _ (by omega), rws_get _ _ _ hi]
  ·rename_i hi
   exact (List.getElem?_eq_none (by rw [zfe]; omega)).symm
 rw [e, rws_map]
 show AV.imm (rws _ m) = AV.imm ((matL _ m w).map immL)
 rw [show matL (fun i j => M (off + i) j) m w = rws (fun i => rws (fun j => M (off + i) j) w) m from rfl, rws_map]
 congr 1
 refine rws_congr fun i hi => ?_
 have hr := h.rw (off + i) (by omega)
 simp only [ex, zef, hr, zeh, List.drop_zero]
 rw [List.take_of_length_le (by rw [zfe]; exact Nat.le_refl _)]
 show AV.imm _ = AV.imm _
 rw [rws_map, rws_map]
theorem upg_le {gn : Nat → Nat} {T s m : Nat} (h : m ≤ gn s) : m ≤ upg gn T (gn T + 1) s := by
 unfold upg
 split
 ·rename_i e; subst e; omega
 ·exact h
theorem Arr.set {ro : Ro} {gn : Nat → Nat} {S g n w : Nat} {σ : Nat → Nat × Nat} {M M' : Nat → Nat → Int} (A : Arr ro gn S g σ M n w) {x T : Nat} {R : List AV} (hT : T ≠ S) (hR : R = rws (fun j => i64 (M' x j)) w)
  (hM : ∀ i, i ≠ x → i < n → ∀ j, j < w → M' i j = M i j) :
  Arr (upr (upr ro T (gn T + 1) (.row R)) S g (.bx ((rws (fun i => AV.ref (σ i).1 (σ i).2 [] 0 w) n).set x (.ref T (gn T + 1) [] 0 w)))) (upg gn T (gn T + 1)) S g (fun i => if i = x then (T, gn T + 1) else σ i) M' n w := by
 have new : ∀ i, i < n → ¬ ((σ i).1 = T ∧ (σ i).2 = gn T + 1) := by
  rintro i hi ⟨e1, e2⟩
  have := A.gnn i hi
  rw [e1, e2] at this; omega
 refine ⟨?_, fun i hi => ?_, fun i hi => ?_, fun i hi => ?_, fun i j hi hj e => ?_⟩
 ·rw [upr_eq, rws_set]
  congr 2
  refine rws_congr fun i _ => ?_
  split <;> rfl
 ·by_cases e : i = x
  ·subst e
   simp only [if_true]
   rw [upr_ne hT, upr_eq, hR]
  ·simp only [if_neg e]
   rw [upr_ne (A.ne i hi)]
   unfold upr
   rw [if_neg (new i hi), A.rw i hi]
   congr 2
   exact rws_congr fun j hj => by rw [hM i e hi j hj]
 ·by_cases e : i = x
  ·simp only [if_pos e, upg, if_true]; exact Nat.le_refl _
  ·simp only [if_neg e, upg]
   have := A.gnn i hi
   split
   ·rename_i e2; rw [e2] at this; omega
   ·exact this
 ·by_cases e : i = x
  ·simp only [if_pos e]; exact hT
  ·simp only [if_neg e]; exact A.ne i hi
 ·by_cases e1 : i = x <;> by_cases e2 : j = x
  ·omega
  ·simp only [if_pos e1, if_neg e2] at e
   exact absurd ⟨by rw [← e], by rw [← e]⟩ (new j hj)
  ·simp only [if_neg e1, if_pos e2] at e
   exact absurd ⟨by rw [e], by rw [e]⟩ (new i hi)
  ·simp only [if_neg e1, if_neg e2] at e
   exact A.inj i j hi hj e
theorem Arr.piv {ro : Ro} {gn : Nat → Nat} {S g n w : Nat} {σ : Nat → Nat × Nat} {M M' : Nat → Nat → Int} (A : Arr ro gn S g σ M n w) {d f T : Nat} {R : List AV} {X1 : AV} (hd : d < n) (hf : f < n) (hT : T ≠ S) (hR : R = rws (fun j => i64 (M' d j)) w)
  (hM : ∀ i, i ≠ d → i < n → ∀ j, j < w → M' i j = M (if i = f then d else i) j) :
  Arr (upr (upr (upr ro S g X1) T (gn T + 1) (.row R)) S g (.bx (((rws (fun i => AV.ref (σ i).1 (σ i).2 [] 0 w) n).set f (.ref (σ d).1 (σ d).2 [] 0 w)).set d (.ref T (gn T + 1) [] 0 w)))) (upg gn T (gn T + 1)) S g
   (fun i => if i = d then (T, gn T + 1) else if i = f then σ d else σ i) M' n w := by
 have new : ∀ i, i < n → ¬ ((σ i).1 = T ∧ (σ i).2 = gn T + 1) := by
  rintro i hi ⟨e1, e2⟩
  have := A.gnn i hi
  rw [e1, e2] at this; omega
 have old : ∀ i, i ≠ d → i < n → (if i = f then σ d else σ i) = σ (if i = f then d else i) := fun i _ _ => by split <;> rfl
 have lt : ∀ i, i < n → (if i = f then d else i) < n := fun i hi => by split <;> omega
 refine ⟨?_, fun i hi => ?_, fun i hi => ?_, fun i hi => ?_, fun i j hi hj e => ?_⟩
 ·rw [upr_eq, rws_set, rws_set]
  congr 2
  refine rws_congr fun i _ => ?_
  split
  ·rfl
  ·split <;> rfl
 ·by_cases e : i = d
  ·subst e
   simp only [if_true]
   rw [upr_ne hT, upr_eq, hR]
  ·simp only [if_neg e]
   rw [old i e hi, upr_ne (A.ne _ (lt i hi))]
   have := new _ (lt i hi)
   have h3 : upr (upr ro S g X1) T (gn T + 1) (.row R) (σ (if i = f then d else i)).1 (σ (if i = f then d else i)).2 = upr ro S g X1 (σ (if i = f then d else i)).1 (σ (if i = f then d else i)).2 := if_neg this
   rw [h3, upr_ne (A.ne _ (lt i hi)), A.rw _ (lt i hi)]
   congr 2
   exact rws_congr fun j hj => by rw [hM i e hi j hj]
 ·by_cases e : i = d
  ·simp only [if_pos e, upg, if_true]; exact Nat.le_refl _
  ·simp only [if_neg e]
   rw [old i e hi]
   exact upg_le (A.gnn _ (lt i hi))
 ·by_cases e : i = d
  ·simp only [if_pos e]; exact hT
  ·simp only [if_neg e]; rw [old i e hi]; exact A.ne _ (lt i hi)
 ·by_cases e1 : i = d <;> by_cases e2 : j = d
  ·omega
  ·simp only [if_pos e1, if_neg e2] at e
   rw [old j e2 hj] at e
   exact absurd ⟨by rw [← e], by rw [← e]⟩ (new _ (lt j hj))
  ·simp only [if_neg e1, if_pos e2] at e
   rw [old i e1 hi] at e
   exact absurd ⟨by rw [e], by rw [e]⟩ (new _ (lt i hi))
  ·simp only [if_neg e1, if_neg e2] at e
   rw [old i e1 hi, old j e2 hj] at e
   have := A.inj _ _ (lt i hi) (lt j hj) e
   split at this <;> split at this <;> omega
theorem Arr.wr {ro : Ro} {gn : Nat → Nat} {S g n w : Nat} {σ : Nat → Nat × Nat} {M M' : Nat → Nat → Int} (A : Arr ro gn S g σ M n w) {x : Nat} (hx : x < n) {R : List AV} (hR : R = rws (fun j => i64 (M' x j)) w) (hM : ∀ i, i ≠ x → i < n → ∀ j, j < w → M' i j = M i j) :
  Arr (upr ro (σ x).1 (σ x).2 (.row R)) gn S g σ M' n w := by
 refine ⟨?_, fun i hi => ?_, A.gnn, A.ne, A.inj⟩
 ·rw [upr_ne (fun e => A.ne x hx e.symm)]; exact A.arr
 ·by_cases e : i = x
  ·subst e; rw [upr_eq, hR]
  ·have : ¬ ((σ i).1 = (σ x).1 ∧ (σ i).2 = (σ x).2) := fun h => e (A.inj i x hi hx (Prod.ext h.1 h.2))
   have h3 : upr ro (σ x).1 (σ x).2 (.row R) (σ i).1 (σ i).2 = ro (σ i).1 (σ i).2 := if_neg this
   rw [h3, A.rw i hi]
   congr 2
   exact rws_congr fun j hj => by rw [hM i e hi j hj]
theorem Arr.swap {ro : Ro} {gn : Nat → Nat} {S g n w : Nat} {σ : Nat → Nat × Nat} {M : Nat → Nat → Int} (A : Arr ro gn S g σ M n w) {d f : Nat} {X1 : AV} (hd : d < n) (hf : f < n) :
  Arr (upr (upr ro S g X1) S g (.bx (((rws (fun i => AV.ref (σ i).1 (σ i).2 [] 0 w) n).set d (.ref (σ f).1 (σ f).2 [] 0 w)).set f (.ref (σ d).1 (σ d).2 [] 0 w)))) gn S g (fun i => σ (if i = d then f else if i = f then d else i)) (swp M f d) n w := by
 have lt : ∀ i, i < n → (if i = d then f else if i = f then d else i) < n := fun i hi => by split <;> (try split) <;> omega
 refine ⟨?_, fun i hi => ?_, fun i hi => A.gnn _ (lt i hi), fun i hi => A.ne _ (lt i hi), fun i j hi hj e => ?_⟩
 ·rw [upr_eq, rws_set, rws_set]
  congr 2
  refine rws_congr fun i _ => ?_
  by_cases h1 : i = f
  ·rw [if_pos h1]
   by_cases h2 : i = d
   ·rw [if_pos h2]; subst h1; subst h2; rfl
   ·rw [if_neg h2, if_pos h1]
  ·rw [if_neg h1]
   by_cases h2 : i = d
   ·rw [if_pos h2, if_pos h2]
   ·rw [if_neg h2, if_neg h2, if_neg h1]
 ·show upr (upr ro S g X1) S g _ _ _ = _
  rw [upr_ne (A.ne _ (lt i hi)), upr_ne (A.ne _ (lt i hi)), A.rw _ (lt i hi)]
  rfl
 ·have := A.inj _ _ (lt i hi) (lt j hj) e
  split at this <;> split at this <;> (try split at this) <;> (try split at this) <;> omega
theorem Arr.congr {ro : Ro} {gn : Nat → Nat} {S g n w : Nat} {σ : Nat → Nat × Nat} {M M' : Nat → Nat → Int} (A : Arr ro gn S g σ M n w) (h : ∀ i, i < n → ∀ j, j < w → M' i j = M i j) : Arr ro gn S g σ M' n w :=
 ⟨A.arr, fun i hi => by rw [A.rw i hi]; congr 2; exact rws_congr fun j hj => by rw [h i hi j hj], A.gnn, A.ne, A.inj⟩
theorem Arr.frame {ro ro' : Ro} {gn gn' : Nat → Nat} {S g n w : Nat} {σ : Nat → Nat × Nat} {M : Nat → Nat → Int} (A : Arr ro gn S g σ M n w) (h1 : ro' S g = ro S g) (h2 : ∀ i, i < n → ro' (σ i).1 (σ i).2 = ro (σ i).1 (σ i).2) (h3 : ∀ i, i < n → gn (σ i).1 ≤ gn' (σ i).1) : Arr ro' gn' S g σ M n w :=
 ⟨h1.trans A.arr, fun i hi => (h2 i hi).trans (A.rw i hi), fun i hi => Nat.le_trans (A.gnn i hi) (h3 i hi), A.ne, A.inj⟩
theorem outL_arr {w : Nat} {σ : Nat → Nat × Nat} {R : Nat → List AV} : ∀ (l : List Nat) {ro : Ro}, l.Nodup → (∀ i j, i ∈ l → j ∈ l → σ i = σ j → i = j) → (∀ i, i ∈ l → ro (σ i).1 (σ i).2 = some (.row (R i)) ∧ (R i).length = w) →
  outL ro (l.map fun i => .ref (σ i).1 (σ i).2 [] 0 w) = some (l.map fun i => .row (R i), l.map σ)
 | [], ro, _, _, _ => rfl
 | i :: l, ro, hn, hi, hr => by
  obtain ⟨h1, h2⟩ := hr i (by simp)
  have hn' := List.nodup_cons.1 hn
  have ih := outL_arr (w := w) (σ := σ) (R := R) l (ro := ro.dl [((σ i).1, (σ i).2)]) hn'.2 (fun a b ha hb => hi a b (by simp [ha]) (by simp [hb])) (fun a ha => by
   refine ⟨?_, (hr a (by simp [ha])).2⟩
   show upr ro (σ i).1 (σ i).2 .dead (σ a).1 (σ a).2 = _
   unfold upr
   rw [if_neg]
   ·exact (hr a (by simp [ha])).1
   ·rintro ⟨e1, e2⟩
    have := hi a i (by simp [ha]) (by simp) (Prod.ext e1 e2)
    subst this
    exact hn'.1 ha)
  simp only [List.map_cons, outL, zes, h1, h2, if_true, ih]
  rfl
theorem Arr.out {ro : Ro} {gn : Nat → Nat} {S g n w : Nat} {σ : Nat → Nat × Nat} {M : Nat → Nat → Int} (h : Arr ro gn S g σ M n w) {d : Nat} (hd : d ≤ n) : ∃ dl, zhk ro (.ref S g [] 0 d) = some (matA M d w, dl) := by
 have key : ∀ m, m ≤ n → outL (upr ro S g .dead) (rws (fun i => AV.ref (σ i).1 (σ i).2 [] 0 w) m) = some (rws (fun i => .row (rws (fun j => i64 (M i j)) w)) m, (List.range m).map σ) := by
  intro m hm
  refine outL_arr (R := fun i => rws (fun j => i64 (M i j)) w) (List.range m) List.nodup_range (fun i j hi hj => h.inj i j (by simp at hi; omega) (by simp at hj; omega)) (fun i hi => ?_)
  have hi : i < n := by simp at hi; omega
  refine ⟨?_, zfe _ _⟩
  unfold upr
  rw [if_neg (fun e => h.ne i hi e.1)]
  exact h.rw i hi
 have e : (rws (fun i => AV.ref (σ i).1 (σ i).2 [] 0 w) n).take d = rws (fun i => AV.ref (σ i).1 (σ i).2 [] 0 w) d := by
  apply List.ext_getElem?
  intro i
  rw [List.getElem?_take]
  split
  ·rename_i hi
   rw [rws_get _ _ _ (by omega), rws_get _ _ _ hi]
  ·rename_i hi
   exact (List.getElem?_eq_none (by rw [zfe]; omega)).symm
 refine ⟨(S, g) :: (List.range d).map σ, ?_⟩
 simp only [zhk, h.arr, zfe]
 by_cases hdn : d = n
 ·subst hdn
  rw [if_pos rfl, key d (Nat.le_refl _)]
 ·rw [if_neg hdn, if_pos hd, e, key d hd]
end Go.Proofs.YtkimbjcaoolfpaaGreatDoor
/- Reduced bases by the reference. -/
namespace Go.Proofs.YtkimbjcaoolfpaaGreatDoor
open Go.RowKit
set_option maxRecDepth 1000000
theorem matL_len2 (G : Nat → Nat → Int) (k l : Nat) : (matL G k l).length = k := zfe _ _
theorem matL_row2 {G : Nat → Nat → Int} {k l x : Nat} (hx : x < k) : (row (matL G k l) x).length = l := by rw [matL_row hx, zfe]
theorem rowLL_matLs {M : Nat → Nat → Int} {n w : Nat} : AV.row (rws (fun x => rowL (row (matL M n w) x)) (matL M n w).length) = matA M n w := by
 rw [matL_len2]
 congr 1
 refine rws_congr fun x hx => ?_
 rw [matL_row hx, rowL, rws_map]
theorem cBasis {a : AV} {n w : Nat} {M : Nat → Nat → Int} (ha : isLL a (matL M n w)) (h0 : 0 < n) (hn : n ≤ 65536) (hw : w ≤ 65536) (hM : numM M) : CallOK Tryz.prog 64 [a] (matA (gj n M w).1 (gj n M w).2.1 w) := by
 have c1 := cOwn2 ha (by rw [matL_len2]; exact Nat.le_trans hn (by decide)) (fun i hi => by rw [matL_len2] at hi; rw [matL_row2 hi]; exact Nat.le_trans hw (by decide))
 rw [rowLL_matLs] at c1
 have h0' : (0 : Int) < n := by omega
 refine call_of (fn := Tryz.f64) (code := bodyOf Tryz.f64) Tryz.func64 rfl (by kernel_rfl) (noRef_mat _ _ _) ?_
 intro sl hs
 have s0 : sl 0 = a := hs 0
 dsimp only [Tryz.f64, bodyOf, Option.getD]
 simp (maxSteps := 10000000) (disch := first | assumption | omega) only [go_sem, ↓reduceIte, Nat.reduceEqDiff, reduceCtorEq, Nat.reduceAdd, Nat.reduceMul, Nat.reduceLeDiff, zc, Int.reduceToNat, s0]
 refine CLL_pure _ c1 PUt rfl rfl ?_
 simp (maxSteps := 10000000) (disch := first | assumption | omega) only [go_sem, ↓reduceIte, Nat.reduceEqDiff, reduceCtorEq, Nat.reduceAdd, Nat.reduceMul, Nat.reduceLeDiff, zc, Int.reduceToNat, s0, impE_row]
 refine WK_forG (fun k st => st.sl 3 = .ref 8208 (st.gn 8208) [] 0 n ∧ st.sl 4 = i64 ((gj n M k).2.1 : Nat) ∧ st.sl 5 = i64 (k : Int) ∧ (∃ σ, Arr st.ro st.gn 8208 (st.gn 8208) σ (gj n M k).1 n w)) w (Arr.unp (S := 8208) (g := 1) (b := 3) (n := n) (w := w) (M := M) (by decide) Ur).1 ?_ ?_ ?_
 ·simp only [unp_sl, unp_gn (show (8208 : Nat) ≠ 3 by decide), ↓za, ↓reduceIte, Nat.reduceEqDiff, zb, reduceCtorEq]
  exact ⟨rfl, rfl, _, (Arr.unp (S := 8208) (g := 1) (b := 3) (n := n) (w := w) (M := M) (by decide) Ur).2⟩
 ·rintro k sl ro gn hk ⟨s3, s4, s5, q⟩
  dsimp only at s3 s4 s5
  have hk' : (k : Int) < (w : Nat) := by omega
  obtain ⟨σ, A⟩ := q
  have ok := gj_ok (n := n) hM k
  obtain ⟨G, d, z, hX⟩ : ∃ G d z, gj n M k = (G, d, z) := ⟨_, _, _, rfl⟩
  have hS : gj n M (k + 1) = gst n k (G, d, z) := by rw [gj, hX]
  rw [hX] at A s4 ok
  dsimp only at A s4 ok
  obtain ⟨hG, hd, -⟩ := ok
  obtain ⟨f1, f2, f3, f4⟩ := fdf_spec G (k := k) hd
  generalize hf : fdf G k n d = f at f1 f2 f3 f4
  have a1 := A.arr
  have a2 := A.rw 0 h0
  simp (maxSteps := 10000000) (disch := first | assumption | omega) only [go_sem, ↓reduceIte, Nat.reduceEqDiff, reduceCtorEq, Nat.reduceAdd, Nat.reduceMul, Nat.reduceLeDiff, zc, Int.reduceToNat, s3, s4, s5, hk', hk, a1, a2, rws_get, h0', h0, kIdx_refZ]
  refine WK_for (fun x st => st.sl 3 = .ref 8208 (st.gn 8208) [] 0 n ∧ st.sl 4 = i64 (d : Nat) ∧ st.sl 5 = i64 (k : Int) ∧ st.sl 6 = i64 ((d + x : Nat) : Int) ∧ (Arr st.ro st.gn 8208 (st.gn 8208) σ G n w)) ((f - d)) ?_ ?_ ?_
  ·simp only [↓za, ↓reduceIte, Nat.reduceEqDiff, zb, reduceCtorEq]
   exact ⟨s3, s4, s5, rfl, A⟩
  ·rintro x sl ro gn hx ⟨s3, s4, s5, s6, A⟩
   dsimp only at s3 s4 s5 s6
   have hx' : (x : Int) < ((f - d) : Nat) := by omega
   dsimp only at A
   have hx1 : d + x < n := by omega
   have hx2 : ((d + x : Nat) : Int) < n := by omega
   have a1 := A.arr
   have a3 := A.rw (d + x) hx1
   have e1 := f3 (d + x) (by omega) (by omega)
   simp (maxSteps := 10000000) (disch := first | assumption | omega) only [go_sem, ↓reduceIte, Nat.reduceEqDiff, reduceCtorEq, Nat.reduceAdd, Nat.reduceMul, Nat.reduceLeDiff, zc, Int.reduceToNat, s3, s4, s5, s6, hx', hx, a1, a3, rws_get, hx1, hx2, e1, hk]
   exact ⟨i64c (by omega), A⟩
  ·rintro sl ro gn ⟨s3, s4, s5, s6, A⟩
   dsimp only at s3 s4 s5 s6
   have hx' : ¬ (((f - d) : Nat) : Int) < ((f - d) : Nat) := by omega
   dsimp only at A
   have a1 := A.arr
   have ef : d + (f - d) = f := by omega
   rw [ef] at s6
   by_cases hfn : f = n
   ·have e0 : gst n k (G, d, z) = (G, d, 0) := by simp only [gst, hf, hfn, if_true]
    subst hfn
    simp (maxSteps := 10000000) (disch := first | assumption | omega) only [go_sem, ↓reduceIte, Nat.reduceEqDiff, reduceCtorEq, Nat.reduceAdd, Nat.reduceMul, Nat.reduceLeDiff, zc, Int.reduceToNat, s3, s4, s5, s6, hx', a1]
    rw [hS, e0]
    exact ⟨rfl, i64c (by omega), σ, A⟩
   ·have hlt : f < n := by omega
    have hlt' : (f : Int) < n := by omega
    have hlt2 : f + 1 ≤ n := hlt
    have hdn : d < n := by omega
    have hdn2 : d + 1 ≤ n := hdn
    have a3 := A.rw f hlt
    have a4 := A.rw d hdn
    have n3 := A.ne f hlt
    have n4 := A.ne d hdn
    have e1 := f4 hlt
    have hE : elm (swp G f d) d k = elm (swp G f d) d k := rfl
    simp (maxSteps := 10000000) (disch := first | assumption | omega) only [go_sem, ↓reduceIte, Nat.reduceEqDiff, reduceCtorEq, Nat.reduceAdd, Nat.reduceMul, Nat.reduceLeDiff, zc, Int.reduceToNat, s3, s4, s5, s6, hx', a1, a3, a4, rws_get, hlt, hlt', hlt2, hdn, hdn2, eq_false e1, eq_false n3, eq_false n4, hk]
    refine CLL_pure _ (c59 (hG f k).1 (hG f k).2) PUt rfl rfl ?_
    simp (maxSteps := 10000000) (disch := first | assumption | omega) only [go_sem, ↓reduceIte, Nat.reduceEqDiff, reduceCtorEq, Nat.reduceAdd, Nat.reduceMul, Nat.reduceLeDiff, zc, Int.reduceToNat, s3, s4, s5, s6, hx']
    refine CLL_q _ (cScale (isL_imm _) (by rw [zfe]; exact Nat.le_trans hw (by decide)) (fun j => ?_) (num_pw (G f k) 55439)) (.cons (exq_refL (xs := rws (fun j => G f j) w) (by rw [upr_ne n3, a3, rowL, rws_map]) (zfe _ _).symm (by decide)) (.cons (exq_sc _ _ _ (by decide)) .nil)) rfl rfl (noI_row _ (noIL_map _ (fun _ => rfl) _)) ?_
    ·exact numL_rws _ _ (fun i _ => hG f i) j
    simp (maxSteps := 10000000) (disch := first | assumption | omega) only [go_sem, ↓reduceIte, Nat.reduceEqDiff, reduceCtorEq, Nat.reduceAdd, Nat.reduceMul, Nat.reduceLeDiff, zc, Int.reduceToNat, s3, s4, s5, s6, hx', impE_row, a1, a3, a4, rws_get, hdn, hdn2, zfe, List.length_set]
    refine WK_for (fun x st => st.sl 3 = .ref 8208 (st.gn 8208) [] 0 n ∧ st.sl 4 = i64 (d : Nat) ∧ st.sl 5 = i64 (k : Int) ∧ st.sl 8 = i64 (x : Int) ∧ (∃ σ', st.sl 7 = .ref (σ' d).1 (σ' d).2 [] 0 w ∧ Arr st.ro st.gn 8208 (st.gn 8208) σ' (elx G f d k x) n w)) n ?_ ?_ ?_
    ·simp only [↓za, ↓reduceIte, Nat.reduceEqDiff, zb, reduceCtorEq, s3, s4, s5]
     refine ⟨rfl, _, ?_, A.piv (M' := elx G f d k 0) hdn hlt (by decide) (rws_congr fun j hj => by rw [elx_d, nrm_swp, atI_rws _ hj]) fun i h1 h2 j hj => by rw [elx_ge h1 (Nat.zero_le _)]; unfold swp; rw [if_neg h1]⟩
     simp only [if_true]
    ·rintro x sl ro gn hx ⟨s3, s4, s5, s8, q⟩
     dsimp only at s3 s4 s5 s8
     have hx' : (x : Int) < (n : Nat) := by omega
     obtain ⟨τ, s7, B⟩ := q
     dsimp only at s7 B
     have b1 := B.arr
     have b3 := B.rw x hx
     have b4 := B.rw d hdn
     have m3 := B.ne x hx
     have m4 := B.ne d hdn
     have hx2 : x + 1 ≤ n := hx
     by_cases hxd : x = d
     ·have hxd' : (x : Int) = d := by omega
      simp (maxSteps := 10000000) (disch := first | assumption | omega) only [go_sem, ↓reduceIte, Nat.reduceEqDiff, reduceCtorEq, Nat.reduceAdd, Nat.reduceMul, Nat.reduceLeDiff, zc, Int.reduceToNat, s3, s4, s5, s8, hx', hx, b1, hxd']
      refine ⟨i64c (by omega), τ, s7, ?_⟩
      rw [hxd]
      rw [hxd] at B
      have : elx G f d k (d + 1) = elx G f d k d := by funext i j; exact elx_same
      rw [this]; exact B
     ·have hxd' : ¬ (x : Int) = d := by omega
      have eg : ∀ j, elx G f d k x x j = swp G f d x j := fun j => elx_ge hxd (Nat.le_refl _)
      simp only [eg, elx_d] at b3 b4
      have hq := num_swp hG f d x k
      have hq2 := hq
      unfold num at hq2
      simp (maxSteps := 10000000) (disch := first | assumption | omega) only [go_sem, ↓reduceIte, Nat.reduceEqDiff, reduceCtorEq, Nat.reduceAdd, Nat.reduceMul, Nat.reduceLeDiff, zc, Int.reduceToNat, s3, s4, s5, s8, hx', hx, b1, b3, b4, s7, eq_false hxd', rws_get, hx2, eq_false m3, eq_false m4, hk]
      refine CLLD_pure _ (cModS (by omega) (by omega)) PUt rfl ?_
      simp (maxSteps := 10000000) (disch := first | assumption | omega) only [go_sem, ↓reduceIte, Nat.reduceEqDiff, reduceCtorEq, Nat.reduceAdd, Nat.reduceMul, Nat.reduceLeDiff, zc, Int.reduceToNat, s3, s4, s5, s8, hx', hx]
      have l1 : (rws (fun j => swp G f d x j) w).length = w := zfe _ _
      have l2 : (rws (fun j => nrm (swp G f d) d k j) w).length = w := zfe _ _
      have cP := cPlus (isL_imm (rws (fun j => swp G f d x j) w)) (isL_imm (rws (fun j => nrm (swp G f d) d k j) w)) (by rw [l1]; exact Nat.le_trans hw (by decide)) (by rw [l1, l2]; exact Nat.le_refl _) (numL_rws _ _ fun j _ => num_swp hG f d x j) (numL_rws _ _ fun j _ => num_nrm _ _ _ _) (num_mod (0 - swp G f d x k))
      have e2 : (rws (fun j => i64 (plV (rws (fun j => swp G f d x j) w) (rws (fun j => nrm (swp G f d) d k j) w) ((0 - swp G f d x k) % 55441) j)) w) = rws (fun j => i64 (elx G f d k (x + 1) x j)) w := by
       refine rws_congr fun j hj => ?_
       unfold plV
       rw [atI_rws _ hj, atI_rws _ hj, elx_at hxd, show (0 - swp G f d x k) = - swp G f d x k by omega, neg_emod_mul]
      rw [l1, e2] at cP
      refine CLLD_q _ cP (.cons (exq_refL (by rw [b3, rowL, rws_map]) l1.symm (by decide)) (.cons (exq_refL (by rw [b4, rowL, rws_map]) l2.symm (by decide)) (.cons (exq_sc _ _ _ (by decide)) .nil))) rfl (noI_row _ (noIL_map _ (fun _ => rfl) _)) ?_
      simp (maxSteps := 10000000) (disch := first | assumption | omega) only [go_sem, ↓reduceIte, Nat.reduceEqDiff, reduceCtorEq, Nat.reduceAdd, Nat.reduceMul, Nat.reduceLeDiff, zc, Int.reduceToNat, s3, s4, s5, s8, hx', hx, impE_row, b1, rws_get, hx2, zfe]
      refine FIN_w [false, false, false, false, false, false, false, false, false, false, false, false, true, true, false, false, true] (by kernel_rfl) ?_
      simp (maxSteps := 10000000) (disch := first | assumption | omega) only [go_sem, ↓reduceIte, Nat.reduceEqDiff, reduceCtorEq, Nat.reduceAdd, Nat.reduceMul, Nat.reduceLeDiff, zc, Int.reduceToNat, s3, s4, s5, s8, hx', hx, b1, s7]
      have nd : ¬ d = x := fun e => hxd e.symm
      refine ⟨i64c (by omega), _, ?_, B.set (by decide) rfl fun i h1 h2 j hj => elx_ne h1⟩
      simp only [if_neg nd]
    ·rintro sl ro gn ⟨s3, s4, s5, s8, q⟩
     dsimp only at s3 s4 s5 s8
     have hx' : ¬ ((n : Nat) : Int) < (n : Nat) := by omega
     obtain ⟨τ, s7, B⟩ := q
     dsimp only at s7 B
     have b1 := B.arr
     simp (maxSteps := 10000000) (disch := first | assumption | omega) only [go_sem, ↓reduceIte, Nat.reduceEqDiff, reduceCtorEq, Nat.reduceAdd, Nat.reduceMul, Nat.reduceLeDiff, zc, Int.reduceToNat, s3, s4, s5, s8, hx', b1]
     have e3 : gst n k (G, d, z) = (elm (swp G f d) d k, d + 1, (if d < f then -z % 55441 else z) * G f k % 55441) := by simp only [gst, hf, hfn, if_false]
     rw [hS, e3]
     dsimp only
     refine ⟨i64c (by omega), i64c (by omega), τ, ⟨B.arr, fun i hi => ?_, B.gnn, B.ne, B.inj⟩⟩
     rw [B.rw i hi]
     congr 2
     exact rws_congr fun j _ => by rw [elx_end hi]
 ·rintro sl ro gn ⟨s3, s4, s5, q⟩
  dsimp only at s3 s4 s5
  have hk' : ¬ ((w : Nat) : Int) < (w : Nat) := by omega
  obtain ⟨σ, A⟩ := q
  dsimp only at A
  have ok := gj_ok (n := n) hM w
  have a1 := A.arr
  have a2 := A.rw 0 h0
  have hd' : ((gj n M w).2.1 : Int) ≤ n := by have := ok.2.1; omega
  simp (maxSteps := 10000000) (disch := first | assumption | omega) only [go_sem, ↓reduceIte, Nat.reduceEqDiff, reduceCtorEq, Nat.reduceAdd, Nat.reduceMul, Nat.reduceLeDiff, zc, Int.reduceToNat, s3, s4, s5, hk', a1, a2, rws_get, h0', h0, kIdx_refZ, hd', ok.2.1, Option.map_none, Option.map_some, kSlice_hi]
  obtain ⟨dl, ho⟩ := A.out ok.2.1
  simp only [retR, resL, outT, ↓za, ↓reduceIte, Nat.reduceEqDiff, zb, reduceCtorEq, ho]
end Go.Proofs.YtkimbjcaoolfpaaGreatDoor
