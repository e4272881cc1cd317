/- Texts joined: B1 B0 B2 B3 B4 B5 B6 B7. -/
import Derived.ChangeOld
import Derived.Below
import Derived.Carry
import Derived.Deep.Slices
import Derived.ChangeSlices
import Derived.Lib.SmallJoins
import Derived.Test.YtgcnmlecihegcaaGreatMe
import Derived.Test.YtgcnmlecihegcaaGreatMj
import Derived.Test.YtgcnmlecihegcaaGreatMk
import Derived.Test.YtgcnmlecihegcaaGreatMy
set_option linter.all false
/- Bytes, numbers of 64 bits without a sign, and the sources of numbers that follow from a code. -/
namespace Go.Proofs.YtgcnmlecihegcaaGreat
open Go.RowKit
set_option maxRecDepth 1000000
theorem impE_t2 (b : Nat) (gn : Nat → Nat) (v x : Value) : impE b gn (.tup [.sc v, .sc x]) = ⟨.tup [.sc v, .sc x], none, [], []⟩ := nr _
attribute [go_sem] impE_t2 impE_agg2 kFieldV
abbrev u64 (n : Int) : AV := .sc (.int .u64 n)
abbrev u8 (n : Int) : AV := .sc (.int .u8 n)
def isB (a : AV) (xs : List Int) : Prop := a = .imm (xs.map u8) ∨ (xs = [] ∧ ∃ o c, a = .sc (.slice o 0 c))
theorem isB_pure {a : AV} {xs : List Int} (h : isB a xs) : pureA a = true := by
 rcases h with rfl | ⟨_, o, c, rfl⟩
 · simp only [pureA]
   induction xs with
   | nil => rfl
   | cons x xs ih => simp only [List.map_cons, pureL, pureA, ih, Bool.and_self]
 · rfl
theorem isB_sites {a : AV} {xs : List Int} (h : isB a xs) : zdy a = [] := by
 rcases h with rfl | ⟨_, o, c, rfl⟩ <;> rfl
theorem isB_cellB {a : AV} {xs : List Int} (ro : Ro) (h : isB a xs) : cellOkB ro a = true := by
 rcases h with rfl | ⟨_, o, c, rfl⟩ <;> rfl
theorem isB_lift {a : AV} {xs : List Int} (s g : Nat) (p : List Nat) (h : isB a xs) : lift s g p a = a := by
 rcases h with rfl | ⟨_, o, c, rfl⟩ <;> rfl
theorem isB_len {a : AV} {xs : List Int} (h : isB a xs) {ro : Ro} {a1 : Nat} {a2 : Bool} {a3 : List Value} {e : Nat} {a5 : List (Nat × Nat)} {a6 : Option IntKind} {a7 a8 : Bool} : kLen1 (some ⟨a1, a2, a3, some e, a5, a6, a7, a8⟩) ro a = some ⟨i64 xs.length, none, [], []⟩ := by
 rcases h with rfl | ⟨rfl, o, c, rfl⟩
 · simp [kLen1]
 · rfl
theorem isB_idx {a : AV} {xs : List Int} (h : isB a xs) {k : Nat} (hk : k < xs.length) {ro : Ro} {a1 : Nat} {a2 : Bool} {a3 : List Value} {e : Nat} {a5 : List (Nat × Nat)} {a6 : Option IntKind} {a7 a8 : Bool} : kIdx (some ⟨a1, a2, a3, some e, a5, a6, a7, a8⟩) ro a (i64 (k : Int)) = some ⟨.iptr [u8 (atI xs k)], none, [], []⟩ := by
 rcases h with rfl | ⟨rfl, o, c, rfl⟩
 · simp [kIdx, hk, atI]
 · simp at hk
theorem isB_cells {a : AV} {xs : List Int} (h : isB a xs) : zem a = [a] := by
 rcases h with rfl | ⟨_, o, c, rfl⟩ <;> rfl
theorem tiB1 : ti0 5 = some ⟨1, false, [Value.int .u8 0], none, [], some .u8, false, false⟩ := by kernel_rfl
theorem tiB2 : ti0 43 = some ⟨1, false, [Value.slice none 0 0], some 5, [], none, false, false⟩ := by kernel_rfl
theorem tiB3 : ti0 60 = some ⟨1, false, [Value.int .u64 0], none, [], some .u64, false, false⟩ := by kernel_rfl
theorem tiB4 : ti0 110 = some ⟨3, true, [Value.slice none 0 0, Value.int .i64 0, Value.int .u64 0], none, [(0, 43), (1, 3), (2, 60)], none, false, false⟩ := by kernel_rfl
theorem tiB5 : ti0 90 = some ⟨3, true, [Value.slice none 0 0, Value.int .i64 0, Value.int .u64 0], none, [(0, 43), (1, 3), (2, 60)], none, false, false⟩ := by kernel_rfl
attribute [go_sem] isB_len isB_idx isB_lift isB_cellB isB_sites isB_pure tiB1 tiB2 tiB3 tiB4 tiB5
def wU (n : Int) : Int := IntKind.wrap .u64 n
def shU (n : Int) : Int := n.fdiv (2 ^ 33)
def anU (n : Int) : Int := IntKind.wrap .u64 ((BitVec.ofInt 64 n &&& BitVec.ofInt 64 16777215).toNat : Nat)
theorem anU_rng (n : Int) : 0 ≤ anU n ∧ anU n ≤ 16777215 := by
 have h : (BitVec.ofInt 64 n &&& BitVec.ofInt 64 16777215).toNat ≤ 16777215 := by
   rw [BitVec.toNat_and]
   have : (BitVec.ofInt 64 16777215).toNat = 16777215 := by decide
   rw [this]
   exact Nat.and_le_right
 unfold anU
 have e : IntKind.bits .u64 = 64 := rfl
 have s : IntKind.signed .u64 = false := rfl
 simp only [IntKind.wrap, e, s, Bool.false_and, Bool.false_eq_true, if_false]
 generalize (BitVec.ofInt 64 n &&& BitVec.ofInt 64 16777215).toNat = m at h
 omega
section
variable {ro : Ro} {a b : Int} {a1 : Nat} {a2 : Bool} {a3 : List Value} {e : Option Nat} {a5 : List (Nat × Nat)} {a6 : Option IntKind} {a7 a8 : Bool}
theorem kB_addU : kBin0 (some ⟨a1, a2, a3, e, a5, a6, a7, a8⟩) ro .add (u64 a) (u64 b) = some ⟨u64 (wU (a + b)), none, [], []⟩ := nr _
theorem kB_mulU : kBin0 (some ⟨a1, a2, a3, e, a5, a6, a7, a8⟩) ro .mul (u64 a) (u64 b) = some ⟨u64 (wU (a * b)), none, [], []⟩ := nr _
theorem kB_shrU : kBin0 (some ⟨a1, a2, a3, e, a5, a6, a7, a8⟩) ro .shr (u64 a) (u64 33) = some ⟨u64 (shU a), none, [], []⟩ := nr _
theorem kB_andU : kBin0 (some ⟨a1, a2, a3, e, a5, a6, a7, a8⟩) ro .and (u64 a) (u64 16777215) = some ⟨u64 (anU a), none, [], []⟩ := nr _
variable {k1 : IntKind} {c1 : Nat} {c2 : Bool} {c3 : List Value} {f : Option Nat} {c5 : List (Nat × Nat)} {c7 c8 : Bool}
theorem kConv_iU : kConv (some ⟨a1, a2, a3, e, a5, some k1, a7, a8⟩) (some ⟨c1, c2, c3, f, c5, some .u64, c7, c8⟩) (i64 a) = some ⟨u64 (wU a), none, [], []⟩ := nr _
theorem kConv_bU : kConv (some ⟨a1, a2, a3, e, a5, some k1, a7, a8⟩) (some ⟨c1, c2, c3, f, c5, some .u64, c7, c8⟩) (u8 a) = some ⟨u64 (wU a), none, [], []⟩ := nr _
theorem kConv_Ui : kConv (some ⟨a1, a2, a3, e, a5, some k1, a7, a8⟩) (some ⟨c1, c2, c3, f, c5, some .i64, c7, c8⟩) (u64 a) = some ⟨i64 (wrF a), none, [], []⟩ := by rw [wrF_eq]; rfl
theorem kConv_bi : kConv (some ⟨a1, a2, a3, e, a5, some k1, a7, a8⟩) (some ⟨c1, c2, c3, f, c5, some .i64, c7, c8⟩) (u8 a) = some ⟨i64 (wrF a), none, [], []⟩ := by rw [wrF_eq]; rfl
end
attribute [go_sem] kB_addU kB_mulU kB_shrU kB_andU kConv_iU kConv_bU kConv_Ui kConv_bi
def nxH (h : Int) : Int := wU (wU (h * 6364136223846793005) + 1442695040888963407)
def nxX (h : Int) : Int := anU (shU (nxH h))
abbrev srcV (a : AV) (at' h : Int) : AV := .bx [a, i64 at', u64 h]
section
variable {a : AV} {bs : List Int} {s g : Nat} {ro : Ro} {gn : Nat → Nat} {n h : Int} {k : Nat}
theorem inNext0 (hn : n < 1) : InOK Tryz.prog 41 [.ptr s g [] 0, i64 n] ro gn (i64 0) ro gn := by
 refine in_of (fn := Tryz.f41) (code := bodyOf Tryz.f41) Tryz.func41 rfl (by kernel_rfl) ?_
 intro sl hs
 have s0 : sl 0 = .ptr s g [] 0 := hs 0
 have s1 : sl 1 = i64 n := hs 1
 dsimp only [Tryz.f41, bodyOf, Option.getD]
 simp (maxSteps := 10000000) (disch := first | assumption | omega) only [go_sem, ↓reduceIte, Nat.reduceEqDiff, reduceCtorEq, Nat.reduceAdd, Nat.reduceMul, Nat.reduceLeDiff, zfu, Int.mul_def, Int.add_def, zfv, cond_false, cond_true, isub, s0, s1]
 refine ⟨.inr rfl, ⟨_, rfl, ?_⟩, rfl, rfl⟩
 simp only [↓zcy, ↓zcz, ↓zda, ↓zdb, ↓reduceIte, Nat.reduceEqDiff, and_true, true_and, and_self, ne_eq, not_false_eq_true, eq_self, false_and, and_false, reduceCtorEq, oneOrA]
theorem inNext1 (hn : 1 ≤ n ∧ n < 4611686018427387904) (ha : isB a bs) (hb : ∀ k, k < bs.length → 0 ≤ atI bs k ∧ atI bs k < 256) (hl : bs.length < 4611686018427387904) (hk : k < bs.length) (hro : ro s g = some (srcV a (k : Int) h)) : InOK Tryz.prog 41 [.ptr s g [] 0, i64 n] ro gn (i64 ((nxX h + atI bs k).tmod n)) (upr ro s g (srcV a ((k + 1 : Nat) : Int) (nxH h))) gn := by
 refine in_of (fn := Tryz.f41) (code := bodyOf Tryz.f41) Tryz.func41 rfl (by kernel_rfl) ?_
 intro sl hs
 have s0 : sl 0 = .ptr s g [] 0 := hs 0
 have s1 : sl 1 = i64 n := hs 1
 have hx := anU_rng (shU (wU (wU (h * 6364136223846793005) + 1442695040888963407)))
 have hbk := hb k hk
 have hk' : (k : Int) < bs.length := by omega
 dsimp only [Tryz.f41, bodyOf, Option.getD]
 simp (maxSteps := 10000000) (disch := first | assumption | omega) only [go_sem, ↓reduceIte, Nat.reduceEqDiff, reduceCtorEq, Nat.reduceAdd, Nat.reduceMul, Nat.reduceLeDiff, zfu, Int.mul_def, Int.add_def, zfv, cond_false, cond_true, isub, s0, s1, hro]
 refine FIN_of (by kernel_rfl) ?_
 simp (maxSteps := 10000000) (disch := first | assumption | omega) only [go_sem, ↓reduceIte, Nat.reduceEqDiff, reduceCtorEq, Nat.reduceAdd, Nat.reduceMul, Nat.reduceLeDiff, zfu, Int.mul_def, Int.add_def, zfv, cond_false, cond_true, isub, s0, s1, hro, hk']
 refine FIN_of (by kernel_rfl) ?_
 simp (maxSteps := 10000000) (disch := first | assumption | omega) only [go_sem, ↓reduceIte, Nat.reduceEqDiff, reduceCtorEq, Nat.reduceAdd, Nat.reduceMul, Nat.reduceLeDiff, zfu, Int.mul_def, Int.add_def, zfv, cond_false, cond_true, isub, s0, s1, hro, hk']
 refine ⟨.inr rfl, ⟨_, rfl, ?_⟩, ?_, rfl⟩
 · simp only [↓zcy, ↓zcz, ↓zda, ↓zdb, ↓reduceIte, Nat.reduceEqDiff, and_true, true_and, and_self, ne_eq, not_false_eq_true, eq_self, false_and, and_false, reduceCtorEq, oneOrA, nxX, nxH]
 · simp only [upr_upr, nxH, Int.natCast_add, Int.natCast_one]
theorem inNext2 (hn : 1 ≤ n ∧ n < 4611686018427387904) (ha : isB a bs) (hl : bs.length < 4611686018427387904) (hk : k = bs.length) (hro : ro s g = some (srcV a (k : Int) h)) : InOK Tryz.prog 41 [.ptr s g [] 0, i64 n] ro gn (i64 ((nxX h).tmod n)) (upr ro s g (srcV a (k : Int) (nxH h))) gn := by
 refine in_of (fn := Tryz.f41) (code := bodyOf Tryz.f41) Tryz.func41 rfl (by kernel_rfl) ?_
 intro sl hs
 have s0 : sl 0 = .ptr s g [] 0 := hs 0
 have s1 : sl 1 = i64 n := hs 1
 have hx := anU_rng (shU (wU (wU (h * 6364136223846793005) + 1442695040888963407)))
 have hk' : ¬ (k : Int) < bs.length := by omega
 dsimp only [Tryz.f41, bodyOf, Option.getD]
 simp (maxSteps := 10000000) (disch := first | assumption | omega) only [go_sem, ↓reduceIte, Nat.reduceEqDiff, reduceCtorEq, Nat.reduceAdd, Nat.reduceMul, Nat.reduceLeDiff, zfu, Int.mul_def, Int.add_def, zfv, cond_false, cond_true, isub, s0, s1, hro]
 refine FIN_of (by kernel_rfl) ?_
 simp (maxSteps := 10000000) (disch := first | assumption | omega) only [go_sem, ↓reduceIte, Nat.reduceEqDiff, reduceCtorEq, Nat.reduceAdd, Nat.reduceMul, Nat.reduceLeDiff, zfu, Int.mul_def, Int.add_def, zfv, cond_false, cond_true, isub, s0, s1, hro, hk']
 refine ⟨.inr rfl, ⟨_, rfl, ?_⟩, ?_, rfl⟩
 · simp only [↓zcy, ↓zcz, ↓zda, ↓zdb, ↓reduceIte, Nat.reduceEqDiff, and_true, true_and, and_self, ne_eq, not_false_eq_true, eq_self, false_and, and_false, reduceCtorEq, oneOrA, nxX, nxH]
 · simp only [upr_upr, nxH]
theorem inNext (hn : n < 4611686018427387904) (ha : isB a bs) (hb : ∀ k, k < bs.length → 0 ≤ atI bs k ∧ atI bs k < 256) (hl : bs.length < 4611686018427387904) (hk : k ≤ bs.length) (h : Int) :
   ∃ (v : Int) (k' : Nat) (h' : Int), k' ≤ bs.length ∧ (n < 1 → v = 0) ∧ (1 ≤ n → 0 ≤ v ∧ v < n) ∧ ∀ (s g : Nat) (ro : Ro) (gn : Nat → Nat), ro s g = some (srcV a (k : Int) h) → InOK Tryz.prog 41 [.ptr s g [] 0, i64 n] ro gn (i64 v) (upr ro s g (srcV a (k' : Int) h')) gn := by
 rcases (by omega : n < 1 ∨ 1 ≤ n) with h1 | h1
 · refine ⟨0, k, h, hk, fun _ => rfl, fun h2 => by omega, fun s g ro gn hro => ?_⟩
   rw [upr_id _ _ _ _ hro]
   exact inNext0 h1
 · have hx : 0 ≤ nxX h := (anU_rng _).1
   rcases Nat.lt_or_ge k bs.length with h2 | h2
   · have := hb k h2
     exact ⟨_, k + 1, _, h2, fun h3 => by omega, fun _ => ⟨Int.tmod_nonneg _ (by omega), Int.tmod_lt_of_pos _ (by omega)⟩, fun s g ro gn hro => inNext1 ⟨h1, hn⟩ ha hb hl h2 hro⟩
   · exact ⟨_, k, _, hk, fun h3 => by omega, fun _ => ⟨Int.tmod_nonneg _ hx, Int.tmod_lt_of_pos _ (by omega)⟩, fun s g ro gn hro => inNext2 ⟨h1, hn⟩ ha hl (by omega) hro⟩
theorem inBelow0 (hn : n < 1) : InOK Tryz.prog 23 [.ptr s g [] 0, i64 n] ro gn (i64 0) ro gn := by
 refine in_of (fn := Tryz.f23) (code := bodyOf Tryz.f23) Tryz.func23 rfl (by kernel_rfl) ?_
 intro sl hs
 have s0 : sl 0 = .ptr s g [] 0 := hs 0
 have s1 : sl 1 = i64 n := hs 1
 dsimp only [Tryz.f23, bodyOf, Option.getD]
 simp (maxSteps := 10000000) (disch := first | assumption | omega) only [go_sem, ↓reduceIte, Nat.reduceEqDiff, reduceCtorEq, Nat.reduceAdd, Nat.reduceMul, Nat.reduceLeDiff, zfu, Int.mul_def, Int.add_def, zfv, cond_false, cond_true, isub, s0, s1]
 refine ⟨.inr rfl, ⟨_, rfl, ?_⟩, rfl, rfl⟩
 simp only [↓zcy, ↓zcz, ↓zda, ↓zdb, ↓reduceIte, Nat.reduceEqDiff, and_true, true_and, and_self, ne_eq, not_false_eq_true, eq_self, false_and, and_false, reduceCtorEq, oneOrA]
theorem inBelow1 (hn : 1 ≤ n ∧ n < 4611686018427387904) (ha : isB a bs) (hb : ∀ k, k < bs.length → 0 ≤ atI bs k ∧ atI bs k < 256) (hl : bs.length < 4611686018427387904) (hk : k < bs.length) (hro : ro s g = some (srcV a (k : Int) h)) : InOK Tryz.prog 23 [.ptr s g [] 0, i64 n] ro gn (i64 ((nxX h + atI bs k).tmod n)) (upr ro s g (srcV a ((k + 1 : Nat) : Int) (nxH h))) gn := by
 refine in_of (fn := Tryz.f23) (code := bodyOf Tryz.f23) Tryz.func23 rfl (by kernel_rfl) ?_
 intro sl hs
 have s0 : sl 0 = .ptr s g [] 0 := hs 0
 have s1 : sl 1 = i64 n := hs 1
 have hx := anU_rng (shU (wU (wU (h * 6364136223846793005) + 1442695040888963407)))
 have hbk := hb k hk
 have hk' : (k : Int) < bs.length := by omega
 dsimp only [Tryz.f23, bodyOf, Option.getD]
 simp (maxSteps := 10000000) (disch := first | assumption | omega) only [go_sem, ↓reduceIte, Nat.reduceEqDiff, reduceCtorEq, Nat.reduceAdd, Nat.reduceMul, Nat.reduceLeDiff, zfu, Int.mul_def, Int.add_def, zfv, cond_false, cond_true, isub, s0, s1, hro]
 refine FIN_of (by kernel_rfl) ?_
 simp (maxSteps := 10000000) (disch := first | assumption | omega) only [go_sem, ↓reduceIte, Nat.reduceEqDiff, reduceCtorEq, Nat.reduceAdd, Nat.reduceMul, Nat.reduceLeDiff, zfu, Int.mul_def, Int.add_def, zfv, cond_false, cond_true, isub, s0, s1, hro, hk']
 refine FIN_of (by kernel_rfl) ?_
 simp (maxSteps := 10000000) (disch := first | assumption | omega) only [go_sem, ↓reduceIte, Nat.reduceEqDiff, reduceCtorEq, Nat.reduceAdd, Nat.reduceMul, Nat.reduceLeDiff, zfu, Int.mul_def, Int.add_def, zfv, cond_false, cond_true, isub, s0, s1, hro, hk']
 refine ⟨.inr rfl, ⟨_, rfl, ?_⟩, ?_, rfl⟩
 · simp only [↓zcy, ↓zcz, ↓zda, ↓zdb, ↓reduceIte, Nat.reduceEqDiff, and_true, true_and, and_self, ne_eq, not_false_eq_true, eq_self, false_and, and_false, reduceCtorEq, oneOrA, nxX, nxH]
 · simp only [upr_upr, nxH, Int.natCast_add, Int.natCast_one]
theorem inBelow2 (hn : 1 ≤ n ∧ n < 4611686018427387904) (ha : isB a bs) (hl : bs.length < 4611686018427387904) (hk : k = bs.length) (hro : ro s g = some (srcV a (k : Int) h)) : InOK Tryz.prog 23 [.ptr s g [] 0, i64 n] ro gn (i64 ((nxX h).tmod n)) (upr ro s g (srcV a (k : Int) (nxH h))) gn := by
 refine in_of (fn := Tryz.f23) (code := bodyOf Tryz.f23) Tryz.func23 rfl (by kernel_rfl) ?_
 intro sl hs
 have s0 : sl 0 = .ptr s g [] 0 := hs 0
 have s1 : sl 1 = i64 n := hs 1
 have hx := anU_rng (shU (wU (wU (h * 6364136223846793005) + 1442695040888963407)))
 have hk' : ¬ (k : Int) < bs.length := by omega
 dsimp only [Tryz.f23, bodyOf, Option.getD]
 simp (maxSteps := 10000000) (disch := first | assumption | omega) only [go_sem, ↓reduceIte, Nat.reduceEqDiff, reduceCtorEq, Nat.reduceAdd, Nat.reduceMul, Nat.reduceLeDiff, zfu, Int.mul_def, Int.add_def, zfv, cond_false, cond_true, isub, s0, s1, hro]
 refine FIN_of (by kernel_rfl) ?_
 simp (maxSteps := 10000000) (disch := first | assumption | omega) only [go_sem, ↓reduceIte, Nat.reduceEqDiff, reduceCtorEq, Nat.reduceAdd, Nat.reduceMul, Nat.reduceLeDiff, zfu, Int.mul_def, Int.add_def, zfv, cond_false, cond_true, isub, s0, s1, hro, hk']
 refine ⟨.inr rfl, ⟨_, rfl, ?_⟩, ?_, rfl⟩
 · simp only [↓zcy, ↓zcz, ↓zda, ↓zdb, ↓reduceIte, Nat.reduceEqDiff, and_true, true_and, and_self, ne_eq, not_false_eq_true, eq_self, false_and, and_false, reduceCtorEq, oneOrA, nxX, nxH]
 · simp only [upr_upr, nxH]
theorem inBelow (hn : n < 4611686018427387904) (ha : isB a bs) (hb : ∀ k, k < bs.length → 0 ≤ atI bs k ∧ atI bs k < 256) (hl : bs.length < 4611686018427387904) (hk : k ≤ bs.length) (h : Int) :
   ∃ (v : Int) (k' : Nat) (h' : Int), k' ≤ bs.length ∧ (n < 1 → v = 0) ∧ (1 ≤ n → 0 ≤ v ∧ v < n) ∧ ∀ (s g : Nat) (ro : Ro) (gn : Nat → Nat), ro s g = some (srcV a (k : Int) h) → InOK Tryz.prog 23 [.ptr s g [] 0, i64 n] ro gn (i64 v) (upr ro s g (srcV a (k' : Int) h')) gn := by
 rcases (by omega : n < 1 ∨ 1 ≤ n) with h1 | h1
 · refine ⟨0, k, h, hk, fun _ => rfl, fun h2 => by omega, fun s g ro gn hro => ?_⟩
   rw [upr_id _ _ _ _ hro]
   exact inBelow0 h1
 · have hx : 0 ≤ nxX h := (anU_rng _).1
   rcases Nat.lt_or_ge k bs.length with h2 | h2
   · have := hb k h2
     exact ⟨_, k + 1, _, h2, fun h3 => by omega, fun _ => ⟨Int.tmod_nonneg _ (by omega), Int.tmod_lt_of_pos _ (by omega)⟩, fun s g ro gn hro => inBelow1 ⟨h1, hn⟩ ha hb hl h2 hro⟩
   · exact ⟨_, k, _, hk, fun h3 => by omega, fun _ => ⟨Int.tmod_nonneg _ hx, Int.tmod_lt_of_pos _ (by omega)⟩, fun s g ro gn hro => inBelow2 ⟨h1, hn⟩ ha hl (by omega) hro⟩
def hFrom (bs : List Int) : Nat → Int
 | 0 => wU (7219 + wU (bs.length : Int))
 | i + 1 => wU (wU (wU (hFrom bs i * 1099511628211) + wU (atI bs i)) + 11)
theorem inFrom (ha : isB a bs) (hl : bs.length ≤ 4096) (ro : Ro) (gn : Nat → Nat) : InOK Tryz.prog 40 [a] ro gn (.ptr 8288 (gn 8288 + 1) [] 0) (upr ro 8288 (gn 8288 + 1) (srcV a 0 (hFrom bs bs.length))) (upg gn 8288 (gn 8288 + 1)) := by
 refine in_of (fn := Tryz.f40) (code := bodyOf Tryz.f40) Tryz.func40 rfl (by kernel_rfl) ?_
 intro sl hs
 have s0 : sl 0 = a := hs 0
 have ha0 := ha
 rcases ha0 with h0 | ⟨_, o, c, h0⟩
 all_goals
   have ha' := ha
   rw [h0] at ha'
   have s0' := s0
   rw [h0] at s0'
   dsimp only [Tryz.f40, bodyOf, Option.getD]
   simp (maxSteps := 10000000) (disch := first | assumption | omega) only [go_sem, ↓reduceIte, Nat.reduceEqDiff, reduceCtorEq, Nat.reduceAdd, Nat.reduceMul, Nat.reduceLeDiff, zfu, Int.mul_def, Int.add_def, zfv, cond_false, cond_true, isub, setL, s0']
   simp only [← h0]
   refine WK_for (fun i st => st.sl 0 = a ∧ st.sl 3 = .ptr 8288 (gn 8288 + 1) [] 0 ∧ st.sl 4 = i64 (i : Int) ∧ st.ro = upr ro 8288 (gn 8288 + 1) (srcV a 0 (hFrom bs i)) ∧ st.gn = upg gn 8288 (gn 8288 + 1)) bs.length ?_ ?_ ?_
   · simp only [↓zcy, ↓zcz, ↓zda, ↓zdb, ↓reduceIte, Nat.reduceEqDiff, and_true, true_and, and_self, ne_eq, not_false_eq_true, eq_self, false_and, and_false, reduceCtorEq, s0, hFrom]
     trivial
   · rintro i sl ro' gn' hi ⟨s0, sp, si, rfl, rfl⟩
     dsimp only at s0 sp si
     have hi' : (i : Int) < (bs.length : Nat) := by omega
     simp (maxSteps := 10000000) (disch := first | assumption | omega) only [go_sem, ↓reduceIte, Nat.reduceEqDiff, reduceCtorEq, Nat.reduceAdd, Nat.reduceMul, Nat.reduceLeDiff, zfu, Int.mul_def, Int.add_def, zfv, cond_false, cond_true, isub, s0, sp, si, hi']
     refine FIN_of (by kernel_rfl) ?_
     simp (maxSteps := 10000000) (disch := first | assumption | omega) only [go_sem, ↓reduceIte, Nat.reduceEqDiff, reduceCtorEq, Nat.reduceAdd, Nat.reduceMul, Nat.reduceLeDiff, zfu, Int.mul_def, Int.add_def, zfv, cond_false, cond_true, isub, s0, sp, si, hi']
     exact ⟨i64c (by omega), by rw [upr_upr]; rfl⟩
   · rintro sl ro' gn' ⟨s0, sp, si, rfl, rfl⟩
     dsimp only at s0 sp si
     have hi' : ¬ ((bs.length : Nat) : Int) < (bs.length : Nat) := by omega
     simp (maxSteps := 10000000) (disch := first | assumption | omega) only [go_sem, ↓reduceIte, Nat.reduceEqDiff, reduceCtorEq, Nat.reduceAdd, Nat.reduceMul, Nat.reduceLeDiff, zfu, Int.mul_def, Int.add_def, zfv, cond_false, cond_true, isub, s0, sp, si, hi']
     refine ⟨.inr rfl, ⟨_, rfl, ?_⟩, rfl, rfl⟩
     simp only [↓zcy, ↓zcz, ↓zda, ↓zdb, ↓reduceIte, Nat.reduceEqDiff, and_true, true_and, and_self, ne_eq, not_false_eq_true, eq_self, false_and, and_false, reduceCtorEq, oneOrA, sp]
def hRoll (bs : List Int) (sd : Int) : Nat → Int
 | 0 => wU (wU (sd * 6007) + wU (bs.length : Int))
 | i + 1 => wU (wU (wU (hRoll bs sd i * 1099511628211) + wU (atI bs i)) + 5)
theorem inRoll (ha : isB a bs) (hl : bs.length ≤ 4096) (sd : Int) (ro : Ro) (gn : Nat → Nat) : InOK Tryz.prog 22 [a, u64 sd] ro gn (.ptr 8320 (gn 8320 + 1) [] 0) (upr ro 8320 (gn 8320 + 1) (srcV a 0 (hRoll bs sd bs.length))) (upg gn 8320 (gn 8320 + 1)) := by
 refine in_of (fn := Tryz.f22) (code := bodyOf Tryz.f22) Tryz.func22 rfl (by kernel_rfl) ?_
 intro sl hs
 have s0 : sl 0 = a := hs 0
 have s1 : sl 1 = u64 sd := hs 1
 have ha0 := ha
 rcases ha0 with h0 | ⟨_, o, c, h0⟩
 all_goals
   have ha' := ha
   rw [h0] at ha'
   have s0' := s0
   rw [h0] at s0'
   dsimp only [Tryz.f22, bodyOf, Option.getD]
   simp (maxSteps := 10000000) (disch := first | assumption | omega) only [go_sem, ↓reduceIte, Nat.reduceEqDiff, reduceCtorEq, Nat.reduceAdd, Nat.reduceMul, Nat.reduceLeDiff, zfu, Int.mul_def, Int.add_def, zfv, cond_false, cond_true, isub, setL, s0', s1]
   simp only [← h0]
   refine WK_for (fun i st => st.sl 0 = a ∧ st.sl 5 = .ptr 8320 (gn 8320 + 1) [] 0 ∧ st.sl 6 = i64 (i : Int) ∧ st.ro = upr ro 8320 (gn 8320 + 1) (srcV a 0 (hRoll bs sd i)) ∧ st.gn = upg gn 8320 (gn 8320 + 1)) bs.length ?_ ?_ ?_
   · simp only [↓zcy, ↓zcz, ↓zda, ↓zdb, ↓reduceIte, Nat.reduceEqDiff, and_true, true_and, and_self, ne_eq, not_false_eq_true, eq_self, false_and, and_false, reduceCtorEq, s0, hRoll]
     trivial
   · rintro i sl ro' gn' hi ⟨s0, sp, si, rfl, rfl⟩
     dsimp only at s0 sp si
     have hi' : (i : Int) < (bs.length : Nat) := by omega
     simp (maxSteps := 10000000) (disch := first | assumption | omega) only [go_sem, ↓reduceIte, Nat.reduceEqDiff, reduceCtorEq, Nat.reduceAdd, Nat.reduceMul, Nat.reduceLeDiff, zfu, Int.mul_def, Int.add_def, zfv, cond_false, cond_true, isub, s0, sp, si, hi']
     refine FIN_of (by kernel_rfl) ?_
     simp (maxSteps := 10000000) (disch := first | assumption | omega) only [go_sem, ↓reduceIte, Nat.reduceEqDiff, reduceCtorEq, Nat.reduceAdd, Nat.reduceMul, Nat.reduceLeDiff, zfu, Int.mul_def, Int.add_def, zfv, cond_false, cond_true, isub, s0, sp, si, hi']
     exact ⟨i64c (by omega), by rw [upr_upr]; rfl⟩
   · rintro sl ro' gn' ⟨s0, sp, si, rfl, rfl⟩
     dsimp only at s0 sp si
     have hi' : ¬ ((bs.length : Nat) : Int) < (bs.length : Nat) := by omega
     simp (maxSteps := 10000000) (disch := first | assumption | omega) only [go_sem, ↓reduceIte, Nat.reduceEqDiff, reduceCtorEq, Nat.reduceAdd, Nat.reduceMul, Nat.reduceLeDiff, zfu, Int.mul_def, Int.add_def, zfv, cond_false, cond_true, isub, s0, sp, si, hi']
     refine ⟨.inr rfl, ⟨_, rfl, ?_⟩, rfl, rfl⟩
     simp only [↓zcy, ↓zcz, ↓zda, ↓zdb, ↓reduceIte, Nat.reduceEqDiff, and_true, true_and, and_self, ne_eq, not_false_eq_true, eq_self, false_and, and_false, reduceCtorEq, oneOrA, sp]
end
end Go.Proofs.YtgcnmlecihegcaaGreat
/- What the law hands in, read by the machine: bytes. -/
namespace Go.Proofs.YtgcnmlecihegcaaGreat
open Go.RowKit Go.ChangeShapes Go.WideShapes Go.Deep Go.Joins
theorem walk_below {P : Program} {f : Nat} {args : List AV} {b : Bool} (h : CallOK P f args (bo b)) {w : World} {vs : List Value} (hv : RelL (cx0 w (fun _ => False)) args vs []) :
   Calls P f vs.toArray w fun e w' => e = .returned (.bool b) ∧ Below w.heap.size w w' := by
 refine (h.2.2 w (fun _ => False) vs hv (fun _ h => h.elim)).mono ?_
 rintro e w' ⟨v, A', F', rfl, h1, _, _, h4⟩
 obtain ⟨h2, _⟩ := Rel.sc_inv h1
 exact ⟨by rw [h2], ⟨h4.os, h4.tape, h4.output, h4.size, fun k hk => h4.block k hk (by simp)⟩⟩
theorem cell_spot {w : World} {a : Addr} {v : Value} (h : w.cell? a = some v) : a.spot = none ∧ a.block < w.heap.size := by
 unfold World.cell? at h
 split at h
 · rename_i c E fr hb
   split at h
   · cases h
   · rename_i hs
     refine ⟨by cases hsp : a.spot <;> simp_all, ?_⟩
     exact (Array.getElem?_eq_some_iff.1 hb).1
 · cases h
theorem add_plain {a : Addr} (h : a.spot = none) (i : Nat) : a.add i = ⟨a.block, a.off + i, none⟩ := by
 unfold Addr.add
 split
 · rename_i hi; subst hi; cases a; simp_all
 · rfl
theorem wf8 {n : Int} (h : (Lit.int .u8 n).wf = true) : 0 ≤ n ∧ n < 256 := by
 have e : IntKind.bits .u8 = 8 := rfl
 have s : IntKind.signed .u8 = false := rfl
 simp only [Lit.wf, IntKind.min, IntKind.max, s, e] at h
 simp at h
 omega
section
variable {H : Type} {enc : TypeId × Value → H} {P : Program} {w : World} {held : Bool}
theorem open_b1 {t e : TypeId} {fuel : Nat} {v : Value} {x : DataW H × List MemPlace} (ht : P.underlying t = some (.slice e)) (he : P.underlying e = some (.int .u8)) (hc : P.cellsOf e = 1) (h : DataW.trod enc P w 0 (fun _ => true) held fuel t [v] = some x) :
   ∃ a xs, Rel (cx0 w (fun _ => False)) a v [] ∧ isB a xs ∧ xs.length < 2^63 ∧ ∀ j, 0 ≤ atI xs j ∧ atI xs j < 256 := by
 rcases open_ints ht he hc h with ⟨hcs, _⟩ | ⟨ad, len, cap, zs, hcs, _, hl, hm, hz, _, hcell, hwf⟩
 · simp only [List.cons.injEq, and_true] at hcs
   subst hcs
   exact ⟨.sc (.slice none 0 0), [], .sc _ .nil, .inr ⟨rfl, _, _, rfl⟩, by simp, fun j => by simp [atI]⟩
 · simp only [List.cons.injEq, and_true] at hcs
   subst hcs
   simp only [if_true] at hz
   have hmx : cap < 2^63 := Nat.lt_of_le_of_lt hm (by decide)
   rcases Nat.eq_zero_or_pos len with h0 | hpos
   · subst h0
     exact ⟨.sc (.slice (some ad) 0 cap), [], .sc _ .nil, .inr ⟨rfl, _, _, rfl⟩, by simp, fun j => by simp [atI]⟩
   · have hc0 := hcell 0 (by omega)
     obtain ⟨hs, hb⟩ := cell_spot hc0
     have hs' : ad.spot = none := by simpa [Addr.add] using hs
     have hb' : ad.block < w.heap.size := by simpa [Addr.add] using hb
     have hlen : (zs.take len).length = len := by rw [List.length_take]; omega
     have hlen2 : ((zs.take len).map (Value.int .u8)).length = len := by rw [List.length_map, hlen]
     refine ⟨.imm ((zs.take len).map u8), zs.take len, ?_, .inl rfl, by omega, fun j => ?_⟩
     · have hr : RelL (cx0 w (fun _ => False)) ((zs.take len).map u8) ((zs.take len).map (Value.int .u8)) [] := by
         have := relL_sc (cx0 w (fun _ => False)) ((zs.take len).map (Value.int .u8))
         rwa [List.map_map] at this
       have := RelL.imm (c := cx0 w (fun _ => False)) ad.block ad.off cap hr ⟨fun h => h, hb', fun i u hu => ?_⟩ (by rw [hlen2]; exact hl) RelL.nil
       · rw [hlen2] at this
         have e : (⟨ad.block, ad.off, none⟩ : Addr) = ad := by cases ad; simp_all
         rwa [e] at this
       · show w.cell? ⟨ad.block, ad.off + i, none⟩ = some u
         rw [← add_plain hs' i]
         have hi : i < len := by
           have := (List.getElem?_eq_some_iff.1 hu).1
           rwa [hlen2] at this
         rw [hcell i (by omega)]
         rw [List.getElem?_map, List.getElem?_take, if_pos hi] at hu
         cases hzi : zs[i]? with
         | none => rw [hzi] at hu; cases hu
         | some z =>
           rw [hzi] at hu
           simp only [Option.map_some, Option.some.injEq] at hu
           rw [← hu]
           simp [List.getD_eq_getElem?_getD, hzi]
     · rcases Nat.lt_or_ge j (zs.take len).length with hj | hj
       · have hmem : atI (zs.take len) j ∈ zs := by
           have : atI (zs.take len) j = (zs.take len)[j] := by simp only [atI, List.getD_eq_getElem?_getD, List.getElem?_eq_getElem hj, Option.getD_some]
           rw [this]
           exact List.mem_of_mem_take (List.getElem_mem hj)
         exact wf8 (hwf _ hmem)
       · rw [atI_out hj]; exact ⟨by decide, by decide⟩
end
end Go.Proofs.YtgcnmlecihegcaaGreat
/- The draw of a double. -/
namespace Go.Proofs.YtgcnmlecihegcaaGreat
open Go.RowKit
set_option maxRecDepth 1000000
section
variable {a : AV} {bs : List Int}
theorem cBig (ha : isB a bs) : CallOK Tryz.prog 10 [a] (bo (decide (4096 < bs.length))) := by
 refine call_of (fn := Tryz.f10) (code := bodyOf Tryz.f10) Tryz.func10 rfl (by kernel_rfl) (rfl) ?_
 intro sl hs
 have s0 : sl 0 = a := hs 0
 dsimp only [Tryz.f10, bodyOf, Option.getD]
 simp (maxSteps := 10000000) (disch := first | assumption | omega) only [go_sem, ↓reduceIte, Nat.reduceEqDiff, reduceCtorEq, Nat.reduceAdd, Nat.reduceMul, Nat.reduceLeDiff, zfu, Int.mul_def, Int.add_def, zfv, cond_false, cond_true, isub, Int.reduceToNat, s0, ha]
 simp only [zbj, zbk, retR, resL, outT, zes, zez, oneV, ↓zcy, ↓zcz, ↓reduceIte, Nat.reduceEqDiff, Option.some.injEq, AV.sc.injEq, Value.bool.injEq, Value.int.injEq, outL, outT, zft, zcp, zed, zef, zei, zeh, List.length_cons, List.length_nil, Nat.reduceAdd, Nat.zero_add, Nat.reduceLeDiff, List.drop_zero, List.take_succ_cons, List.take_zero, zfi, zfh, Ro.dl, zdb, zda, zfe, and_self, and_true, true_and, eq_self, List.append_nil, List.nil_append, List.cons_append, ne_eq, not_false_eq_true, and_false, false_and, Bool.false_eq_true, St.ev, zes, zfn, zhk, List.length_map]
 simp only [decide_eq_decide]; omega
theorem cDraw (ha : isB a bs) (hb : ∀ k, k < bs.length → 0 ≤ atI bs k ∧ atI bs k < 256) (hl : bs.length ≤ 4096) :
   ∃ n k : Int, 0 ≤ n ∧ n ≤ 5 ∧ -1 ≤ k ∧ k ≤ n ∧ CallOK Tryz.prog 11 [a] (.tup [i64 n, i64 k]) := by
 obtain ⟨n, k1, h1, l1, _, r1, N1⟩ := inNext (n := 6) (k := 0) (by omega) ha hb (by omega) (by omega) (hFrom bs bs.length)
 obtain ⟨m, k2, h2, l2, _, r2, N2⟩ := inNext (n := n + 1) (k := k1) (by omega) ha hb (by omega) l1 h1
 obtain ⟨e, k3, h3, l3, _, r3, N3⟩ := inNext (n := 24) (k := k2) (by omega) ha hb (by omega) l2 h2
 have q1 := r1 (by omega)
 have q2 := r2 (by omega)
 have q3 := r3 (by omega)
 have q4 : e.tdiv 23 = 0 ∨ e.tdiv 23 = 1 := by
   rw [Int.tdiv_eq_ediv_of_nonneg q3.1]; omega
 refine ⟨n, m - e.tdiv 23, by omega, by omega, by omega, by omega, ?_⟩
 refine call_of (fn := Tryz.f11) (code := bodyOf Tryz.f11) Tryz.func11 rfl (by kernel_rfl) (rfl) ?_
 intro sl hs
 have s0 : sl 0 = a := hs 0
 dsimp only [Tryz.f11, bodyOf, Option.getD]
 simp (maxSteps := 10000000) (disch := first | assumption | omega) only [go_sem, ↓reduceIte, Nat.reduceEqDiff, reduceCtorEq, Nat.reduceAdd, Nat.reduceMul, Nat.reduceLeDiff, zfu, Int.mul_def, Int.add_def, zfv, cond_false, cond_true, isub, Int.reduceToNat, s0]
 refine CLL_in rfl _ _ _ (inFrom ha hl _ _) ?_
 simp (maxSteps := 10000000) (disch := first | assumption | omega) only [go_sem, ↓reduceIte, Nat.reduceEqDiff, reduceCtorEq, Nat.reduceAdd, Nat.reduceMul, Nat.reduceLeDiff, zfu, Int.mul_def, Int.add_def, zfv, cond_false, cond_true, isub, Int.reduceToNat, s0]
 refine CLL_in rfl _ _ _ (N1 _ _ _ _ (by simp only [↓zcy, ↓zcz, ↓zda, ↓zdb, ↓reduceIte, Nat.reduceEqDiff, and_true, true_and, and_self, ne_eq, not_false_eq_true, eq_self, false_and, and_false, reduceCtorEq]; rfl)) ?_
 simp (maxSteps := 10000000) (disch := first | assumption | omega) only [go_sem, ↓reduceIte, Nat.reduceEqDiff, reduceCtorEq, Nat.reduceAdd, Nat.reduceMul, Nat.reduceLeDiff, zfu, Int.mul_def, Int.add_def, zfv, cond_false, cond_true, isub, Int.reduceToNat, s0]
 refine CLL_in rfl _ _ _ (N2 _ _ _ _ (by simp only [↓zcy, ↓zcz, ↓zda, ↓zdb, ↓reduceIte, Nat.reduceEqDiff, and_true, true_and, and_self, ne_eq, not_false_eq_true, eq_self, false_and, and_false, reduceCtorEq])) ?_
 simp (maxSteps := 10000000) (disch := first | assumption | omega) only [go_sem, ↓reduceIte, Nat.reduceEqDiff, reduceCtorEq, Nat.reduceAdd, Nat.reduceMul, Nat.reduceLeDiff, zfu, Int.mul_def, Int.add_def, zfv, cond_false, cond_true, isub, Int.reduceToNat, s0]
 refine CLL_in rfl _ _ _ (N3 _ _ _ _ (by simp only [↓zcy, ↓zcz, ↓zda, ↓zdb, ↓reduceIte, Nat.reduceEqDiff, and_true, true_and, and_self, ne_eq, not_false_eq_true, eq_self, false_and, and_false, reduceCtorEq])) ?_
 simp (maxSteps := 10000000) (disch := first | assumption | omega) only [go_sem, ↓reduceIte, Nat.reduceEqDiff, reduceCtorEq, Nat.reduceAdd, Nat.reduceMul, Nat.reduceLeDiff, zfu, Int.mul_def, Int.add_def, zfv, cond_false, cond_true, isub, Int.reduceToNat, s0]
 simp only [zbj, zbk, retR, resL, outT, zes, zez, oneV, ↓zcy, ↓zcz, ↓reduceIte, Nat.reduceEqDiff, Option.some.injEq, AV.sc.injEq, Value.bool.injEq, Value.int.injEq, outL, outT, zft, zcp, zed, zef, zei, zeh, List.length_cons, List.length_nil, Nat.reduceAdd, Nat.zero_add, Nat.reduceLeDiff, List.drop_zero, List.take_succ_cons, List.take_zero, zfi, zfh, Ro.dl, zdb, zda, zfe, and_self, and_true, true_and, eq_self, List.append_nil, List.nil_append, List.cons_append, ne_eq, not_false_eq_true, and_false, false_and, Bool.false_eq_true, St.ev, zes, zfn, zhk, List.length_map]
end
end Go.Proofs.YtgcnmlecihegcaaGreat
/- Equal values are told to be equal. -/
namespace Go.Proofs.YtgcnmlecihegcaaGreat
open Go.RowKit
set_option maxRecDepth 1000000
theorem cLike {a b : AV} {xs : List Int} (ha : isL a xs) (hb : isL b xs) (hx : xs.length ≤ maxN) : CallOK Tryz.prog 47 [a, b] (bo true) := by
 have hx' : xs.length ≤ 4294967296 := hx
 refine call_of (fn := Tryz.f47) (code := bodyOf Tryz.f47) Tryz.func47 rfl (by kernel_rfl) (rfl) ?_
 intro sl hs
 have s0 : sl 0 = a := hs 0
 have s1 : sl 1 = b := hs 1
 dsimp only [Tryz.f47, bodyOf, Option.getD]
 simp (maxSteps := 10000000) (disch := first | assumption | omega) only [go_sem, ↓reduceIte, Nat.reduceEqDiff, reduceCtorEq, Nat.reduceAdd, Nat.reduceMul, Nat.reduceLeDiff, zfu, Int.mul_def, Int.add_def, zfv, cond_false, cond_true, isub, Int.reduceToNat, s0, s1]
 refine WK_for (fun i st => st.sl 0 = a ∧ st.sl 1 = b ∧ st.sl 5 = i64 (i : Int)) xs.length ?_ ?_ ?_
 · simp only [↓zcy, ↓zcz, ↓zda, ↓zdb, ↓reduceIte, Nat.reduceEqDiff, and_true, true_and, and_self, ne_eq, not_false_eq_true, eq_self, false_and, and_false, reduceCtorEq, rws_zero, s0, s1]
   (repeat' first | rfl | exact i64c rfl | exact i64c (by omega) | exact trivial | apply And.intro)
 · rintro i sl ro gn hi ⟨s0, s1, s5⟩
   dsimp only at s0 s1 s5
   have hi' : (i : Int) < (xs.length : Nat) := by omega
   simp (maxSteps := 10000000) (disch := first | assumption | omega) only [go_sem, ↓reduceIte, Nat.reduceEqDiff, reduceCtorEq, Nat.reduceAdd, Nat.reduceMul, Nat.reduceLeDiff, zfu, Int.mul_def, Int.add_def, zfv, cond_false, cond_true, isub, Int.reduceToNat, s0, s1, s5, hi', hi]
   refine FIN_of (by kernel_rfl) ?_
   simp (maxSteps := 10000000) (disch := first | assumption | omega) only [go_sem, ↓reduceIte, Nat.reduceEqDiff, reduceCtorEq, Nat.reduceAdd, Nat.reduceMul, Nat.reduceLeDiff, zfu, Int.mul_def, Int.add_def, zfv, cond_false, cond_true, isub, Int.reduceToNat, s0, s1, s5, hi', hi]
   (repeat' first | rfl | exact i64c rfl | exact i64c (by omega) | exact trivial | apply And.intro)
 · rintro sl ro gn ⟨s0, s1, s5⟩
   dsimp only at s0 s1 s5
   have hi' : ¬ ((xs.length : Nat) : Int) < (xs.length : Nat) := by omega
   simp (maxSteps := 10000000) (disch := first | assumption | omega) only [go_sem, ↓reduceIte, Nat.reduceEqDiff, reduceCtorEq, Nat.reduceAdd, Nat.reduceMul, Nat.reduceLeDiff, zfu, Int.mul_def, Int.add_def, zfv, cond_false, cond_true, isub, Int.reduceToNat, s0, s1, s5, hi']
   simp only [zbj, zbk, retR, resL, outT, zes, zez, oneV, ↓zcy, ↓zcz, ↓reduceIte, Nat.reduceEqDiff, Option.some.injEq, AV.sc.injEq, Value.bool.injEq, Value.int.injEq, outL, outT, zft, zcp, zed, zef, zei, zeh, List.length_cons, List.length_nil, Nat.reduceAdd, Nat.zero_add, Nat.reduceLeDiff, List.drop_zero, List.take_succ_cons, List.take_zero, zfi, zfh, Ro.dl, zdb, zda, zfe, and_self, and_true, true_and, eq_self, List.append_nil, List.nil_append, List.cons_append, ne_eq, not_false_eq_true, and_false, false_and, Bool.false_eq_true, St.ev, zes, zfn, zhk, List.length_map]
theorem cSame {a b : AV} {S : List (List Int)} (ha : isLL a S) (hb : isLL b S) (hx : S.length ≤ maxN) (hr : ∀ j, j < S.length → (row S j).length ≤ maxN) : CallOK Tryz.prog 46 [a, b] (bo true) := by
 have hx' : S.length ≤ 4294967296 := hx
 refine call_of (fn := Tryz.f46) (code := bodyOf Tryz.f46) Tryz.func46 rfl (by kernel_rfl) (rfl) ?_
 intro sl hs
 have s0 : sl 0 = a := hs 0
 have s1 : sl 1 = b := hs 1
 dsimp only [Tryz.f46, bodyOf, Option.getD]
 simp (maxSteps := 10000000) (disch := first | assumption | omega) only [go_sem, ↓reduceIte, Nat.reduceEqDiff, reduceCtorEq, Nat.reduceAdd, Nat.reduceMul, Nat.reduceLeDiff, zfu, Int.mul_def, Int.add_def, zfv, cond_false, cond_true, isub, Int.reduceToNat, s0, s1]
 refine WK_for (fun i st => st.sl 0 = a ∧ st.sl 1 = b ∧ st.sl 5 = i64 (i : Int)) S.length ?_ ?_ ?_
 · simp only [↓zcy, ↓zcz, ↓zda, ↓zdb, ↓reduceIte, Nat.reduceEqDiff, and_true, true_and, and_self, ne_eq, not_false_eq_true, eq_self, false_and, and_false, reduceCtorEq, rws_zero, s0, s1]
   (repeat' first | rfl | exact i64c rfl | exact i64c (by omega) | exact trivial | apply And.intro)
 · rintro i sl ro gn hi ⟨s0, s1, s5⟩
   dsimp only at s0 s1 s5
   have hi' : (i : Int) < (S.length : Nat) := by omega
   have h1 := isLL_at ha hi
   have h2 := isLL_at hb hi
   simp (maxSteps := 10000000) (disch := first | assumption | omega) only [go_sem, ↓reduceIte, Nat.reduceEqDiff, reduceCtorEq, Nat.reduceAdd, Nat.reduceMul, Nat.reduceLeDiff, zfu, Int.mul_def, Int.add_def, zfv, cond_false, cond_true, isub, Int.reduceToNat, s0, s1, s5, hi', hi]
   refine CLLD_pure _ (cLike h1 h2 (hr i hi)) (by simp (disch := assumption) only [pureL, pureA, isL_pure, isLL_pure, isLLL_pure, pureL_map, Bool.and_self, Bool.and_true]) rfl ?_
   simp (maxSteps := 10000000) (disch := first | assumption | omega) only [go_sem, ↓reduceIte, Nat.reduceEqDiff, reduceCtorEq, Nat.reduceAdd, Nat.reduceMul, Nat.reduceLeDiff, zfu, Int.mul_def, Int.add_def, zfv, cond_false, cond_true, isub, Int.reduceToNat, s0, s1, s5, hi', hi]
   refine FIN_of (by kernel_rfl) ?_
   simp (maxSteps := 10000000) (disch := first | assumption | omega) only [go_sem, ↓reduceIte, Nat.reduceEqDiff, reduceCtorEq, Nat.reduceAdd, Nat.reduceMul, Nat.reduceLeDiff, zfu, Int.mul_def, Int.add_def, zfv, cond_false, cond_true, isub, Int.reduceToNat, s0, s1, s5, hi', hi]
   (repeat' first | rfl | exact i64c rfl | exact i64c (by omega) | exact trivial | apply And.intro)
 · rintro sl ro gn ⟨s0, s1, s5⟩
   dsimp only at s0 s1 s5
   have hi' : ¬ ((S.length : Nat) : Int) < (S.length : Nat) := by omega
   simp (maxSteps := 10000000) (disch := first | assumption | omega) only [go_sem, ↓reduceIte, Nat.reduceEqDiff, reduceCtorEq, Nat.reduceAdd, Nat.reduceMul, Nat.reduceLeDiff, zfu, Int.mul_def, Int.add_def, zfv, cond_false, cond_true, isub, Int.reduceToNat, s0, s1, s5, hi']
   simp only [zbj, zbk, retR, resL, outT, zes, zez, oneV, ↓zcy, ↓zcz, ↓reduceIte, Nat.reduceEqDiff, Option.some.injEq, AV.sc.injEq, Value.bool.injEq, Value.int.injEq, outL, outT, zft, zcp, zed, zef, zei, zeh, List.length_cons, List.length_nil, Nat.reduceAdd, Nat.zero_add, Nat.reduceLeDiff, List.drop_zero, List.take_succ_cons, List.take_zero, zfi, zfh, Ro.dl, zdb, zda, zfe, and_self, and_true, true_and, eq_self, List.append_nil, List.nil_append, List.cons_append, ne_eq, not_false_eq_true, and_false, false_and, Bool.false_eq_true, St.ev, zes, zfn, zhk, List.length_map]
theorem cDat9 {a b c d : AV} {S : List (List Int)} {T : List Int} (ha : isLL a S) (hb : isLL c S) (hc : isL b T) (hd : isL d T) (hx : S.length ≤ maxN) (hr : ∀ j, j < S.length → (row S j).length ≤ maxN) (ht : T.length ≤ maxN) :
   CallOK Tryz.prog 14 [.agg [a, b], .agg [c, d]] (bo true) := by
 refine call_of (fn := Tryz.f14) (code := bodyOf Tryz.f14) Tryz.func14 rfl (by kernel_rfl) (rfl) ?_
 intro sl hs
 have s0 : sl 0 = .agg [a, b] := hs 0
 have s1 : sl 1 = .agg [c, d] := hs 1
 dsimp only [Tryz.f14, bodyOf, Option.getD]
 simp (maxSteps := 10000000) (disch := first | assumption | omega) only [go_sem, ↓reduceIte, Nat.reduceEqDiff, reduceCtorEq, Nat.reduceAdd, Nat.reduceMul, Nat.reduceLeDiff, zfu, Int.mul_def, Int.add_def, zfv, cond_false, cond_true, isub, Int.reduceToNat, s0, s1]
 refine CLL_pure _ (cSame ha hb hx hr) (by simp (disch := assumption) only [pureL, pureA, isL_pure, isLL_pure, isLLL_pure, pureL_map, Bool.and_self, Bool.and_true]) rfl rfl ?_
 simp (maxSteps := 10000000) (disch := first | assumption | omega) only [go_sem, ↓reduceIte, Nat.reduceEqDiff, reduceCtorEq, Nat.reduceAdd, Nat.reduceMul, Nat.reduceLeDiff, zfu, Int.mul_def, Int.add_def, zfv, cond_false, cond_true, isub, Int.reduceToNat, s0, s1]
 refine CLL_pure _ (cLike hc hd ht) (by simp (disch := assumption) only [pureL, pureA, isL_pure, isLL_pure, isLLL_pure, pureL_map, Bool.and_self, Bool.and_true]) rfl rfl ?_
 simp (maxSteps := 10000000) (disch := first | assumption | omega) only [go_sem, ↓reduceIte, Nat.reduceEqDiff, reduceCtorEq, Nat.reduceAdd, Nat.reduceMul, Nat.reduceLeDiff, zfu, Int.mul_def, Int.add_def, zfv, cond_false, cond_true, isub, Int.reduceToNat, s0, s1]
 simp only [zbj, zbk, retR, resL, outT, zes, zez, oneV, ↓zcy, ↓zcz, ↓reduceIte, Nat.reduceEqDiff, Option.some.injEq, AV.sc.injEq, Value.bool.injEq, Value.int.injEq, outL, outT, zft, zcp, zed, zef, zei, zeh, List.length_cons, List.length_nil, Nat.reduceAdd, Nat.zero_add, Nat.reduceLeDiff, List.drop_zero, List.take_succ_cons, List.take_zero, zfi, zfh, Ro.dl, zdb, zda, zfe, and_self, and_true, true_and, eq_self, List.append_nil, List.nil_append, List.cons_append, ne_eq, not_false_eq_true, and_false, false_and, Bool.false_eq_true, St.ev, zes, zfn, zhk, List.length_map]
theorem cRing9 {a b : AV} {T : List (List (List Int))} (ha : isLLL a T) (hb : isLLL b T) (hx : T.length ≤ maxN) (hr : ∀ i, i < T.length → (mat T i).length ≤ maxN ∧ ∀ j, j < (mat T i).length → (row (mat T i) j).length ≤ maxN) :
   CallOK Tryz.prog 17 [.agg [a], .agg [b]] (bo true) := by
 have hx' : T.length ≤ 4294967296 := hx
 refine call_of (fn := Tryz.f17) (code := bodyOf Tryz.f17) Tryz.func17 rfl (by kernel_rfl) (rfl) ?_
 intro sl hs
 have s0 : sl 0 = .agg [a] := hs 0
 have s1 : sl 1 = .agg [b] := hs 1
 dsimp only [Tryz.f17, bodyOf, Option.getD]
 simp (maxSteps := 10000000) (disch := first | assumption | omega) only [go_sem, ↓reduceIte, Nat.reduceEqDiff, reduceCtorEq, Nat.reduceAdd, Nat.reduceMul, Nat.reduceLeDiff, zfu, Int.mul_def, Int.add_def, zfv, cond_false, cond_true, isub, Int.reduceToNat, s0, s1]
 refine WK_for (fun i st => st.sl 2 = .ptr 4096 1 [] 0 ∧ st.sl 3 = .ptr 4112 1 [] 0 ∧ st.ro 4096 1 = some (.bx [a]) ∧ st.ro 4112 1 = some (.bx [b]) ∧ st.sl 5 = i64 (i : Int)) T.length ?_ ?_ ?_
 · simp only [↓zcy, ↓zcz, ↓zda, ↓zdb, ↓reduceIte, Nat.reduceEqDiff, and_true, true_and, and_self, ne_eq, not_false_eq_true, eq_self, false_and, and_false, reduceCtorEq, rws_zero, s0, s1]
   (repeat' first | rfl | exact i64c rfl | exact i64c (by omega) | exact trivial | apply And.intro)
 · rintro i sl ro gn hi ⟨s2, s3, r4096, r4112, s5⟩
   dsimp only at s2 s3 r4096 r4112 s5
   have hi' : (i : Int) < (T.length : Nat) := by omega
   have h1 := isLLL_mat ha hi
   have h2 := isLLL_mat hb hi
   simp (maxSteps := 10000000) (disch := first | assumption | omega) only [go_sem, ↓reduceIte, Nat.reduceEqDiff, reduceCtorEq, Nat.reduceAdd, Nat.reduceMul, Nat.reduceLeDiff, zfu, Int.mul_def, Int.add_def, zfv, cond_false, cond_true, isub, Int.reduceToNat, s2, s3, r4096, r4112, s5, hi', hi]
   refine CLLD_pure _ (cSame h1 h2 (hr i hi).1 (hr i hi).2) (by simp (disch := assumption) only [pureL, pureA, isL_pure, isLL_pure, isLLL_pure, pureL_map, Bool.and_self, Bool.and_true]) rfl ?_
   simp (maxSteps := 10000000) (disch := first | assumption | omega) only [go_sem, ↓reduceIte, Nat.reduceEqDiff, reduceCtorEq, Nat.reduceAdd, Nat.reduceMul, Nat.reduceLeDiff, zfu, Int.mul_def, Int.add_def, zfv, cond_false, cond_true, isub, Int.reduceToNat, s2, s3, r4096, r4112, s5, hi', hi]
   refine FIN_of (by kernel_rfl) ?_
   simp (maxSteps := 10000000) (disch := first | assumption | omega) only [go_sem, ↓reduceIte, Nat.reduceEqDiff, reduceCtorEq, Nat.reduceAdd, Nat.reduceMul, Nat.reduceLeDiff, zfu, Int.mul_def, Int.add_def, zfv, cond_false, cond_true, isub, Int.reduceToNat, s2, s3, r4096, r4112, s5, hi', hi]
   (repeat' first | rfl | exact i64c rfl | exact i64c (by omega) | exact trivial | apply And.intro)
 · rintro sl ro gn ⟨s2, s3, r4096, r4112, s5⟩
   dsimp only at s2 s3 r4096 r4112 s5
   have hi' : ¬ ((T.length : Nat) : Int) < (T.length : Nat) := by omega
   simp (maxSteps := 10000000) (disch := first | assumption | omega) only [go_sem, ↓reduceIte, Nat.reduceEqDiff, reduceCtorEq, Nat.reduceAdd, Nat.reduceMul, Nat.reduceLeDiff, zfu, Int.mul_def, Int.add_def, zfv, cond_false, cond_true, isub, Int.reduceToNat, s2, s3, r4096, r4112, s5, hi']
   simp only [zbj, zbk, retR, resL, outT, zes, zez, oneV, ↓zcy, ↓zcz, ↓reduceIte, Nat.reduceEqDiff, Option.some.injEq, AV.sc.injEq, Value.bool.injEq, Value.int.injEq, outL, outT, zft, zcp, zed, zef, zei, zeh, List.length_cons, List.length_nil, Nat.reduceAdd, Nat.zero_add, Nat.reduceLeDiff, List.drop_zero, List.take_succ_cons, List.take_zero, zfi, zfh, Ro.dl, zdb, zda, zfe, and_self, and_true, true_and, eq_self, List.append_nil, List.nil_append, List.cons_append, ne_eq, not_false_eq_true, and_false, false_and, Bool.false_eq_true, St.ev, zes, zfn, zhk, List.length_map]
end Go.Proofs.YtgcnmlecihegcaaGreat
/- Gauss sums, pointed rings and Lagrangian vectors. -/
namespace Go.Proofs.YtgcnmlecihegcaaGreat
open Go.RowKit
set_option maxRecDepth 1000000
theorem cGauss {a b : AV} {S : List (List Int)} {T : List Int} (ha : isLL a S) (hb : isL b T) (hS : S.length ≤ maxN) (hT : T.length ≤ maxN) (hR : ∀ i, i < S.length → (row S i).length ≤ maxN) (hD : DataP S T) :
   CallOK Tryz.prog 18 [.agg [a, b], i64 1] (.tup [i64 (sm (gsT S T) T.length % 55441), i64 0]) := by
 have hs := Shp_of hD.1
 have hlS := hs.lS
 have hp := hs.pos
 have hl0 := hs.lR 0 hs.pos
 have c := c145 hb ha hb (by omega) (by omega) (by omega) hs.nS hs.nT
 rw [hl0] at c
 refine call_of (fn := Tryz.f18) (code := bodyOf Tryz.f18) Tryz.func18 rfl (by kernel_rfl) (rfl) ?_
 intro sl hs
 have s0 : sl 0 = .agg [a, b] := hs 0
 have s1 : sl 1 = i64 1 := hs 1
 dsimp only [Tryz.f18, bodyOf, Option.getD]
 simp (maxSteps := 10000000) (disch := first | assumption | omega) only [go_sem, ↓reduceIte, Nat.reduceEqDiff, reduceCtorEq, Nat.reduceAdd, Nat.reduceMul, Nat.reduceLeDiff, zfu, Int.mul_def, Int.add_def, zfv, cond_false, cond_true, isub, Int.reduceToNat, s0, s1]
 refine CLL_pure _ (c62 (t := true) ha hb hS hT hR (by simp [hD])) (by simp (disch := assumption) only [pureL, pureA, isL_pure, isLL_pure, isLLL_pure, pureL_map, Bool.and_self, Bool.and_true]) rfl rfl ?_
 simp (maxSteps := 10000000) (disch := first | assumption | omega) only [go_sem, ↓reduceIte, Nat.reduceEqDiff, reduceCtorEq, Nat.reduceAdd, Nat.reduceMul, Nat.reduceLeDiff, zfu, Int.mul_def, Int.add_def, zfv, cond_false, cond_true, isub, Int.reduceToNat, s0, s1]
 refine CLL_pure _ c (by simp (disch := assumption) only [pureL, pureA, isL_pure, isLL_pure, isLLL_pure, pureL_map, Bool.and_self, Bool.and_true]) rfl rfl ?_
 simp (maxSteps := 10000000) (disch := first | assumption | omega) only [go_sem, ↓reduceIte, Nat.reduceEqDiff, reduceCtorEq, Nat.reduceAdd, Nat.reduceMul, Nat.reduceLeDiff, zfu, Int.mul_def, Int.add_def, zfv, cond_false, cond_true, isub, Int.reduceToNat, s0, s1]
 simp only [zbj, zbk, retR, resL, outT, zes, zez, oneV, ↓zcy, ↓zcz, ↓reduceIte, Nat.reduceEqDiff, Option.some.injEq, AV.sc.injEq, Value.bool.injEq, Value.int.injEq, outL, outT, zft, zcp, zed, zef, zei, zeh, List.length_cons, List.length_nil, Nat.reduceAdd, Nat.zero_add, Nat.reduceLeDiff, List.drop_zero, List.take_succ_cons, List.take_zero, zfi, zfh, Ro.dl, zdb, zda, zfe, and_self, and_true, true_and, eq_self, List.append_nil, List.nil_append, List.cons_append, ne_eq, not_false_eq_true, and_false, false_and, Bool.false_eq_true, St.ev, zes, zfn, zhk, List.length_map]
def un0 (k : Nat) : Int := if k = 0 then 1 else 0
theorem cVec {a : AV} {X : List (List (List Int))} (ha : isLLL a X) (hX : X.length ≤ maxN) (hi : 0 < X.length) : CallOK Tryz.prog 140 [.agg [a], i64 0] (rowL (rws un0 X.length)) := by
 have hX' : X.length ≤ 4294967296 := hX
 have hm' : (X.length : Int) ≤ ((4294967296 : Nat) : Int) := by omega
 have e0 : rowL (rws un0 X.length) = .row (rws (fun k => i64 (un0 k)) X.length) := by simp only [rowL, rws_map]
 have e1 : (rws (fun _ => i64 0) X.length).set 0 (i64 1) = rws (fun k => i64 (un0 k)) X.length := by
   rw [rws_set]
   refine rws_congr fun k hk => ?_
   unfold un0
   split <;> rfl
 have h0' : (0 : Int) < X.length := by omega
 rw [e0]
 refine call_of (fn := Tryz.f140) (code := bodyOf Tryz.f140) Tryz.func140 rfl (by kernel_rfl) (e0 ▸ noRef_rowL _) ?_
 intro sl hs
 have s0 : sl 0 = .agg [a] := hs 0
 have s1 : sl 1 = i64 ((0 : Nat) : Int) := hs 1
 dsimp only [Tryz.f140, bodyOf, Option.getD]
 simp (maxSteps := 10000000) (disch := first | assumption | omega) only [go_sem, ↓reduceIte, Nat.reduceEqDiff, reduceCtorEq, Nat.reduceAdd, Nat.reduceMul, Nat.reduceLeDiff, zfu, Int.mul_def, Int.add_def, zfv, cond_false, cond_true, isub, Int.reduceToNat, s0, s1, kMake, Int.natCast_nonneg, Int.le_refl, hm', List.getD_cons_zero, rep_rws, hi, e1]
 simp only [zbj, zbk, retR, resL, outT, zes, zez, oneV, ↓zcy, ↓zcz, ↓reduceIte, Nat.reduceEqDiff, Option.some.injEq, AV.sc.injEq, Value.bool.injEq, Value.int.injEq, outL, outT, zft, zcp, zed, zef, zei, zeh, List.length_cons, List.length_nil, Nat.reduceAdd, Nat.zero_add, Nat.reduceLeDiff, List.drop_zero, List.take_succ_cons, List.take_zero, zfi, zfh, Ro.dl, zdb, zda, zfe, and_self, and_true, true_and, eq_self, List.append_nil, List.nil_append, List.cons_append, ne_eq, not_false_eq_true, and_false, false_and, Bool.false_eq_true, St.ev, zes, zfn, zhk, List.length_map]
structure PtP (T : List (List (List Int))) : Prop where
 c : RingP T
 d : ∀ i, i < T.length → ∃ d : Nat, dlT T i = d ∧ d < T.length ∧ row (mat T i) d = rws un0 T.length
theorem cInvL {a : AV} {T : List (List (List Int))} (ha : isLLL a T) (hT : T.length ≤ maxN) (h : PtP T) {i : Nat} (hi : i < T.length) : CallOK Tryz.prog 97 [.agg [a], i64 (i : Int)] (bo true) := by
 obtain ⟨d, hd, hd2, hr⟩ := h.d i hi
 have hc := h.c.1
 obtain ⟨hp, hp2, hq⟩ := hc
 obtain ⟨hl, hrl⟩ := hq i hi
 have hm := isLLL_mat ha hi
 have hml := isLL_at hm (k := d) (by omega)
 have c0 := c167 ha h.c.1 hi
 rw [hd] at c0
 have cE := c159 (xs := row (mat T i) d) (ys := rws un0 T.length) hml (isL_imm _) (by rw [hr, zfe]; exact hT)
 rw [decide_eq_true hr] at cE
 have hdl : d < (mat T i).length := by omega
 refine call_of (fn := Tryz.f97) (code := bodyOf Tryz.f97) Tryz.func97 rfl (by kernel_rfl) (rfl) ?_
 intro sl hs
 have s0 : sl 0 = .agg [a] := hs 0
 have s1 : sl 1 = i64 (i : Int) := hs 1
 dsimp only [Tryz.f97, bodyOf, Option.getD]
 simp (maxSteps := 10000000) (disch := first | assumption | omega) only [go_sem, ↓reduceIte, Nat.reduceEqDiff, reduceCtorEq, Nat.reduceAdd, Nat.reduceMul, Nat.reduceLeDiff, zfu, Int.mul_def, Int.add_def, zfv, cond_false, cond_true, isub, Int.reduceToNat, s0, s1]
 refine CLLD_pure _ c0 (by simp (disch := assumption) only [pureL, pureA, isL_pure, isLL_pure, isLLL_pure, pureL_map, Bool.and_self, Bool.and_true]) rfl ?_
 simp (maxSteps := 10000000) (disch := first | assumption | omega) only [go_sem, ↓reduceIte, Nat.reduceEqDiff, reduceCtorEq, Nat.reduceAdd, Nat.reduceMul, Nat.reduceLeDiff, zfu, Int.mul_def, Int.add_def, zfv, cond_false, cond_true, isub, Int.reduceToNat, s0, s1]
 refine CLLD_pure _ (cVec ha hT (by omega)) (by simp (disch := assumption) only [pureL, pureA, isL_pure, isLL_pure, isLLL_pure, pureL_map, Bool.and_self, Bool.and_true]) rfl ?_
 simp (maxSteps := 10000000) (disch := first | assumption | omega) only [go_sem, ↓reduceIte, Nat.reduceEqDiff, reduceCtorEq, Nat.reduceAdd, Nat.reduceMul, Nat.reduceLeDiff, zfu, Int.mul_def, Int.add_def, zfv, cond_false, cond_true, isub, Int.reduceToNat, s0, s1]
 refine CLLD_q _ cE (by repeat' first | exact exqL.nil | refine exqL.cons ?_ ?_ | exact exq_sc _ _ _ (by decide) | exact exq_L (by first | assumption | exact isL_imm _) (by decide) | exact exq_LL (by assumption) (by decide) | exact exq_LLL (by assumption) (by decide) | refine exq_refL ?_ ?_ (by decide) | refine exq_refLL ?_ ?_ (by decide) | refine exq_cube ?_ (by decide) | refine exq_agg ?_ | assumption | rfl | (simp only [↓zcy, ↓zcz, ↓zda, ↓zdb, ↓reduceIte, Nat.reduceEqDiff, and_true, true_and, and_self, ne_eq, not_false_eq_true, eq_self, false_and, and_false, reduceCtorEq, zfe, List.length_map]; done) | (simp only [↓zcy, ↓zcz, ↓zda, ↓zdb, ↓reduceIte, Nat.reduceEqDiff, and_true, true_and, and_self, ne_eq, not_false_eq_true, eq_self, false_and, and_false, reduceCtorEq]; first | rfl | assumption)) rfl rfl ?_
 simp (maxSteps := 10000000) (disch := first | assumption | omega) only [go_sem, ↓reduceIte, Nat.reduceEqDiff, reduceCtorEq, Nat.reduceAdd, Nat.reduceMul, Nat.reduceLeDiff, zfu, Int.mul_def, Int.add_def, zfv, cond_false, cond_true, isub, Int.reduceToNat, s0, s1]
 refine FIN_of (by kernel_rfl) ?_
 simp (maxSteps := 10000000) (disch := first | assumption | omega) only [go_sem, ↓reduceIte, Nat.reduceEqDiff, reduceCtorEq, Nat.reduceAdd, Nat.reduceMul, Nat.reduceLeDiff, zfu, Int.mul_def, Int.add_def, zfv, cond_false, cond_true, isub, Int.reduceToNat, s0, s1]
 simp only [zbj, zbk, retR, resL, outT, zes, zez, oneV, ↓zcy, ↓zcz, ↓reduceIte, Nat.reduceEqDiff, Option.some.injEq, AV.sc.injEq, Value.bool.injEq, Value.int.injEq, outL, outT, zft, zcp, zed, zef, zei, zeh, List.length_cons, List.length_nil, Nat.reduceAdd, Nat.zero_add, Nat.reduceLeDiff, List.drop_zero, List.take_succ_cons, List.take_zero, zfi, zfh, Ro.dl, zdb, zda, zfe, and_self, and_true, true_and, eq_self, List.append_nil, List.nil_append, List.cons_append, ne_eq, not_false_eq_true, and_false, false_and, Bool.false_eq_true, St.ev, zes, zfn, zhk, List.length_map]
end Go.Proofs.YtgcnmlecihegcaaGreat
/- Pointed rings and Lagrangian vectors, told. -/
namespace Go.Proofs.YtgcnmlecihegcaaGreat
open Go.RowKit
set_option maxRecDepth 1000000
theorem impE_tupLB (b : Nat) (gn : Nat → Nat) (xs : List AV) (v : Value) : impE b gn (.tup [.row xs, .sc v]) = ⟨.tup [.ref b (gn b + 1) [] 0 xs.length, .sc v], none, [], [(b, .row xs)]⟩ := nr _
theorem cInvLs {a : AV} {T : List (List (List Int))} (ha : isLLL a T) (hT : T.length ≤ maxN) (hT2 : ∀ i, i < T.length → (mat T i).length ≤ maxN ∧ ∀ j, j < (mat T i).length → (row (mat T i) j).length ≤ maxN) (h : PtP T) :
   CallOK Tryz.prog 52 [.agg [a]] (.tup [rowL (rws (fun k => (k : Int)) T.length), i64 0]) := by
 have hT' : T.length ≤ 4294967296 := hT
 have e0 : rowL (rws (fun k => (k : Int)) T.length) = .row (rws (fun k => i64 (k : Int)) T.length) := by simp only [rowL, rws_map]
 refine call_of (fn := Tryz.f52) (code := bodyOf Tryz.f52) Tryz.func52 rfl (by kernel_rfl) (noRef_tup1 _ _ (noRef_rowL _)) ?_
 intro sl hs
 have s0 : sl 0 = .agg [a] := hs 0
 rw [e0]
 dsimp only [Tryz.f52, bodyOf, Option.getD]
 simp (maxSteps := 10000000) (disch := first | assumption | omega) only [go_sem, ↓reduceIte, Nat.reduceEqDiff, reduceCtorEq, Nat.reduceAdd, Nat.reduceMul, Nat.reduceLeDiff, zfu, Int.mul_def, Int.add_def, zfv, cond_false, cond_true, isub, Int.reduceToNat, s0]
 refine CLL_pure _ (c118 (t := true) ha hT hT2 (by simp [h.c])) (by simp (disch := assumption) only [pureL, pureA, isL_pure, isLL_pure, isLLL_pure, pureL_map, Bool.and_self, Bool.and_true]) rfl rfl ?_
 simp (maxSteps := 10000000) (disch := first | assumption | omega) only [go_sem, ↓reduceIte, Nat.reduceEqDiff, reduceCtorEq, Nat.reduceAdd, Nat.reduceMul, Nat.reduceLeDiff, zfu, Int.mul_def, Int.add_def, zfv, cond_false, cond_true, isub, Int.reduceToNat, s0]
 refine WK_for (fun i st => st.sl 1 = .ptr 4096 1 [] 0 ∧ st.ro 4096 1 = some (.bx [a]) ∧ st.sl 12 = i64 (T.length : Int) ∧ st.sl 13 = i64 (i : Int) ∧ st.sl 4 = .ref 16384 (st.gn 16384) [] 0 i ∧ st.ro 16384 (st.gn 16384) = some (.row (rws (fun x => i64 (x : Int)) i))) T.length ?_ ?_ ?_
 · simp only [↓zcy, ↓zcz, ↓zda, ↓zdb, ↓reduceIte, Nat.reduceEqDiff, and_true, true_and, and_self, ne_eq, not_false_eq_true, eq_self, false_and, and_false, reduceCtorEq, rws_zero, s0]
   (repeat' first | rfl | exact i64c rfl | exact i64c (by omega) | exact trivial | apply And.intro)
 · rintro i sl ro gn hi ⟨s1, r4096, s12, s13, s4, r16384⟩
   dsimp only at s1 r4096 s12 s13 s4 r16384
   have hi' : (i : Int) < (T.length : Nat) := by omega
   simp (maxSteps := 10000000) (disch := first | assumption | omega) only [go_sem, ↓reduceIte, Nat.reduceEqDiff, reduceCtorEq, Nat.reduceAdd, Nat.reduceMul, Nat.reduceLeDiff, zfu, Int.mul_def, Int.add_def, zfv, cond_false, cond_true, isub, Int.reduceToNat, s1, r4096, s12, s13, s4, r16384, hi', hi]
   refine CLL_pure _ (cInvL ha hT h hi) (by simp (disch := assumption) only [pureL, pureA, isL_pure, isLL_pure, isLLL_pure, pureL_map, Bool.and_self, Bool.and_true]) rfl rfl ?_
   simp (maxSteps := 10000000) (disch := first | assumption | omega) only [go_sem, ↓reduceIte, Nat.reduceEqDiff, reduceCtorEq, Nat.reduceAdd, Nat.reduceMul, Nat.reduceLeDiff, zfu, Int.mul_def, Int.add_def, zfv, cond_false, cond_true, isub, Int.reduceToNat, s1, r4096, s12, s13, s4, r16384, hi', hi]
   (repeat' first | rfl | exact i64c rfl | exact i64c (by omega) | exact trivial | apply And.intro)
 · rintro sl ro gn ⟨s1, r4096, s12, s13, s4, r16384⟩
   dsimp only at s1 r4096 s12 s13 s4 r16384
   have hi' : ¬ ((T.length : Nat) : Int) < (T.length : Nat) := by omega
   simp (maxSteps := 10000000) (disch := first | assumption | omega) only [go_sem, ↓reduceIte, Nat.reduceEqDiff, reduceCtorEq, Nat.reduceAdd, Nat.reduceMul, Nat.reduceLeDiff, zfu, Int.mul_def, Int.add_def, zfv, cond_false, cond_true, isub, Int.reduceToNat, s1, r4096, s12, s13, s4, r16384, hi']
   simp only [zbj, zbk, retR, resL, outT, zes, zez, oneV, ↓zcy, ↓zcz, ↓reduceIte, Nat.reduceEqDiff, Option.some.injEq, AV.sc.injEq, Value.bool.injEq, Value.int.injEq, outL, outT, zft, zcp, zed, zef, zei, zeh, List.length_cons, List.length_nil, Nat.reduceAdd, Nat.zero_add, Nat.reduceLeDiff, List.drop_zero, List.take_succ_cons, List.take_zero, zfi, zfh, Ro.dl, zdb, zda, zfe, and_self, and_true, true_and, eq_self, List.append_nil, List.nil_append, List.cons_append, ne_eq, not_false_eq_true, and_false, false_and, Bool.false_eq_true, St.ev, zes, zfn, zhk, List.length_map, r16384]
theorem cPointed {a : AV} {T : List (List (List Int))} (ha : isLLL a T) (hT : T.length ≤ maxN) (hT2 : ∀ i, i < T.length → (mat T i).length ≤ maxN ∧ ∀ j, j < (mat T i).length → (row (mat T i) j).length ≤ maxN) (h : PtP T) :
   CallOK Tryz.prog 19 [.agg [a]] (.tup [bo true, i64 0]) := by
 refine call_of (fn := Tryz.f19) (code := bodyOf Tryz.f19) Tryz.func19 rfl (by kernel_rfl) (rfl) ?_
 intro sl hs
 have s0 : sl 0 = .agg [a] := hs 0
 dsimp only [Tryz.f19, bodyOf, Option.getD]
 simp (maxSteps := 10000000) (disch := first | assumption | omega) only [go_sem, ↓reduceIte, Nat.reduceEqDiff, reduceCtorEq, Nat.reduceAdd, Nat.reduceMul, Nat.reduceLeDiff, zfu, Int.mul_def, Int.add_def, zfv, cond_false, cond_true, isub, Int.reduceToNat, s0]
 refine CLL_pure _ (cInvLs ha hT hT2 h) (by simp (disch := assumption) only [pureL, pureA, isL_pure, isLL_pure, isLLL_pure, pureL_map, Bool.and_self, Bool.and_true]) rfl rfl ?_
 simp only [rowL]
 simp (maxSteps := 10000000) (disch := first | assumption | omega) only [go_sem, ↓reduceIte, Nat.reduceEqDiff, reduceCtorEq, Nat.reduceAdd, Nat.reduceMul, Nat.reduceLeDiff, zfu, Int.mul_def, Int.add_def, zfv, cond_false, cond_true, isub, Int.reduceToNat, s0, impE_tupLB, List.length_map]
 simp only [zbj, zbk, retR, resL, outT, zes, zez, oneV, ↓zcy, ↓zcz, ↓reduceIte, Nat.reduceEqDiff, Option.some.injEq, AV.sc.injEq, Value.bool.injEq, Value.int.injEq, outL, outT, zft, zcp, zed, zef, zei, zeh, List.length_cons, List.length_nil, Nat.reduceAdd, Nat.zero_add, Nat.reduceLeDiff, List.drop_zero, List.take_succ_cons, List.take_zero, zfi, zfh, Ro.dl, zdb, zda, zfe, and_self, and_true, true_and, eq_self, List.append_nil, List.nil_append, List.cons_append, ne_eq, not_false_eq_true, and_false, false_and, Bool.false_eq_true, St.ev, zes, zfn, zhk, List.length_map]
structure LagP (S : List (List Int)) (T v : List Int) : Prop where
 l : v.length = T.length
 w : ∀ k, k < v.length → 0 ≤ atI v k ∧ atI v k ≤ 1000
 o : atI v 0 = 1
 t : ∀ i, i < v.length → atI v i ≠ 0 → atI T i = 1
 d : ∀ i, i < T.length → sm (fun j => atI (row S i) j * atI v j) T.length % 55441 = sm (fun j => atI v j * atI (row S 0) j) T.length % 55441 * atI v i % 55441
 q : (sm (fun j => atI v j * atI (row S 0) j) T.length % 55441) * (sm (fun j => atI v j * atI (row S 0) j) T.length % 55441) % 55441 = whl S T.length
theorem cLagr {a b c : AV} {S : List (List Int)} {T v : List Int} (ha : isLL a S) (hb : isL b T) (hc : isL c v) (hs : Shp S T) (h : LagP S T v) :
   CallOK Tryz.prog 53 [.agg [a, b], c] (bo true) := by
 obtain ⟨hpos, hmax, hlS, hlR, hnS, hnT⟩ := hs
 obtain ⟨hl, hw, ho, ht, hd, hq⟩ := h
 have hmax' : v.length ≤ 4294967296 := by rw [hl]; exact hmax
 have hw' : allW v 0 1000 = true := allW_iff.2 hw
 have hwn : numL v := fun k => by
   rcases Nat.lt_or_ge k v.length with h | h
   · have := hw k h; exact ⟨by omega, by omega⟩
   · have : atI v k = 0 := by simp [atI, List.getD_eq_getElem?_getD, List.getElem?_eq_none h]
     rw [this]; exact ⟨by omega, by omega⟩
 have h0r := isLL_row ha (k := 0) (by omega)
 have hr0 := hlR 0 hpos
 have c1 := c129 (lo := 0) (hi := 1000) hc (by rw [hl]; exact hmax)
 rw [hw'] at c1
 have cm := c119 hc h0r (by omega) (by rw [hr0]; omega) hwn (hnS 0)
 rw [hl] at cm
 have hv0 : (0 : Int) < v.length := by omega
 have hm0 : 0 ≤ sm (fun j => atI v j * atI (row S 0) j) T.length % 55441 := Int.emod_nonneg _ (by omega)
 have hm1 : sm (fun j => atI v j * atI (row S 0) j) T.length % 55441 < 55441 := Int.emod_lt_of_pos _ (by omega)
 have hlv : (v.length : Int) = T.length := by omega
 have hlS' : (S.length : Int) = T.length := by omega
 have hS0 : (0 : Int) < S.length := by omega
 generalize hM : sm (fun j => atI v j * atI (row S 0) j) T.length % 55441 = M at cm hm0 hm1 hd hq
 have hMM := mulB (x := M) (y := M) (X := 55440) (Y := 55440) hm0 (by omega) hm0 (by omega)
 refine call_of (fn := Tryz.f53) (code := bodyOf Tryz.f53) Tryz.func53 rfl (by kernel_rfl) (rfl) ?_
 intro sl hs
 have s0 : sl 0 = .agg [a, b] := hs 0
 have s1 : sl 1 = c := hs 1
 dsimp only [Tryz.f53, bodyOf, Option.getD]
 simp (maxSteps := 10000000) (disch := first | assumption | omega) only [go_sem, ↓reduceIte, Nat.reduceEqDiff, reduceCtorEq, Nat.reduceAdd, Nat.reduceMul, Nat.reduceLeDiff, zfu, Int.mul_def, Int.add_def, zfv, cond_false, cond_true, isub, Int.reduceToNat, s0, s1, hl]
 refine CLL_pure _ c1 (by simp (disch := assumption) only [pureL, pureA, isL_pure, isLL_pure, isLLL_pure, pureL_map, Bool.and_self, Bool.and_true]) rfl rfl ?_
 simp (maxSteps := 10000000) (disch := first | assumption | omega) only [go_sem, ↓reduceIte, Nat.reduceEqDiff, reduceCtorEq, Nat.reduceAdd, Nat.reduceMul, Nat.reduceLeDiff, zfu, Int.mul_def, Int.add_def, zfv, cond_false, cond_true, isub, Int.reduceToNat, s0, s1, hl, ho]
 refine WK_for (fun i st => st.sl 1 = c ∧ st.sl 2 = .ptr 4096 1 [] 0 ∧ st.ro 4096 1 = some (.bx [a, b]) ∧ st.sl 27 = c ∧ st.sl 28 = i64 (v.length : Int) ∧ st.sl 29 = i64 (i : Int)) v.length ?_ ?_ ?_
 · simp only [↓zcy, ↓zcz, ↓zda, ↓zdb, ↓reduceIte, Nat.reduceEqDiff, and_true, true_and, and_self, ne_eq, not_false_eq_true, eq_self, false_and, and_false, reduceCtorEq, rws_zero, s0, s1]
   (repeat' first | rfl | exact i64c rfl | exact i64c (by omega) | exact trivial | apply And.intro)
 · rintro i sl ro gn hi ⟨s1, s2, r4096, s27, s28, s29⟩
   dsimp only at s1 s2 r4096 s27 s28 s29
   have hi' : (i : Int) < (v.length : Nat) := by omega
   have hiT : i < T.length := by omega
   by_cases hz : atI v i = 0
   · skip
     simp (maxSteps := 10000000) (disch := first | assumption | omega) only [go_sem, ↓reduceIte, Nat.reduceEqDiff, reduceCtorEq, Nat.reduceAdd, Nat.reduceMul, Nat.reduceLeDiff, zfu, Int.mul_def, Int.add_def, zfv, cond_false, cond_true, isub, Int.reduceToNat, s1, s2, r4096, s27, s28, s29, hi', hi, hz]
     (repeat' first | rfl | exact i64c rfl | exact i64c (by omega) | exact trivial | apply And.intro)
   · have hti := ht i hi hz
     simp (maxSteps := 10000000) (disch := first | assumption | omega) only [go_sem, ↓reduceIte, Nat.reduceEqDiff, reduceCtorEq, Nat.reduceAdd, Nat.reduceMul, Nat.reduceLeDiff, zfu, Int.mul_def, Int.add_def, zfv, cond_false, cond_true, isub, Int.reduceToNat, s1, s2, r4096, s27, s28, s29, hi', hi, hz, hti]
     (repeat' first | rfl | exact i64c rfl | exact i64c (by omega) | exact trivial | apply And.intro)
 · rintro sl ro gn ⟨s1, s2, r4096, s27, s28, s29⟩
   dsimp only at s1 s2 r4096 s27 s28 s29
   have hi' : ¬ ((v.length : Nat) : Int) < (v.length : Nat) := by omega
   simp (maxSteps := 10000000) (disch := first | assumption | omega) only [go_sem, ↓reduceIte, Nat.reduceEqDiff, reduceCtorEq, Nat.reduceAdd, Nat.reduceMul, Nat.reduceLeDiff, zfu, Int.mul_def, Int.add_def, zfv, cond_false, cond_true, isub, Int.reduceToNat, s1, s2, r4096, s27, s28, s29, hi']
   refine CLL_pure _ cm (by simp (disch := assumption) only [pureL, pureA, isL_pure, isLL_pure, isLLL_pure, pureL_map, Bool.and_self, Bool.and_true]) rfl rfl ?_
   simp (maxSteps := 10000000) (disch := first | assumption | omega) only [go_sem, ↓reduceIte, Nat.reduceEqDiff, reduceCtorEq, Nat.reduceAdd, Nat.reduceMul, Nat.reduceLeDiff, zfu, Int.mul_def, Int.add_def, zfv, cond_false, cond_true, isub, Int.reduceToNat, s1, s2, r4096, s27, s28, s29, hi']
   refine WK_for (fun i st => st.sl 1 = c ∧ st.sl 2 = .ptr 4096 1 [] 0 ∧ st.ro 4096 1 = some (.bx [a, b]) ∧ st.sl 7 = i64 M ∧ st.sl 52 = a ∧ st.sl 53 = i64 (S.length : Int) ∧ st.sl 54 = i64 (i : Int)) S.length ?_ ?_ ?_
   · simp only [↓zcy, ↓zcz, ↓zda, ↓zdb, ↓reduceIte, Nat.reduceEqDiff, and_true, true_and, and_self, ne_eq, not_false_eq_true, eq_self, false_and, and_false, reduceCtorEq, rws_zero, s1, s2, r4096, s27, s28, s29, hi']
     (repeat' first | rfl | exact i64c rfl | exact i64c (by omega) | exact trivial | apply And.intro)
   · rintro i sl ro gn hi ⟨s1, s2, r4096, s7, s52, s53, s54⟩
     dsimp only at s1 s2 r4096 s7 s52 s53 s54
     have hi' : (i : Int) < (S.length : Nat) := by omega
     have h1r := isLL_row ha hi
     have hri := hlR i (by omega)
     have ci := c119 h1r hc (by omega) (by rw [hri]; omega) (hnS i) hwn
     rw [hri, hd i (by omega)] at ci
     have hwi := hw i (by omega)
     have hMi := mulB (x := M) (y := atI v i) (X := 55440) (Y := 1000) hm0 (by omega) hwi.1 (by omega)
     have htm : (M * atI v i).tmod 55441 = M * atI v i % 55441 := Int.tmod_eq_emod_of_nonneg hMi.1
     simp (maxSteps := 10000000) (disch := first | assumption | omega) only [go_sem, ↓reduceIte, Nat.reduceEqDiff, reduceCtorEq, Nat.reduceAdd, Nat.reduceMul, Nat.reduceLeDiff, zfu, Int.mul_def, Int.add_def, zfv, cond_false, cond_true, isub, Int.reduceToNat, s1, s2, r4096, s7, s52, s53, s54, hi', hi]
     refine CLLD_pure _ ci (by simp (disch := assumption) only [pureL, pureA, isL_pure, isLL_pure, isLLL_pure, pureL_map, Bool.and_self, Bool.and_true]) rfl ?_
     simp (maxSteps := 10000000) (disch := first | assumption | omega) only [go_sem, ↓reduceIte, Nat.reduceEqDiff, reduceCtorEq, Nat.reduceAdd, Nat.reduceMul, Nat.reduceLeDiff, zfu, Int.mul_def, Int.add_def, zfv, cond_false, cond_true, isub, Int.reduceToNat, s1, s2, r4096, s7, s52, s53, s54, hi', hi, htm]
     refine FIN_of (by kernel_rfl) ?_
     simp (maxSteps := 10000000) (disch := first | assumption | omega) only [go_sem, ↓reduceIte, Nat.reduceEqDiff, reduceCtorEq, Nat.reduceAdd, Nat.reduceMul, Nat.reduceLeDiff, zfu, Int.mul_def, Int.add_def, zfv, cond_false, cond_true, isub, Int.reduceToNat, s1, s2, r4096, s7, s52, s53, s54, hi', hi, htm]
     (repeat' first | rfl | exact i64c rfl | exact i64c (by omega) | exact trivial | apply And.intro)
   · rintro sl ro gn ⟨s1, s2, r4096, s7, s52, s53, s54⟩
     dsimp only at s1 s2 r4096 s7 s52 s53 s54
     have hi' : ¬ ((S.length : Nat) : Int) < (S.length : Nat) := by omega
     have htm : (M * M).tmod 55441 = M * M % 55441 := Int.tmod_eq_emod_of_nonneg hMM.1
     have cw := c91 (b := b) ha (isL_cell hb) (fun ro => isL_cellB ro hb) (by omega) (by omega) hnS
     rw [hr0] at cw
     simp (maxSteps := 10000000) (disch := first | assumption | omega) only [go_sem, ↓reduceIte, Nat.reduceEqDiff, reduceCtorEq, Nat.reduceAdd, Nat.reduceMul, Nat.reduceLeDiff, zfu, Int.mul_def, Int.add_def, zfv, cond_false, cond_true, isub, Int.reduceToNat, s1, s2, r4096, s7, s52, s53, s54, hi']
     refine CLL_pure _ cw (by simp (disch := assumption) only [pureL, pureA, isL_pure, isLL_pure, isLLL_pure, pureL_map, Bool.and_self, Bool.and_true]) rfl rfl ?_
     simp (maxSteps := 10000000) (disch := first | assumption | omega) only [go_sem, ↓reduceIte, Nat.reduceEqDiff, reduceCtorEq, Nat.reduceAdd, Nat.reduceMul, Nat.reduceLeDiff, zfu, Int.mul_def, Int.add_def, zfv, cond_false, cond_true, isub, Int.reduceToNat, s1, s2, r4096, s7, s52, s53, s54, hi', htm, hq]
     simp only [zbj, zbk, retR, resL, outT, zes, zez, oneV, ↓zcy, ↓zcz, ↓reduceIte, Nat.reduceEqDiff, Option.some.injEq, AV.sc.injEq, Value.bool.injEq, Value.int.injEq, outL, outT, zft, zcp, zed, zef, zei, zeh, List.length_cons, List.length_nil, Nat.reduceAdd, Nat.zero_add, Nat.reduceLeDiff, List.drop_zero, List.take_succ_cons, List.take_zero, zfi, zfh, Ro.dl, zdb, zda, zfe, and_self, and_true, true_and, eq_self, List.append_nil, List.nil_append, List.cons_append, ne_eq, not_false_eq_true, and_false, false_and, Bool.false_eq_true, St.ev, zes, zfn, zhk, List.length_map]
theorem cIsLag {a b c : AV} {S : List (List Int)} {T v : List Int} (ha : isLL a S) (hb : isL b T) (hc : isL c v) (hS : S.length ≤ maxN) (hT : T.length ≤ maxN) (hR : ∀ i, i < S.length → (row S i).length ≤ maxN) (hD : DataP S T) (h : LagP S T v) :
   CallOK Tryz.prog 20 [.agg [a, b], c] (.tup [bo true, i64 0]) := by
 refine call_of (fn := Tryz.f20) (code := bodyOf Tryz.f20) Tryz.func20 rfl (by kernel_rfl) (rfl) ?_
 intro sl hs
 have s0 : sl 0 = .agg [a, b] := hs 0
 have s1 : sl 1 = c := hs 1
 dsimp only [Tryz.f20, bodyOf, Option.getD]
 simp (maxSteps := 10000000) (disch := first | assumption | omega) only [go_sem, ↓reduceIte, Nat.reduceEqDiff, reduceCtorEq, Nat.reduceAdd, Nat.reduceMul, Nat.reduceLeDiff, zfu, Int.mul_def, Int.add_def, zfv, cond_false, cond_true, isub, Int.reduceToNat, s0, s1]
 refine CLL_pure _ (c62 (t := true) ha hb hS hT hR (by simp [hD])) (by simp (disch := assumption) only [pureL, pureA, isL_pure, isLL_pure, isLLL_pure, pureL_map, Bool.and_self, Bool.and_true]) rfl rfl ?_
 simp (maxSteps := 10000000) (disch := first | assumption | omega) only [go_sem, ↓reduceIte, Nat.reduceEqDiff, reduceCtorEq, Nat.reduceAdd, Nat.reduceMul, Nat.reduceLeDiff, zfu, Int.mul_def, Int.add_def, zfv, cond_false, cond_true, isub, Int.reduceToNat, s0, s1]
 refine CLL_pure _ (cLagr ha hb hc (Shp_of hD.1) h) (by simp (disch := assumption) only [pureL, pureA, isL_pure, isLL_pure, isLLL_pure, pureL_map, Bool.and_self, Bool.and_true]) rfl rfl ?_
 simp (maxSteps := 10000000) (disch := first | assumption | omega) only [go_sem, ↓reduceIte, Nat.reduceEqDiff, reduceCtorEq, Nat.reduceAdd, Nat.reduceMul, Nat.reduceLeDiff, zfu, Int.mul_def, Int.add_def, zfv, cond_false, cond_true, isub, Int.reduceToNat, s0, s1]
 simp only [zbj, zbk, retR, resL, outT, zes, zez, oneV, ↓zcy, ↓zcz, ↓reduceIte, Nat.reduceEqDiff, Option.some.injEq, AV.sc.injEq, Value.bool.injEq, Value.int.injEq, outL, outT, zft, zcp, zed, zef, zei, zeh, List.length_cons, List.length_nil, Nat.reduceAdd, Nat.zero_add, Nat.reduceLeDiff, List.drop_zero, List.take_succ_cons, List.take_zero, zfi, zfh, Ro.dl, zdb, zda, zfe, and_self, and_true, true_and, eq_self, List.append_nil, List.nil_append, List.cons_append, ne_eq, not_false_eq_true, and_false, false_and, Bool.false_eq_true, St.ev, zes, zfn, zhk, List.length_map]
end Go.Proofs.YtgcnmlecihegcaaGreat
/- Data of a metric. -/
namespace Go.Proofs.YtgcnmlecihegcaaGreat
open Go.RowKit
set_option maxRecDepth 1000000
def rpM (M k : Int) : Int := pw (pw 38 (55440 / M)) (k % M)
def mS (O : List Int) (M : Int) (V : List Int) : List (List Int) := rws (fun x => rws (fun y => rpM M (0 - prM O M V x y)) V.length) V.length
def mT (M : Int) (V : List Int) : List Int := rws (fun x => rpM M (atI V x)) V.length
section
variable {O V : List Int} {M : Int}
theorem cRootP (hM : 1 ≤ M ∧ M ≤ 55440) {k : Int} (hk : -4294967296 < k ∧ k < 4294967296) : CallOK Tryz.prog 106 [mt O M V, i64 k] (i64 (rpM M k)) := by
 have h1 : 0 ≤ k % M := Int.emod_nonneg _ (by omega)
 have h2 : k % M < M := Int.emod_lt_of_pos _ (by omega)
 have hp1 := pw_nonneg 38 (55440 / M)
 have hp2 := pw_lt 38 (55440 / M)
 have hv := isL_imm V
 have hvo := isL_imm O
 refine call_of (fn := Tryz.f106) (code := bodyOf Tryz.f106) Tryz.func106 rfl (by kernel_rfl) (rfl) ?_
 intro sl hs
 have s0 : sl 0 = mt O M V := hs 0
 have s1 : sl 1 = i64 k := hs 1
 dsimp only [Tryz.f106, bodyOf, Option.getD]
 simp (maxSteps := 10000000) (disch := first | assumption | omega) only [go_sem, ↓reduceIte, Nat.reduceEqDiff, reduceCtorEq, Nat.reduceAdd, Nat.reduceMul, Nat.reduceLeDiff, zfu, Int.mul_def, Int.add_def, zfv, cond_false, cond_true, isub, Int.reduceToNat, s0, s1]
 refine CLLD_pure _ (c75 hM.1 hM.2) (by simp (disch := assumption) only [pureL, pureA, isL_pure, isLL_pure, isLLL_pure, pureL_map, Bool.and_self, Bool.and_true]) rfl ?_
 simp (maxSteps := 10000000) (disch := first | assumption | omega) only [go_sem, ↓reduceIte, Nat.reduceEqDiff, reduceCtorEq, Nat.reduceAdd, Nat.reduceMul, Nat.reduceLeDiff, zfu, Int.mul_def, Int.add_def, zfv, cond_false, cond_true, isub, Int.reduceToNat, s0, s1]
 refine CLLD_pure _ (cRest (O := O) (V := V) hM hk) (by simp (disch := assumption) only [pureL, pureA, isL_pure, isLL_pure, isLLL_pure, pureL_map, Bool.and_self, Bool.and_true]) rfl ?_
 simp (maxSteps := 10000000) (disch := first | assumption | omega) only [go_sem, ↓reduceIte, Nat.reduceEqDiff, reduceCtorEq, Nat.reduceAdd, Nat.reduceMul, Nat.reduceLeDiff, zfu, Int.mul_def, Int.add_def, zfv, cond_false, cond_true, isub, Int.reduceToNat, s0, s1]
 refine CLLD_pure _ (c77 (a := pw 38 (55440 / M)) (k := k % M) hp1 hp2 h1 (by omega)) (by simp (disch := assumption) only [pureL, pureA, isL_pure, isLL_pure, isLLL_pure, pureL_map, Bool.and_self, Bool.and_true]) rfl ?_
 simp (maxSteps := 10000000) (disch := first | assumption | omega) only [go_sem, ↓reduceIte, Nat.reduceEqDiff, reduceCtorEq, Nat.reduceAdd, Nat.reduceMul, Nat.reduceLeDiff, zfu, Int.mul_def, Int.add_def, zfv, cond_false, cond_true, isub, Int.reduceToNat, s0, s1]
 refine FIN_of (by kernel_rfl) ?_
 simp (maxSteps := 10000000) (disch := first | assumption | omega) only [go_sem, ↓reduceIte, Nat.reduceEqDiff, reduceCtorEq, Nat.reduceAdd, Nat.reduceMul, Nat.reduceLeDiff, zfu, Int.mul_def, Int.add_def, zfv, cond_false, cond_true, isub, Int.reduceToNat, s0, s1]
 simp only [zbj, zbk, retR, resL, outT, zes, zez, oneV, ↓zcy, ↓zcz, ↓reduceIte, Nat.reduceEqDiff, Option.some.injEq, AV.sc.injEq, Value.bool.injEq, Value.int.injEq, outL, outT, zft, zcp, zed, zef, zei, zeh, List.length_cons, List.length_nil, Nat.reduceAdd, Nat.zero_add, Nat.reduceLeDiff, List.drop_zero, List.take_succ_cons, List.take_zero, zfi, zfh, Ro.dl, zdb, zda, zfe, and_self, and_true, true_and, eq_self, List.append_nil, List.nil_append, List.cons_append, ne_eq, not_false_eq_true, and_false, false_and, Bool.false_eq_true, St.ev, zes, zfn, zhk, List.length_map]
 rfl
theorem rpM_num (M k : Int) : 0 ≤ rpM M k ∧ rpM M k < 55441 := ⟨pw_nonneg _ _, pw_lt _ _⟩
theorem noRef_D (S : List (List Int)) (T : List Int) : noRef (.agg [rowLL S, rowL T]) = true := by
 show (noRef (rowLL S) && noRefL [rowL T]) = true
 rw [noRef_rowLL]
 show (noRef (rowL T) && true) = true
 rw [noRef_rowL]; rfl
theorem cDoM (h : MetB O M V) (hpos : 0 < V.length) : CallOK Tryz.prog 58 [mt O M V] (.agg [rowLL (mS O M V), rowL (mT M V)]) := by
 have hn := h.n
 have hs := h.g.sz
 have hv := isL_imm V
 have hvo := isL_imm O
 obtain ⟨m1, m2⟩ := h.m
 have e1 : rowLL (mS O M V) = .row (rws (fun x => .row (rws (fun y => i64 (rpM M (0 - prM O M V x y))) V.length)) V.length) := by simp only [rowLL, rowL, mS, rws_map]
 have e2 : rowL (mT M V) = .row (rws (fun x => i64 (rpM M (atI V x))) V.length) := by simp only [rowL, mT, rws_map]
 refine call_of (fn := Tryz.f58) (code := bodyOf Tryz.f58) Tryz.func58 rfl (by kernel_rfl) (noRef_D _ _) ?_
 intro sl hs
 have s0 : sl 0 = mt O M V := hs 0
 rw [e1, e2]
 dsimp only [Tryz.f58, bodyOf, Option.getD]
 simp (maxSteps := 10000000) (disch := first | assumption | omega) only [go_sem, ↓reduceIte, Nat.reduceEqDiff, reduceCtorEq, Nat.reduceAdd, Nat.reduceMul, Nat.reduceLeDiff, zfu, Int.mul_def, Int.add_def, zfv, cond_false, cond_true, isub, Int.reduceToNat, s0]
 refine CLL_pure _ cSize (by simp (disch := assumption) only [pureL, pureA, isL_pure, isLL_pure, isLLL_pure, pureL_map, Bool.and_self, Bool.and_true]) rfl rfl ?_
 simp (maxSteps := 10000000) (disch := first | assumption | omega) only [go_sem, ↓reduceIte, Nat.reduceEqDiff, reduceCtorEq, Nat.reduceAdd, Nat.reduceMul, Nat.reduceLeDiff, zfu, Int.mul_def, Int.add_def, zfv, cond_false, cond_true, isub, Int.reduceToNat, s0]
 refine WK_for (fun i st => st.sl 1 = .ptr 4096 1 [] 0 ∧ st.ro 4096 1 = some (.bx [immL O, i64 M, immL V]) ∧ st.sl 2 = .ptr 4112 1 [] 0 ∧ st.ro 4112 1 = some (.bx [nilA, nilA]) ∧ st.sl 9 = i64 (V.length : Int) ∧ st.sl 10 = i64 (i : Int) ∧ st.sl 3 = .ptr 8208 1 [] 0 ∧ ((i = 0 ∧ st.ro 8208 1 = some (.bx [nilA, nilA])) ∨ (0 < i ∧ st.ro 8208 1 = some (.bx [.ref 49216 (st.gn 49216) [] 0 i, .ref 49392 (st.gn 49392) [] 0 i]) ∧ st.ro 49216 (st.gn 49216) = some (.row (rws (fun x => .row (rws (fun y => i64 (rpM M (0 - prM O M V x y))) V.length)) i)) ∧ st.ro 49392 (st.gn 49392) = some (.row (rws (fun x => i64 (rpM M (atI V x))) i))))) V.length ?_ ?_ ?_
 · simp only [↓zcy, ↓zcz, ↓zda, ↓zdb, ↓reduceIte, Nat.reduceEqDiff, and_true, true_and, and_self, ne_eq, not_false_eq_true, eq_self, false_and, and_false, reduceCtorEq, rws_zero, s0]
   exact ⟨rfl, .inl trivial⟩
 · rintro i sl ro gn hi ⟨s1, r4096, s2, r4112, s9, s10, s3, q⟩
   dsimp only at s1 r4096 s2 r4112 s9 s10 s3
   have hi' : (i : Int) < (V.length : Nat) := by omega
   have hvi := h.v i hi
   rcases q with ⟨hi0, q8⟩ | ⟨hi0, q8, qS, qT⟩
   · dsimp only at q8
     simp (maxSteps := 10000000) (disch := first | assumption | omega) only [go_sem, ↓reduceIte, Nat.reduceEqDiff, reduceCtorEq, Nat.reduceAdd, Nat.reduceMul, Nat.reduceLeDiff, zfu, Int.mul_def, Int.add_def, zfv, cond_false, cond_true, isub, Int.reduceToNat, s1, r4096, s2, r4112, s9, s10, s3, hi', hi, q8]
     refine CLL_pure _ cSize (by simp (disch := assumption) only [pureL, pureA, isL_pure, isLL_pure, isLLL_pure, pureL_map, Bool.and_self, Bool.and_true]) rfl rfl ?_
     simp (maxSteps := 10000000) (disch := first | assumption | omega) only [go_sem, ↓reduceIte, Nat.reduceEqDiff, reduceCtorEq, Nat.reduceAdd, Nat.reduceMul, Nat.reduceLeDiff, zfu, Int.mul_def, Int.add_def, zfv, cond_false, cond_true, isub, Int.reduceToNat, s1, r4096, s2, r4112, s9, s10, s3, hi', hi, q8]
     refine WK_for (fun j st => st.sl 1 = .ptr 4096 1 [] 0 ∧ st.ro 4096 1 = some (.bx [immL O, i64 M, immL V]) ∧ st.sl 2 = .ptr 4112 1 [] 0 ∧ st.ro 4112 1 = some (.bx [nilA, nilA]) ∧ st.sl 9 = i64 (V.length : Int) ∧ st.sl 10 = i64 (i : Int) ∧ st.sl 3 = .ptr 8208 1 [] 0 ∧ st.sl 4 = i64 (i : Int) ∧ st.sl 15 = i64 (V.length : Int) ∧ st.sl 16 = i64 (j : Int) ∧ st.sl 5 = .ref 24576 (st.gn 24576) [] 0 j ∧ st.ro 24576 (st.gn 24576) = some (.row (rws (fun y => i64 (rpM M (0 - prM O M V i y))) j)) ∧ st.ro 8208 1 = some (.bx [nilA, nilA])) V.length ?_ ?_ ?_
     · simp only [↓zcy, ↓zcz, ↓zda, ↓zdb, ↓reduceIte, Nat.reduceEqDiff, and_true, true_and, and_self, ne_eq, not_false_eq_true, eq_self, false_and, and_false, reduceCtorEq, rws_zero, s1, r4096, s2, r4112, s9, s10, s3, hi', hi]
       (repeat' first | rfl | assumption | exact i64c rfl | exact i64c (by omega) | exact trivial | apply And.intro)
     · rintro j sl ro gn hj ⟨s1, r4096, s2, r4112, s9, s10, s3, s4, s15, s16, s5, r24576, r8208⟩
       dsimp only at s1 r4096 s2 r4112 s9 s10 s3 s4 s15 s16 s5 r24576 r8208
       have hj' : (j : Int) < (V.length : Nat) := by omega
       have hx := prM_rng (O := O) (V := V) (M := M) ⟨m1, m2⟩ i j
       simp (maxSteps := 10000000) (disch := first | assumption | omega) only [go_sem, ↓reduceIte, Nat.reduceEqDiff, reduceCtorEq, Nat.reduceAdd, Nat.reduceMul, Nat.reduceLeDiff, zfu, Int.mul_def, Int.add_def, zfv, cond_false, cond_true, isub, Int.reduceToNat, s1, r4096, s2, r4112, s9, s10, s3, s4, s15, s16, s5, r24576, r8208, hj', hj]
       refine CLLD_pure _ (cPair h hi hj) (by simp (disch := assumption) only [pureL, pureA, isL_pure, isLL_pure, isLLL_pure, pureL_map, Bool.and_self, Bool.and_true]) rfl ?_
       simp (maxSteps := 10000000) (disch := first | assumption | omega) only [go_sem, ↓reduceIte, Nat.reduceEqDiff, reduceCtorEq, Nat.reduceAdd, Nat.reduceMul, Nat.reduceLeDiff, zfu, Int.mul_def, Int.add_def, zfv, cond_false, cond_true, isub, Int.reduceToNat, s1, r4096, s2, r4112, s9, s10, s3, s4, s15, s16, s5, r24576, r8208, hj', hj]
       refine CLLD_pure _ (cRootP (O := O) (V := V) ⟨m1, m2⟩ (k := 0 - prM O M V i j) (by omega)) (by simp (disch := assumption) only [pureL, pureA, isL_pure, isLL_pure, isLLL_pure, pureL_map, Bool.and_self, Bool.and_true]) rfl ?_
       simp (maxSteps := 10000000) (disch := first | assumption | omega) only [go_sem, ↓reduceIte, Nat.reduceEqDiff, reduceCtorEq, Nat.reduceAdd, Nat.reduceMul, Nat.reduceLeDiff, zfu, Int.mul_def, Int.add_def, zfv, cond_false, cond_true, isub, Int.reduceToNat, s1, r4096, s2, r4112, s9, s10, s3, s4, s15, s16, s5, r24576, r8208, hj', hj]
       refine FIN_of (by kernel_rfl) ?_
       simp (maxSteps := 10000000) (disch := first | assumption | omega) only [go_sem, ↓reduceIte, Nat.reduceEqDiff, reduceCtorEq, Nat.reduceAdd, Nat.reduceMul, Nat.reduceLeDiff, zfu, Int.mul_def, Int.add_def, zfv, cond_false, cond_true, isub, Int.reduceToNat, s1, r4096, s2, r4112, s9, s10, s3, s4, s15, s16, s5, r24576, r8208, hj', hj]
       (repeat' first | rfl | assumption | exact i64c rfl | exact i64c (by omega) | exact trivial | apply And.intro)
     · rintro sl ro gn ⟨s1, r4096, s2, r4112, s9, s10, s3, s4, s15, s16, s5, r24576, r8208⟩
       dsimp only at s1 r4096 s2 r4112 s9 s10 s3 s4 s15 s16 s5 r24576 r8208
       have hj' : ¬ ((V.length : Nat) : Int) < (V.length : Nat) := by omega
       simp (maxSteps := 10000000) (disch := first | assumption | omega) only [go_sem, ↓reduceIte, Nat.reduceEqDiff, reduceCtorEq, Nat.reduceAdd, Nat.reduceMul, Nat.reduceLeDiff, zfu, Int.mul_def, Int.add_def, zfv, cond_false, cond_true, isub, Int.reduceToNat, s1, r4096, s2, r4112, s9, s10, s3, s4, s15, s16, s5, r24576, r8208, hj']
       refine CLLD_pure _ (cRootP (O := O) (V := V) ⟨m1, m2⟩ (k := atI V i) (by omega)) (by simp (disch := assumption) only [pureL, pureA, isL_pure, isLL_pure, isLLL_pure, pureL_map, Bool.and_self, Bool.and_true]) rfl ?_
       simp (maxSteps := 10000000) (disch := first | assumption | omega) only [go_sem, ↓reduceIte, Nat.reduceEqDiff, reduceCtorEq, Nat.reduceAdd, Nat.reduceMul, Nat.reduceLeDiff, zfu, Int.mul_def, Int.add_def, zfv, cond_false, cond_true, isub, Int.reduceToNat, s1, r4096, s2, r4112, s9, s10, s3, s4, s15, s16, s5, r24576, r8208, hj']
       refine FIN_of (by kernel_rfl) ?_
       simp (maxSteps := 10000000) (disch := first | assumption | omega) only [go_sem, ↓reduceIte, Nat.reduceEqDiff, reduceCtorEq, Nat.reduceAdd, Nat.reduceMul, Nat.reduceLeDiff, zfu, Int.mul_def, Int.add_def, zfv, cond_false, cond_true, isub, Int.reduceToNat, s1, r4096, s2, r4112, s9, s10, s3, s4, s15, s16, s5, r24576, r8208, hj']
       subst hi0
       exact ⟨rfl, .inr ⟨by omega, rfl, rfl, rfl⟩⟩
   · dsimp only at q8 qS qT
     simp (maxSteps := 10000000) (disch := first | assumption | omega) only [go_sem, ↓reduceIte, Nat.reduceEqDiff, reduceCtorEq, Nat.reduceAdd, Nat.reduceMul, Nat.reduceLeDiff, zfu, Int.mul_def, Int.add_def, zfv, cond_false, cond_true, isub, Int.reduceToNat, s1, r4096, s2, r4112, s9, s10, s3, hi', hi, q8, qS, qT]
     refine CLL_pure _ cSize (by simp (disch := assumption) only [pureL, pureA, isL_pure, isLL_pure, isLLL_pure, pureL_map, Bool.and_self, Bool.and_true]) rfl rfl ?_
     simp (maxSteps := 10000000) (disch := first | assumption | omega) only [go_sem, ↓reduceIte, Nat.reduceEqDiff, reduceCtorEq, Nat.reduceAdd, Nat.reduceMul, Nat.reduceLeDiff, zfu, Int.mul_def, Int.add_def, zfv, cond_false, cond_true, isub, Int.reduceToNat, s1, r4096, s2, r4112, s9, s10, s3, hi', hi, q8, qS, qT]
     refine WK_for (fun j st => st.sl 1 = .ptr 4096 1 [] 0 ∧ st.ro 4096 1 = some (.bx [immL O, i64 M, immL V]) ∧ st.sl 2 = .ptr 4112 1 [] 0 ∧ st.ro 4112 1 = some (.bx [nilA, nilA]) ∧ st.sl 9 = i64 (V.length : Int) ∧ st.sl 10 = i64 (i : Int) ∧ st.sl 3 = .ptr 8208 1 [] 0 ∧ st.sl 4 = i64 (i : Int) ∧ st.sl 15 = i64 (V.length : Int) ∧ st.sl 16 = i64 (j : Int) ∧ st.sl 5 = .ref 24576 (st.gn 24576) [] 0 j ∧ st.ro 24576 (st.gn 24576) = some (.row (rws (fun y => i64 (rpM M (0 - prM O M V i y))) j)) ∧ st.ro 8208 1 = some (.bx [.ref 49216 (st.gn 49216) [] 0 i, .ref 49392 (st.gn 49392) [] 0 i]) ∧ st.ro 49216 (st.gn 49216) = some (.row (rws (fun x => .row (rws (fun y => i64 (rpM M (0 - prM O M V x y))) V.length)) i)) ∧ st.ro 49392 (st.gn 49392) = some (.row (rws (fun x => i64 (rpM M (atI V x))) i))) V.length ?_ ?_ ?_
     · simp only [↓zcy, ↓zcz, ↓zda, ↓zdb, ↓reduceIte, Nat.reduceEqDiff, and_true, true_and, and_self, ne_eq, not_false_eq_true, eq_self, false_and, and_false, reduceCtorEq, rws_zero, s1, r4096, s2, r4112, s9, s10, s3, hi', hi]
       (repeat' first | rfl | assumption | exact i64c rfl | exact i64c (by omega) | exact trivial | apply And.intro)
     · rintro j sl ro gn hj ⟨s1, r4096, s2, r4112, s9, s10, s3, s4, s15, s16, s5, r24576, r8208, r49216, r49392⟩
       dsimp only at s1 r4096 s2 r4112 s9 s10 s3 s4 s15 s16 s5 r24576 r8208 r49216 r49392
       have hj' : (j : Int) < (V.length : Nat) := by omega
       have hx := prM_rng (O := O) (V := V) (M := M) ⟨m1, m2⟩ i j
       simp (maxSteps := 10000000) (disch := first | assumption | omega) only [go_sem, ↓reduceIte, Nat.reduceEqDiff, reduceCtorEq, Nat.reduceAdd, Nat.reduceMul, Nat.reduceLeDiff, zfu, Int.mul_def, Int.add_def, zfv, cond_false, cond_true, isub, Int.reduceToNat, s1, r4096, s2, r4112, s9, s10, s3, s4, s15, s16, s5, r24576, r8208, r49216, r49392, hj', hj]
       refine CLLD_pure _ (cPair h hi hj) (by simp (disch := assumption) only [pureL, pureA, isL_pure, isLL_pure, isLLL_pure, pureL_map, Bool.and_self, Bool.and_true]) rfl ?_
       simp (maxSteps := 10000000) (disch := first | assumption | omega) only [go_sem, ↓reduceIte, Nat.reduceEqDiff, reduceCtorEq, Nat.reduceAdd, Nat.reduceMul, Nat.reduceLeDiff, zfu, Int.mul_def, Int.add_def, zfv, cond_false, cond_true, isub, Int.reduceToNat, s1, r4096, s2, r4112, s9, s10, s3, s4, s15, s16, s5, r24576, r8208, r49216, r49392, hj', hj]
       refine CLLD_pure _ (cRootP (O := O) (V := V) ⟨m1, m2⟩ (k := 0 - prM O M V i j) (by omega)) (by simp (disch := assumption) only [pureL, pureA, isL_pure, isLL_pure, isLLL_pure, pureL_map, Bool.and_self, Bool.and_true]) rfl ?_
       simp (maxSteps := 10000000) (disch := first | assumption | omega) only [go_sem, ↓reduceIte, Nat.reduceEqDiff, reduceCtorEq, Nat.reduceAdd, Nat.reduceMul, Nat.reduceLeDiff, zfu, Int.mul_def, Int.add_def, zfv, cond_false, cond_true, isub, Int.reduceToNat, s1, r4096, s2, r4112, s9, s10, s3, s4, s15, s16, s5, r24576, r8208, r49216, r49392, hj', hj]
       refine FIN_of (by kernel_rfl) ?_
       simp (maxSteps := 10000000) (disch := first | assumption | omega) only [go_sem, ↓reduceIte, Nat.reduceEqDiff, reduceCtorEq, Nat.reduceAdd, Nat.reduceMul, Nat.reduceLeDiff, zfu, Int.mul_def, Int.add_def, zfv, cond_false, cond_true, isub, Int.reduceToNat, s1, r4096, s2, r4112, s9, s10, s3, s4, s15, s16, s5, r24576, r8208, r49216, r49392, hj', hj]
       (repeat' first | rfl | assumption | exact i64c rfl | exact i64c (by omega) | exact trivial | apply And.intro)
     · rintro sl ro gn ⟨s1, r4096, s2, r4112, s9, s10, s3, s4, s15, s16, s5, r24576, r8208, r49216, r49392⟩
       dsimp only at s1 r4096 s2 r4112 s9 s10 s3 s4 s15 s16 s5 r24576 r8208 r49216 r49392
       have hj' : ¬ ((V.length : Nat) : Int) < (V.length : Nat) := by omega
       simp (maxSteps := 10000000) (disch := first | assumption | omega) only [go_sem, ↓reduceIte, Nat.reduceEqDiff, reduceCtorEq, Nat.reduceAdd, Nat.reduceMul, Nat.reduceLeDiff, zfu, Int.mul_def, Int.add_def, zfv, cond_false, cond_true, isub, Int.reduceToNat, s1, r4096, s2, r4112, s9, s10, s3, s4, s15, s16, s5, r24576, r8208, r49216, r49392, hj']
       refine CLLD_pure _ (cRootP (O := O) (V := V) ⟨m1, m2⟩ (k := atI V i) (by omega)) (by simp (disch := assumption) only [pureL, pureA, isL_pure, isLL_pure, isLLL_pure, pureL_map, Bool.and_self, Bool.and_true]) rfl ?_
       simp (maxSteps := 10000000) (disch := first | assumption | omega) only [go_sem, ↓reduceIte, Nat.reduceEqDiff, reduceCtorEq, Nat.reduceAdd, Nat.reduceMul, Nat.reduceLeDiff, zfu, Int.mul_def, Int.add_def, zfv, cond_false, cond_true, isub, Int.reduceToNat, s1, r4096, s2, r4112, s9, s10, s3, s4, s15, s16, s5, r24576, r8208, r49216, r49392, hj']
       refine FIN_of (by kernel_rfl) ?_
       simp (maxSteps := 10000000) (disch := first | assumption | omega) only [go_sem, ↓reduceIte, Nat.reduceEqDiff, reduceCtorEq, Nat.reduceAdd, Nat.reduceMul, Nat.reduceLeDiff, zfu, Int.mul_def, Int.add_def, zfv, cond_false, cond_true, isub, Int.reduceToNat, s1, r4096, s2, r4112, s9, s10, s3, s4, s15, s16, s5, r24576, r8208, r49216, r49392, hj']
       exact ⟨i64c (by omega), .inr trivial⟩
 · rintro sl ro gn ⟨s1, r4096, s2, r4112, s9, s10, s3, q⟩
   dsimp only at s1 r4096 s2 r4112 s9 s10 s3
   have hi' : ¬ ((V.length : Nat) : Int) < (V.length : Nat) := by omega
   rcases q with ⟨hi0, q8⟩ | ⟨hi0, q8, qS, qT⟩
   · omega
   · dsimp only at q8 qS qT
     simp (maxSteps := 10000000) (disch := first | assumption | omega) only [go_sem, ↓reduceIte, Nat.reduceEqDiff, reduceCtorEq, Nat.reduceAdd, Nat.reduceMul, Nat.reduceLeDiff, zfu, Int.mul_def, Int.add_def, zfv, cond_false, cond_true, isub, Int.reduceToNat, s1, r4096, s2, r4112, s9, s10, s3, hi', q8, qS, qT]
     simp only [zbj, zbk, retR, resL, outT, zes, zez, oneV, ↓zcy, ↓zcz, ↓reduceIte, Nat.reduceEqDiff, Option.some.injEq, AV.sc.injEq, Value.bool.injEq, Value.int.injEq, outL, outT, zft, zcp, zed, zef, zei, zeh, List.length_cons, List.length_nil, Nat.reduceAdd, Nat.zero_add, Nat.reduceLeDiff, List.drop_zero, List.take_succ_cons, List.take_zero, zfi, zfh, Ro.dl, zdb, zda, zfe, and_self, and_true, true_and, eq_self, List.append_nil, List.nil_append, List.cons_append, ne_eq, not_false_eq_true, and_false, false_and, Bool.false_eq_true, St.ev, zes, zfn, zhk, List.length_map, ti25, s2, q8, qS, qT]
end
end Go.Proofs.YtgcnmlecihegcaaGreat
/- Radicals, data of nondegenerate metrics, and the hyperbolic metrics. -/
namespace Go.Proofs.YtgcnmlecihegcaaGreat
open Go.RowKit
set_option maxRecDepth 1000000
section
variable {O V : List Int} {M : Int}
def alF (O : List Int) (M : Int) (V : List Int) (i j : Nat) : Bool := decide (∀ y, y < j → prM O M V i y = 0)
theorem alF_0 (O : List Int) (M : Int) (V : List Int) (i : Nat) : alF O M V i 0 = true := decide_eq_true (fun y hy => by omega)
theorem alF_s (O : List Int) (M : Int) (V : List Int) (i j : Nat) : alF O M V i (j + 1) = (alF O M V i j && decide (prM O M V i j = 0)) := by
 unfold alF
 rw [← Bool.decide_and]
 refine decide_eq_decide.2 ⟨fun h => ⟨fun y hy => h y (by omega), h j (by omega)⟩, fun h y hy => ?_⟩
 rcases Nat.lt_or_ge y j with h1 | h1
 · exact h.1 y h1
 · have : y = j := by omega
   subst this; exact h.2
def NdP (O : List Int) (M : Int) (V : List Int) : Prop := ∀ i, i < V.length → ((∀ y, y < V.length → prM O M V i y = 0) ↔ i = 0)
theorem cRad (h : MetB O M V) (hpos : 0 < V.length) (hd : NdP O M V) : CallOK Tryz.prog 57 [mt O M V] (rowL [0]) := by
 have hn := h.n
 have hs := h.g.sz
 have hv := isL_imm V
 have hvo := isL_imm O
 refine call_of (fn := Tryz.f57) (code := bodyOf Tryz.f57) Tryz.func57 rfl (by kernel_rfl) (noRef_rowL _) ?_
 intro sl hs
 have s0 : sl 0 = mt O M V := hs 0
 dsimp only [Tryz.f57, bodyOf, Option.getD]
 simp (maxSteps := 10000000) (disch := first | assumption | omega) only [go_sem, ↓reduceIte, Nat.reduceEqDiff, reduceCtorEq, Nat.reduceAdd, Nat.reduceMul, Nat.reduceLeDiff, zfu, Int.mul_def, Int.add_def, zfv, cond_false, cond_true, isub, Int.reduceToNat, s0]
 refine CLL_pure _ cSize (by simp (disch := assumption) only [pureL, pureA, isL_pure, isLL_pure, isLLL_pure, pureL_map, Bool.and_self, Bool.and_true]) rfl rfl ?_
 simp (maxSteps := 10000000) (disch := first | assumption | omega) only [go_sem, ↓reduceIte, Nat.reduceEqDiff, reduceCtorEq, Nat.reduceAdd, Nat.reduceMul, Nat.reduceLeDiff, zfu, Int.mul_def, Int.add_def, zfv, cond_false, cond_true, isub, Int.reduceToNat, s0]
 refine WK_for (fun i st => st.sl 1 = .ptr 4096 1 [] 0 ∧ st.ro 4096 1 = some (.bx [immL O, i64 M, immL V]) ∧ st.sl 9 = i64 (V.length : Int) ∧ st.sl 10 = i64 (i : Int) ∧ st.sl 3 = .ref 8192 (st.gn 8192) [] 0 (if i = 0 then 0 else 1) ∧ st.ro 8192 (st.gn 8192) = some (.row (if i = 0 then [] else [i64 0]))) V.length ?_ ?_ ?_
 · simp only [↓zcy, ↓zcz, ↓zda, ↓zdb, ↓reduceIte, Nat.reduceEqDiff, and_true, true_and, and_self, ne_eq, not_false_eq_true, eq_self, false_and, and_false, reduceCtorEq, rws_zero, s0]
   (repeat' first | rfl | assumption | exact i64c rfl | exact i64c (by omega) | exact trivial | apply And.intro)
 · rintro i sl ro gn hi ⟨s1, r4096, s9, s10, s3, r8192⟩
   dsimp only at s1 r4096 s9 s10 s3 r8192
   have hi' : (i : Int) < (V.length : Nat) := by omega
   simp (maxSteps := 10000000) (disch := first | assumption | omega) only [go_sem, ↓reduceIte, Nat.reduceEqDiff, reduceCtorEq, Nat.reduceAdd, Nat.reduceMul, Nat.reduceLeDiff, zfu, Int.mul_def, Int.add_def, zfv, cond_false, cond_true, isub, Int.reduceToNat, s1, r4096, s9, s10, s3, r8192, hi', hi]
   refine CLL_pure _ cSize (by simp (disch := assumption) only [pureL, pureA, isL_pure, isLL_pure, isLLL_pure, pureL_map, Bool.and_self, Bool.and_true]) rfl rfl ?_
   simp (maxSteps := 10000000) (disch := first | assumption | omega) only [go_sem, ↓reduceIte, Nat.reduceEqDiff, reduceCtorEq, Nat.reduceAdd, Nat.reduceMul, Nat.reduceLeDiff, zfu, Int.mul_def, Int.add_def, zfv, cond_false, cond_true, isub, Int.reduceToNat, s1, r4096, s9, s10, s3, r8192, hi', hi]
   refine WK_for (fun j st => st.sl 1 = .ptr 4096 1 [] 0 ∧ st.ro 4096 1 = some (.bx [immL O, i64 M, immL V]) ∧ st.sl 9 = i64 (V.length : Int) ∧ st.sl 10 = i64 (i : Int) ∧ st.sl 3 = .ref 8192 (st.gn 8192) [] 0 (if i = 0 then 0 else 1) ∧ st.ro 8192 (st.gn 8192) = some (.row (if i = 0 then [] else [i64 0])) ∧ st.sl 4 = i64 (i : Int) ∧ st.sl 14 = i64 (V.length : Int) ∧ st.sl 15 = i64 (j : Int) ∧ st.sl 5 = bo (alF O M V i j)) V.length ?_ ?_ ?_
   · simp only [↓zcy, ↓zcz, ↓zda, ↓zdb, ↓reduceIte, Nat.reduceEqDiff, and_true, true_and, and_self, ne_eq, not_false_eq_true, eq_self, false_and, and_false, reduceCtorEq, rws_zero, s1, r4096, s9, s10, s3, r8192, hi', hi]
     simp only [alF_0]
     (repeat' first | rfl | assumption | exact i64c rfl | exact i64c (by omega) | exact trivial | apply And.intro)
   · rintro j sl ro gn hj ⟨s1, r4096, s9, s10, s3, r8192, s4, s14, s15, s5⟩
     dsimp only at s1 r4096 s9 s10 s3 r8192 s4 s14 s15 s5
     have hj' : (j : Int) < (V.length : Nat) := by omega
     cases hb : alF O M V i j with
     | false =>
       rw [hb] at s5
       simp (maxSteps := 10000000) (disch := first | assumption | omega) only [go_sem, ↓reduceIte, Nat.reduceEqDiff, reduceCtorEq, Nat.reduceAdd, Nat.reduceMul, Nat.reduceLeDiff, zfu, Int.mul_def, Int.add_def, zfv, cond_false, cond_true, isub, Int.reduceToNat, s1, r4096, s9, s10, s3, r8192, s4, s14, s15, s5, hj', hj]
       rw [alF_s, hb]
       (repeat' first | rfl | assumption | exact i64c rfl | exact i64c (by omega) | exact trivial | apply And.intro)
     | true =>
       rw [hb] at s5
       simp (maxSteps := 10000000) (disch := first | assumption | omega) only [go_sem, ↓reduceIte, Nat.reduceEqDiff, reduceCtorEq, Nat.reduceAdd, Nat.reduceMul, Nat.reduceLeDiff, zfu, Int.mul_def, Int.add_def, zfv, cond_false, cond_true, isub, Int.reduceToNat, s1, r4096, s9, s10, s3, r8192, s4, s14, s15, s5, hj', hj]
       refine CLL_pure _ (cPair h hi hj) (by simp (disch := assumption) only [pureL, pureA, isL_pure, isLL_pure, isLLL_pure, pureL_map, Bool.and_self, Bool.and_true]) rfl rfl ?_
       simp (maxSteps := 10000000) (disch := first | assumption | omega) only [go_sem, ↓reduceIte, Nat.reduceEqDiff, reduceCtorEq, Nat.reduceAdd, Nat.reduceMul, Nat.reduceLeDiff, zfu, Int.mul_def, Int.add_def, zfv, cond_false, cond_true, isub, Int.reduceToNat, s1, r4096, s9, s10, s3, r8192, s4, s14, s15, s5, hj', hj]
       rw [alF_s, hb]
       (repeat' first | rfl | assumption | exact i64c rfl | exact i64c (by omega) | exact trivial | apply And.intro)
   · rintro sl ro gn ⟨s1, r4096, s9, s10, s3, r8192, s4, s14, s15, s5⟩
     dsimp only at s1 r4096 s9 s10 s3 r8192 s4 s14 s15 s5
     have hj' : ¬ ((V.length : Nat) : Int) < (V.length : Nat) := by omega
     by_cases hi0 : i = 0
     · have hal : alF O M V i V.length = true := decide_eq_true ((hd i hi).2 hi0)
       rw [hal] at s5
       subst hi0
       simp only [if_pos] at s3 r8192
       simp (maxSteps := 10000000) (disch := first | assumption | omega) only [go_sem, ↓reduceIte, Nat.reduceEqDiff, reduceCtorEq, Nat.reduceAdd, Nat.reduceMul, Nat.reduceLeDiff, zfu, Int.mul_def, Int.add_def, zfv, cond_false, cond_true, isub, Int.reduceToNat, s1, r4096, s9, s10, s3, r8192, s4, s14, s15, s5, hj']
       exact ⟨i64c (by omega), rfl⟩
     · have hal : alF O M V i V.length = false := decide_eq_false (fun x => hi0 ((hd i hi).1 x))
       rw [hal] at s5
       simp only [if_neg hi0] at s3 r8192
       simp (maxSteps := 10000000) (disch := first | assumption | omega) only [go_sem, ↓reduceIte, Nat.reduceEqDiff, reduceCtorEq, Nat.reduceAdd, Nat.reduceMul, Nat.reduceLeDiff, zfu, Int.mul_def, Int.add_def, zfv, cond_false, cond_true, isub, Int.reduceToNat, s1, r4096, s9, s10, s3, r8192, s4, s14, s15, s5, hj']
       exact i64c (by omega)
 · rintro sl ro gn ⟨s1, r4096, s9, s10, s3, r8192⟩
   dsimp only at s1 r4096 s9 s10 s3 r8192
   have hi' : ¬ ((V.length : Nat) : Int) < (V.length : Nat) := by omega
   have hne : ¬ V.length = 0 := by omega
   simp only [if_neg hne] at s3 r8192
   simp (maxSteps := 10000000) (disch := first | assumption | omega) only [go_sem, ↓reduceIte, Nat.reduceEqDiff, reduceCtorEq, Nat.reduceAdd, Nat.reduceMul, Nat.reduceLeDiff, zfu, Int.mul_def, Int.add_def, zfv, cond_false, cond_true, isub, Int.reduceToNat, s1, r4096, s9, s10, s3, r8192, hi']
   simp only [zbj, zbk, retR, resL, outT, zes, zez, oneV, ↓zcy, ↓zcz, ↓reduceIte, Nat.reduceEqDiff, Option.some.injEq, AV.sc.injEq, Value.bool.injEq, Value.int.injEq, outL, outT, zft, zcp, zed, zef, zei, zeh, List.length_cons, List.length_nil, Nat.reduceAdd, Nat.zero_add, Nat.reduceLeDiff, List.drop_zero, List.take_succ_cons, List.take_zero, zfi, zfh, Ro.dl, zdb, zda, zfe, and_self, and_true, true_and, eq_self, List.append_nil, List.nil_append, List.cons_append, ne_eq, not_false_eq_true, and_false, false_and, Bool.false_eq_true, St.ev, zes, zfn, zhk, List.length_map, r8192]
   rfl
theorem cDataM (hM : MetP O M V) (hpos : 0 < V.length) (hd : NdP O M V) (hx : O.length ≤ maxN) (hv2 : V.length ≤ maxN) : CallOK Tryz.prog 25 [mt O M V] (.tup [.agg [rowLL (mS O M V), rowL (mT M V)], i64 0]) := by
 have hm := hM.1.m
 have hv := isL_imm V
 have hvo := isL_imm O
 refine call_of (fn := Tryz.f25) (code := bodyOf Tryz.f25) Tryz.func25 rfl (by kernel_rfl) (noRef_tup1 _ _ (noRef_D _ _)) ?_
 intro sl hs
 have s0 : sl 0 = mt O M V := hs 0
 dsimp only [Tryz.f25, bodyOf, Option.getD]
 simp (maxSteps := 10000000) (disch := first | assumption | omega) only [go_sem, ↓reduceIte, Nat.reduceEqDiff, reduceCtorEq, Nat.reduceAdd, Nat.reduceMul, Nat.reduceLeDiff, zfu, Int.mul_def, Int.add_def, zfv, cond_false, cond_true, isub, Int.reduceToNat, s0]
 refine CLL_pure _ (cIsMetric (t := true) hx hv2 ⟨by omega, by omega⟩ (by simp [hM])) (by simp (disch := assumption) only [pureL, pureA, isL_pure, isLL_pure, isLLL_pure, pureL_map, Bool.and_self, Bool.and_true]) rfl rfl ?_
 simp (maxSteps := 10000000) (disch := first | assumption | omega) only [go_sem, ↓reduceIte, Nat.reduceEqDiff, reduceCtorEq, Nat.reduceAdd, Nat.reduceMul, Nat.reduceLeDiff, zfu, Int.mul_def, Int.add_def, zfv, cond_false, cond_true, isub, Int.reduceToNat, s0]
 refine CLL_pure _ (cRad hM.1 hpos hd) (by simp (disch := assumption) only [pureL, pureA, isL_pure, isLL_pure, isLLL_pure, pureL_map, Bool.and_self, Bool.and_true]) rfl rfl ?_
 simp (maxSteps := 10000000) (disch := first | assumption | omega) only [go_sem, ↓reduceIte, Nat.reduceEqDiff, reduceCtorEq, Nat.reduceAdd, Nat.reduceMul, Nat.reduceLeDiff, zfu, Int.mul_def, Int.add_def, zfv, cond_false, cond_true, isub, Int.reduceToNat, s0]
 refine CLL_pure _ (cDoM hM.1 hpos) (by simp (disch := assumption) only [pureL, pureA, isL_pure, isLL_pure, isLLL_pure, pureL_map, Bool.and_self, Bool.and_true]) rfl rfl ?_
 simp (maxSteps := 10000000) (disch := first | assumption | omega) only [go_sem, ↓reduceIte, Nat.reduceEqDiff, reduceCtorEq, Nat.reduceAdd, Nat.reduceMul, Nat.reduceLeDiff, zfu, Int.mul_def, Int.add_def, zfv, cond_false, cond_true, isub, Int.reduceToNat, s0]
 simp only [zbj, zbk, retR, resL, outT, zes, zez, oneV, ↓zcy, ↓zcz, ↓reduceIte, Nat.reduceEqDiff, Option.some.injEq, AV.sc.injEq, Value.bool.injEq, Value.int.injEq, outL, outT, zft, zcp, zed, zef, zei, zeh, List.length_cons, List.length_nil, Nat.reduceAdd, Nat.zero_add, Nat.reduceLeDiff, List.drop_zero, List.take_succ_cons, List.take_zero, zfi, zfh, Ro.dl, zdb, zda, zfe, and_self, and_true, true_and, eq_self, List.append_nil, List.nil_append, List.cons_append, ne_eq, not_false_eq_true, and_false, false_and, Bool.false_eq_true, St.ev, zes, zfn, zhk, List.length_map, ti25]
end
def hyV (n : Nat) : List Int := rws (fun x => ((x / n * (x % n) % n : Nat) : Int)) (n * n)
abbrev hyR (n : Nat) : AV := .tup [.agg [rowL [(n : Int), (n : Int)], i64 (n : Int), rowL (hyV n)], i64 0]
theorem rHyp2 : callF Tryz.prog ti0 KP (fun _ => false) 20 24 [i64 2] = some (.tup [.agg [rowL [2, 2], i64 2, rowL [0, 0, 0, 1]], i64 0]) := by kernel_rfl
theorem rHyp3 : callF Tryz.prog ti0 KP (fun _ => false) 20 24 [i64 3] = some (.tup [.agg [rowL [3, 3], i64 3, rowL [0, 0, 0, 0, 1, 2, 0, 2, 1]], i64 0]) := by kernel_rfl
theorem rHyp4 : callF Tryz.prog ti0 KP (fun _ => false) 20 24 [i64 4] = some (.tup [.agg [rowL [4, 4], i64 4, rowL [0, 0, 0, 0, 0, 1, 2, 3, 0, 2, 0, 2, 0, 3, 2, 1]], i64 0]) := by kernel_rfl
end Go.Proofs.YtgcnmlecihegcaaGreat
