/- Texts joined: Ef3 Ef4 Ef5 Ef6. -/
import Derived.Test.YtilfkbgdpmimlaaGreatMj
import Derived.Test.YtilfkbgdpmimlaaGreatOb
import Derived.Test.YtilfkbgdpmimlaaGreatRa
set_option linter.all false
/- The size of a code. -/
namespace Go.Proofs.YtilfkbgdpmimlaaGreat
open Go.RowKit
set_option maxRecDepth 1000000
theorem cBig {a : AV} {bs : List Int} (ha : isB a bs) : CallOK Tryz.prog 4 [a] (bo (decide (4096 < bs.length))) := by
 refine call_of (fn := Tryz.f4) (code := bodyOf Tryz.f4) Tryz.func4 rfl (by kernel_rfl) (rfl) ?_
 intro sl hs
 have s0 : sl 0 = a := hs 0
 dsimp only [Tryz.f4, bodyOf, Option.getD]
 simp (maxSteps := 10000000) (disch := first | assumption | omega) only [go_sem, ↓reduceIte, Nat.reduceEqDiff, reduceCtorEq, Nat.reduceAdd, Nat.reduceMul, Nat.reduceLeDiff, zc, Int.reduceToNat, s0, ha]
 refine Yaa ?_
 simp only [decide_eq_decide]; omega
def kMax3 (x y z : AV) : Option Eff := match x, y, z with
 | .sc (.int k n), .sc (.int k' m), .sc (.int k'' l) => if k = k' ∧ k = k'' then some ⟨.sc (.int k (if l > (if m > n then m else n) then l else (if m > n then m else n))), none, [], []⟩ else none
 | _, _, _ => none
section
variable {ti : Nat → Option TI} {b : Nat} {ro : Ro} {gn : Nat → Nat} {ev : Operand → AV}
theorem kCall_max3 (x y z : Operand) (ts : Array TypeId) : kCall ti b ro gn ev ⟨.builtin .max, #[x, y, z], ts⟩ = kMax3 (ev x) (ev y) (ev z) := nr _
end
def mx3 (a b c : Int) : Int := if c > (if b > a then b else a) then c else (if b > a then b else a)
theorem kMax3_i (a b c : Int) : kMax3 (i64 a) (i64 b) (i64 c) = some ⟨i64 (mx3 a b c), none, [], []⟩ := nr _
attribute [go_sem] kCall_max3 kMax3_i
def fitD (F : C3) (x : List Nat) : Prop := ∀ i, i < x.length → ∀ j, j < x.length → ∀ k, k < x.length → mx3 i j k = (x.length : Int) - 1 → F i j k = F (x.getD i 0) (x.getD j 0) (x.getD k 0)
def fit1 (F : C3) (x : List Nat) (i j k : Nat) : Prop := mx3 i j k = (x.length : Int) - 1 → F i j k = F (x.getD i 0) (x.getD j 0) (x.getD k 0)
theorem at_zl {x : List Nat} {i : Nat} (h : i < x.length) : atI (zl x) i = ((x.getD i 0 : Nat) : Int) := by
 unfold atI zl
 rw [List.getD_eq_getElem?_getD, List.getElem?_map, List.getD_eq_getElem?_getD, List.getElem?_eq_getElem h]
 rfl
set_option maxHeartbeats 4000000 in
theorem cFitsN {c p : AV} {F : C3} {n : Nat} {x : List Nat} (ha : isLLL c (cubeL F n)) (hp : isL p (zl x)) (hn : n ≤ maxN) (hx : x.length ≤ n) (hr : ∀ i, i < x.length → x.getD i 0 < n) {t : Bool} (ht : t = true ↔ fitD F x) : CallOK Tryz.prog 56 [.agg [c], .agg [c], p] (bo t) := by
 have lX : (cubeL F n).length = n := lenC F n
 have hz := zl_len x
 have hn2 : n ≤ 4294967296 := hn
 refine call_of (fn := Tryz.f56) (code := bodyOf Tryz.f56) Tryz.func56 rfl (by kernel_rfl) (rfl) ?_
 intro sl hs
 have s0 : sl 0 = .agg [c] := hs 0
 have s1 : sl 1 = .agg [c] := hs 1
 have s2 : sl 2 = p := hs 2
 dsimp only [Tryz.f56, bodyOf, Option.getD]
 simp (disch := first | assumption | omega) only [go_sem, ↓reduceIte, Nat.reduceEqDiff, Nat.reduceAdd, Nat.reduceMul, zc, s0, s1, s2, ti33, hz]
 refine WK_for (fun i st => st.sl 2 = p ∧ st.sl 3 = .ptr 4096 1 [] 0 ∧ st.ro 4096 1 = some (.bx [c]) ∧ st.sl 4 = .ptr 4112 1 [] 0 ∧ st.ro 4112 1 = some (.bx [c]) ∧ st.sl 7 = i64 ((x.length : Int) - 1) ∧ st.sl 17 = p ∧ st.sl 18 = i64 (x.length : Int) ∧ st.sl 19 = i64 (i : Int) ∧ (∀ a, a < i → ∀ j, j < x.length → ∀ k, k < x.length → fit1 F x a j k)) x.length ?_ ?_ ?_
 ·refine Ybd ?_
  exact ⟨rfl, lt0⟩
 ·rintro i sl ro gn hi ⟨s2, s3, r4096, s4, r4112, s7, s17, s18, s19, q⟩
  dsimp only at s2 s3 r4096 s4 r4112 s7 s17 s18 s19
  have hi' : (i : Int) < (x.length : Nat) := by omega
  have hiz : i < (zl x).length := by omega
  have ei := at_zl hi
  have xi := hr i hi
  have hm := isLLL_mat ha (k := i) (by omega)
  have lm : (mat (cubeL F n) i).length = n := lenM (by omega)
  have hm' := isLLL_mat ha (k := x.getD i 0) (by omega)
  have lm' : (mat (cubeL F n) (x.getD i 0)).length = n := lenM xi
  simp (disch := first | assumption | omega) only [go_sem, ↓reduceIte, Nat.reduceEqDiff, Nat.reduceAdd, Nat.reduceMul, zc, s2, s3, r4096, s4, r4112, s7, s17, s18, s19, hi', hi, hz, ei]
  refine WK_for (fun j st => st.sl 2 = p ∧ st.sl 3 = .ptr 4096 1 [] 0 ∧ st.ro 4096 1 = some (.bx [c]) ∧ st.sl 4 = .ptr 4112 1 [] 0 ∧ st.ro 4112 1 = some (.bx [c]) ∧ st.sl 7 = i64 ((x.length : Int) - 1) ∧ st.sl 17 = p ∧ st.sl 18 = i64 (x.length : Int) ∧ st.sl 19 = i64 (i : Int) ∧ st.sl 8 = i64 (i : Int) ∧ st.sl 9 = i64 ((x.getD i 0 : Nat) : Int) ∧ st.sl 24 = p ∧ st.sl 25 = i64 (x.length : Int) ∧ st.sl 26 = i64 (j : Int) ∧ (∀ b, b < j → ∀ k, k < x.length → fit1 F x i b k)) x.length ?_ ?_ ?_
  ·simp only [↓za, ↓reduceIte, Nat.reduceEqDiff, zb, reduceCtorEq, rws_zero, s2, s3, r4096, s4, r4112, s7, s17, s18, s19, hi', hi]
   exact ⟨rfl, lt0⟩
  ·rintro j sl ro gn hj ⟨s2, s3, r4096, s4, r4112, s7, s17, s18, s19, s8, s9, s24, s25, s26, q2⟩
   dsimp only at s2 s3 r4096 s4 r4112 s7 s17 s18 s19 s8 s9 s24 s25 s26
   have hj' : (j : Int) < (x.length : Nat) := by omega
   have hjz : j < (zl x).length := by omega
   have ej := at_zl hj
   have xj := hr j hj
   have hrw := isLL_row hm (k := j) (by omega)
   have lr : (row (mat (cubeL F n) i) j).length = n := lenR (by omega) (by omega)
   have hrw' := isLL_row hm' (k := x.getD j 0) (by omega)
   have lr' : (row (mat (cubeL F n) (x.getD i 0)) (x.getD j 0)).length = n := lenR xi xj
   simp (disch := first | assumption | omega) only [go_sem, ↓reduceIte, Nat.reduceEqDiff, Nat.reduceAdd, Nat.reduceMul, zc, s2, s3, r4096, s4, r4112, s7, s17, s18, s19, s8, s9, s24, s25, s26, hj', hj, hz, ej]
   refine WK_for (fun k st => st.sl 2 = p ∧ st.sl 3 = .ptr 4096 1 [] 0 ∧ st.ro 4096 1 = some (.bx [c]) ∧ st.sl 4 = .ptr 4112 1 [] 0 ∧ st.ro 4112 1 = some (.bx [c]) ∧ st.sl 7 = i64 ((x.length : Int) - 1) ∧ st.sl 17 = p ∧ st.sl 18 = i64 (x.length : Int) ∧ st.sl 19 = i64 (i : Int) ∧ st.sl 8 = i64 (i : Int) ∧ st.sl 9 = i64 ((x.getD i 0 : Nat) : Int) ∧ st.sl 24 = p ∧ st.sl 25 = i64 (x.length : Int) ∧ st.sl 26 = i64 (j : Int) ∧ st.sl 10 = i64 (j : Int) ∧ st.sl 11 = i64 ((x.getD j 0 : Nat) : Int) ∧ st.sl 31 = p ∧ st.sl 32 = i64 (x.length : Int) ∧ st.sl 33 = i64 (k : Int) ∧ (∀ k', k' < k → fit1 F x i j k')) x.length ?_ ?_ ?_
   ·simp only [↓za, ↓reduceIte, Nat.reduceEqDiff, zb, reduceCtorEq, rws_zero, s2, s3, r4096, s4, r4112, s7, s17, s18, s19, s8, s9, s24, s25, s26, hj', hj]
    exact ⟨rfl, lt0⟩
   ·rintro k sl ro gn hk ⟨s2, s3, r4096, s4, r4112, s7, s17, s18, s19, s8, s9, s24, s25, s26, s10, s11, s31, s32, s33, q3⟩
    dsimp only at s2 s3 r4096 s4 r4112 s7 s17 s18 s19 s8 s9 s24 s25 s26 s10 s11 s31 s32 s33
    have hk' : (k : Int) < (x.length : Nat) := by omega
    have hkz : k < (zl x).length := by omega
    have ek := at_zl hk
    have xk := hr k hk
    have v1 : atI (row (mat (cubeL F n) i) j) k = F i j k := at3_cube (by omega) (by omega) (by omega)
    have v2 : atI (row (mat (cubeL F n) (x.getD i 0)) (x.getD j 0)) (x.getD k 0) = F (x.getD i 0) (x.getD j 0) (x.getD k 0) := at3_cube xi xj xk
    have hin : i < (cubeL F n).length := by omega
    have hxin : x.getD i 0 < (cubeL F n).length := by omega
    have hjn : j < (mat (cubeL F n) i).length := by omega
    have hxjn : x.getD j 0 < (mat (cubeL F n) (x.getD i 0)).length := by omega
    have hkn : k < (row (mat (cubeL F n) i) j).length := by omega
    have hxkn : x.getD k 0 < (row (mat (cubeL F n) (x.getD i 0)) (x.getD j 0)).length := by omega
    by_cases hm3 : mx3 i j k = (x.length : Int) - 1
    ·by_cases he : F i j k = F (x.getD i 0) (x.getD j 0) (x.getD k 0)
     ·simp (disch := first | assumption | omega) only [go_sem, ↓reduceIte, Nat.reduceEqDiff, Nat.reduceAdd, Nat.reduceMul, zc, s2, s3, r4096, s4, r4112, s7, s17, s18, s19, s8, s9, s24, s25, s26, s10, s11, s31, s32, s33, hk', hk, ti33, ti31, ti4, hz, ek, eq_true hm3, isLLL_idx ha hin, isLLL_idx ha hxin, isLL_idx hm hjn, isLL_idx hm' hxjn, isL_idx hrw hkn, isL_idx hrw' hxkn, v1, v2, eq_true he]
      refine FIN_of (by kernel_rfl) ?_
      refine Ybo ?_
      exact ⟨i64c (by omega), ltS q3 (fun _ => he)⟩
     ·simp (disch := first | assumption | omega) only [go_sem, ↓reduceIte, Nat.reduceEqDiff, Nat.reduceAdd, Nat.reduceMul, zc, s2, s3, r4096, s4, r4112, s7, s17, s18, s19, s8, s9, s24, s25, s26, s10, s11, s31, s32, s33, hk', hk, ti33, ti31, ti4, hz, ek, eq_true hm3, isLLL_idx ha hin, isLLL_idx ha hxin, isLL_idx hm hjn, isLL_idx hm' hxjn, isL_idx hrw hkn, isL_idx hrw' hxkn, v1, v2, eq_false he]
      refine FIN_of (by kernel_rfl) ?_
      refine Ybo ?_
      refine Yaa ?_
      exact bool_false ht fun h => he (h i hi j hj k hk hm3)
    ·simp (disch := first | assumption | omega) only [go_sem, ↓reduceIte, Nat.reduceEqDiff, Nat.reduceAdd, Nat.reduceMul, zc, s2, s3, r4096, s4, r4112, s7, s17, s18, s19, s8, s9, s24, s25, s26, s10, s11, s31, s32, s33, hk', hk, ti33, ti31, ti4, hz, ek, eq_false hm3, undef]
     refine FIN_of (by kernel_rfl) ?_
     refine Ybo ?_
     exact ⟨i64c (by omega), ltS q3 (fun h => absurd h hm3)⟩
   ·rintro sl ro gn ⟨s2, s3, r4096, s4, r4112, s7, s17, s18, s19, s8, s9, s24, s25, s26, s10, s11, s31, s32, s33, q3⟩
    dsimp only at s2 s3 r4096 s4 r4112 s7 s17 s18 s19 s8 s9 s24 s25 s26 s10 s11 s31 s32 s33
    have hk' : ¬ ((x.length : Nat) : Int) < (x.length : Nat) := by omega
    simp (disch := first | assumption | omega) only [go_sem, ↓reduceIte, Nat.reduceEqDiff, Nat.reduceAdd, Nat.reduceMul, zc, s2, s3, r4096, s4, r4112, s7, s17, s18, s19, s8, s9, s24, s25, s26, s10, s11, s31, s32, s33, hk']
    exact ⟨i64c (by omega), ltS q2 q3⟩
  ·rintro sl ro gn ⟨s2, s3, r4096, s4, r4112, s7, s17, s18, s19, s8, s9, s24, s25, s26, q2⟩
   dsimp only at s2 s3 r4096 s4 r4112 s7 s17 s18 s19 s8 s9 s24 s25 s26
   have hj' : ¬ ((x.length : Nat) : Int) < (x.length : Nat) := by omega
   simp (disch := first | assumption | omega) only [go_sem, ↓reduceIte, Nat.reduceEqDiff, Nat.reduceAdd, Nat.reduceMul, zc, s2, s3, r4096, s4, r4112, s7, s17, s18, s19, s8, s9, s24, s25, s26, hj']
   exact ⟨i64c (by omega), ltS q q2⟩
 ·rintro sl ro gn ⟨s2, s3, r4096, s4, r4112, s7, s17, s18, s19, q⟩
  dsimp only at s2 s3 r4096 s4 r4112 s7 s17 s18 s19
  have hi' : ¬ ((x.length : Nat) : Int) < (x.length : Nat) := by omega
  simp (disch := first | assumption | omega) only [go_sem, ↓reduceIte, Nat.reduceEqDiff, Nat.reduceAdd, Nat.reduceMul, zc, s2, s3, r4096, s4, r4112, s7, s17, s18, s19, hi']
  refine Yaa ?_
  exact (ht.2 q).symm
theorem tiCf : ti0 57 = some ⟨1, false, [Value.nilFunc], none, [], none, false, false, none, none⟩ := by kernel_rfl
theorem tiCg : ti0 80 = some ⟨1, false, [Value.nilFunc], none, [], none, false, false, none, none⟩ := by kernel_rfl
attribute [go_sem] tiCf tiCg
def sK (f : Nat → Nat) : Nat → Nat
 | 0 => 0
 | k + 1 => sK f k + f k
def okI (x : List Nat) (i : Nat) : Prop := ¬ i ∈ x ∧ (x.length = 0 ↔ i = 0)
open Classical in
noncomputable def autS (n : Nat) (F : C3) : Nat → List Nat → Nat
 | 0, _ => 1
 | d + 1, x => sK (fun i => if okI x i then (if fitD F (x ++ [i]) then autS n F d (x ++ [i]) else 0) else 0) n
theorem sK_le {f : Nat → Nat} {c : Nat} (h : ∀ i, f i ≤ c) : ∀ k, sK f k ≤ k * c
 | 0 => Nat.zero_le _
 | k + 1 => by
  have := sK_le h k
  have := h k
  rw [Nat.add_mul, Nat.one_mul]
  show sK f k + f k ≤ _
  omega
theorem autS_le (n : Nat) (F : C3) : ∀ (d : Nat) (x : List Nat), autS n F d x ≤ n ^ d
 | 0, _ => Nat.le_refl _
 | d + 1, x => by
  rw [Nat.pow_succ, Nat.mul_comm]
  unfold autS
  refine sK_le (fun i => ?_) n
  split
  ·split
   ·exact autS_le n F d _
   ·exact Nat.zero_le _
  ·exact Nat.zero_le _
section
variable {ro ro' : Ro} {gn gn' : Nat → Nat} {F : C3} {n : Nat} {W : List Nat} {C : Nat → Nat → Prop} {cs : List AV}
theorem sEn {gp gb k : Nat} {K : Nat} (hb : ro 20480 gb = some (.bx [i64 (K : Int)])) (hK : K < 4294967296) : InS Tryz.prog 31 [.ref 8240 gp [] 0 k, .ptr 20480 gb [] 0] ro gn (fun r ro' gn' => r = bo false ∧ ro' = upr ro 20480 gb (.bx [i64 ((K + 1 : Nat) : Int)]) ∧ gn = gn') := by
 have e1 : (K : Int) + 1 = ((K + 1 : Nat) : Int) := by omega
 refine in_ofS (fn := Tryz.f31) (code := bodyOf Tryz.f31) Tryz.func31 rfl (by kernel_rfl) ?_
 intro sl hs
 have s0 : sl 0 = .ref 8240 gp [] 0 k := hs 0
 have s1 : sl 1 = .ptr 20480 gb [] 0 := hs 1
 dsimp only [Tryz.f31, bodyOf, Option.getD]
 simp (disch := first | assumption | omega) only [go_sem, ↓reduceIte, Nat.reduceEqDiff, Nat.reduceAdd, Nat.reduceMul, zc, s0, s1, ti2, ti4, hb, e1]
 exact RETS_1 (bo false) Ur ⟨rfl, rfl, rfl⟩
def W54i : List Nat := [8272, 8240, 20480, 32800]
structure EnvI (ro : Ro) (gn : Nat → Nat) (n gN gV gE gr gs gc gb : Nat) (cs : List AV) : Prop where
 n : ro 8256 gN = some (.bx [i64 (n : Int)])
 v : ro 4128 gV = some (.bx [.fn 31 [.ptr 20480 gb [] 0]])
 e : ro 12288 gE = some (.bx [.fn 54 [.ptr 8272 gc [] 0, .ptr 8256 gN [] 0, .ptr 4128 gV [] 0, .ptr 4096 gr [] 0, .ptr 4112 gs [] 0, .ptr 12288 gE [] 0]])
 r : ro 4096 gr = some (.bx [.imm cs])
 s : ro 4112 gs = some (.bx [.imm cs])
 nl : gN ≤ gn 8256
 vl : gV ≤ gn 4128
 el : gE ≤ gn 12288
 rl : gr ≤ gn 4096
 sl : gs ≤ gn 4112
 cl : gc ≤ gn 8272
 bl : gb ≤ gn 20480
abbrev CxI (gb gc gp x y : Nat) : Prop := (x = 20480 ∧ y = gb) ∨ (x = 8272 ∧ y = gc) ∨ (x = 8240 ∧ y = gp)
theorem EnvI.keep {gN gV gE gr gs gc gb gp : Nat} (h : EnvI ro gn n gN gV gE gr gs gc gb cs) (fr : Frx W (CxI gb gc gp) ro gn ro' gn') : EnvI ro' gn' n gN gV gE gr gs gc gb cs := by
 have k : ∀ x y, y ≤ gn x → x ≠ 20480 → x ≠ 8272 → x ≠ 8240 → ro' x y = ro x y := fun x y h1 h2 h3 h4 => fr.kp x y h1 fun hc => by rcases hc with e | e | e <;> omega
 exact ⟨(k _ _ h.nl (by decide) (by decide) (by decide)).trans h.n, (k _ _ h.vl (by decide) (by decide) (by decide)).trans h.v, (k _ _ h.el (by decide) (by decide) (by decide)).trans h.e, (k _ _ h.rl (by decide) (by decide) (by decide)).trans h.r, (k _ _ h.sl (by decide) (by decide) (by decide)).trans h.s,
  Nat.le_trans h.nl (fr.up _), Nat.le_trans h.vl (fr.up _), Nat.le_trans h.el (fr.up _), Nat.le_trans h.rl (fr.up _), Nat.le_trans h.sl (fr.up _), Nat.le_trans h.cl (fr.up _), Nat.le_trans h.bl (fr.up _)⟩
def PsI (k gb gc gp0 l0 K : Nat) (x : List Nat) (ro' : Ro) (gn' : Nat → Nat) : Prop :=
 ∃ gp ys, ro' 8272 gc = some (.bx [.ref 8240 gp [] 0 k]) ∧ ro' 8240 gp = some (rowL (zl (x ++ ys))) ∧ (gp ≤ gn' 8240 ∧ (gp = gp0 ∨ l0 < gp)) ∧ ro' 20480 gb = some (.bx [i64 (K : Int)])
def ExtI (F : C3) (n d : Nat) : Prop := ∀ (ro : Ro) (gn : Nat → Nat) (cs : List AV) (x : List Nat) (K gN gV gE gr gs gc gb gp : Nat), isLLL (.imm cs) (cubeL F n) → x.length + d = n → (∀ i, i < x.length → x.getD i 0 < n) → EnvI ro gn n gN gV gE gr gs gc gb cs →
 ro 8272 gc = some (.bx [.ref 8240 gp [] 0 x.length]) → ro 8240 gp = some (rowL (zl x)) → gp ≤ gn 8240 → ro 20480 gb = some (.bx [i64 (K : Int)]) → K + n ^ d ≤ 1000000 →
 InS Tryz.prog 54 [.ptr 8272 gc [] 0, .ptr 8256 gN [] 0, .ptr 4128 gV [] 0, .ptr 4096 gr [] 0, .ptr 4112 gs [] 0, .ptr 12288 gE [] 0] ro gn (fun r ro' gn' => r = bo false ∧ Frx W54i (CxI gb gc gp) ro gn ro' gn' ∧ PsI x.length gb gc gp (gn 8240) (K + autS n F d x) x ro' gn')
set_option maxHeartbeats 2000000 in
theorem isoBase : ExtI F n 0 := by
 intro ro gn cs x K gN gV gE gr gs gc gb gp ha hl hx hE rc rp pl rb hK
 have hll : (x.length : Int) = n := by omega
 have eN := hE.n
 have eV := hE.v
 refine in_ofS (fn := Tryz.f54) (code := bodyOf Tryz.f54) Tryz.func54 rfl (by kernel_rfl) ?_
 intro sl hs
 have s0 : sl 0 = .ptr 8272 gc [] 0 := hs 0
 have s1 : sl 1 = .ptr 8256 gN [] 0 := hs 1
 have s2 : sl 2 = .ptr 4128 gV [] 0 := hs 2
 have s3 : sl 3 = .ptr 4096 gr [] 0 := hs 3
 have s4 : sl 4 = .ptr 4112 gs [] 0 := hs 4
 have s5 : sl 5 = .ptr 12288 gE [] 0 := hs 5
 dsimp only [Tryz.f54, bodyOf, Option.getD]
 simp (disch := first | assumption | omega) only [go_sem, ↓reduceIte, Nat.reduceEqDiff, Nat.reduceAdd, Nat.reduceMul, zc, s0, s1, s2, s3, s4, s5, rc, eN, eV, rp, List.length_map, eq_true hll]
 refine CLL_inS rfl (sEn (K := K) rb (by omega)) ?_
 rintro _ _ _ ⟨rfl, rfl, rfl⟩
 refine Ydb ?_
 refine RETS_1 (bo false) Ur ⟨rfl, ?_, gp, [], ?_, ?_, ⟨pl, .inl rfl⟩, by simp only [↓za, ↓reduceIte, Nat.reduceEqDiff, zb, reduceCtorEq]; rfl⟩
 ·exact (Frx.refl _ _ _ _).wr _ _ _ (by decide) (.inr (.inl ⟨rfl, rfl⟩))
 ·exact Ue rc
 ·rw [List.append_nil]
  simp only [↓za, ↓reduceIte, Nat.reduceEqDiff, zb, reduceCtorEq]; exact rp
set_option maxHeartbeats 8000000 in
theorem isoStep (h3 : n ≤ 16) {d : Nat} (ih : ExtI F n d) : ExtI F n (d + 1) := by
 intro ro0 gn0 cs x K gN gV gE gr gs gc gb gp ha hl hx hE0 rc rp pl rb hK
 have hll : ¬ (x.length : Int) = n := by omega
 have eN := hE0.n
 have hlm : x.length + 1 ≤ 4294967296 := by omega
 have hn' : n ≤ maxN := by unfold maxN; omega
 obtain ⟨f, hf⟩ : ∃ f : Nat → Nat, autS n F (d + 1) x = sK f n ∧ (∀ i, ¬ okI x i → f i = 0) ∧ (∀ i, okI x i → ¬ fitD F (x ++ [i]) → f i = 0) ∧ (∀ i, okI x i → fitD F (x ++ [i]) → f i = autS n F d (x ++ [i])) ∧ ∀ i, f i ≤ n ^ d := by
  refine ⟨_, rfl, fun i h => if_neg h, fun i h1 h2 => by rw [if_pos h1, if_neg h2], fun i h1 h2 => by rw [if_pos h1, if_pos h2], fun i => ?_⟩
  split
  ·split
   ·exact autS_le n F d _
   ·exact Nat.zero_le _
  ·exact Nat.zero_le _
 obtain ⟨f1, f2, f3, f4, f5⟩ := hf
 rw [f1]
 have hsl := fun k => sK_le f5 k
 rw [Nat.pow_succ, Nat.mul_comm] at hK
 refine in_ofS (fn := Tryz.f54) (code := bodyOf Tryz.f54) Tryz.func54 rfl (by kernel_rfl) ?_
 intro sl hs
 have s0 : sl 0 = .ptr 8272 gc [] 0 := hs 0
 have s1 : sl 1 = .ptr 8256 gN [] 0 := hs 1
 have s2 : sl 2 = .ptr 4128 gV [] 0 := hs 2
 have s3 : sl 3 = .ptr 4096 gr [] 0 := hs 3
 have s4 : sl 4 = .ptr 4112 gs [] 0 := hs 4
 have s5 : sl 5 = .ptr 12288 gE [] 0 := hs 5
 dsimp only [Tryz.f54, bodyOf, Option.getD]
 simp (disch := first | assumption | omega) only [go_sem, ↓reduceIte, Nat.reduceEqDiff, Nat.reduceAdd, Nat.reduceMul, zc, s0, s1, s2, s3, s4, s5, rc, eN, rp, List.length_map, eq_false hll]
 refine WK_for (fun i st => st.sl 0 = .ptr 8272 gc [] 0 ∧ st.sl 1 = .ptr 8256 gN [] 0 ∧ st.sl 2 = .ptr 4128 gV [] 0 ∧ st.sl 3 = .ptr 4096 gr [] 0 ∧ st.sl 4 = .ptr 4112 gs [] 0 ∧ st.sl 5 = .ptr 12288 gE [] 0 ∧ st.sl 15 = i64 (n : Int) ∧ st.sl 16 = i64 (i : Int) ∧ (Frx W54i (CxI gb gc gp) ro0 gn0 st.ro st.gn) ∧ (PsI x.length gb gc gp (gn0 8240) (K + sK f i) x st.ro st.gn)) n ?_ ?_ ?_
 ·simp only [↓za, ↓reduceIte, Nat.reduceEqDiff, zb, reduceCtorEq, rws_zero, s0, s1, s2, s3, s4, s5]
  refine ⟨rfl, Frx.refl _ _ _ _, gp, [], rc, by rw [List.append_nil]; exact rp, ⟨pl, .inl rfl⟩, rb⟩
 ·rintro i sl ro gn hi ⟨s0, s1, s2, s3, s4, s5, s15, s16, fr, ps⟩
  dsimp only at s0 s1 s2 s3 s4 s5 s15 s16
  have hi' : (i : Int) < (n : Nat) := by omega
  dsimp only at fr ps
  obtain ⟨g1, ys, pc, pr, ⟨pl1, pl3⟩, pb⟩ := ps
  have hE := hE0.keep fr
  have eE := hE.e
  have er := hE.r
  have es := hE.s
  have hz : (zl (x ++ ys)).length = x.length + ys.length := by rw [zl_len, List.length_append]
  have ht : (zl (x ++ ys)).take x.length = zl x := by rw [← List.map_take, List.take_left]
  have hxl : ((zl (x ++ ys)).map i64).take x.length = (zl x).map i64 := by rw [← List.map_take, ht]
  have hmx : (zl x).length ≤ maxN := by rw [zl_len]; unfold maxN; omega
  have cc := c97 (a := immL (zl x)) (n := (i : Int)) (isL_imm (zl x)) hmx
  have hsi := hsl i
  have hmul : i * n ^ d + n ^ d ≤ n * n ^ d := by
   have := Nat.mul_le_mul_right (n ^ d) (show i + 1 ≤ n by omega)
   rwa [Nat.add_mul, Nat.one_mul] at this
  have hsk : sK f (i + 1) = sK f i + f i := rfl
  rw [hsk]
  by_cases hok : okI x i
  ·have hi0 : ((x.length : Int) = 0) = ((i : Int) = 0) := propext ⟨fun h => by have := hok.2.1 (by omega); omega, fun h => by have := hok.2.2 (by omega); omega⟩
   rw [decide_eq_false (fun h => hok.1 (ix_zl.1 h))] at cc
   have hx2 : ∀ j, j < (x ++ [i]).length → (x ++ [i]).getD j 0 < n := fun j hj => by
    rw [List.length_append, List.length_singleton] at hj
    by_cases hjl : j < x.length
    ·rw [List.getD_eq_getElem?_getD, List.getElem?_append_left hjl, ← List.getD_eq_getElem?_getD]; exact hx j hjl
    ·rw [show j = x.length by omega, List.getD_eq_getElem?_getD, List.getElem?_append_right (Nat.le_refl _), Nat.sub_self]
     show i < n
     assumption
   have hl2 : (x ++ [i]).length = x.length + 1 := by rw [List.length_append]; rfl
   have hh : (((x.length + 1 : Nat) : Int) - 1) = ((x.length : Nat) : Int) := by omega
   have hle : x.length ≤ x.length + 1 := by omega
   by_cases h0 : (i : Int) = 0
   ·have h0x : (x.length : Int) = 0 := by rw [hi0]; exact h0
    refine Yax ?_
    refine CLL_q _ cc (.cons (exq_refT pr ht (by omega) (by decide)) (.cons (exq_sc _ _ _ (by decide)) .nil)) rfl rfl rfl ?_
    simp (disch := first | assumption | omega) only [go_sem, ↓reduceIte, Nat.reduceEqDiff, Nat.reduceAdd, Nat.reduceMul, zc, s0, s1, s2, s3, s4, s5, s15, s16, hi', hi, pc, pr, hxl, zl_app, List.length_map, zl_len, hlm, er, es, eq_true h0x, eq_true h0]
    by_cases hfit : fitD F (x ++ [i])
    ·have cf := cFitsN ha (isL_imm (zl (x ++ [i]))) hn' (by rw [hl2]; omega) hx2 (t := true) ⟨fun _ => hfit, fun _ => rfl⟩
     refine CLL_q _ cf (.cons (exq_mono (exq_agg (.cons (exq_LLL ha (Nat.le_refl 4)) .nil)) (by decide)) (.cons (exq_mono (exq_agg (.cons (exq_LLL ha (Nat.le_refl 4)) .nil)) (by decide)) (.cons (exq_refL Ur (by rw [zl_len, hl2]) (by decide)) .nil))) rfl rfl rfl ?_
     simp (disch := first | assumption | omega) only [go_sem, ↓reduceIte, Nat.reduceEqDiff, Nat.reduceAdd, Nat.reduceMul, zc, s0, s1, s2, s3, s4, s5, s15, s16, hi', hi, eE]
     refine CLL_inS rfl (ih _ _ cs (x ++ [i]) (K + sK f i) gN gV gE gr gs gc gb (gn 8240 + 1) ha (by rw [hl2]; omega) hx2 (hE.keep (W := W54i) (gp := g1) KFt) (by simp only [↓za, ↓reduceIte, Nat.reduceEqDiff, zb, reduceCtorEq, hl2]) Ur Ur (Ue pb) (by omega)) ?_
     rintro _ ro' gn' ⟨rfl, fr', g2, ys2, pc2, pr2, ⟨pl2, pl4⟩, pb2⟩
     rw [hl2] at pc2
     rw [f4 i hok hfit]
     refine Yct ?_
     have u8 := fr.up 8240
     simp only [↓za, ↓reduceIte, Nat.reduceEqDiff, zb, reduceCtorEq] at pl4
     have frA : Frx W54i (CxI gb gc gp) ro0 gn0 ro' gn' := (fr.trans (C' := CxI gb gc g1) (show Frx W54i (CxI gb gc g1) ro gn _ _ from KFt) (by
      rintro a b (⟨e1, e2⟩ | ⟨e1, e2⟩ | ⟨e1, e2⟩)
      ·exact .inr (.inl ⟨e1, e2⟩)
      ·exact .inr (.inr (.inl ⟨e1, e2⟩))
      ·subst e1 e2
       rcases pl3 with e | e
       ·exact .inr (.inr (.inr ⟨rfl, e⟩))
       ·exact .inl e)).trans fr' (by
      rintro a b (⟨e1, e2⟩ | ⟨e1, e2⟩ | ⟨e1, e2⟩)
      ·exact .inr (.inl ⟨e1, e2⟩)
      ·exact .inr (.inr (.inl ⟨e1, e2⟩))
      ·subst e1 e2
       exact .inl (by omega))
     refine ⟨i64c (by omega), KFt, g2, i :: ys2, Ur, ?_, ⟨pl2, .inr (by omega)⟩, ?_⟩
     ·refine Ybk ?_
      rw [pr2, List.append_assoc]
      rfl
     ·refine Ybk ?_
      rw [pb2, Nat.add_assoc]
    ·have cf := cFitsN ha (isL_imm (zl (x ++ [i]))) hn' (by rw [hl2]; omega) hx2 (t := false) ⟨fun h => (nomatch h), fun h => absurd h hfit⟩
     refine CLL_q _ cf (.cons (exq_mono (exq_agg (.cons (exq_LLL ha (Nat.le_refl 4)) .nil)) (by decide)) (.cons (exq_mono (exq_agg (.cons (exq_LLL ha (Nat.le_refl 4)) .nil)) (by decide)) (.cons (exq_refL Ur (by rw [zl_len, hl2]) (by decide)) .nil))) rfl rfl rfl ?_
     rw [f3 i hok hfit, Nat.add_zero]
     refine Ycw ?_
     have u8 := fr.up 8240
     refine ⟨i64c (by omega), ?_, gn 8240 + 1, [i], Ur, ?_, ⟨Ur, .inr (by omega)⟩, Ue pb⟩
     ·refine Frx.trans (C' := CxI gb gc g1) fr KFt (by
       rintro a b (⟨e1, e2⟩ | ⟨e1, e2⟩ | ⟨e1, e2⟩)
       ·exact .inr (.inl ⟨e1, e2⟩)
       ·exact .inr (.inr (.inl ⟨e1, e2⟩))
       ·subst e1 e2
        rcases pl3 with e | e
        ·exact .inr (.inr (.inr ⟨rfl, e⟩))
        ·exact .inl e)
     ·first | (simp only [↓za, ↓reduceIte, Nat.reduceEqDiff, zb, reduceCtorEq]; done) | (simp only [↓za, ↓reduceIte, Nat.reduceEqDiff, zb, reduceCtorEq]; rfl)
   ·have h0x : ¬ (x.length : Int) = 0 := by rw [hi0]; exact h0
    refine Yax ?_
    refine CLL_q _ cc (.cons (exq_refT pr ht (by omega) (by decide)) (.cons (exq_sc _ _ _ (by decide)) .nil)) rfl rfl rfl ?_
    simp (disch := first | assumption | omega) only [go_sem, ↓reduceIte, Nat.reduceEqDiff, Nat.reduceAdd, Nat.reduceMul, zc, s0, s1, s2, s3, s4, s5, s15, s16, hi', hi, pc, pr, hxl, zl_app, List.length_map, zl_len, hlm, er, es, eq_false h0x, eq_false h0]
    by_cases hfit : fitD F (x ++ [i])
    ·have cf := cFitsN ha (isL_imm (zl (x ++ [i]))) hn' (by rw [hl2]; omega) hx2 (t := true) ⟨fun _ => hfit, fun _ => rfl⟩
     refine CLL_q _ cf (.cons (exq_mono (exq_agg (.cons (exq_LLL ha (Nat.le_refl 4)) .nil)) (by decide)) (.cons (exq_mono (exq_agg (.cons (exq_LLL ha (Nat.le_refl 4)) .nil)) (by decide)) (.cons (exq_refL Ur (by rw [zl_len, hl2]) (by decide)) .nil))) rfl rfl rfl ?_
     simp (disch := first | assumption | omega) only [go_sem, ↓reduceIte, Nat.reduceEqDiff, Nat.reduceAdd, Nat.reduceMul, zc, s0, s1, s2, s3, s4, s5, s15, s16, hi', hi, eE]
     refine CLL_inS rfl (ih _ _ cs (x ++ [i]) (K + sK f i) gN gV gE gr gs gc gb (gn 8240 + 1) ha (by rw [hl2]; omega) hx2 (hE.keep (W := W54i) (gp := g1) KFt) (by simp only [↓za, ↓reduceIte, Nat.reduceEqDiff, zb, reduceCtorEq, hl2]) Ur Ur (Ue pb) (by omega)) ?_
     rintro _ ro' gn' ⟨rfl, fr', g2, ys2, pc2, pr2, ⟨pl2, pl4⟩, pb2⟩
     rw [hl2] at pc2
     rw [f4 i hok hfit]
     refine Yct ?_
     have u8 := fr.up 8240
     simp only [↓za, ↓reduceIte, Nat.reduceEqDiff, zb, reduceCtorEq] at pl4
     have frA : Frx W54i (CxI gb gc gp) ro0 gn0 ro' gn' := (fr.trans (C' := CxI gb gc g1) (show Frx W54i (CxI gb gc g1) ro gn _ _ from KFt) (by
      rintro a b (⟨e1, e2⟩ | ⟨e1, e2⟩ | ⟨e1, e2⟩)
      ·exact .inr (.inl ⟨e1, e2⟩)
      ·exact .inr (.inr (.inl ⟨e1, e2⟩))
      ·subst e1 e2
       rcases pl3 with e | e
       ·exact .inr (.inr (.inr ⟨rfl, e⟩))
       ·exact .inl e)).trans fr' (by
      rintro a b (⟨e1, e2⟩ | ⟨e1, e2⟩ | ⟨e1, e2⟩)
      ·exact .inr (.inl ⟨e1, e2⟩)
      ·exact .inr (.inr (.inl ⟨e1, e2⟩))
      ·subst e1 e2
       exact .inl (by omega))
     refine ⟨i64c (by omega), KFt, g2, i :: ys2, Ur, ?_, ⟨pl2, .inr (by omega)⟩, ?_⟩
     ·refine Ybk ?_
      rw [pr2, List.append_assoc]
      rfl
     ·refine Ybk ?_
      rw [pb2, Nat.add_assoc]
    ·have cf := cFitsN ha (isL_imm (zl (x ++ [i]))) hn' (by rw [hl2]; omega) hx2 (t := false) ⟨fun h => (nomatch h), fun h => absurd h hfit⟩
     refine CLL_q _ cf (.cons (exq_mono (exq_agg (.cons (exq_LLL ha (Nat.le_refl 4)) .nil)) (by decide)) (.cons (exq_mono (exq_agg (.cons (exq_LLL ha (Nat.le_refl 4)) .nil)) (by decide)) (.cons (exq_refL Ur (by rw [zl_len, hl2]) (by decide)) .nil))) rfl rfl rfl ?_
     rw [f3 i hok hfit, Nat.add_zero]
     refine Ycw ?_
     have u8 := fr.up 8240
     refine ⟨i64c (by omega), ?_, gn 8240 + 1, [i], Ur, ?_, ⟨Ur, .inr (by omega)⟩, Ue pb⟩
     ·refine Frx.trans (C' := CxI gb gc g1) fr KFt (by
       rintro a b (⟨e1, e2⟩ | ⟨e1, e2⟩ | ⟨e1, e2⟩)
       ·exact .inr (.inl ⟨e1, e2⟩)
       ·exact .inr (.inr (.inl ⟨e1, e2⟩))
       ·subst e1 e2
        rcases pl3 with e | e
        ·exact .inr (.inr (.inr ⟨rfl, e⟩))
        ·exact .inl e)
     ·first | (simp only [↓za, ↓reduceIte, Nat.reduceEqDiff, zb, reduceCtorEq]; done) | (simp only [↓za, ↓reduceIte, Nat.reduceEqDiff, zb, reduceCtorEq]; rfl)
  ·rw [f2 i hok, Nat.add_zero]
   by_cases hmem : i ∈ x
   ·rw [decide_eq_true (ix_zl.2 hmem)] at cc
    refine Yax ?_
    refine CLL_q _ cc (.cons (exq_refT pr ht (by omega) (by decide)) (.cons (exq_sc _ _ _ (by decide)) .nil)) rfl rfl rfl ?_
    simp (disch := first | assumption | omega) only [go_sem, ↓reduceIte, Nat.reduceEqDiff, Nat.reduceAdd, Nat.reduceMul, zc, s0, s1, s2, s3, s4, s5, s15, s16, hi', hi, undef]
    exact ⟨i64c (by omega), fr, g1, ys, pc, pr, ⟨pl1, pl3⟩, pb⟩
   ·rw [decide_eq_false (fun h => hmem (ix_zl.1 h))] at cc
    by_cases h0 : (i : Int) = 0
    ·have h0x : ¬ (x.length : Int) = 0 := fun h => hok ⟨hmem, fun _ => by omega, fun _ => by omega⟩
     refine Yax ?_
     refine CLL_q _ cc (.cons (exq_refT pr ht (by omega) (by decide)) (.cons (exq_sc _ _ _ (by decide)) .nil)) rfl rfl rfl ?_
     simp (disch := first | assumption | omega) only [go_sem, ↓reduceIte, Nat.reduceEqDiff, Nat.reduceAdd, Nat.reduceMul, zc, s0, s1, s2, s3, s4, s5, s15, s16, hi', hi, pc, pr, eq_false h0x, eq_true h0]
     exact ⟨i64c (by omega), fr, g1, ys, pc, pr, ⟨pl1, pl3⟩, pb⟩
    ·have h0x : (x.length : Int) = 0 := Classical.byContradiction fun h => hok ⟨hmem, fun e => by omega, fun e => by omega⟩
     refine Yax ?_
     refine CLL_q _ cc (.cons (exq_refT pr ht (by omega) (by decide)) (.cons (exq_sc _ _ _ (by decide)) .nil)) rfl rfl rfl ?_
     simp (disch := first | assumption | omega) only [go_sem, ↓reduceIte, Nat.reduceEqDiff, Nat.reduceAdd, Nat.reduceMul, zc, s0, s1, s2, s3, s4, s5, s15, s16, hi', hi, pc, pr, eq_true h0x, eq_false h0]
     exact ⟨i64c (by omega), fr, g1, ys, pc, pr, ⟨pl1, pl3⟩, pb⟩
 ·rintro sl ro gn ⟨s0, s1, s2, s3, s4, s5, s15, s16, fr, ps⟩
  dsimp only at s0 s1 s2 s3 s4 s5 s15 s16
  have hi' : ¬ ((n : Nat) : Int) < (n : Nat) := by omega
  dsimp only at fr ps
  simp (disch := first | assumption | omega) only [go_sem, ↓reduceIte, Nat.reduceEqDiff, Nat.reduceAdd, Nat.reduceMul, zc, s0, s1, s2, s3, s4, s5, s15, s16, hi']
  exact RETS_1 (bo false) Ur ⟨rfl, fr, ps⟩
end
end Go.Proofs.YtilfkbgdpmimlaaGreat
/- Lists of rings: the number of automorphisms. -/
namespace Go.Proofs.YtilfkbgdpmimlaaGreat
open Go.RowKit
set_option maxRecDepth 1000000
theorem isoA {F : C3} {n : Nat} (h3 : n ≤ 16) : ∀ d, ExtI F n d
 | 0 => isoBase
 | d + 1 => isoStep h3 (isoA h3 d)
section
variable {ro : Ro} {gn : Nat → Nat} {F : C3} {n : Nat} {cs : List AV}
def W30i : List Nat := [8272, 8240, 20480, 32800, 4096, 4112, 4128, 8256, 12288]
set_option maxHeartbeats 4000000 in
theorem sEachI {gb : Nat} (ha : isLLL (.imm cs) (cubeL F n)) (h16 : n ≤ 16) (hb : ro 20480 gb = some (.bx [i64 0])) (hl : gb ≤ gn 20480) (hK : n ^ n ≤ 1000000) :
  InS Tryz.prog 30 [.agg [.imm cs], .agg [.imm cs], .fn 31 [.ptr 20480 gb [] 0]] ro gn (fun r ro' gn' => r = .tup [] ∧ Frx W30i (fun x y => x = 20480 ∧ y = gb) ro gn ro' gn' ∧ ro' 20480 gb = some (.bx [i64 ((autS n F n [] : Nat) : Int)])) := by
 have lX : (cubeL F n).length = n := lenC F n
 refine in_ofS (fn := Tryz.f30) (code := bodyOf Tryz.f30) Tryz.func30 rfl (by kernel_rfl) ?_
 intro sl hs
 have s0 : sl 0 = .agg [.imm cs] := hs 0
 have s1 : sl 1 = .agg [.imm cs] := hs 1
 have s2 : sl 2 = .fn 31 [.ptr 20480 gb [] 0] := hs 2
 dsimp only [Tryz.f30, bodyOf, Option.getD]
 simp (disch := first | assumption | omega) only [go_sem, ↓reduceIte, Nat.reduceEqDiff, Nat.reduceAdd, Nat.reduceMul, zc, s0, s1, s2, ti33, ti31, ti3, isLLL_len ha, lX]
 refine CLL_inS rfl (isoA h16 n _ _ cs [] 0 (gn 8256 + 1) (gn 4128 + 1) (gn 12288 + 1) (gn 4096 + 1) (gn 4112 + 1) (gn 8272 + 1) gb (gn 8240 + 1) ha (by show 0 + n = n; omega) (fun i hi => absurd hi (Nat.not_lt_zero _)) ⟨?_, ?_, ?_, ?_, ?_, ?_, ?_, ?_, ?_, ?_, ?_, ?_⟩ ?_ ?_ ?_ ?_ (by omega)) ?_
 all_goals try (first | (simp only [↓za, ↓reduceIte, Nat.reduceEqDiff, zb, reduceCtorEq]; done) | (simp only [↓za, ↓reduceIte, Nat.reduceEqDiff, zb, reduceCtorEq]; rfl) | (simp only [↓za, ↓reduceIte, Nat.reduceEqDiff, zb, reduceCtorEq]; exact Nat.le_refl _) | (simp only [↓za, ↓reduceIte, Nat.reduceEqDiff, zb, reduceCtorEq]; exact hb) | (simp only [↓za, ↓reduceIte, Nat.reduceEqDiff, zb, reduceCtorEq]; exact hl))
 rintro _ ro' gn' ⟨rfl, fr', gp, ys, pc, pr, pl, pb⟩
 rw [Nat.zero_add] at pb
 refine Ybp ?_
 refine RETS_0 (.inl rfl) ⟨rfl, ?_, pb⟩
 exact (show Frx W30i (fun x y => x = 20480 ∧ y = gb) ro gn _ _ from KFt).trans (fr'.monoB (by decide)) (by
  rintro a b (⟨e1, e2⟩ | ⟨e1, e2⟩ | ⟨e1, e2⟩)
  ·exact .inr ⟨e1, e2⟩
  ·subst e1 e2; exact .inl (by omega)
  ·subst e1 e2; exact .inl (by omega))
theorem cAuts (ha : isLLL (.imm cs) (cubeL F n)) (hR : RingP (cubeL F n)) (h3 : n ≤ 3) : CallOK Tryz.prog 10 [.agg [.imm cs]] (.tup [i64 ((autS n F n [] : Nat) : Int), i64 0]) := by
 have lX : (cubeL F n).length = n := lenC F n
 have cF := cForm0 ha hR (by omega)
 have hpc : pureL cs = true := isLLL_pure ha
 have hK : n ^ n ≤ 1000000 := by
  obtain rfl | rfl | rfl | rfl : n = 0 ∨ n = 1 ∨ n = 2 ∨ n = 3 := by omega
  all_goals decide
 have hle := autS_le n F n []
 refine call_of (fn := Tryz.f10) (code := bodyOf Tryz.f10) Tryz.func10 rfl (by kernel_rfl) (rfl) ?_
 intro sl hs
 have s0 : sl 0 = .agg [.imm cs] := hs 0
 dsimp only [Tryz.f10, bodyOf, Option.getD]
 simp (disch := first | assumption | omega) only [go_sem, ↓reduceIte, Nat.reduceEqDiff, Nat.reduceAdd, Nat.reduceMul, zc, s0, ti33, ti31, ti2]
 refine CLL_pure _ cF (by simp only [pureL, pureA, hpc, Bool.and_self, Bool.and_true]) rfl rfl ?_
 simp (disch := first | assumption | omega) only [go_sem, ↓reduceIte, Nat.reduceEqDiff, Nat.reduceAdd, Nat.reduceMul, zc, s0, ti2, ti4, ti33]
 refine CLL_inS rfl (sEachI (gb := 1) ha (by omega) Ur Ur hK) ?_
 rintro _ ro' gn' ⟨rfl, fr', pb⟩
 simp (disch := first | assumption | omega) only [go_sem, ↓reduceIte, Nat.reduceEqDiff, Nat.reduceAdd, Nat.reduceMul, zc, s0, ti2, pb]
 exact Yab
end
end Go.Proofs.YtilfkbgdpmimlaaGreat
