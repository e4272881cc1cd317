/- The numbers N (program); both agree. -/
import Derived.Test.YtifgeenipinnmaaD8
set_option linter.all false
namespace Go.Proofs.Ytifgeenipinnmaa
open Go.RowKit

section
variable (S : List (List Int)) (n : Nat)
def iv (l : Nat) : Int := qt 1 (atI (row S 0) l)
def fuT (i j c l : Nat) : Int := atI (row S i) l * atI (row S j) l % 55441 * atI (row S c) l % 55441 * iv S l % 55441
def fuE (cj : List Int) (i j k : Nat) : Int := qt (sm (fuT S i j (atI cj k).toNat) n % 55441) (whl S n)
end

/-! ### The plain law -/
def MM (a b : Int) : Prop := a % 55441 = b % 55441
theorem MM.mod (a : Int) : MM (a % 55441) a := Int.emod_emod_of_dvd _ (by decide : (55441:Int) ∣ 55441)
theorem MM.mul {a b c d : Int} (h1 : MM a b) (h2 : MM c d) : MM (a * c) (b * d) := by
  unfold MM at *
  rw [Int.mul_emod, h1, h2, ← Int.mul_emod]
theorem MM.rfl {a : Int} : MM a a := Eq.refl _
theorem MM.trans {a b c : Int} (h1 : MM a b) (h2 : MM b c) : MM a c := Eq.trans h1 h2
theorem MM.symm {a b : Int} (h : MM a b) : MM b a := Eq.symm h
theorem sm_MM {f g : Nat → Int} : ∀ {n : Nat}, (∀ l, l < n → MM (f l) (g l)) → MM (sm f n) (sm g n)
  | 0, _ => MM.rfl
  | n + 1, h => by
    have ih := sm_MM (n := n) fun l hl => h l (by omega)
    have hn := h n (by omega)
    unfold MM at *
    simp only [sm]
    rw [Int.add_emod, ih, hn, ← Int.add_emod]
theorem sm_mul (f : Nat → Int) (w : Int) : ∀ n : Nat, sm f n * w = sm (fun l => f l * w) n
  | 0 => by simp [sm]
  | n + 1 => by simp only [sm, Int.add_mul, sm_mul f w n]

theorem fu_nm (S : List (List Int)) (n : Nat) (cj : List Int) (i j k : Nat) : fuE S n cj i j k = nmE S n cj i j k := by
  unfold fuE nmE qt
  show MM _ _
  refine (MM.mul (MM.mod _) MM.rfl).trans ?_
  rw [sm_mul]
  refine sm_MM fun l hl => ?_
  rw [atI_rws _ hl]
  unfold fuT both inv0 iv qt
  generalize atI (row S i) l = a
  generalize atI (row S j) l = b
  generalize atI (row S (atI cj k).toNat) l = x
  generalize pw (whl S n) 55439 = w
  generalize pw (atI (row S 0) l) 55439 = v
  have h1 : MM (a * b % 55441 * x % 55441 * (1 * v % 55441) % 55441 * w) (a * b * x * (1 * v) * w) :=
    MM.mul ((MM.mod _).trans (MM.mul ((MM.mod _).trans (MM.mul (MM.mod _) MM.rfl)) (MM.mod _))) MM.rfl
  have h2 : MM (a * b % 55441 * (v * w % 55441) % 55441 * x) (a * b * (v * w) * x) :=
    MM.mul ((MM.mod _).trans (MM.mul (MM.mod _) (MM.mod _))) MM.rfl
  refine h1.trans (MM.trans ?_ h2.symm)
  have : a * b * x * (1 * v) * w = a * b * (v * w) * x := by
    rw [Int.one_mul, Int.mul_assoc (a * b) x v, Int.mul_assoc (a * b) (x * v) w, Int.mul_assoc (a * b) (v * w) x, Int.mul_assoc x v w, Int.mul_comm x (v * w)]
  rw [this]
  exact MM.rfl

theorem num_fuT (S : List (List Int)) (i j c l : Nat) : 0 ≤ fuT S i j c l ∧ fuT S i j c l ≤ 55440 := by
  have := num_mod (atI (row S i) l * atI (row S j) l % 55441 * atI (row S c) l % 55441 * iv S l)
  unfold num at this
  unfold fuT
  omega

theorem ex_cube {ro : Ro} {s g n : Nat} {F : Nat → Nat → Nat → Int} (h : ro s g = some (cubeA F n)) (k : Nat) : ex ro (k + 4) (.ref s g [] 0 n) = immC F n := by
  show (match ro.cells s g [] with | some cs => AV.imm (((cs.drop 0).take n).map (ex ro (k + 3))) | none => .dead) = _
  rw [zef, h]
  simp only [zeh, List.drop_zero, zff, rws_map, immC]
  refine congrArg AV.imm (rws_congr fun x _ => ?_)
  show AV.imm ((rws (fun j => AV.row (rws (fun k => i64 (F x j k)) n)) n).map (ex ro (k + 2))) = _
  rw [rws_map]
  refine congrArg AV.imm (rws_congr fun y _ => ?_)
  show AV.imm ((rws (fun k => i64 (F x y k)) n).map (ex ro (k + 1))) = _
  rw [rws_map]
  rfl

set_option maxRecDepth 1000000 in
set_option maxHeartbeats 10000000 in
theorem c79 {a b c : AV} {S : List (List Int)} {T cj : List Int} (hb : isL b T) (ha : isLL a S) (hc : isL c cj) (hs : Shp S T) (hcl : cj.length = T.length) (hcj : ∀ k, k < T.length → 0 ≤ atI cj k ∧ atI cj k < T.length) {t : Bool} (ht : t = true ↔ (cubeOk (fuE S T.length cj) T.length ∧ T.length ≤ 16)) :
    CallOK Try.prog 79 [.agg [a, b], c] (.tup [.agg [cubeA (fuE S T.length cj) T.length], bo t]) := by
  refine call_of (fn := Try.f79) (code := bodyOf Try.f79) Try.func79 rfl (by kernel_rfl) (noRef_tup1 _ _ (by have := noRef_cube (fuE S T.length cj) T.length; simp only [noRef, noRefL, Bool.and_true] at this ⊢; exact this)) ?_
  intro sl hs0
  have s0 : sl 0 = .agg [a, b] := hs0 0
  have s1 : sl 1 = c := hs0 1
  obtain ⟨hpos, hmax, hlS, hlR, hnS, hnT⟩ := hs
  generalize hN : T.length = n at *
  have hmax' : n ≤ 4294967296 := hmax
  have hlR0 := hlR 0 hpos
  have h0 := isLL_row ha (k := 0) (by omega)
  have c91' := c91 ha (isL_cell hb) (fun ro => isL_cellB ro hb) (by rw [hlR0]; exact hmax) (by omega) hnS
  rw [hlR0] at c91'
  have c104' := c104 h0 (by rw [hlR0]; exact hmax) (hnS 0)
  simp only [hlR0, rowL, rws_map] at c104'
  simp only [Try.f79, bodyOf, Option.getD, go_sem, ↓reduceIte, Nat.reduceEqDiff, reduceCtorEq, Nat.reduceAdd, Nat.reduceMul, Nat.reduceLeDiff, ti2, ti3, ti4, ti22, ti23, ti25, ti31, ti33, ti77, s0, s1, isL_cellB _ hb, isLL_cellB _ ha, isLL_lift _ _ _ ha, isL_lift _ _ _ hb, isLL_len ha, hlS, List.map_nil, isLL_sites ha]
  refine CLLD_pure _ (c103 hpos hmax) rfl rfl ?_
  simp only [go_sem, ↓reduceIte, Nat.reduceEqDiff, reduceCtorEq, Nat.reduceAdd, Nat.reduceMul, Nat.reduceLeDiff, ti2, ti3, ti4, ti22, ti23, ti25, ti31, ti33, ti77, isLL_lift _ _ _ ha, isL_lift _ _ _ hb, impE_agg1, zfe]
  refine CLLD_pure _ c91' (by simp only [pureL, pureA, isLL_pure ha, isL_pure hb, Bool.and_self]) rfl ?_
  simp only [go_sem, ↓reduceIte, Nat.reduceEqDiff, reduceCtorEq, Nat.reduceAdd, Nat.reduceMul, Nat.reduceLeDiff, ti2, ti3, ti4, ti22, ti23, ti25, ti31, ti33, ti77, isLL_lift _ _ _ ha, isL_lift _ _ _ hb, isLL_sites ha, isL_sites hb, pureL, pureA, isLL_pure ha, isL_pure hb, List.map_nil]
  refine FIN_of (by kernel_rfl) ?_
  simp only [go_sem, ↓reduceIte, Nat.reduceEqDiff, reduceCtorEq, Nat.reduceAdd, Nat.reduceMul, Nat.reduceLeDiff, ti2, ti3, ti4, ti22, ti23, ti25, ti31, ti33, ti77, isLL_lift _ _ _ ha, isLL_idx0 ha (by omega : 0 < S.length)]
  refine CLL_pure _ c104' (by simp only [pureL, isL_pure h0, Bool.and_self]) rfl rfl ?_
  simp only [go_sem, ↓reduceIte, Nat.reduceEqDiff, reduceCtorEq, Nat.reduceAdd, Nat.reduceMul, Nat.reduceLeDiff, ti2, ti3, ti4, ti22, ti23, ti25, ti31, ti33, ti77, isLL_lift _ _ _ ha, isLL_len ha, hlS, impE_row]
  refine WK_for (fun i st => st.sl 1 = c ∧ st.sl 2 = .ptr 4096 1 [] 0 ∧ st.ro 4096 1 = some (.bx [a, b]) ∧ st.sl 4 = .ptr 4112 1 [] 0 ∧ st.ro 4112 1 = some (.bx [nilA]) ∧ st.sl 6 = .ptr 8288 1 [] 0 ∧ st.ro 8288 1 = some (.bx [.ref 8240 1 [] 0 n]) ∧ st.sl 7 = i64 (whl S n) ∧ st.sl 8 = .ref 12352 1 [] 0 n ∧ st.ro 12352 1 = some (.row (rws (fun i => i64 (qt 1 (atI (row S 0) i))) n)) ∧ st.ro 8240 1 = some (cubeA (pgF (fuE S n cj) i 0 0) n) ∧ st.sl 30 = a ∧ st.sl 31 = i64 n ∧ st.sl 32 = i64 (i : Int)) n ?_ ?_ ?_
  · simp only [↓zcy, ↓zcz, ↓zda, ↓zdb, ↓reduceIte, Nat.reduceEqDiff, and_true, true_and, and_self, ne_eq, not_false_eq_true, eq_self, false_and, and_false, reduceCtorEq, s1]
    exact ⟨congrArg some (cube_congr fun x y z _ _ _ => by simp [pgF]), rfl⟩
  · rintro i sl ro gn hi ⟨s1, s2, r2, s4, r4, s6, r6, s7, s8, r8, r7, s30, s31, s32⟩
    dsimp only at s1 s2 r2 s4 r4 s6 r6 s7 s8 r8 r7 s30 s31 s32
    have hi' : (i : Int) < n := by omega
    have h1 := isLL_row ha (k := i) (by omega)
    simp (config := { maxSteps := 10000000 }) (disch := first | omega | assumption) only [go_sem, ↓reduceIte, Nat.reduceEqDiff, reduceCtorEq, Nat.reduceAdd, Nat.reduceMul, Nat.reduceLeDiff, zfu, Int.mul_def, Int.add_def, zfv, cond_false, cond_true, isub, ti2, ti3, ti4, ti22, ti23, ti25, ti31, ti33, ti77, s1, s2, r2, s4, r4, s6, r6, s7, s8, r8, s30, s31, s32, hi', isLL_idx ha (by omega : i < S.length), isLL_lift _ _ _ ha, isLL_len ha, hlS]
    refine WK_for (fun j st => st.sl 1 = c ∧ st.sl 2 = .ptr 4096 1 [] 0 ∧ st.ro 4096 1 = some (.bx [a, b]) ∧ st.sl 4 = .ptr 4112 1 [] 0 ∧ st.ro 4112 1 = some (.bx [nilA]) ∧ st.sl 6 = .ptr 8288 1 [] 0 ∧ st.ro 8288 1 = some (.bx [.ref 8240 1 [] 0 n]) ∧ st.sl 7 = i64 (whl S n) ∧ st.sl 8 = .ref 12352 1 [] 0 n ∧ st.ro 12352 1 = some (.row (rws (fun i => i64 (qt 1 (atI (row S 0) i))) n)) ∧ st.ro 8240 1 = some (cubeA (pgF (fuE S n cj) i j 0) n) ∧ st.sl 30 = a ∧ st.sl 31 = i64 n ∧ st.sl 32 = i64 (i : Int) ∧ st.sl 9 = i64 (i : Int) ∧ st.sl 10 = atA a i ∧ st.sl 38 = a ∧ st.sl 39 = i64 n ∧ st.sl 40 = i64 (j : Int)) n ?_ ?_ ?_
    · simp only [↓zcy, ↓zcz, ↓zda, ↓zdb, ↓reduceIte, Nat.reduceEqDiff, and_true, true_and, and_self, ne_eq, not_false_eq_true, eq_self, false_and, and_false, reduceCtorEq, s1, s2, r2, s4, r4, s6, r6, s7, s8, r8, r7, s30, s31, s32]
      rfl
    · rintro j sl ro gn hj ⟨s1, s2, r2, s4, r4, s6, r6, s7, s8, r8, r7, s30, s31, s32, s9, s10, s38, s39, s40⟩
      dsimp only at s1 s2 r2 s4 r4 s6 r6 s7 s8 r8 r7 s30 s31 s32 s9 s10 s38 s39 s40
      have hj' : (j : Int) < n := by omega
      have h2 := isLL_row ha (k := j) (by omega)
      simp (config := { maxSteps := 10000000 }) (disch := first | omega | assumption) only [go_sem, ↓reduceIte, Nat.reduceEqDiff, reduceCtorEq, Nat.reduceAdd, Nat.reduceMul, Nat.reduceLeDiff, zfu, Int.mul_def, Int.add_def, zfv, cond_false, cond_true, isub, ti2, ti3, ti4, ti22, ti23, ti25, ti31, ti33, ti77, s1, s2, r2, s4, r4, s6, r6, s7, s8, r8, s30, s31, s32, s9, s10, s38, s39, s40, hj', isLL_idx ha (by omega : j < S.length), isLL_lift _ _ _ ha, isLL_len ha, hlS, isL_len hc, hcl]
      refine WK_for (fun k st => st.sl 1 = c ∧ st.sl 2 = .ptr 4096 1 [] 0 ∧ st.ro 4096 1 = some (.bx [a, b]) ∧ st.sl 4 = .ptr 4112 1 [] 0 ∧ st.ro 4112 1 = some (.bx [nilA]) ∧ st.sl 6 = .ptr 8288 1 [] 0 ∧ st.ro 8288 1 = some (.bx [.ref 8240 1 [] 0 n]) ∧ st.sl 7 = i64 (whl S n) ∧ st.sl 8 = .ref 12352 1 [] 0 n ∧ st.ro 12352 1 = some (.row (rws (fun i => i64 (qt 1 (atI (row S 0) i))) n)) ∧ st.ro 8240 1 = some (cubeA (pgF (fuE S n cj) i j k) n) ∧ st.sl 30 = a ∧ st.sl 31 = i64 n ∧ st.sl 32 = i64 (i : Int) ∧ st.sl 9 = i64 (i : Int) ∧ st.sl 10 = atA a i ∧ st.sl 38 = a ∧ st.sl 39 = i64 n ∧ st.sl 40 = i64 (j : Int) ∧ st.sl 11 = i64 (j : Int) ∧ st.sl 12 = atA a j ∧ st.sl 45 = c ∧ st.sl 46 = i64 n ∧ st.sl 47 = i64 (k : Int)) n ?_ ?_ ?_
      · simp only [↓zcy, ↓zcz, ↓zda, ↓zdb, ↓reduceIte, Nat.reduceEqDiff, and_true, true_and, and_self, ne_eq, not_false_eq_true, eq_self, false_and, and_false, reduceCtorEq, s1, s2, r2, s4, r4, s6, r6, s7, s8, r8, r7, s30, s31, s32, s9, s10, s38, s39, s40]
        rfl
      · rintro k sl ro gn hk ⟨s1, s2, r2, s4, r4, s6, r6, s7, s8, r8, r7, s30, s31, s32, s9, s10, s38, s39, s40, s11, s12, s45, s46, s47⟩
        dsimp only at s1 s2 r2 s4 r4 s6 r6 s7 s8 r8 r7 s30 s31 s32 s9 s10 s38 s39 s40 s11 s12 s45 s46 s47
        have hk' : (k : Int) < n := by omega
        obtain ⟨hq1, hq2⟩ := hcj k hk
        obtain ⟨m, hm⟩ : ∃ m : Nat, atI cj k = m := ⟨(atI cj k).toNat, by omega⟩
        have hmn : m < n := by omega
        have h3 := isLL_row ha (k := m) (by omega)
        have hlm := hlR m hmn
        simp (config := { maxSteps := 10000000 }) (disch := first | omega | assumption) only [go_sem, ↓reduceIte, Nat.reduceEqDiff, reduceCtorEq, Nat.reduceAdd, Nat.reduceMul, Nat.reduceLeDiff, zfu, Int.mul_def, Int.add_def, zfv, cond_false, cond_true, isub, ti2, ti3, ti4, ti22, ti23, ti25, ti31, ti33, ti77, s1, s2, r2, s4, r4, s6, r6, s7, s8, r8, s30, s31, s32, s9, s10, s38, s39, s40, s11, s12, s45, s46, s47, hk', isL_idx hc (by omega : k < cj.length), hm, isLL_idx ha (by omega : m < S.length), isLL_lift _ _ _ ha, isL_len h3, hlm]
        refine WK_for (fun l st => st.sl 1 = c ∧ st.sl 2 = .ptr 4096 1 [] 0 ∧ st.ro 4096 1 = some (.bx [a, b]) ∧ st.sl 4 = .ptr 4112 1 [] 0 ∧ st.ro 4112 1 = some (.bx [nilA]) ∧ st.sl 6 = .ptr 8288 1 [] 0 ∧ st.ro 8288 1 = some (.bx [.ref 8240 1 [] 0 n]) ∧ st.sl 7 = i64 (whl S n) ∧ st.sl 8 = .ref 12352 1 [] 0 n ∧ st.ro 12352 1 = some (.row (rws (fun i => i64 (qt 1 (atI (row S 0) i))) n)) ∧ st.ro 8240 1 = some (cubeA (pgF (fuE S n cj) i j k) n) ∧ st.sl 30 = a ∧ st.sl 31 = i64 n ∧ st.sl 32 = i64 (i : Int) ∧ st.sl 9 = i64 (i : Int) ∧ st.sl 10 = atA a i ∧ st.sl 38 = a ∧ st.sl 39 = i64 n ∧ st.sl 40 = i64 (j : Int) ∧ st.sl 11 = i64 (j : Int) ∧ st.sl 12 = atA a j ∧ st.sl 45 = c ∧ st.sl 46 = i64 n ∧ st.sl 47 = i64 (k : Int) ∧ st.sl 13 = i64 (k : Int) ∧ st.sl 56 = atA a m ∧ st.sl 57 = i64 n ∧ st.sl 58 = i64 (l : Int) ∧ st.sl 15 = i64 (sm (fuT S i j m) l)) n ?_ ?_ ?_
        · simp only [↓zcy, ↓zcz, ↓zda, ↓zdb, ↓reduceIte, Nat.reduceEqDiff, and_true, true_and, and_self, ne_eq, not_false_eq_true, eq_self, false_and, and_false, reduceCtorEq, s1, s2, r2, s4, r4, s6, r6, s7, s8, r8, r7, s30, s31, s32, s9, s10, s38, s39, s40, s11, s12, s45, s46, s47]
          exact ⟨rfl, rfl⟩
        · rintro l sl ro gn hl ⟨s1, s2, r2, s4, r4, s6, r6, s7, s8, r8, r7, s30, s31, s32, s9, s10, s38, s39, s40, s11, s12, s45, s46, s47, s13, s56, s57, s58, s15⟩
          dsimp only at s1 s2 r2 s4 r4 s6 r6 s7 s8 r8 r7 s30 s31 s32 s9 s10 s38 s39 s40 s11 s12 s45 s46 s47 s13 s56 s57 s58 s15
          have hl' : (l : Int) < n := by omega
          have hg := rws_get (fun i => i64 (qt 1 (atI (row S 0) i))) n l hl
          have hb1 := num_mul (hnS i l) (hnS j l)
          have hb2 := num_mod (atI (row S i) l * atI (row S j) l)
          have hb3 := num_mul hb2 (hnS m l)
          have hb4 := num_mod (atI (row S i) l * atI (row S j) l % 55441 * atI (row S m) l)
          have hb5 : num (qt 1 (atI (row S 0) l)) := num_mod _
          have hb6 := num_mul hb4 hb5
          have hb7 := sm_bnd (f := fuT S i j m) (B := 55440) (fun l => num_fuT S i j m l) l
          have hb8 := num_fuT S i j m l
          have e1 : atI (row S i) l * atI (row S j) l % 55441 * atI (row S m) l % 55441 * qt 1 (atI (row S 0) l) % 55441 = fuT S i j m l := rfl
          unfold num at hb2 hb4 hb5
          simp (config := { maxSteps := 10000000 }) (disch := first | omega | assumption) only [go_sem, ↓reduceIte, Nat.reduceEqDiff, reduceCtorEq, Nat.reduceAdd, Nat.reduceMul, Nat.reduceLeDiff, zfu, Int.mul_def, Int.add_def, zfv, cond_false, cond_true, isub, ti2, ti3, ti4, ti22, ti23, ti25, ti31, ti33, ti77, s1, s2, r2, s4, r4, s6, r6, s7, s8, r8, s9, s10, s38, s39, s40, s11, s12, s45, s46, s47, s13, s56, s57, s58, s15, hl', hl, hg, isL_idx h1 (by rw [hlR i hi]; exact hl : l < (row S i).length), isL_idx h2 (by rw [hlR j hj]; exact hl : l < (row S j).length), isL_idx h3 (by rw [hlm]; exact hl : l < (row S m).length), isL_sites h1, isL_sites h2, isL_sites h3, Int.tmod_eq_emod_of_nonneg, e1]
          refine FIN_of (by kernel_rfl) ?_
          simp (config := { maxSteps := 10000000 }) (disch := first | omega | assumption) only [go_sem, ↓reduceIte, Nat.reduceEqDiff, reduceCtorEq, Nat.reduceAdd, Nat.reduceMul, Nat.reduceLeDiff, zfu, Int.mul_def, Int.add_def, zfv, cond_false, cond_true, isub, ti2, ti3, ti4, ti22, ti23, ti25, ti31, ti33, ti77, s1, s2, r2, s4, r4, s6, r6, s7, s8, r8, r7, s30, s31, s32, s9, s10, s38, s39, s40, s11, s12, s45, s46, s47, s13, s56, s57, s58, s15]
          exact ⟨i64c (by omega), i64c rfl⟩
        · rintro sl ro gn ⟨s1, s2, r2, s4, r4, s6, r6, s7, s8, r8, r7, s30, s31, s32, s9, s10, s38, s39, s40, s11, s12, s45, s46, s47, s13, s56, s57, s58, s15⟩
          dsimp only at s1 s2 r2 s4 r4 s6 r6 s7 s8 r8 r7 s30 s31 s32 s9 s10 s38 s39 s40 s11 s12 s45 s46 s47 s13 s56 s57 s58 s15
          have hl' : ¬ (n : Int) < n := by omega
          have hb7 := sm_bnd (f := fuT S i j m) (B := 55440) (fun l => num_fuT S i j m l) n
          have hgi := rws_get (fun x => AV.row (rws (fun y => .row (rws (fun z => i64 (pgF (fuE S n cj) i j k x y z)) n)) n)) n i hi
          have hgj := rws_get (fun y => AV.row (rws (fun z => i64 (pgF (fuE S n cj) i j k i y z)) n)) n j hj
          simp (config := { maxSteps := 10000000 }) (disch := first | omega | assumption) only [go_sem, ↓reduceIte, Nat.reduceEqDiff, reduceCtorEq, Nat.reduceAdd, Nat.reduceMul, Nat.reduceLeDiff, zfu, Int.mul_def, Int.add_def, zfv, cond_false, cond_true, isub, ti2, ti3, ti4, ti22, ti23, ti25, ti31, ti33, ti77, s1, s2, r2, s4, r4, s6, r6, s7, s8, r8, r7, s30, s31, s32, s9, s10, s38, s39, s40, s11, s12, s45, s46, s47, s13, s56, s57, s58, s15, hl', hi, hj, hk, hgi, hgj, zfp, inO_row, rowO_row, Int.tmod_eq_emod_of_nonneg]
          have hnm := num_mod (sm (fuT S i j m) n)
          refine CLLD_pure (i64 (fuE S n cj i j k)) (by rw [show fuE S n cj i j k = _ from by unfold fuE; rw [hm, Int.toNat_natCast]]; exact c65 hnm.1 hnm.2 (num_whl S n).1 (num_whl S n).2) rfl rfl ?_
          simp (config := { maxSteps := 10000000 }) (disch := first | omega | assumption) only [go_sem, ↓reduceIte, Nat.reduceEqDiff, reduceCtorEq, Nat.reduceAdd, Nat.reduceMul, Nat.reduceLeDiff, zfu, Int.mul_def, Int.add_def, zfv, cond_false, cond_true, isub, ti2, ti3, ti4, ti22, ti23, ti25, ti31, ti33, ti77, s1, s2, r2, s4, r4, s6, r6, s7, s8, r8, r7, s30, s31, s32, s9, s10, s38, s39, s40, s11, s12, s45, s46, s47, s13, s56, s57, s58, s15, hk, (by omega : k + 1 ≤ n), cube_cells r7 hi hj, cube_bx r7 hi hj, cube_wr r7 hi hj hk, pureL, pureA]
          refine FIN_of (by kernel_rfl) ?_
          simp (config := { maxSteps := 10000000 }) (disch := first | omega | assumption) only [go_sem, ↓reduceIte, Nat.reduceEqDiff, reduceCtorEq, Nat.reduceAdd, Nat.reduceMul, Nat.reduceLeDiff, zfu, Int.mul_def, Int.add_def, zfv, cond_false, cond_true, isub, ti2, ti3, ti4, ti22, ti23, ti25, ti31, ti33, ti77, s1, s2, r2, s4, r4, s6, r6, s7, s8, r8, r7, s30, s31, s32, s9, s10, s38, s39, s40, s11, s12, s45, s46, s47, s13, s56, s57, s58, s15]
          exact ⟨congrArg some (pg_step _ _ _ _ _), i64c (by omega)⟩
      · rintro sl ro gn ⟨s1, s2, r2, s4, r4, s6, r6, s7, s8, r8, r7, s30, s31, s32, s9, s10, s38, s39, s40, s11, s12, s45, s46, s47⟩
        dsimp only at s1 s2 r2 s4 r4 s6 r6 s7 s8 r8 r7 s30 s31 s32 s9 s10 s38 s39 s40 s11 s12 s45 s46 s47
        have hk' : ¬ (n : Int) < n := by omega
        simp (config := { maxSteps := 10000000 }) (disch := first | omega | assumption) only [go_sem, ↓reduceIte, Nat.reduceEqDiff, reduceCtorEq, Nat.reduceAdd, Nat.reduceMul, Nat.reduceLeDiff, zfu, Int.mul_def, Int.add_def, zfv, cond_false, cond_true, isub, ti2, ti3, ti4, ti22, ti23, ti25, ti31, ti33, ti77, s1, s2, r2, s4, r4, s6, r6, s7, s8, r8, r7, s30, s31, s32, s9, s10, s38, s39, s40, s11, s12, s45, s46, s47, hk']
        refine ⟨congrArg some (cube_congr fun x y z _ _ hz => ?_), i64c (by omega)⟩
        have e : (x < i ∨ (x = i ∧ (y < j ∨ (y = j ∧ z < n)))) ↔ (x < i ∨ (x = i ∧ (y < j + 1 ∨ (y = j + 1 ∧ z < 0)))) := by omega
        simp only [pgF, e]
    · rintro sl ro gn ⟨s1, s2, r2, s4, r4, s6, r6, s7, s8, r8, r7, s30, s31, s32, s9, s10, s38, s39, s40⟩
      dsimp only at s1 s2 r2 s4 r4 s6 r6 s7 s8 r8 r7 s30 s31 s32 s9 s10 s38 s39 s40
      have hj' : ¬ (n : Int) < n := by omega
      simp (config := { maxSteps := 10000000 }) (disch := first | omega | assumption) only [go_sem, ↓reduceIte, Nat.reduceEqDiff, reduceCtorEq, Nat.reduceAdd, Nat.reduceMul, Nat.reduceLeDiff, zfu, Int.mul_def, Int.add_def, zfv, cond_false, cond_true, isub, ti2, ti3, ti4, ti22, ti23, ti25, ti31, ti33, ti77, s1, s2, r2, s4, r4, s6, r6, s7, s8, r8, r7, s30, s31, s32, s9, s10, s38, s39, s40, hj']
      refine ⟨congrArg some (cube_congr fun x y z _ hy _ => ?_), i64c (by omega)⟩
      have e : (x < i ∨ (x = i ∧ (y < n ∨ (y = n ∧ z < 0)))) ↔ (x < i + 1 ∨ (x = i + 1 ∧ (y < 0 ∨ (y = 0 ∧ z < 0)))) := by omega
      simp only [pgF, e]
  · rintro sl ro gn ⟨s1, s2, r2, s4, r4, s6, r6, s7, s8, r8, r7, s30, s31, s32⟩
    dsimp only at s1 s2 r2 s4 r4 s6 r6 s7 s8 r8 r7 s30 s31 s32
    have hi' : ¬ (n : Int) < n := by omega
    have e0 : cubeA (pgF (fuE S n cj) n 0 0) n = cubeA (fuE S n cj) n := cube_congr fun x y z hx _ _ => by simp [pgF, hx]
    rw [e0] at r7
    simp (config := { maxSteps := 10000000 }) (disch := first | omega | assumption) only [go_sem, ↓reduceIte, Nat.reduceEqDiff, reduceCtorEq, Nat.reduceAdd, Nat.reduceMul, Nat.reduceLeDiff, zfu, Int.mul_def, Int.add_def, zfv, cond_false, cond_true, isub, ti2, ti3, ti4, ti22, ti23, ti25, ti31, ti33, ti77, s1, s2, r2, s4, r4, s6, r6, s7, s8, r8, r7, s30, s31, s32, hi', List.map_nil]
    have hax : argsX ro [.agg [.ref 8240 1 [] 0 n]] = [.agg [immC (fuE S n cj) n]] := by
      have hp : pureL [.agg [.ref 8240 1 [] 0 n]] = false := rfl
      unfold argsX
      rw [hp, if_neg Bool.false_ne_true]
      show [AV.agg [ex ro 7 _]] = _
      rw [ex_cube r7 3]
    refine CLLD_args (bo t) (c105 hpos hmax ht) hax rfl rfl ?_
    have hpu : pureL [.agg [.ref 8240 1 [] 0 n]] = false := rfl
    have hnr : noRefL (rws (fun i => AV.row (rws (fun j => AV.row (rws (fun k => i64 (fuE S n cj i j k)) n)) n)) n) = true := by simpa only [noRef] using noRef_cube (fuE S n cj) n
    simp (config := { maxSteps := 10000000 }) (disch := first | omega | assumption) only [go_sem, ↓reduceIte, Nat.reduceEqDiff, reduceCtorEq, Nat.reduceAdd, Nat.reduceMul, Nat.reduceLeDiff, zfu, Int.mul_def, Int.add_def, zfv, cond_false, cond_true, isub, ti2, ti3, ti4, ti22, ti23, ti25, ti31, ti33, ti77, s1, s2, r2, s4, r4, s6, r6, s7, s8, r8, r7, s30, s31, s32, hpu, hnr]
    refine FIN_of (by kernel_rfl) ?_
    simp (config := { maxSteps := 10000000 }) (disch := first | omega | assumption) only [go_sem, ↓reduceIte, Nat.reduceEqDiff, reduceCtorEq, Nat.reduceAdd, Nat.reduceMul, Nat.reduceLeDiff, zfu, Int.mul_def, Int.add_def, zfv, cond_false, cond_true, isub, ti2, ti3, ti4, ti22, ti23, ti25, ti31, ti33, ti77, s1, s2, r2, s4, r4, s6, r6, s7, s8, r8, r7, s30, s31, s32]
    simp only [zbj, zbk, retR, resL, outT, zes, zez, oneV, ↓zcy, ↓zcz, ↓reduceIte, Nat.reduceEqDiff, Option.some.injEq, AV.sc.injEq, Value.bool.injEq, Value.int.injEq, outL, outT, zft, zcp, zed, zef, zei, zeh, List.length_cons, List.length_nil, Nat.reduceAdd, Nat.zero_add, Nat.reduceLeDiff, List.drop_zero, List.take_succ_cons, List.take_zero, zfi, zfh, Ro.dl, zdb, zda, zfe, and_self, and_true, true_and, eq_self, List.append_nil, List.nil_append, List.cons_append, ne_eq, not_false_eq_true, and_false, false_and, Bool.false_eq_true, St.ev, zes, zfn, s1, s2, r2, s4, r4, s6, r6, s7, s8, r8, r7, ti33]
end Go.Proofs.Ytifgeenipinnmaa
