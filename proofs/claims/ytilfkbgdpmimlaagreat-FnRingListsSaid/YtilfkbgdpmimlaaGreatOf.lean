/- Texts joined: Eb1 Eb2 Eb3. -/
import Derived.Test.YtilfkbgdpmimlaaGreatOe
set_option linter.all false
/- Enumeration of rings, the reference: the orders. -/
namespace Go.Proofs.YtilfkbgdpmimlaaGreat
open Go.RowKit
set_option maxRecDepth 1000000
def W17 : List Nat := [8256, 12304, 12320, 12336, 32800, 32832]
inductive LvP (ro : Ro) (gn : Nat → Nat) (L : List (List Nat)) : AV → Nat → Prop
 | nil (g : Nat) : L = [] → LvP ro gn L nilA g
 | ref (g : Nat) : ro 12336 g = some (rowLL (L.map zl)) → g ≤ gn 12336 → LvP ro gn L (.ref 12336 g [] 0 L.length) g
theorem LvP.mk {ro : Ro} {gn : Nat → Nat} {L : List (List Nat)} {a : AV} {g k : Nat} (e : a = .ref 12336 g [] 0 k) (hk : k = L.length) (h1 : ro 12336 g = some (rowLL (L.map zl))) (h2 : g ≤ gn 12336) : LvP ro gn L a g := by
 subst e hk
 exact .ref g h1 h2
theorem LvP.keep {ro ro' : Ro} {gn gn' : Nat → Nat} {L : List (List Nat)} {a : AV} {gl : Nat} {W : List Nat} {C : Nat → Nat → Prop} (h : LvP ro gn L a gl) (fr : Frx W C ro gn ro' gn') (hC : ¬ C 12336 gl) : LvP ro' gn' L a gl := by
 cases h with
 | nil _ e => exact .nil _ e
 | ref _ h1 h2 => exact .ref _ ((fr.kp _ _ h2 hC).trans h1) (Nat.le_trans h2 (fr.up _))
theorem visK_le {n d c : Nat} {x : List Nat} (h : ∀ y, (vis n d y).length ≤ c) : ∀ k, (visK n d x k).length ≤ k * c
 | 0 => Nat.zero_le _
 | k + 1 => by
  have h1 := visK_le (x := x) h k
  have h2 := h (x ++ [k])
  rw [visK_succ, List.length_append, Nat.add_mul, Nat.one_mul]
  split
  ·simp; omega
  ·omega
theorem vis_le (n : Nat) : ∀ d x, (vis n d x).length ≤ (n + 1) ^ d
 | 0, x => by simp [vis]
 | d + 1, x => by
  have := visK_le (n := n) (d := d) (x := x) (vis_le n d) n
  rw [show vis n (d + 1) x = visK n d x n from rfl, Nat.pow_succ, Nat.mul_comm]
  exact Nat.le_trans this (Nat.mul_le_mul_right _ (Nat.le_succ n))
abbrev Cx17 (s g gl x y : Nat) : Prop := (x = s ∧ y = g) ∨ (x = 12336 ∧ y = gl)
section
variable {W : List Nat} {C : Nat → Nat → Prop} {ro ro' : Ro} {gn gn' : Nat → Nat} {n s g gl : Nat} {L : List (List Nat)} {lv : AV}
def OrdS (n d : Nat) : Prop := ∀ (ro : Ro) (gn : Nat → Nat) (x : List Nat) (L : List (List Nat)) (s g gl : Nat) (lv : AV), (s = 8256 ∨ s = 12304 ∨ s = 32800) → x.length + d = n → 0 ∈ x → ro s g = some (rowL (zl x)) → g ≤ gn s → LvP ro gn L lv gl → L.length + (n + 1) ^ d ≤ 1000000 →
 InS Tryz.prog 47 [i64 (n : Int), .ref s g [] 0 x.length, lv] ro gn (fun r ro' gn' => Frx W17 (Cx17 s g gl) ro gn ro' gn' ∧ ∃ gl', LvP ro' gn' (L ++ vis n d x) r gl' ∧ (gl' = gl ∨ gn 12336 < gl'))
set_option maxHeartbeats 8000000 in
theorem ordBase (hn : n ≤ maxN) : OrdS n 0 := by
 intro ro gn x L s g gl lv hs hx h0 rx lx hL hl
 have hx' : x.length = n := by omega
 rw [hx']
 rw [show vis n 0 x = [x] from rfl]
 have hl8 : L.length ≤ 4294967295 := by omega
 have htk : List.take L.length (List.map rowL (List.map zl L)) = List.map rowL (List.map zl L) := List.take_of_length_le (by rw [List.length_map, List.length_map]; exact Nat.le_refl _)
 cases hL with
 | nil _ e =>
  subst e
  rcases hs with rfl | rfl | rfl
  ·refine in_ofS (fn := Tryz.f47) (code := bodyOf Tryz.f47) Tryz.func47 rfl (by kernel_rfl) ?_
   intro sl hs
   have s0 : sl 0 = i64 (n : Int) := hs 0
   have s1 : sl 1 = .ref 8256 g [] 0 n := hs 1
   have s2 : sl 2 = nilA := hs 2
   dsimp only [Tryz.f47, bodyOf, Option.getD]
   refine Yci ?_
   refine RETS_1 (.ref 12336 (gn 12336 + 1) [] 0 1) Ur ⟨KFt, gn 12336 + 1, LvP.mk rfl (by simp) Ur Ur, .inr (by omega)⟩
  ·refine in_ofS (fn := Tryz.f47) (code := bodyOf Tryz.f47) Tryz.func47 rfl (by kernel_rfl) ?_
   intro sl hs
   have s0 : sl 0 = i64 (n : Int) := hs 0
   have s1 : sl 1 = .ref 12304 g [] 0 n := hs 1
   have s2 : sl 2 = nilA := hs 2
   dsimp only [Tryz.f47, bodyOf, Option.getD]
   refine Yci ?_
   refine RETS_1 (.ref 12336 (gn 12336 + 1) [] 0 1) Ur ⟨KFt, gn 12336 + 1, LvP.mk rfl (by simp) Ur Ur, .inr (by omega)⟩
  ·refine in_ofS (fn := Tryz.f47) (code := bodyOf Tryz.f47) Tryz.func47 rfl (by kernel_rfl) ?_
   intro sl hs
   have s0 : sl 0 = i64 (n : Int) := hs 0
   have s1 : sl 1 = .ref 32800 g [] 0 n := hs 1
   have s2 : sl 2 = nilA := hs 2
   dsimp only [Tryz.f47, bodyOf, Option.getD]
   refine Yci ?_
   refine RETS_1 (.ref 12336 (gn 12336 + 1) [] 0 1) Ur ⟨KFt, gn 12336 + 1, LvP.mk rfl (by simp) Ur Ur, .inr (by omega)⟩
 | ref _ rL lL =>
  rcases hs with rfl | rfl | rfl
  ·refine in_ofS (fn := Tryz.f47) (code := bodyOf Tryz.f47) Tryz.func47 rfl (by kernel_rfl) ?_
   intro sl hs
   have s0 : sl 0 = i64 (n : Int) := hs 0
   have s1 : sl 1 = .ref 8256 g [] 0 n := hs 1
   have s2 : sl 2 = .ref 12336 gl [] 0 L.length := hs 2
   dsimp only [Tryz.f47, bodyOf, Option.getD]
   refine Yby ?_
   refine RETS_1 (.ref 12336 (gn 12336 + 1) [] 0 (L.length + 1)) Ur ⟨KFt, gn 12336 + 1, LvP.mk rfl (by simp) (by simp only [↓za, ↓reduceIte, Nat.reduceEqDiff, zb, reduceCtorEq]; simp only [htk, rowLL, rowL, List.map_append, List.map_cons, List.map_nil]) Ur, .inr (by omega)⟩
  ·refine in_ofS (fn := Tryz.f47) (code := bodyOf Tryz.f47) Tryz.func47 rfl (by kernel_rfl) ?_
   intro sl hs
   have s0 : sl 0 = i64 (n : Int) := hs 0
   have s1 : sl 1 = .ref 12304 g [] 0 n := hs 1
   have s2 : sl 2 = .ref 12336 gl [] 0 L.length := hs 2
   dsimp only [Tryz.f47, bodyOf, Option.getD]
   refine Yby ?_
   refine RETS_1 (.ref 12336 (gn 12336 + 1) [] 0 (L.length + 1)) Ur ⟨KFt, gn 12336 + 1, LvP.mk rfl (by simp) (by simp only [↓za, ↓reduceIte, Nat.reduceEqDiff, zb, reduceCtorEq]; simp only [htk, rowLL, rowL, List.map_append, List.map_cons, List.map_nil]) Ur, .inr (by omega)⟩
  ·refine in_ofS (fn := Tryz.f47) (code := bodyOf Tryz.f47) Tryz.func47 rfl (by kernel_rfl) ?_
   intro sl hs
   have s0 : sl 0 = i64 (n : Int) := hs 0
   have s1 : sl 1 = .ref 32800 g [] 0 n := hs 1
   have s2 : sl 2 = .ref 12336 gl [] 0 L.length := hs 2
   dsimp only [Tryz.f47, bodyOf, Option.getD]
   refine Yby ?_
   refine RETS_1 (.ref 12336 (gn 12336 + 1) [] 0 (L.length + 1)) Ur ⟨KFt, gn 12336 + 1, LvP.mk rfl (by simp) (by simp only [↓za, ↓reduceIte, Nat.reduceEqDiff, zb, reduceCtorEq]; simp only [htk, rowLL, rowL, List.map_append, List.map_cons, List.map_nil]) Ur, .inr (by omega)⟩
set_option maxHeartbeats 16000000 in
theorem ordStep (hn : n ≤ 1000) {d : Nat} (ih : OrdS n d) : OrdS n (d + 1) := by
 intro ro0 gn0 x L s g gl lv hs hx h0 rx lx hL hl
 have hne : ¬ (x.length : Int) = n := by omega
 have hxl : x.length + 1 ≤ 4294967296 := by omega
 have hv1 : visK n d x (0 + 1) = [] := by rw [visK_succ, if_pos h0]; rfl
 rw [show vis n (d + 1) x = visK n d x n from rfl]
 rcases hs with rfl | rfl | rfl
 ·refine in_ofS (fn := Tryz.f47) (code := bodyOf Tryz.f47) Tryz.func47 rfl (by kernel_rfl) ?_
  intro sl hs
  have s0 : sl 0 = i64 (n : Int) := hs 0
  have s1 : sl 1 = .ref 8256 g [] 0 x.length := hs 1
  have s2 : sl 2 = lv := hs 2
  dsimp only [Tryz.f47, bodyOf, Option.getD]
  refine Ycr ?_
  refine WK_for (fun i st => st.sl 0 = i64 (n : Int) ∧ st.sl 1 = .ref 8256 g [] 0 x.length ∧ st.sl 7 = i64 ((i + 1 : Nat) : Int) ∧ (st.ro 8256 g = some (rowL (zl x))) ∧ (Frx W17 (Cx17 8256 g gl) ro0 gn0 st.ro st.gn) ∧ (∃ gl', LvP st.ro st.gn (L ++ visK n d x (i + 1)) (st.sl 2) gl' ∧ (gl' = gl ∨ gn0 12336 < gl'))) ((n - 1)) ?_ ?_ ?_
  ·refine Ybd ?_
   exact ⟨rfl, rx, Frx.refl _ _ _ _, gl, by rw [hv1, List.append_nil]; exact hL, .inl rfl⟩
  ·rintro i sl ro gn hi ⟨s0, s1, s7, rs, fr, ps⟩
   dsimp only at s0 s1 s7
   have hi' : (i : Int) < ((n - 1) : Nat) := by omega
   dsimp only at rs fr ps
   obtain ⟨gl1, hL1, hg1⟩ := ps
   have hi1 : ((i + 1 : Nat) : Int) < (n : Nat) := by omega
   have cc := c88 (a := immL (zl x)) (n := ((i + 1 : Nat) : Int)) (isL_imm (zl x)) (by rw [zl_len]; unfold maxN; omega)
   rw [visK_succ]
   by_cases hi : (i + 1) ∈ x
   ·rw [if_pos hi, List.append_nil]
    rw [decide_eq_true (ix_zl.2 hi)] at cc
    refine Yas ?_
    refine CLL_q _ cc (.cons (exq_refL rs (zl_len x).symm (by decide)) (.cons (exq_sc _ _ _ (by decide)) .nil)) rfl rfl rfl ?_
    refine Yaj ?_
    exact ⟨i64c (by omega), rs, fr, gl1, hL1, hg1⟩
   ·rw [if_neg hi]
    rw [decide_eq_false (fun h => hi (ix_zl.1 h))] at cc
    refine Yas ?_
    refine CLL_q _ cc (.cons (exq_refL rs (zl_len x).symm (by decide)) (.cons (exq_sc _ _ _ (by decide)) .nil)) rfl rfl rfl ?_
    refine Yaj ?_
    refine CLL_q _ (cOwn1 (xs := zl x) (by rw [zl_len]; unfold maxN; omega)) (.cons (exq_refL rs (zl_len x).symm (by decide)) .nil) rfl rfl (noI_rowL _) ?_
    refine Ycc ?_
    have v1 := fr.up 32800
    have v2 := fr.up 32832
    have v3 := fr.up 12336
    have hll : (x ++ [i + 1]).length = x.length + 1 := by rw [List.length_append]; rfl
    have hvl := visK_le (n := n) (d := d) (x := x) (vis_le n d) (i + 1)
    have hmu : (i + 1) * (n + 1) ^ d + (n + 1) ^ d ≤ (n + 1) * (n + 1) ^ d := by
     have := Nat.mul_le_mul_right ((n + 1) ^ d) (show i + 2 ≤ n + 1 by omega)
     rwa [show i + 2 = (i + 1) + 1 from rfl, Nat.add_mul, Nat.one_mul] at this
    have hl2 : (L ++ visK n d x (i + 1)).length + (n + 1) ^ d ≤ 1000000 := by
     rw [Nat.pow_succ, Nat.mul_comm] at hl
     rw [List.length_append]
     omega
    have I := fun (ro1 : Ro) (gn1 : Nat → Nat) => ih ro1 gn1 (x ++ [i + 1]) (L ++ visK n d x (i + 1)) 32800 (gn 32800 + 1 + 1) gl1 (sl 2) (.inr (.inr rfl)) (by rw [hll]; omega) (List.mem_append_left _ h0)
    simp only [hll] at I
    refine CLL_inS rfl (I _ _ ?_ ?_ (hL1.keep (W := W17) (C := fun _ _ => False) KFt (fun h => h)) hl2) ?_
    ·refine Ybk ?_
     rw [List.take_of_length_le (by rw [List.length_map, zl_len]; exact Nat.le_refl _), zl_app]
    ·exact Ur
    rintro r ro' gn' ⟨fr', gl2, hL2, hg2⟩
    simp only [↓za, ↓reduceIte, Nat.reduceEqDiff, zb, reduceCtorEq] at hg2
    refine Yaj ?_
    rw [List.append_assoc] at hL2
    refine ⟨i64c (by omega), ?_, ?_, gl2, hL2, by omega⟩
    ·refine (fr'.kp 8256 g (by simp only [↓za, ↓reduceIte, Nat.reduceEqDiff, zb, reduceCtorEq]; exact Nat.le_trans lx (fr.up _)) (by rintro (⟨e1, e2⟩ | ⟨e1, e2⟩) <;> omega)).trans (Ue rs)
    ·exact (show Frx W17 (Cx17 8256 g gl) ro0 gn0 _ _ from KFt).trans fr' (by
      rintro a b (⟨e1, e2⟩ | ⟨e1, e2⟩)
      ·subst e1 e2
       exact .inl (by omega)
      ·subst e1 e2
       rcases hg1 with e | e
       ·exact .inr (.inr ⟨rfl, e⟩)
       ·exact .inl e)
  ·rintro sl ro gn ⟨s0, s1, s7, rs, fr, ps⟩
   dsimp only at s0 s1 s7
   have hi' : ¬ (((n - 1) : Nat) : Int) < ((n - 1) : Nat) := by omega
   dsimp only at rs fr ps
   obtain ⟨gl1, hL1, hg1⟩ := ps
   rw [show n - 1 + 1 = n by omega] at hL1
   refine Ydi ?_
   exact RETS_1 (sl 2) Ur ⟨fr, gl1, hL1, hg1⟩
 ·refine in_ofS (fn := Tryz.f47) (code := bodyOf Tryz.f47) Tryz.func47 rfl (by kernel_rfl) ?_
  intro sl hs
  have s0 : sl 0 = i64 (n : Int) := hs 0
  have s1 : sl 1 = .ref 12304 g [] 0 x.length := hs 1
  have s2 : sl 2 = lv := hs 2
  dsimp only [Tryz.f47, bodyOf, Option.getD]
  refine Ycr ?_
  refine WK_for (fun i st => st.sl 0 = i64 (n : Int) ∧ st.sl 1 = .ref 12304 g [] 0 x.length ∧ st.sl 7 = i64 ((i + 1 : Nat) : Int) ∧ (st.ro 12304 g = some (rowL (zl x))) ∧ (Frx W17 (Cx17 12304 g gl) ro0 gn0 st.ro st.gn) ∧ (∃ gl', LvP st.ro st.gn (L ++ visK n d x (i + 1)) (st.sl 2) gl' ∧ (gl' = gl ∨ gn0 12336 < gl'))) ((n - 1)) ?_ ?_ ?_
  ·refine Ybd ?_
   exact ⟨rfl, rx, Frx.refl _ _ _ _, gl, by rw [hv1, List.append_nil]; exact hL, .inl rfl⟩
  ·rintro i sl ro gn hi ⟨s0, s1, s7, rs, fr, ps⟩
   dsimp only at s0 s1 s7
   have hi' : (i : Int) < ((n - 1) : Nat) := by omega
   dsimp only at rs fr ps
   obtain ⟨gl1, hL1, hg1⟩ := ps
   have hi1 : ((i + 1 : Nat) : Int) < (n : Nat) := by omega
   have cc := c88 (a := immL (zl x)) (n := ((i + 1 : Nat) : Int)) (isL_imm (zl x)) (by rw [zl_len]; unfold maxN; omega)
   rw [visK_succ]
   by_cases hi : (i + 1) ∈ x
   ·rw [if_pos hi, List.append_nil]
    rw [decide_eq_true (ix_zl.2 hi)] at cc
    refine Yas ?_
    refine CLL_q _ cc (.cons (exq_refL rs (zl_len x).symm (by decide)) (.cons (exq_sc _ _ _ (by decide)) .nil)) rfl rfl rfl ?_
    refine Yaj ?_
    exact ⟨i64c (by omega), rs, fr, gl1, hL1, hg1⟩
   ·rw [if_neg hi]
    rw [decide_eq_false (fun h => hi (ix_zl.1 h))] at cc
    refine Yas ?_
    refine CLL_q _ cc (.cons (exq_refL rs (zl_len x).symm (by decide)) (.cons (exq_sc _ _ _ (by decide)) .nil)) rfl rfl rfl ?_
    refine Yaj ?_
    refine CLL_q _ (cOwn1 (xs := zl x) (by rw [zl_len]; unfold maxN; omega)) (.cons (exq_refL rs (zl_len x).symm (by decide)) .nil) rfl rfl (noI_rowL _) ?_
    refine Ycc ?_
    have v1 := fr.up 32800
    have v2 := fr.up 32832
    have v3 := fr.up 12336
    have hll : (x ++ [i + 1]).length = x.length + 1 := by rw [List.length_append]; rfl
    have hvl := visK_le (n := n) (d := d) (x := x) (vis_le n d) (i + 1)
    have hmu : (i + 1) * (n + 1) ^ d + (n + 1) ^ d ≤ (n + 1) * (n + 1) ^ d := by
     have := Nat.mul_le_mul_right ((n + 1) ^ d) (show i + 2 ≤ n + 1 by omega)
     rwa [show i + 2 = (i + 1) + 1 from rfl, Nat.add_mul, Nat.one_mul] at this
    have hl2 : (L ++ visK n d x (i + 1)).length + (n + 1) ^ d ≤ 1000000 := by
     rw [Nat.pow_succ, Nat.mul_comm] at hl
     rw [List.length_append]
     omega
    have I := fun (ro1 : Ro) (gn1 : Nat → Nat) => ih ro1 gn1 (x ++ [i + 1]) (L ++ visK n d x (i + 1)) 32800 (gn 32800 + 1 + 1) gl1 (sl 2) (.inr (.inr rfl)) (by rw [hll]; omega) (List.mem_append_left _ h0)
    simp only [hll] at I
    refine CLL_inS rfl (I _ _ ?_ ?_ (hL1.keep (W := W17) (C := fun _ _ => False) KFt (fun h => h)) hl2) ?_
    ·refine Ybk ?_
     rw [List.take_of_length_le (by rw [List.length_map, zl_len]; exact Nat.le_refl _), zl_app]
    ·exact Ur
    rintro r ro' gn' ⟨fr', gl2, hL2, hg2⟩
    simp only [↓za, ↓reduceIte, Nat.reduceEqDiff, zb, reduceCtorEq] at hg2
    refine Yaj ?_
    rw [List.append_assoc] at hL2
    refine ⟨i64c (by omega), ?_, ?_, gl2, hL2, by omega⟩
    ·refine (fr'.kp 12304 g (by simp only [↓za, ↓reduceIte, Nat.reduceEqDiff, zb, reduceCtorEq]; exact Nat.le_trans lx (fr.up _)) (by rintro (⟨e1, e2⟩ | ⟨e1, e2⟩) <;> omega)).trans (Ue rs)
    ·exact (show Frx W17 (Cx17 12304 g gl) ro0 gn0 _ _ from KFt).trans fr' (by
      rintro a b (⟨e1, e2⟩ | ⟨e1, e2⟩)
      ·subst e1 e2
       exact .inl (by omega)
      ·subst e1 e2
       rcases hg1 with e | e
       ·exact .inr (.inr ⟨rfl, e⟩)
       ·exact .inl e)
  ·rintro sl ro gn ⟨s0, s1, s7, rs, fr, ps⟩
   dsimp only at s0 s1 s7
   have hi' : ¬ (((n - 1) : Nat) : Int) < ((n - 1) : Nat) := by omega
   dsimp only at rs fr ps
   obtain ⟨gl1, hL1, hg1⟩ := ps
   rw [show n - 1 + 1 = n by omega] at hL1
   refine Ydi ?_
   exact RETS_1 (sl 2) Ur ⟨fr, gl1, hL1, hg1⟩
 ·refine in_ofS (fn := Tryz.f47) (code := bodyOf Tryz.f47) Tryz.func47 rfl (by kernel_rfl) ?_
  intro sl hs
  have s0 : sl 0 = i64 (n : Int) := hs 0
  have s1 : sl 1 = .ref 32800 g [] 0 x.length := hs 1
  have s2 : sl 2 = lv := hs 2
  dsimp only [Tryz.f47, bodyOf, Option.getD]
  refine Ycr ?_
  refine WK_for (fun i st => st.sl 0 = i64 (n : Int) ∧ st.sl 1 = .ref 32800 g [] 0 x.length ∧ st.sl 7 = i64 ((i + 1 : Nat) : Int) ∧ (st.ro 32800 g = some (rowL (zl x))) ∧ (Frx W17 (Cx17 32800 g gl) ro0 gn0 st.ro st.gn) ∧ (∃ gl', LvP st.ro st.gn (L ++ visK n d x (i + 1)) (st.sl 2) gl' ∧ (gl' = gl ∨ gn0 12336 < gl'))) ((n - 1)) ?_ ?_ ?_
  ·refine Ybd ?_
   exact ⟨rfl, rx, Frx.refl _ _ _ _, gl, by rw [hv1, List.append_nil]; exact hL, .inl rfl⟩
  ·rintro i sl ro gn hi ⟨s0, s1, s7, rs, fr, ps⟩
   dsimp only at s0 s1 s7
   have hi' : (i : Int) < ((n - 1) : Nat) := by omega
   dsimp only at rs fr ps
   obtain ⟨gl1, hL1, hg1⟩ := ps
   have hi1 : ((i + 1 : Nat) : Int) < (n : Nat) := by omega
   have cc := c88 (a := immL (zl x)) (n := ((i + 1 : Nat) : Int)) (isL_imm (zl x)) (by rw [zl_len]; unfold maxN; omega)
   rw [visK_succ]
   by_cases hi : (i + 1) ∈ x
   ·rw [if_pos hi, List.append_nil]
    rw [decide_eq_true (ix_zl.2 hi)] at cc
    refine Yas ?_
    refine CLL_q _ cc (.cons (exq_refL rs (zl_len x).symm (by decide)) (.cons (exq_sc _ _ _ (by decide)) .nil)) rfl rfl rfl ?_
    refine Yaj ?_
    exact ⟨i64c (by omega), rs, fr, gl1, hL1, hg1⟩
   ·rw [if_neg hi]
    rw [decide_eq_false (fun h => hi (ix_zl.1 h))] at cc
    refine Yas ?_
    refine CLL_q _ cc (.cons (exq_refL rs (zl_len x).symm (by decide)) (.cons (exq_sc _ _ _ (by decide)) .nil)) rfl rfl rfl ?_
    refine Yaj ?_
    refine CLL_q _ (cOwn1 (xs := zl x) (by rw [zl_len]; unfold maxN; omega)) (.cons (exq_refL rs (zl_len x).symm (by decide)) .nil) rfl rfl (noI_rowL _) ?_
    refine Ycc ?_
    have v1 := fr.up 32800
    have v2 := fr.up 32832
    have v3 := fr.up 12336
    have hll : (x ++ [i + 1]).length = x.length + 1 := by rw [List.length_append]; rfl
    have hvl := visK_le (n := n) (d := d) (x := x) (vis_le n d) (i + 1)
    have hmu : (i + 1) * (n + 1) ^ d + (n + 1) ^ d ≤ (n + 1) * (n + 1) ^ d := by
     have := Nat.mul_le_mul_right ((n + 1) ^ d) (show i + 2 ≤ n + 1 by omega)
     rwa [show i + 2 = (i + 1) + 1 from rfl, Nat.add_mul, Nat.one_mul] at this
    have hl2 : (L ++ visK n d x (i + 1)).length + (n + 1) ^ d ≤ 1000000 := by
     rw [Nat.pow_succ, Nat.mul_comm] at hl
     rw [List.length_append]
     omega
    have I := fun (ro1 : Ro) (gn1 : Nat → Nat) => ih ro1 gn1 (x ++ [i + 1]) (L ++ visK n d x (i + 1)) 32800 (gn 32800 + 1 + 1) gl1 (sl 2) (.inr (.inr rfl)) (by rw [hll]; omega) (List.mem_append_left _ h0)
    simp only [hll] at I
    refine CLL_inS rfl (I _ _ ?_ ?_ (hL1.keep (W := W17) (C := fun _ _ => False) KFt (fun h => h)) hl2) ?_
    ·refine Ybk ?_
     rw [List.take_of_length_le (by rw [List.length_map, zl_len]; exact Nat.le_refl _), zl_app]
    ·exact Ur
    rintro r ro' gn' ⟨fr', gl2, hL2, hg2⟩
    simp only [↓za, ↓reduceIte, Nat.reduceEqDiff, zb, reduceCtorEq] at hg2
    refine Yaj ?_
    rw [List.append_assoc] at hL2
    refine ⟨i64c (by omega), ?_, ?_, gl2, hL2, by omega⟩
    ·refine (fr'.kp 32800 g (by simp only [↓za, ↓reduceIte, Nat.reduceEqDiff, zb, reduceCtorEq]; exact Nat.le_trans lx (Nat.le_trans (fr.up 32800) (by omega))) (by rintro (⟨e1, e2⟩ | ⟨e1, e2⟩) <;> omega)).trans (by simp only [↓za, ↓reduceIte, Nat.reduceEqDiff, zb, reduceCtorEq]; (first | (rw [if_neg (by omega), if_neg (by omega)]; exact rs) | (rw [if_neg (by omega), if_neg (by omega), if_neg (by omega)]; exact rs)))
    ·exact (show Frx W17 (Cx17 32800 g gl) ro0 gn0 _ _ from KFt).trans fr' (by
      rintro a b (⟨e1, e2⟩ | ⟨e1, e2⟩)
      ·subst e1 e2
       exact .inl (by omega)
      ·subst e1 e2
       rcases hg1 with e | e
       ·exact .inr (.inr ⟨rfl, e⟩)
       ·exact .inl e)
  ·rintro sl ro gn ⟨s0, s1, s7, rs, fr, ps⟩
   dsimp only at s0 s1 s7
   have hi' : ¬ (((n - 1) : Nat) : Int) < ((n - 1) : Nat) := by omega
   dsimp only at rs fr ps
   obtain ⟨gl1, hL1, hg1⟩ := ps
   rw [show n - 1 + 1 = n by omega] at hL1
   refine Ydi ?_
   exact RETS_1 (sl 2) Ur ⟨fr, gl1, hL1, hg1⟩
theorem ordA (hn : n ≤ 1000) : ∀ d, OrdS n d
 | 0 => ordBase (by unfold maxN; omega)
 | d + 1 => ordStep hn (ordA hn d)
end
section
variable {F : C3} {n : Nat} {x : List Nat} {a : AV}
def ColP (F : C3) (n : Nat) (x : List Nat) : Prop := ∀ i j, i < n → j < n → F i j 0 = if j = x.getD i 0 then 1 else 0
def fitB (x : List Nat) (F : C3) (i j k : Nat) : Bool := decide (i < x.getD i 0) || (decide (x.getD i 0 = i) && decide (j < k)) || decide (F i j k = F (x.getD i 0) k j)
set_option maxHeartbeats 4000000 in
theorem cFits (ha : isLLL a (cubeL F n)) (h1 : 1 ≤ n) (hn : n ≤ 16) (hF : cubeOk F n) (hC : ColP F n x) (hx : ∀ i, i < n → x.getD i 0 < n) {i j k : Nat} (hi : i < n) (hj : j < n) (hk : k < n) : CallOK Tryz.prog 108 [a, i64 (i : Int), i64 (j : Int), i64 (k : Int)] (bo (fitB x F i j k)) := by
 have cP := cubeP_of h1 hn hF
 have hd : dlT (cubeL F n) i = (x.getD i 0 : Nat) := by
  refine du_is ⟨by rw [lenC]; exact hx i hi, ?_, fun j hj hne => ?_⟩
  ·show at3 (cubeL F n) i (x.getD i 0) 0 = 1
   rw [at3_cube hi (hx i hi) (by omega), hC i _ hi (hx i hi), if_pos rfl]
  ·rw [lenC] at hj
   show at3 (cubeL F n) i j 0 = 0
   rw [at3_cube hi hj (by omega), hC i j hi hj, if_neg hne]
 have cd := c150 ha cP (i := i) (by rw [lenC]; exact hi)
 rw [hd] at cd
 have hxi := hx i hi
 unfold fitB
 generalize x.getD i 0 = p at cd hd hxi
 have lX : (cubeL F n).length = n := lenC F n
 have hm1 := isLLL_mat ha (k := i) (by omega)
 have hm2 := isLLL_mat ha (k := p) (by omega)
 have lm1 : (mat (cubeL F n) i).length = n := lenM hi
 have lm2 : (mat (cubeL F n) p).length = n := lenM hxi
 have hr1 := isLL_row hm1 (k := j) (by omega)
 have hr2 := isLL_row hm2 (k := k) (by omega)
 have lr1 : (row (mat (cubeL F n) i) j).length = n := lenR hi hj
 have lr2 : (row (mat (cubeL F n) p) k).length = n := lenR hxi hk
 have v1 : atI (row (mat (cubeL F n) i) j) k = F i j k := at3_cube hi hj hk
 have v2 : atI (row (mat (cubeL F n) p) k) j = F p k j := at3_cube hxi hk hj
 by_cases c1 : i < p
 ·have d1 : (i : Int) < p := by omega
  rw [show (decide (i < p) || (decide (p = i) && decide (j < k)) || decide (F i j k = F p k j)) = true by rw [decide_eq_true c1, Bool.true_or, Bool.true_or]]
  ·refine call_of (fn := Tryz.f108) (code := bodyOf Tryz.f108) Tryz.func108 rfl (by kernel_rfl) (rfl) ?_
   intro sl hs
   have s0 : sl 0 = a := hs 0
   have s1 : sl 1 = i64 (i : Int) := hs 1
   have s2 : sl 2 = i64 (j : Int) := hs 2
   have s3 : sl 3 = i64 (k : Int) := hs 3
   dsimp only [Tryz.f108, bodyOf, Option.getD]
   refine Ybz ?_
   refine CLL_pure _ cd PUt rfl rfl ?_
   simp (disch := first | assumption | omega) only [go_sem, ↓reduceIte, Nat.reduceEqDiff, Nat.reduceAdd, Nat.reduceMul, zc, s0, s1, s2, s3, ti2, ti3, ti4, eq_true d1, undef]
   exact Yab
 ·have d1 : ¬ (i : Int) < p := by omega
  by_cases c2 : p = i
  ·have d2 : (p : Int) = i := by omega
   by_cases c3 : j < k
   ·have d3 : (j : Int) < k := by omega
    rw [show (decide (i < p) || (decide (p = i) && decide (j < k)) || decide (F i j k = F p k j)) = true by rw [decide_eq_true c2, decide_eq_true c3, Bool.and_self, Bool.or_true, Bool.true_or]]
    ·refine call_of (fn := Tryz.f108) (code := bodyOf Tryz.f108) Tryz.func108 rfl (by kernel_rfl) (rfl) ?_
     intro sl hs
     have s0 : sl 0 = a := hs 0
     have s1 : sl 1 = i64 (i : Int) := hs 1
     have s2 : sl 2 = i64 (j : Int) := hs 2
     have s3 : sl 3 = i64 (k : Int) := hs 3
     dsimp only [Tryz.f108, bodyOf, Option.getD]
     refine Ybz ?_
     refine CLL_pure _ cd PUt rfl rfl ?_
     simp (disch := first | assumption | omega) only [go_sem, ↓reduceIte, Nat.reduceEqDiff, Nat.reduceAdd, Nat.reduceMul, zc, s0, s1, s2, s3, ti2, ti3, ti4, eq_false d1, eq_true d2, eq_true d3]
     exact Yab
   ·have d3 : ¬ (j : Int) < k := by omega
    rw [show (decide (i < p) || (decide (p = i) && decide (j < k)) || decide (F i j k = F p k j)) = decide (F i j k = F p k j) by rw [decide_eq_false c1, decide_eq_false c3, Bool.and_false, Bool.false_or, Bool.false_or]]
    ·refine call_of (fn := Tryz.f108) (code := bodyOf Tryz.f108) Tryz.func108 rfl (by kernel_rfl) (rfl) ?_
     intro sl hs
     have s0 : sl 0 = a := hs 0
     have s1 : sl 1 = i64 (i : Int) := hs 1
     have s2 : sl 2 = i64 (j : Int) := hs 2
     have s3 : sl 3 = i64 (k : Int) := hs 3
     dsimp only [Tryz.f108, bodyOf, Option.getD]
     refine Ybz ?_
     refine CLL_pure _ cd PUt rfl rfl ?_
     simp (disch := first | assumption | omega) only [go_sem, ↓reduceIte, Nat.reduceEqDiff, Nat.reduceAdd, Nat.reduceMul, zc, s0, s1, s2, s3, ti2, ti3, ti4, eq_false d1, eq_true d2, eq_false d3, lX, lm1, lm2, lr1, lr2, v1, v2, hr1, hr2]
     refine FIN_of (by kernel_rfl) ?_
     simp (disch := first | assumption | omega) only [go_sem, ↓reduceIte, Nat.reduceEqDiff, Nat.reduceAdd, Nat.reduceMul, zc, s0, s1, s2, s3]
     exact Yab
  ·have d2 : ¬ (p : Int) = i := by omega
   rw [show (decide (i < p) || (decide (p = i) && decide (j < k)) || decide (F i j k = F p k j)) = decide (F i j k = F p k j) by rw [decide_eq_false c1, decide_eq_false c2, Bool.false_and, Bool.false_or, Bool.false_or]]
   ·refine call_of (fn := Tryz.f108) (code := bodyOf Tryz.f108) Tryz.func108 rfl (by kernel_rfl) (rfl) ?_
    intro sl hs
    have s0 : sl 0 = a := hs 0
    have s1 : sl 1 = i64 (i : Int) := hs 1
    have s2 : sl 2 = i64 (j : Int) := hs 2
    have s3 : sl 3 = i64 (k : Int) := hs 3
    dsimp only [Tryz.f108, bodyOf, Option.getD]
    refine Ybz ?_
    refine CLL_pure _ cd PUt rfl rfl ?_
    simp (disch := first | assumption | omega) only [go_sem, ↓reduceIte, Nat.reduceEqDiff, Nat.reduceAdd, Nat.reduceMul, zc, s0, s1, s2, s3, ti2, ti3, ti4, eq_false d1, eq_false d2, lX, lm1, lm2, lr1, lr2, v1, v2, hr1, hr2]
    refine FIN_of (by kernel_rfl) ?_
    simp (disch := first | assumption | omega) only [go_sem, ↓reduceIte, Nat.reduceEqDiff, Nat.reduceAdd, Nat.reduceMul, zc, s0, s1, s2, s3]
    exact Yab
end
def listB (n : Nat) (Ls : List C3) : AV := .row (Ls.map fun F => cubeA F n)
noncomputable def fltB (F : C3) (n : Nat) : Bool := match RF (cubeL F n) with
 | none => true
 | some xs => decide (xs.length = 0)
def growK (g : C3 → List C3 × C3) (fit : C3 → Bool) (i j k : Nat) (F : C3) : Nat → List C3 × C3
 | 0 => ([], F)
 | v + 1 => if fit (updF (growK g fit i j k F v).2 i j k (v : Int)) then ((growK g fit i j k F v).1 ++ (g (updF (growK g fit i j k F v).2 i j k (v : Int))).1, (g (updF (growK g fit i j k F v).2 i j k (v : Int))).2)
  else ((growK g fit i j k F v).1, updF (growK g fit i j k F v).2 i j k (v : Int))
def gI (r a : Nat) : Nat := a / (r * r) + 1
def gJ (r a : Nat) : Nat := a / r % r + 1
def gK (r a : Nat) : Nat := a % r + 1
noncomputable def growS (x : List Nat) (n m : Nat) : Nat → Nat → C3 → List C3 × C3
 | 0, _, F => (if fltB F n then [F] else [], F)
 | d + 1, a, F => ((growK (growS x n m d (a + 1)) (fun G => fitB x G (gI (n - 1) a) (gJ (n - 1) a) (gK (n - 1) a)) (gI (n - 1) a) (gJ (n - 1) a) (gK (n - 1) a) F (m + 1)).1,
   updF (growK (growS x n m d (a + 1)) (fun G => fitB x G (gI (n - 1) a) (gJ (n - 1) a) (gK (n - 1) a)) (gI (n - 1) a) (gJ (n - 1) a) (gK (n - 1) a) F (m + 1)).2 (gI (n - 1) a) (gJ (n - 1) a) (gK (n - 1) a) 0)
def W30 : List Nat := [8192, 16400, 20512, 20544, 53264]
abbrev C30 (gt gl x y : Nat) : Prop := (x = 53264 ∧ y = gt) ∨ (x = 8192 ∧ y = gl)
def GrowS (x : List Nat) (n m d : Nat) : Prop := ∀ (ro : Ro) (gn : Nat → Nat) (F : C3) (Ls : List C3) (a gt gl : Nat), a + d = (n - 1) * (n - 1) * (n - 1) → cubeOk F n → ColP F n x → ro 53264 gt = some (cubeA F n) → gt ≤ gn 53264 → ro 8192 gl = some (listB n Ls) → gl ≤ gn 8192 → Ls.length + (m + 1) ^ d ≤ 1000000 →
 InS Tryz.prog 78 [.ref 53264 gt [] 0 n, i64 (a : Int), i64 (m : Int), .ref 8192 gl [] 0 Ls.length] ro gn (fun r ro' gn' => Frx W30 (C30 gt gl) ro gn ro' gn' ∧ ro' 53264 gt = some (cubeA (growS x n m d a F).2 n) ∧
  ∃ gl', r = .ref 8192 gl' [] 0 (Ls ++ (growS x n m d a F).1).length ∧ ro' 8192 gl' = some (listB n (Ls ++ (growS x n m d a F).1)) ∧ (gl' = gl ∨ gn 8192 < gl') ∧ gl' ≤ gn' 8192)
section
variable {x : List Nat} {n m : Nat}
set_option maxHeartbeats 8000000 in
theorem growBase (h1 : 1 ≤ n) (hn : n ≤ 3) : GrowS x n m 0 := by
 intro ro gn F Ls a gt gl ha hF hC rt lt rL lL hLs
 have cP := cubeP_of h1 (by omega) hF
 have ck := c131 (isLLL_immC F n) cP
 have ho := cOwnC (isLLL_immC F n) (by unfold maxN; omega)
 have hq : exqL 8 ro [.ref 53264 gt [] 0 n] [immC F n] := .cons (exq_cube rt (by decide)) .nil
 obtain ⟨r, hr⟩ : ∃ r, r = n - 1 := ⟨_, rfl⟩
 have er : (n : Int) - 1 = (r : Int) := by omega
 have hr2 : r ≤ 2 := by omega
 rw [← hr] at ha
 have em : (r : Int) * r = ((r * r : Nat) : Int) := rfl
 have em2 : ((r * r : Nat) : Int) * r = ((r * r * r : Nat) : Int) := rfl
 have ea : (a : Int) = ((r * r * r : Nat) : Int) := by omega
 have b1 : r * r ≤ 4 := Nat.mul_le_mul hr2 hr2
 have b2 : r * r * r ≤ 8 := Nat.mul_le_mul b1 hr2
 refine in_ofS (fn := Tryz.f78) (code := bodyOf Tryz.f78) Tryz.func78 rfl (by kernel_rfl) ?_
 intro sl hs
 have s0 : sl 0 = .ref 53264 gt [] 0 n := hs 0
 have s1 : sl 1 = i64 (a : Int) := hs 1
 have s2 : sl 2 = i64 (m : Int) := hs 2
 have s3 : sl 3 = .ref 8192 gl [] 0 Ls.length := hs 3
 dsimp only [Tryz.f78, bodyOf, Option.getD]
 simp (disch := first | assumption | omega) only [go_sem, ↓reduceIte, Nat.reduceEqDiff, Nat.reduceAdd, Nat.reduceMul, zc, s0, s1, s2, s3, ti3, rt, zfe, er, em, em2, eq_true ea]
 have htk : List.take Ls.length (Ls.map fun F => cubeA F n) = Ls.map fun F => cubeA F n := List.take_of_length_le (by rw [List.length_map]; exact Nat.le_refl _)
 have hll : Ls.length ≤ 4294967295 := by have : 0 < (m + 1) ^ 0 := Nat.pow_pos (by omega); omega
 cases hf : RF (cubeL F n) with
 | none =>
  rw [hf] at ck
  have eB : fltB F n = true := by unfold fltB; rw [hf]
  rw [show growS x n m 0 a F = (if fltB F n then [F] else [], F) from rfl, eB]
  refine CLL_q _ ck hq rfl rfl rfl ?_
  simp (disch := first | assumption | omega) only [go_sem, ↓reduceIte, Nat.reduceEqDiff, Nat.reduceAdd, Nat.reduceMul, zc, s0, s1, s2, s3, ti3, ti33, optA]
  ·refine CLL_q _ ho hq rfl rfl (noI_cube _ _) ?_
   refine Ydo ?_
   refine RETS_1 (.ref 8192 (gn 8192 + 1) [] 0 (Ls.length + 1)) Ur ⟨KFt, Ue rt, gn 8192 + 1, by rw [List.length_append]; rfl, ?_, .inr (by omega), Ur⟩
   simp only [↓za, ↓reduceIte, Nat.reduceEqDiff, zb, reduceCtorEq, htk, List.map_append, List.map_cons, List.map_nil]
 | some xs =>
  rw [hf] at ck
  refine CLL_q _ ck hq rfl rfl (noI_optA _) ?_
  by_cases h0 : xs.length = 0
  ·have eB : fltB F n = true := by unfold fltB; rw [hf]; exact decide_eq_true h0
   have h0' : (xs.length : Int) = 0 := by omega
   rw [show growS x n m 0 a F = (if fltB F n then [F] else [], F) from rfl, eB]
   simp (disch := first | assumption | omega) only [go_sem, ↓reduceIte, Nat.reduceEqDiff, Nat.reduceAdd, Nat.reduceMul, zc, s0, s1, s2, s3, ti3, ti33, optA, impE_row, rowL, List.length_map, eq_true h0']
   have hq2 : exqL 8 (upr ro 16400 (gn 16400 + 1) (.row (xs.map i64))) [.ref 53264 gt [] 0 n] [immC F n] := .cons (exq_cube (Ue rt) (by decide)) .nil
   ·refine CLL_q _ ho hq2 rfl rfl (noI_cube _ _) ?_
    refine Ydo ?_
    refine RETS_1 (.ref 8192 (gn 8192 + 1) [] 0 (Ls.length + 1)) Ur ⟨KFt, Ue rt, gn 8192 + 1, by rw [List.length_append]; rfl, ?_, .inr (by omega), Ur⟩
    simp only [↓za, ↓reduceIte, Nat.reduceEqDiff, zb, reduceCtorEq, htk, List.map_append, List.map_cons, List.map_nil]
  ·have eB : fltB F n = false := by unfold fltB; rw [hf]; exact decide_eq_false h0
   have h0' : ¬ (xs.length : Int) = 0 := by omega
   rw [show growS x n m 0 a F = (if fltB F n then [F] else [], F) from rfl, eB]
   simp (disch := first | assumption | omega) only [go_sem, ↓reduceIte, Nat.reduceEqDiff, Nat.reduceAdd, Nat.reduceMul, zc, s0, s1, s2, s3, ti3, ti33, optA, impE_row, rowL, List.length_map, eq_false h0']
   exact RETS_1 (.ref 8192 gl [] 0 Ls.length) Ur ⟨KFt, Ue rt, gl, rfl, Ue rL, .inl rfl, Ue lL⟩
theorem g_lt {r a : Nat} (hr : 1 ≤ r) (h : a < r * r * r) : gI r a < r + 1 ∧ gJ r a < r + 1 ∧ gK r a < r + 1 ∧ 1 ≤ gI r a ∧ 1 ≤ gJ r a ∧ 1 ≤ gK r a := by
 have h1 : a / (r * r) < r := Nat.div_lt_of_lt_mul h
 have h2 : a / r % r < r := Nat.mod_lt _ hr
 have h3 : a % r < r := Nat.mod_lt _ hr
 exact ⟨Nat.succ_lt_succ h1, Nat.succ_lt_succ h2, Nat.succ_lt_succ h3, Nat.succ_le_succ (Nat.zero_le _), Nat.succ_le_succ (Nat.zero_le _), Nat.succ_le_succ (Nat.zero_le _)⟩
theorem upd_ok {F : C3} {n : Nat} (h : cubeOk F n) {i j k : Nat} {v : Int} (h0 : 0 ≤ v) (h1 : v ≤ 1000) : cubeOk (updF F i j k v) n := by
 intro a ha b hb c hc
 unfold updF
 split
 ·exact ⟨h0, h1⟩
 ·exact h a ha b hb c hc
theorem upd_col {F : C3} {n : Nat} {x : List Nat} (h : ColP F n x) {i j k : Nat} (hk : 1 ≤ k) {v : Int} : ColP (updF F i j k v) n x := by
 intro a b ha hb
 unfold updF
 rw [if_neg (by omega)]
 exact h a b ha hb
def TabP (F : C3) (n : Nat) (x : List Nat) : Prop := cubeOk F n ∧ ColP F n x
theorem growK_ok {g : C3 → List C3 × C3} {fit : C3 → Bool} {i j k m : Nat} (hm : m ≤ 1000) (hk : 1 ≤ k) (hg : ∀ G, TabP G n x → TabP (g G).2 n x) {F : C3} (h : TabP F n x) : ∀ v, v ≤ m + 1 → TabP (growK g fit i j k F v).2 n x
 | 0, _ => h
 | v + 1, hv => by
  have ih := growK_ok (fit := fit) (i := i) (j := j) (m := m) hm hk hg h v (by omega)
  have h2 : TabP (updF (growK g fit i j k F v).2 i j k (v : Int)) n x := ⟨upd_ok ih.1 (by omega) (by omega), upd_col ih.2 hk⟩
  unfold growK
  split
  ·exact hg _ h2
  ·exact h2
theorem growS_ok (hm : m ≤ 1000) : ∀ (d a : Nat) (F : C3), TabP F n x → TabP (growS x n m d a F).2 n x
 | 0, _, F, h => h
 | d + 1, a, F, h => by
  have h1 := growK_ok (g := growS x n m d (a + 1)) (fit := fun G => fitB x G (gI (n - 1) a) (gJ (n - 1) a) (gK (n - 1) a)) (i := gI (n - 1) a) (j := gJ (n - 1) a) (k := gK (n - 1) a) hm (Nat.le_add_left _ _) (growS_ok hm d (a + 1)) h (m + 1) (Nat.le_refl _)
  exact ⟨upd_ok h1.1 (by decide) (by decide), upd_col h1.2 (Nat.le_add_left _ _)⟩
theorem growK_len {g : C3 → List C3 × C3} {fit : C3 → Bool} {i j k c : Nat} (hg : ∀ G, (g G).1.length ≤ c) (F : C3) : ∀ v, (growK g fit i j k F v).1.length ≤ v * c
 | 0 => Nat.zero_le _
 | v + 1 => by
  have h1 := growK_len (fit := fit) (i := i) (j := j) (k := k) hg F v
  have h2 := hg (updF (growK g fit i j k F v).2 i j k (v : Int))
  rw [Nat.add_mul, Nat.one_mul]
  unfold growK
  split
  ·rw [List.length_append]; omega
  ·show (growK g fit i j k F v).1.length ≤ _
   omega
theorem growS_len (x : List Nat) (n m : Nat) : ∀ (d a : Nat) (F : C3), (growS x n m d a F).1.length ≤ (m + 1) ^ d
 | 0, a, F => by unfold growS; split <;> simp
 | d + 1, a, F => by
  have := growK_len (g := growS x n m d (a + 1)) (fit := fun G => fitB x G (gI (n - 1) a) (gJ (n - 1) a) (gK (n - 1) a)) (i := gI (n - 1) a) (j := gJ (n - 1) a) (k := gK (n - 1) a) (fun G => growS_len x n m d (a + 1) G) F (m + 1)
  rw [Nat.pow_succ, Nat.mul_comm]
  exact this
set_option maxHeartbeats 16000000 in
theorem growStep (h1 : 1 ≤ n) (hn : n ≤ 3) (hm : m ≤ 4) (hxx : ∀ i, i < n → x.getD i 0 < n) {d : Nat} (ih : GrowS x n m d) : GrowS x n m (d + 1) := by
 intro ro0 gn0 F Ls a gt gl ha hF hC rt lt rL lL hLs
 obtain ⟨r, hr⟩ : ∃ r, r = n - 1 := ⟨_, rfl⟩
 have er : (n : Int) - 1 = (r : Int) := by omega
 have hr2 : r ≤ 2 := by omega
 have hS : growS x n m (d + 1) a F = ((growK (growS x n m d (a + 1)) (fun G => fitB x G (gI r a) (gJ r a) (gK r a)) (gI r a) (gJ r a) (gK r a) F (m + 1)).1, updF (growK (growS x n m d (a + 1)) (fun G => fitB x G (gI r a) (gJ r a) (gK r a)) (gI r a) (gJ r a) (gK r a) F (m + 1)).2 (gI r a) (gJ r a) (gK r a) 0) := by rw [hr]; rfl
 rw [hS]
 rw [← hr] at ha
 have hr1 : 1 ≤ r := by
  rcases Nat.lt_or_ge 0 r with h | h
  ·exact h
  ·have : r = 0 := by omega
   subst this
   omega
 obtain ⟨bI, bJ, bK, cI, cJ, cK⟩ := g_lt (a := a) hr1 (by omega)
 have hn1 : r + 1 = n := by omega
 rw [hn1] at bI bJ bK
 have em : (r : Int) * r = ((r * r : Nat) : Int) := rfl
 have em2 : ((r * r : Nat) : Int) * r = ((r * r * r : Nat) : Int) := rfl
 have ea : ¬ (a : Int) = ((r * r * r : Nat) : Int) := by omega
 have b1 : r * r ≤ 4 := Nat.mul_le_mul hr2 hr2
 have b2 : r * r * r ≤ 8 := Nat.mul_le_mul b1 hr2
 have hrr : ¬ ((r * r : Nat) : Int) = 0 := by have := Nat.mul_pos hr1 hr1; omega
 have hr0 : ¬ (r : Int) = 0 := by omega
 have ha8 : a < 8 := by omega
 obtain ⟨qI, hqI⟩ : ∃ q, q = a / (r * r) := ⟨_, rfl⟩
 obtain ⟨qR, hqR⟩ : ∃ q, q = a / r := ⟨_, rfl⟩
 obtain ⟨qJ, hqJ⟩ : ∃ q, q = qR % r := ⟨_, rfl⟩
 obtain ⟨qK, hqK⟩ : ∃ q, q = a % r := ⟨_, rfl⟩
 have gi : gI r a = qI + 1 := by rw [hqI]; rfl
 have gj : gJ r a = qJ + 1 := by rw [hqJ, hqR]; rfl
 have gk : gK r a = qK + 1 := by rw [hqK]; rfl
 have td1 : (a : Int).tdiv ((r * r : Nat) : Int) = (qI : Int) := by rw [hqI]; rfl
 have td2 : (a : Int).tdiv (r : Int) = (qR : Int) := by rw [hqR]; rfl
 have td3 : (qR : Int).tmod (r : Int) = (qJ : Int) := by rw [hqJ]; rfl
 have td4 : (a : Int).tmod (r : Int) = (qK : Int) := by rw [hqK]; rfl
 have lR : qR ≤ 8 := by rw [hqR]; exact Nat.le_trans (Nat.div_le_self _ _) (by omega)
 rw [gi] at bI cI
 rw [gj] at bJ cJ
 rw [gk] at bK cK
 rw [gi, gj, gk]
 clear hqI hqR hqJ hqK
 generalize hg : growS x n m d (a + 1) = g
 generalize hft : (fun G => fitB x G (qI + 1) (qJ + 1) (qK + 1)) = fit
 have hok := growK_ok (g := g) (fit := fit) (i := qI + 1) (j := qJ + 1) (k := qK + 1) (m := m) (x := x) (n := n) (by omega) (by omega) (fun G hG => by rw [← hg]; exact growS_ok (by omega) d (a + 1) G hG) (F := F) ⟨hF, hC⟩
 have hlen := growK_len (g := g) (fit := fit) (i := qI + 1) (j := qJ + 1) (k := qK + 1) (c := (m + 1) ^ d) (fun G => by rw [← hg]; exact growS_len x n m d (a + 1) G) F
 rw [Nat.pow_succ, Nat.mul_comm] at hLs
 have e1 : (qI : Int) + 1 = ((qI + 1 : Nat) : Int) := rfl
 have e2 : (qJ : Int) + 1 = ((qJ + 1 : Nat) : Int) := rfl
 have e3 : (qK : Int) + 1 = ((qK + 1 : Nat) : Int) := rfl
 refine in_ofS (fn := Tryz.f78) (code := bodyOf Tryz.f78) Tryz.func78 rfl (by kernel_rfl) ?_
 intro sl hs
 have s0 : sl 0 = .ref 53264 gt [] 0 n := hs 0
 have s1 : sl 1 = i64 (a : Int) := hs 1
 have s2 : sl 2 = i64 (m : Int) := hs 2
 have s3 : sl 3 = .ref 8192 gl [] 0 Ls.length := hs 3
 dsimp only [Tryz.f78, bodyOf, Option.getD]
 simp (disch := first | assumption | omega) only [go_sem, ↓reduceIte, Nat.reduceEqDiff, Nat.reduceAdd, Nat.reduceMul, zc, s0, s1, s2, s3, ti3, rt, zfe, er, em, em2, eq_false ea, td1, td2, td3, td4, e1, e2, e3]
 refine FIN_of (by kernel_rfl) ?_
 simp (disch := first | assumption | omega) only [go_sem, ↓reduceIte, Nat.reduceEqDiff, Nat.reduceAdd, Nat.reduceMul, zc, s0, s1, s2, s3, ti2]
 refine WK_for (fun v st => st.sl 0 = .ref 53264 gt [] 0 n ∧ st.sl 1 = i64 (a : Int) ∧ st.sl 2 = i64 (m : Int) ∧ st.sl 10 = i64 ((qI + 1 : Nat) : Int) ∧ st.sl 11 = i64 ((qJ + 1 : Nat) : Int) ∧ st.sl 12 = i64 ((qK + 1 : Nat) : Int) ∧ st.sl 13 = i64 (v : Int) ∧ (Frx W30 (C30 gt gl) ro0 gn0 st.ro st.gn) ∧ (st.ro 53264 gt = some (cubeA (growK g fit (qI + 1) (qJ + 1) (qK + 1) F v).2 n)) ∧ (∃ gl', st.sl 3 = .ref 8192 gl' [] 0 (Ls ++ (growK g fit (qI + 1) (qJ + 1) (qK + 1) F v).1).length ∧ st.ro 8192 gl' = some (listB n (Ls ++ (growK g fit (qI + 1) (qJ + 1) (qK + 1) F v).1)) ∧ (gl' = gl ∨ gn0 8192 < gl') ∧ gl' ≤ st.gn 8192)) ((m + 1)) ?_ ?_ ?_
 ·simp only [↓za, ↓reduceIte, Nat.reduceEqDiff, zb, reduceCtorEq, rws_zero, s0, s1, s2, s3]
  refine ⟨rfl, Frx.refl _ _ _ _, rt, gl, ?_, ?_, .inl rfl, lL⟩
  ·rw [show (growK g fit (qI + 1) (qJ + 1) (qK + 1) F 0).1 = [] from rfl, List.append_nil]
  ·rw [show (growK g fit (qI + 1) (qJ + 1) (qK + 1) F 0).1 = [] from rfl, List.append_nil]; exact rL
 ·rintro v sl ro gn hv ⟨s0, s1, s2, s10, s11, s12, s13, fr, pf, pl⟩
  dsimp only at s0 s1 s2 s10 s11 s12 s13
  have hv' : (v : Int) < ((m + 1) : Nat) := by omega
  dsimp only at fr pf pl
  have hA := hok v (by omega)
  have hlv := hlen v
  have hmul : v * (m + 1) ^ d + (m + 1) ^ d ≤ (m + 1) * (m + 1) ^ d := by
   have := Nat.mul_le_mul_right ((m + 1) ^ d) (show v + 1 ≤ m + 1 by omega)
   rwa [Nat.add_mul, Nat.one_mul] at this
  have hsu : growK g fit (qI + 1) (qJ + 1) (qK + 1) F (v + 1) = if fit (updF (growK g fit (qI + 1) (qJ + 1) (qK + 1) F v).2 (qI + 1) (qJ + 1) (qK + 1) (v : Int)) then ((growK g fit (qI + 1) (qJ + 1) (qK + 1) F v).1 ++ (g (updF (growK g fit (qI + 1) (qJ + 1) (qK + 1) F v).2 (qI + 1) (qJ + 1) (qK + 1) (v : Int))).1, (g (updF (growK g fit (qI + 1) (qJ + 1) (qK + 1) F v).2 (qI + 1) (qJ + 1) (qK + 1) (v : Int))).2) else ((growK g fit (qI + 1) (qJ + 1) (qK + 1) F v).1, updF (growK g fit (qI + 1) (qJ + 1) (qK + 1) F v).2 (qI + 1) (qJ + 1) (qK + 1) (v : Int)) := rfl
  rw [hsu]
  generalize growK g fit (qI + 1) (qJ + 1) (qK + 1) F v = A at pf pl hA hlv
  obtain ⟨gl1, s3, c2, c3, c4⟩ := pl
  have hvm : (v : Int) ≤ m := by omega
  have bI' : ((qI + 1 : Nat) : Int) < (n : Nat) := by omega
  have bJ' : ((qJ + 1 : Nat) : Int) < (n : Nat) := by omega
  have bK' : ((qK + 1 : Nat) : Int) < (n : Nat) := by omega
  have hG1 := upd_ok hA.1 (i := qI + 1) (j := qJ + 1) (k := qK + 1) (v := (v : Int)) (by omega) (by omega)
  have hG2 := upd_col hA.2 (i := qI + 1) (j := qJ + 1) (k := qK + 1) (by omega) (v := (v : Int))
  generalize hG : updF A.2 (qI + 1) (qJ + 1) (qK + 1) (v : Int) = G at hG1 hG2
  have hw := cube_wr (v := (v : Int)) pf bI bJ bK
  rw [hG] at hw
  simp (disch := first | assumption | omega) only [go_sem, ↓reduceIte, Nat.reduceEqDiff, Nat.reduceAdd, Nat.reduceMul, zc, s0, s1, s2, s10, s11, s12, s13, hv', hv, s3, pf, bI', bJ', bK', bI, bJ, bK, cube_cells pf bI bJ, cube_bx pf bI bJ, hw, rws_get _ _ _ bI, rws_get _ _ _ bJ, zfe, ti2, ti3, hvm]
  have cf := cFits (isLLL_immC G n) h1 (by omega) hG1 hG2 hxx bI bJ bK
  have hfG : fitB x G (qI + 1) (qJ + 1) (qK + 1) = fit G := by rw [← hft]
  rw [hfG] at cf
  refine CLL_q _ cf (.cons (exq_cube Ur (by decide)) (.cons (exq_sc _ _ _ (by decide)) (.cons (exq_sc _ _ _ (by decide)) (.cons (exq_sc _ _ _ (by decide)) .nil)))) rfl rfl rfl ?_
  have v8 := fr.up 8192
  have v5 := fr.up 53264
  have e4 : (a : Int) + 1 = ((a + 1 : Nat) : Int) := rfl
  cases hfv : fit G
  ·rw [if_neg (by decide)]
   simp (disch := first | assumption | omega) only [go_sem, ↓reduceIte, Nat.reduceEqDiff, Nat.reduceAdd, Nat.reduceMul, zc, s0, s1, s2, s10, s11, s12, s13, hv', hv, ti2]
   refine ⟨i64c (by omega), KFt, gl1, s3, c2, c3, c4⟩
  ·rw [if_pos rfl]
   simp (disch := first | assumption | omega) only [go_sem, ↓reduceIte, Nat.reduceEqDiff, Nat.reduceAdd, Nat.reduceMul, zc, s0, s1, s2, s10, s11, s12, s13, hv', hv, s3, ti2, ti3, e4]
   have I := ih (upr ro 53264 gt (cubeA G n)) gn G (Ls ++ A.1) (a + 1) gt gl1 (by rw [← hr]; omega) hG1 hG2 Ur (Nat.le_trans lt v5) (Ue c2) c4 (by rw [List.length_append]; omega)
   rw [hg] at I
   refine CLL_inS rfl I ?_
   rintro _ ro' gn' ⟨fr', pf', gl2, rfl, d2, d3, d4⟩
   rw [List.append_assoc] at d2
   simp (disch := first | assumption | omega) only [go_sem, ↓reduceIte, Nat.reduceEqDiff, Nat.reduceAdd, Nat.reduceMul, zc, s0, s1, s2, s10, s11, s12, s13, hv', hv, ti2]
   refine ⟨i64c (by omega), ?_, pf', gl2, by rw [List.append_assoc], d2, by omega, d4⟩
   exact (show Frx W30 (C30 gt gl) ro0 gn0 _ _ from KFt).trans fr' (by
    rintro p q (⟨e1, e2⟩ | ⟨e1, e2⟩)
    ·exact .inr (.inl ⟨e1, e2⟩)
    ·subst e1 e2
     rcases c3 with e | e
     ·exact .inr (.inr ⟨rfl, e⟩)
     ·exact .inl e)
 ·rintro sl ro gn ⟨s0, s1, s2, s10, s11, s12, s13, fr, pf, pl⟩
  dsimp only at s0 s1 s2 s10 s11 s12 s13
  have hv' : ¬ (((m + 1) : Nat) : Int) < ((m + 1) : Nat) := by omega
  dsimp only at fr pf pl
  obtain ⟨gl1, s3, c2, c3, c4⟩ := pl
  have hvm : ¬ ((m + 1 : Nat) : Int) ≤ m := by omega
  have bI' : ((qI + 1 : Nat) : Int) < (n : Nat) := by omega
  have bJ' : ((qJ + 1 : Nat) : Int) < (n : Nat) := by omega
  have bK' : ((qK + 1 : Nat) : Int) < (n : Nat) := by omega
  generalize growK g fit (qI + 1) (qJ + 1) (qK + 1) F (m + 1) = A at pf s3 c2
  have hw := cube_wr (v := 0) pf bI bJ bK
  simp (disch := first | assumption | omega) only [go_sem, ↓reduceIte, Nat.reduceEqDiff, Nat.reduceAdd, Nat.reduceMul, zc, s0, s1, s2, s10, s11, s12, s13, hv', s3, hvm, ti2, ti3, pf, bI', bJ', bK', bI, bJ, bK, cube_cells pf bI bJ, cube_bx pf bI bJ, hw, rws_get _ _ _ bI, rws_get _ _ _ bJ, zfe]
  exact RETS_1 _ Ur ⟨KFt, Ur, gl1, rfl, Ue c2, c3, c4⟩
theorem growA (h1 : 1 ≤ n) (hn : n ≤ 3) (hm : m ≤ 4) (hxx : ∀ i, i < n → x.getD i 0 < n) : ∀ d, GrowS x n m d
 | 0 => growBase h1 hn
 | d + 1 => growStep h1 hn hm hxx (growA h1 hn hm hxx d)
end
end Go.Proofs.YtilfkbgdpmimlaaGreat
