/- Texts joined: SuD SuE SuF SuG. -/
import Derived.Test.YthfgjapmgjhccaaSd
set_option linter.all false
/- Surfaces: codes of lists of labels; paths as plain lists. -/
namespace Go.Proofs.Ythfgjapmgjhccaa
open Go.RowKit
set_option maxRecDepth 1000000
def lstP (T : List (List (List Int))) (L : List Int) : Prop := 1 ≤ L.length ∧ L.length ≤ 8 ∧ labP T.length L
open Classical in
noncomputable def pcV (T : List (List (List Int))) (L : List Int) : Int := if RingP T then if CmP T then if lstP T L then 0 else 2 else 5 else 1
section
variable {T : List (List (List Int))} {c la : AV} {L : List Int}
theorem pcV_0 (h1 : RingP T) (h2 : CmP T) (h3 : lstP T L) : pcV T L = 0 := by unfold pcV; rw [if_pos h1, if_pos h2, if_pos h3]
theorem pcV_2 (h1 : RingP T) (h2 : CmP T) (h3 : ¬ lstP T L) : pcV T L = 2 := by unfold pcV; rw [if_pos h1, if_pos h2, if_neg h3]
theorem pcV_5 (h1 : RingP T) (h2 : ¬ CmP T) : pcV T L = 5 := by unfold pcV; rw [if_pos h1, if_neg h2]
theorem pcV_1 (h1 : ¬ RingP T) : pcV T L = 1 := by unfold pcV; rw [if_neg h1]
theorem pcV_iff : pcV T L = 0 ↔ RingP T ∧ CmP T ∧ lstP T L := by
 constructor
 ·intro h
  by_cases h1 : RingP T
  ·by_cases h2 : CmP T
   ·by_cases h3 : lstP T L
    ·exact ⟨h1, h2, h3⟩
    ·rw [pcV_2 h1 h2 h3] at h; exact absurd h (by decide)
   ·rw [pcV_5 h1 h2] at h; exact absurd h (by decide)
  ·rw [pcV_1 h1] at h; exact absurd h (by decide)
 ·rintro ⟨h1, h2, h3⟩
  exact pcV_0 h1 h2 h3
theorem cPcI (ha : isLLL c T) (hz : SzP T) (hl : isL la L) (lL : L.length ≤ maxN) : CallOK Try.prog 34 [.agg [c], la] (i64 (pcV T L)) := by
 have lL' : L.length ≤ 4294967296 := lL
 by_cases h1 : RingP T
 ·by_cases h2 : CmP T
  ·have cc := cCodeI ha hz (z := 0) (.inl ⟨h1, h2, rfl⟩)
   by_cases l0 : (L.length : Int) < 1
   ·rw [pcV_2 h1 h2 (fun h => by have := h.1; omega)]
    refine call_of (fn := Try.f34) (code := bodyOf Try.f34) Try.func34 rfl (by kernel_rfl) (rfl) ?_
    intro sl hs
    have s0 : sl 0 = .agg [c] := hs 0
    have s1 : sl 1 = la := hs 1
    dsimp only [Try.f34, bodyOf, Option.getD]
    refine Yac ?_
    refine CLL_pure _ cc PUt rfl rfl ?_
    refine Yeb ?_
    exact Yaa
   ·by_cases l8 : (8 : Int) < L.length
    ·rw [pcV_2 h1 h2 (fun h => by have := h.2.1; omega)]
     refine call_of (fn := Try.f34) (code := bodyOf Try.f34) Try.func34 rfl (by kernel_rfl) (rfl) ?_
     intro sl hs
     have s0 : sl 0 = .agg [c] := hs 0
     have s1 : sl 1 = la := hs 1
     dsimp only [Try.f34, bodyOf, Option.getD]
     refine Yac ?_
     refine CLL_pure _ cc PUt rfl rfl ?_
     simp (maxSteps := 10000000) (disch := first | assumption | omega) only [go_sem, ↓reduceIte, Nat.reduceEqDiff, reduceCtorEq, Nat.reduceAdd, Nat.reduceMul, Nat.reduceLeDiff, zc, Int.reduceToNat, s0, s1, ti31, isL_len hl, eq_false l0, eq_true l8, undef]
     exact Yaa
    ·by_cases h3 : labP T.length L
     ·rw [pcV_0 h1 h2 ⟨by omega, by omega, h3⟩]
      refine call_of (fn := Try.f34) (code := bodyOf Try.f34) Try.func34 rfl (by kernel_rfl) (rfl) ?_
      intro sl hs
      have s0 : sl 0 = .agg [c] := hs 0
      have s1 : sl 1 = la := hs 1
      dsimp only [Try.f34, bodyOf, Option.getD]
      refine Yac ?_
      refine CLL_pure _ cc PUt rfl rfl ?_
      refine Ydq ?_
      refine CLL_pure _ (cAreL ha h1.1.2.1 hl lL (t := true) ⟨fun _ => h3, fun _ => rfl⟩) PUt rfl rfl ?_
      refine Ybp ?_
      exact Yaa
     ·rw [pcV_2 h1 h2 (fun h => h3 h.2.2)]
      refine call_of (fn := Try.f34) (code := bodyOf Try.f34) Try.func34 rfl (by kernel_rfl) (rfl) ?_
      intro sl hs
      have s0 : sl 0 = .agg [c] := hs 0
      have s1 : sl 1 = la := hs 1
      dsimp only [Try.f34, bodyOf, Option.getD]
      refine Yac ?_
      refine CLL_pure _ cc PUt rfl rfl ?_
      refine Ydq ?_
      refine CLL_pure _ (cAreL ha h1.1.2.1 hl lL (t := false) ⟨fun h => (nomatch h), fun h => absurd h h3⟩) PUt rfl rfl ?_
      refine Ybp ?_
      exact Yaa
  ·have cc := cCodeI ha hz (z := 5) (.inr (.inl ⟨h1, h2, rfl⟩))
   rw [pcV_5 h1 h2]
   refine call_of (fn := Try.f34) (code := bodyOf Try.f34) Try.func34 rfl (by kernel_rfl) (rfl) ?_
   intro sl hs
   have s0 : sl 0 = .agg [c] := hs 0
   have s1 : sl 1 = la := hs 1
   dsimp only [Try.f34, bodyOf, Option.getD]
   refine Yac ?_
   refine CLL_pure _ cc PUt rfl rfl ?_
   refine Yae ?_
   exact Yaa
 ·have cc := cCodeI ha hz (z := 1) (.inr (.inr ⟨h1, rfl⟩))
  rw [pcV_1 h1]
  refine call_of (fn := Try.f34) (code := bodyOf Try.f34) Try.func34 rfl (by kernel_rfl) (rfl) ?_
  intro sl hs
  have s0 : sl 0 = .agg [c] := hs 0
  have s1 : sl 1 = la := hs 1
  dsimp only [Try.f34, bodyOf, Option.getD]
  refine Yac ?_
  refine CLL_pure _ cc PUt rfl rfl ?_
  refine Yae ?_
  exact Yaa
theorem cPcS (ha : isLLL c T) (hl : isL la L) (lL : L.length ≤ maxN) : CallOK Try.prog 38 [.agg [c], la] (i64 (pcV T L)) := by
 have lL' : L.length ≤ 4294967296 := lL
 by_cases h1 : RingP T
 ·have h16 := h1.1.2.1
  by_cases h2 : CmP T
  ·have cc := cCodeS ha (z := 0) (.inl ⟨h1, h2, rfl⟩)
   by_cases l0 : (L.length : Int) = 0
   ·rw [pcV_2 h1 h2 (fun h => by have := h.1; omega)]
    refine call_of (fn := Try.f38) (code := bodyOf Try.f38) Try.func38 rfl (by kernel_rfl) (rfl) ?_
    intro sl hs
    have s0 : sl 0 = .agg [c] := hs 0
    have s1 : sl 1 = la := hs 1
    dsimp only [Try.f38, bodyOf, Option.getD]
    refine Yac ?_
    refine CLL_pure _ cc PUt rfl rfl ?_
    refine Yeb ?_
    exact Yaa
   ·by_cases h3 : labP T.length L ∧ L.length ≤ 8
    ·rw [pcV_0 h1 h2 ⟨by omega, h3.2, h3.1⟩]
     refine call_of (fn := Try.f38) (code := bodyOf Try.f38) Try.func38 rfl (by kernel_rfl) (rfl) ?_
     intro sl hs
     have s0 : sl 0 = .agg [c] := hs 0
     have s1 : sl 1 = la := hs 1
     dsimp only [Try.f38, bodyOf, Option.getD]
     refine Yac ?_
     refine CLL_pure _ cc PUt rfl rfl ?_
     refine Ydo ?_
     refine CLL_pure _ (cLabS (n := T.length) (by omega) hl lL (t := true) ⟨fun _ => h3, fun _ => rfl⟩) PUt rfl rfl ?_
     refine Ybp ?_
     exact Yaa
    ·rw [pcV_2 h1 h2 (fun h => h3 ⟨h.2.2, h.2.1⟩)]
     refine call_of (fn := Try.f38) (code := bodyOf Try.f38) Try.func38 rfl (by kernel_rfl) (rfl) ?_
     intro sl hs
     have s0 : sl 0 = .agg [c] := hs 0
     have s1 : sl 1 = la := hs 1
     dsimp only [Try.f38, bodyOf, Option.getD]
     refine Yac ?_
     refine CLL_pure _ cc PUt rfl rfl ?_
     refine Ydo ?_
     refine CLL_pure _ (cLabS (n := T.length) (by omega) hl lL (t := false) ⟨fun h => (nomatch h), fun h => absurd h h3⟩) PUt rfl rfl ?_
     refine Ybp ?_
     exact Yaa
  ·have cc := cCodeS ha (z := 5) (.inr (.inl ⟨h1, h2, rfl⟩))
   rw [pcV_5 h1 h2]
   refine call_of (fn := Try.f38) (code := bodyOf Try.f38) Try.func38 rfl (by kernel_rfl) (rfl) ?_
   intro sl hs
   have s0 : sl 0 = .agg [c] := hs 0
   have s1 : sl 1 = la := hs 1
   dsimp only [Try.f38, bodyOf, Option.getD]
   refine Yac ?_
   refine CLL_pure _ cc PUt rfl rfl ?_
   refine Ybn ?_
   exact Yaa
 ·have cc := cCodeS ha (z := 1) (.inr (.inr ⟨h1, rfl⟩))
  rw [pcV_1 h1]
  refine call_of (fn := Try.f38) (code := bodyOf Try.f38) Try.func38 rfl (by kernel_rfl) (rfl) ?_
  intro sl hs
  have s0 : sl 0 = .agg [c] := hs 0
  have s1 : sl 1 = la := hs 1
  dsimp only [Try.f38, bodyOf, Option.getD]
  refine Yac ?_
  refine CLL_pure _ cc PUt rfl rfl ?_
  refine Ybn ?_
  exact Yaa
end
def gro (T : List (List (List Int))) : List Int → Nat → List (List Int)
 | [], _ => [[]]
 | l :: ls, b => (List.range T.length).flatMap fun c => if at3 T b l.toNat c ≠ 0 ∧ enR T ls c = true then (gro T ls c).map fun p => (c : Int) :: p else []
def grP (T : List (List (List Int))) (ls x : List Int) (b : Nat) : List (List Int) := (gro T ls b).map fun p => x ++ p
def grC (T : List (List (List Int))) (l : Int) (ls x : List Int) (b n : Nat) : List (List Int) := (List.range n).flatMap fun c => if at3 T b l.toNat c ≠ 0 ∧ enR T ls c = true then grP T ls (x ++ [(c : Int)]) c else []
theorem grP_nil (T : List (List (List Int))) (x : List Int) (b : Nat) : grP T [] x b = [x] := by
 unfold grP gro
 simp
theorem grP_cons (T : List (List (List Int))) (l : Int) (ls x : List Int) (b : Nat) : grP T (l :: ls) x b = grC T l ls x b T.length := by
 unfold grP grC
 rw [gro, List.map_flatMap]
 refine congrArg (fun f => (List.range T.length).flatMap f) (funext fun c => ?_)
 split
 ·unfold grP
  rw [List.map_map]
  refine List.map_congr_left fun p _ => ?_
  simp
 ·rfl
theorem grC_succ (T : List (List (List Int))) (l : Int) (ls x : List Int) (b n : Nat) : grC T l ls x b (n + 1) = grC T l ls x b n ++ (if at3 T b l.toNat n ≠ 0 ∧ enR T ls n = true then grP T ls (x ++ [(n : Int)]) n else []) := by
 unfold grC
 rw [List.range_succ, List.flatMap_append]
 simp
def tk {α : Type} (X : List α) : List α := X.take 2001
theorem tk_app {α : Type} (X Y : List α) : tk (tk X ++ Y) = tk (X ++ Y) := by
 unfold tk
 rw [List.take_append, List.take_append, List.take_take, Nat.min_self, List.length_take]
 refine congrArg (fun Z => List.take 2001 X ++ Z) ?_
 by_cases h : X.length ≤ 2001
 ·rw [Nat.min_eq_right h]
 ·rw [Nat.min_eq_left (by omega), Nat.sub_self, show 2001 - X.length = 0 by omega]
theorem tk_full {α : Type} {X : List α} (h : (tk X).length = 2001) (Y : List α) : tk (X ++ Y) = tk X := by
 unfold tk at h ⊢
 rw [List.length_take] at h
 rw [List.take_append, show 2001 - X.length = 0 by omega, List.take_zero, List.append_nil]
theorem tk_len {α : Type} (X : List α) : (tk X).length ≤ 2001 := by
 unfold tk
 rw [List.length_take]
 omega
theorem tk_small {α : Type} {X : List α} (h : X.length ≤ 2001) : tk X = X := List.take_of_length_le h
def paths (T : List (List (List Int))) (L : List Int) : List (List Int) := if enI T L 0 (atI L 0).toNat = true then grP T (L.drop 1) [atI L 0] (atI L 0).toNat else []
end Go.Proofs.Ythfgjapmgjhccaa
/- Surfaces: the reference's paths. -/
namespace Go.Proofs.Ythfgjapmgjhccaa
open Go.RowKit
set_option maxRecDepth 1000000
theorem nrf (xs : List Int) : noRefL (xs.map i64) = true := by
 have := noRef_rowL xs
 simpa only [rowL, noRef] using this
def Wgw : List Nat := [4096, 16416, 20528, 28768, 36928, 36960]
abbrev CgW (sx gx gL s g : Nat) : Prop := (s = 20528 ∧ g = gL) ∨ (s = sx ∧ g = gx)
structure GwI (c : AV) (T : List (List (List Int))) (Lb : List Int) (sx gx gL gb gE : Nat) (x : List Int) (Ls : List (List Int)) (ro0 : Ro) (gn0 : Nat → Nat) (t4 : AV) (ro : Ro) (gn : Nat → Nat) : Prop where
 box : ro 4096 gb = some (.bx [c])
 gbl : gb ≤ gn 4096
 ends : ro 20512 gE = some (enA T Lb)
 xx : ro sx gx = some (rowL x)
 lst : ∃ g, t4 = .ref 20528 g [] 0 Ls.length ∧ ro 20528 g = some (rowLL Ls) ∧ (g = gL ∨ gn0 20528 < g) ∧ g ≤ gn 20528
 fr : Frx Wgw (CgW sx gx gL) ro0 gn0 ro gn
def GrwS (c la : AV) (T : List (List (List Int))) (Lb : List Int) (m : Nat) : Prop := ∀ (ro : Ro) (gn : Nat → Nat) (x : List Int) (Ls : List (List Int)) (b sx gx gL gE : Nat), x.length + m = Lb.length → 1 ≤ x.length → atI x (x.length - 1) = (b : Int) → b < T.length → Ls.length ≤ 2000 →
  ro 20512 gE = some (enA T Lb) → ro sx gx = some (rowL x) → ro 20528 gL = some (rowLL Ls) → (sx = 28768 ∨ sx = 36928) → gx ≤ gn sx → gL ≤ gn 20528 →
  InS Try.prog 40 [.agg [c], la, .ref 20512 gE [] 0 Lb.length, .ref sx gx [] 0 x.length, .ref 20528 gL [] 0 Ls.length] ro gn (fun r ro' gn' =>
   Frx Wgw (CgW sx gx gL) ro gn ro' gn' ∧ ∃ g, r = .ref 20528 g [] 0 (tk (Ls ++ grP T (Lb.drop x.length) x b)).length ∧ ro' 20528 g = some (rowLL (tk (Ls ++ grP T (Lb.drop x.length) x b))) ∧ (g = gL ∨ gn 20528 < g) ∧ g ≤ gn' 20528)
theorem grC_le (T : List (List (List Int))) (l : Int) (ls x : List Int) (b : Nat) {i n : Nat} (h : i ≤ n) : ∃ Y, grC T l ls x b n = grC T l ls x b i ++ Y := by
 induction n with
 | zero => exact ⟨[], by rw [show i = 0 by omega, List.append_nil]⟩
 | succ n ih =>
  rcases Nat.lt_or_eq_of_le h with h' | h'
  ·obtain ⟨Y, hY⟩ := ih (by omega)
   exact ⟨Y ++ _, by rw [grC_succ, hY, List.append_assoc]⟩
  ·exact ⟨[], by rw [h', List.append_nil]⟩
section
variable {T : List (List (List Int))} {c la : AV} {Lb : List Int}
set_option maxHeartbeats 4000000 in
theorem grwBase (ha : isLLL c T) (hl : isL la Lb) (l8 : Lb.length ≤ 8) : GrwS c la T Lb 0 := by
 intro ro0 gn0 x Ls b sx gx gL gE hm h1x hb hbn h20 rE rx rL hsx gx1 gL1
 have hxl : x.length = Lb.length := by omega
 have hxl' : (x.length : Int) = Lb.length := by omega
 rw [List.drop_of_length_le (by omega), grP_nil, tk_small (by rw [List.length_append]; show Ls.length + 1 ≤ 2001; omega)]
 refine in_ofS (fn := Try.f40) (code := bodyOf Try.f40) Try.func40 rfl (by kernel_rfl) ?_
 intro sl hs
 have s0 : sl 0 = .agg [c] := hs 0
 have s1 : sl 1 = la := hs 1
 have s2 : sl 2 = .ref 20512 gE [] 0 Lb.length := hs 2
 have s3 : sl 3 = .ref sx gx [] 0 x.length := hs 3
 have s4 : sl 4 = .ref 20528 gL [] 0 Ls.length := hs 4
 have qx : ∀ S, S ≠ 28768 → S ≠ 36928 → (sx = S) = False := fun S h1 h2 => eq_false fun e => by omega
 have qx' : ∀ S, S ≠ 28768 → S ≠ 36928 → (S = sx) = False := fun S h1 h2 => eq_false fun e => by omega
 have hL1 : Ls.length + 1 ≤ 4294967296 := by omega
 have hLt : (Ls.map rowL).take Ls.length = Ls.map rowL := List.take_of_length_le (by rw [List.length_map]; exact Nat.le_refl _)
 dsimp only [Try.f40, bodyOf, Option.getD]
 simp (maxSteps := 10000000) (disch := first | assumption | omega) only [go_sem, ↓reduceIte, Nat.reduceEqDiff, reduceCtorEq, Nat.reduceAdd, Nat.reduceMul, Nat.reduceLeDiff, zc, Int.reduceToNat, s0, s1, s2, s3, s4, ti33, ti31, isL_len hl, qx, qx', rx, rL, eq_true hxl', List.length_map, hL1, hLt]
 refine RETS_1 (.ref 20528 (gn0 20528 + 1) [] 0 (Ls.length + 1)) Ur ⟨?_, gn0 20528 + 1, by rw [List.length_append]; rfl, ?_, .inr (Nat.lt_succ_self _), Ur⟩
 ·have hW : sx ∈ Wgw := by rcases hsx with rfl | rfl <;> decide
  repeat' first | exact Frx.refl _ _ _ _ | refine Frx.al ?_ _ _ _ (by decide) rfl | refine Frx.wr ?_ sx gx _ hW (.inr (.inr ⟨rfl, rfl⟩)) | refine Frx.wr ?_ _ _ _ (by decide) (by first | (left; omega) | (right; exact .inl ⟨rfl, rfl⟩))
 ·rw [upr_same]
  show some (AV.row _) = some (AV.row ((Ls ++ [x]).map rowL))
  rw [List.map_append]
  rfl
set_option maxHeartbeats 8000000 in
theorem grwStep (ha : isLLL c T) (hc : CubeP T) (hl : isL la Lb) (hLb : labP T.length Lb) (l8 : Lb.length ≤ 8) {m : Nat} (ih : GrwS c la T Lb m) : GrwS c la T Lb (m + 1) := by
 intro ro0 gn0 x Ls b sx gx gL gE hm h1x hb hbn h20 rE rx rL hsx gx1 gL1
 obtain ⟨h1, h16, h3⟩ := id hc
 have hxl' : ¬ (x.length : Int) = Lb.length := by omega
 have hat : x.length < Lb.length := by omega
 obtain ⟨d0, d1⟩ := hLb x.length hat
 obtain ⟨d, ed⟩ := Int.eq_ofNat_of_zero_le d0
 have hdr : Lb.drop x.length = atI Lb x.length :: Lb.drop (x.length + 1) := by
  unfold atI
  rw [List.drop_eq_getElem_cons hat, List.getD_eq_getElem?_getD, List.getElem?_eq_getElem hat]
  rfl
 rw [hdr, grP_cons]
 have hW : sx ∈ Wgw := by rcases hsx with rfl | rfl <;> decide
 refine in_ofS (fn := Try.f40) (code := bodyOf Try.f40) Try.func40 rfl (by kernel_rfl) ?_
 intro sl hs
 have s0 : sl 0 = .agg [c] := hs 0
 have s1 : sl 1 = la := hs 1
 have s2 : sl 2 = .ref 20512 gE [] 0 Lb.length := hs 2
 have s3 : sl 3 = .ref sx gx [] 0 x.length := hs 3
 have s4 : sl 4 = .ref 20528 gL [] 0 Ls.length := hs 4
 have qx : ∀ S, S ≠ 28768 → S ≠ 36928 → (sx = S) = False := fun S h1 h2 => eq_false fun e => by omega
 have qx' : ∀ S, S ≠ 28768 → S ≠ 36928 → (S = sx) = False := fun S h1 h2 => eq_false fun e => by omega
 dsimp only [Try.f40, bodyOf, Option.getD]
 simp (maxSteps := 10000000) (disch := first | assumption | omega) only [go_sem, ↓reduceIte, Nat.reduceEqDiff, reduceCtorEq, Nat.reduceAdd, Nat.reduceMul, Nat.reduceLeDiff, zc, Int.reduceToNat, s0, s1, s2, s3, s4, ti33, ti31, isL_len hl, qx, rx, eq_false hxl']
 refine WK_for (fun i st => st.sl 1 = la ∧ st.sl 2 = .ref 20512 gE [] 0 Lb.length ∧ st.sl 3 = .ref sx gx [] 0 x.length ∧ st.sl 5 = .ptr 4096 (gn0 4096 + 1) [] 0 ∧ st.sl 11 = i64 (x.length : Nat) ∧ st.sl 12 = i64 (i : Int) ∧ (GwI c T Lb sx gx gL (gn0 4096 + 1) gE x (tk (Ls ++ grC T (atI Lb x.length) (Lb.drop (x.length + 1)) x b i)) ro0 gn0 (st.sl 4) st.ro st.gn)) T.length ?_ ?_ ?_
 ·simp only [↓za, ↓reduceIte, Nat.reduceEqDiff, zb, reduceCtorEq, rws_zero, s0, s1, s2, s3, s4]
  refine ⟨rfl, upr_same _ _ _ _, Ur, by rw [upr_col (by decide)]; exact rE, by rw [upr_col (by omega)]; exact rx, ⟨gL, ?_, ?_, .inl rfl, Ue gL1⟩, (Frx.refl _ _ _ _).al _ _ _ (by decide) rfl⟩
  ·rw [show grC T (atI Lb x.length) (Lb.drop (x.length + 1)) x b 0 = [] from rfl, List.append_nil, tk_small (by omega)]
  ·rw [show grC T (atI Lb x.length) (Lb.drop (x.length + 1)) x b 0 = [] from rfl, List.append_nil, tk_small (by omega), upr_col (by decide)]; exact rL
 ·rintro i sl ro gn hi ⟨s1, s2, s3, s5, s11, s12, G⟩
  dsimp only at s1 s2 s3 s5 s11 s12
  have hi' : (i : Int) < (T.length : Nat) := by omega
  dsimp only at G
  obtain ⟨g3, h3', hL3, hg3, hg3'⟩ := G.lst
  have hbox := G.box
  have hends := G.ends
  have hxx := G.xx
  have hfr := G.fr
  rw [enA] at hends
  have hEg : (rws (enRow T Lb) Lb.length)[x.length]? = some (.row (rws (fun b => bo (enI T Lb x.length b)) T.length)) := rws_get _ _ _ hat
  have hEr := rws_get (fun b => bo (enI T Lb x.length b)) T.length i hi
  have hm' := isLLL_mat ha hbn
  have lm := (h3 b hbn).1
  have hdm : d < (mat T b).length := by omega
  have hr := isLL_row hm' hdm
  have lr := ((h3 b hbn).2 d (by omega)).1
  have hir : i < (row (mat T b) d).length := by omega
  have hxm : (x.map i64)[x.length - 1]? = some (i64 (b : Int)) := by
   rw [List.getElem?_map, List.getElem?_eq_getElem (by omega)]
   rw [← hb]
   unfold atI
   rw [List.getD_eq_getElem?_getD, List.getElem?_eq_getElem (by omega)]
   rfl
  have e39 : ((x.length : Int) - 1) = ((x.length - 1 : Nat) : Int) := by omega
  have hy : x.length - 1 < x.length := by omega
  have hsuc : tk (Ls ++ grC T (atI Lb x.length) (Lb.drop (x.length + 1)) x b (i + 1)) = tk (tk (Ls ++ grC T (atI Lb x.length) (Lb.drop (x.length + 1)) x b i) ++ (if at3 T b (atI Lb x.length).toNat i ≠ 0 ∧ enR T (Lb.drop (x.length + 1)) i = true then grP T (Lb.drop (x.length + 1)) (x ++ [(i : Int)]) i else [])) := by
   rw [tk_app, grC_succ, List.append_assoc]
  have hPl := tk_len (Ls ++ grC T (atI Lb x.length) (Lb.drop (x.length + 1)) x b i)
  have hful : (tk (Ls ++ grC T (atI Lb x.length) (Lb.drop (x.length + 1)) x b i)).length = 2001 → tk (Ls ++ grC T (atI Lb x.length) (Lb.drop (x.length + 1)) x b T.length) = tk (Ls ++ grC T (atI Lb x.length) (Lb.drop (x.length + 1)) x b i) := fun h => by
   obtain ⟨Y, hY⟩ := grC_le T (atI Lb x.length) (Lb.drop (x.length + 1)) x b (Nat.le_of_lt hi)
   rw [hY, ← List.append_assoc]
   exact tk_full h Y
  rw [hsuc]
  clear hsuc
  rw [ed] at hful ⊢
  rw [ed] at G hL3 h3' hPl
  generalize tk (Ls ++ grC T (d : Int) (Lb.drop (x.length + 1)) x b i) = Pi at G hL3 h3' hPl hful ⊢
  have eat : at3 T b ((d : Nat) : Int).toNat i = atI (row (mat T b) d) i := rfl
  by_cases hp : (Pi.length : Int) ≤ 2000
  ·by_cases hz : atI (row (mat T b) d) i = 0
   ·rw [if_neg (fun h => h.1 (by rw [eat]; exact hz)), List.append_nil, tk_small hPl]
    simp (maxSteps := 10000000) (disch := first | assumption | omega) only [go_sem, ↓reduceIte, Nat.reduceEqDiff, reduceCtorEq, Nat.reduceAdd, Nat.reduceMul, Nat.reduceLeDiff, zc, Int.reduceToNat, s1, s2, s3, s5, s11, s12, hi', hi, ti33, ti31, tB1, tB2, isLLL_len ha, h3', hbox, hL3, eq_true hp, hxx, hxm, hy, e39, isL_idx hl hat, ed, isL_idx hr hir, eq_true hz, undef]
    refine FIN_of (by rcases hsx with e | e <;> rw [e] <;> kernel_rfl) ?_
    refine Ybf ?_
    exact ⟨i64c (by omega), h3' ▸ G⟩
   ·cases hen : enI T Lb x.length i with
    | false =>
     rw [if_neg (fun h => by have := h.2; rw [show enR T (Lb.drop (x.length + 1)) i = enI T Lb x.length i from rfl, hen] at this; cases this), List.append_nil, tk_small hPl]
     refine Ybw ?_
     refine FIN_of (by rcases hsx with e | e <;> rw [e] <;> kernel_rfl) ?_
     refine Ybf ?_
     exact ⟨i64c (by omega), h3' ▸ G⟩
    | true =>
     rw [if_pos ⟨fun h => hz h, hen⟩]
     refine Ybw ?_
     refine FIN_of (by rcases hsx with e | e <;> rw [e] <;> kernel_rfl) ?_
     simp (maxSteps := 10000000) (disch := first | assumption | omega) only [go_sem, ↓reduceIte, Nat.reduceEqDiff, reduceCtorEq, Nat.reduceAdd, Nat.reduceMul, Nat.reduceLeDiff, zc, Int.reduceToNat, s1, s2, s3, s5, s11, s12, hi', hi, h3', hbox]
     refine CLLD_q _ (cOwn (isL_imm x) (by unfold maxN; omega)) (.cons (exq_refL hxx rfl (by decide)) .nil) rfl (noI_rowL _) ?_
     have hsh : shO (blkO (ro sx gx)) = true := by rw [hxx]; exact nrf x
     have hx2 : x.length + 1 ≤ 4294967296 := by omega
     have hxt : (x.map i64).take x.length = x.map i64 := List.take_of_length_le (by rw [List.length_map]; exact Nat.le_refl _)
     simp (maxSteps := 10000000) (disch := first | assumption | omega) only [go_sem, ↓reduceIte, Nat.reduceEqDiff, reduceCtorEq, Nat.reduceAdd, Nat.reduceMul, Nat.reduceLeDiff, zc, Int.reduceToNat, s1, s2, s3, s5, s11, s12, hi', hi, impE_row, rowL, List.length_map, hxt, hx2, hsh, h3', hbox]
     have hzl : (x ++ [(i : Int)]).length = x.length + 1 := by rw [List.length_append]; rfl
     have hal : atI (x ++ [(i : Int)]) (x.length + 1 - 1) = (i : Int) := by
      unfold atI
      rw [Nat.add_sub_cancel, List.getD_eq_getElem?_getD, List.getElem?_append_right (Nat.le_refl _), Nat.sub_self]
      rfl
     generalize hNx : grP T (Lb.drop (x.length + 1)) (x ++ [(i : Int)]) i = Nx
     refine CLLD_inS [⟨some [4096], []⟩, e0, e0, e0, ⟨some [sx], [36928]⟩, e0, ⟨some [], [36960]⟩, ⟨some [36928, 36960], [36928, 36928]⟩, e0, ⟨some [20512], Wgw⟩, e0] (inX_frx (W := Wgw) (C := CgW 36928 (gn 36928 + 1 + 1) g3) (R := [20512]) (Res := fun gn1 r ro' gn' => ∃ g, r = .ref 20528 g [] 0 (tk (Pi ++ Nx)).length ∧ ro' 20528 g = some (rowLL (tk (Pi ++ Nx))) ∧ (g = g3 ∨ gn1 20528 < g) ∧ g ≤ gn' 20528) (fun ro1 gn1 q1 q2 => ?_) (fun gnx r ro' gn' ro2 gn1 gn2 hh hr => ?_) (by kernel_rfl) (aftB_ok (by kernel_rfl))) rfl ?_ rfl (by rcases hsx with e | e <;> rw [e] <;> kernel_rfl) rfl
     ·have I := ih ro1 gn1 (x ++ [(i : Int)]) Pi i 36928 (gn 36928 + 1 + 1) g3 gE (by omega) (by omega) (by rw [hzl]; exact hal) hi (by omega) (by rw [q1 20512 (.inl (by decide))]; simp only [↓za, ↓reduceIte, Nat.reduceEqDiff, zb, reduceCtorEq]; exact G.ends) (by rw [q1 36928 (.inr (by decide))]; simp only [↓za, ↓reduceIte, Nat.reduceEqDiff, zb, reduceCtorEq]; exact congrArg some (by show AV.row _ = AV.row _; rw [List.map_append]; rfl)) (by rw [q1 20528 (.inr (by decide))]; simp only [↓za, ↓reduceIte, Nat.reduceEqDiff, zb, reduceCtorEq]; exact hL3) (.inr rfl) (by rw [q2 36928 (by decide)]; simp only [↓za, ↓reduceIte, Nat.reduceEqDiff, zb, reduceCtorEq]; exact Nat.le_refl _) (by rw [q2 20528 (by decide)]; simp only [↓za, ↓reduceIte, Nat.reduceEqDiff, zb, reduceCtorEq]; exact hg3')
      rw [hzl, hNx] at I
      exact I
     ·obtain ⟨g, k1, k2, k3, k4⟩ := hr
      obtain ⟨p1, p2, p3⟩ := hh 20528 (by decide)
      exact ⟨g, k1, by rw [p1]; exact k2, by rw [p2]; exact k3, by rw [p3]; exact k4⟩
     rintro _ ro' gn' ⟨fr', g, rfl, k2, k3, k4⟩
     refine Ybf ?_
     refine FING_of rfl ?_
     refine Ybf ?_
     have hF : Frx Wgw (CgW 36928 (gn 36928 + 1 + 1) g3) ro gn ro' gn' := (show Frx Wgw (CgW 36928 (gn 36928 + 1 + 1) g3) ro gn _ _ from KFt).trans fr' (fun _ _ h => .inr h)
     simp only [↓za, ↓reduceIte, Nat.reduceEqDiff, zb, reduceCtorEq] at k3
     have u1 := hfr.up 36928
     have u2 := hfr.up 20528
     have u3 := hfr.up sx
     refine ⟨i64c (by omega), (hF.kp _ _ G.gbl (by rintro (e | e) <;> omega)).trans hbox, Nat.le_trans G.gbl (hF.up 4096), by rw [(hF.off 20512 (by decide)).1]; exact G.ends, (hF.kp sx gx (by omega) (by
      rintro (e | ⟨e1, e2⟩)
      ·omega
      ·subst e1; omega)).trans hxx, ⟨g, rfl, k2, by omega, k4⟩, hfr.trans hF ?_⟩
     rintro p y (⟨rfl, rfl⟩ | ⟨rfl, rfl⟩)
     ·rcases hg3 with e | e
      ·exact .inr (.inl ⟨rfl, e⟩)
      ·exact .inl e
     ·exact .inl (by omega)
  ·rw [hful (by omega)]
   simp (maxSteps := 10000000) (disch := first | assumption | omega) only [go_sem, ↓reduceIte, Nat.reduceEqDiff, reduceCtorEq, Nat.reduceAdd, Nat.reduceMul, Nat.reduceLeDiff, zc, Int.reduceToNat, s1, s2, s3, s5, s11, s12, hi', hi, ti33, ti31, isLLL_len ha, h3', hbox, hL3, eq_false hp]
   exact RETS_1 (.ref 20528 g3 [] 0 Pi.length) Ur ⟨hfr, g3, rfl, hL3, hg3, hg3'⟩
 ·rintro sl ro gn ⟨s1, s2, s3, s5, s11, s12, G⟩
  dsimp only at s1 s2 s3 s5 s11 s12
  have hi' : ¬ ((T.length : Nat) : Int) < (T.length : Nat) := by omega
  dsimp only at G
  obtain ⟨g3, h3', hL3, hg3, hg3'⟩ := G.lst
  have hbox := G.box
  have hfr := G.fr
  rw [ed] at hL3 h3' ⊢
  generalize tk (Ls ++ grC T (d : Int) (Lb.drop (x.length + 1)) x b T.length) = Pi at hL3 h3' ⊢
  simp (maxSteps := 10000000) (disch := first | assumption | omega) only [go_sem, ↓reduceIte, Nat.reduceEqDiff, reduceCtorEq, Nat.reduceAdd, Nat.reduceMul, Nat.reduceLeDiff, zc, Int.reduceToNat, s1, s2, s3, s5, s11, s12, hi', ti33, ti31, isLLL_len ha, h3', hbox, hL3, undef]
  exact RETS_1 (.ref 20528 g3 [] 0 Pi.length) Ur ⟨hfr, g3, rfl, hL3, hg3, hg3'⟩
theorem inGrw (ha : isLLL c T) (hc : CubeP T) (hl : isL la Lb) (hLb : labP T.length Lb) (l8 : Lb.length ≤ 8) : ∀ m, GrwS c la T Lb m
 | 0 => grwBase ha hl l8
 | m + 1 => grwStep ha hc hl hLb l8 (inGrw ha hc hl hLb l8 m)
end
open Classical in
noncomputable def pthA (T : List (List (List Int))) (L : List Int) : AV := if pcV T L = 0 then (if (paths T L).length ≤ 2000 then .tup [rowLL (paths T L), i64 0] else .tup [nilA, i64 3]) else .tup [nilA, i64 (pcV T L)]
section
variable {T : List (List (List Int))} {c la : AV} {L : List Int}
theorem pthA_0 (h : pcV T L = 0) (h2 : (paths T L).length ≤ 2000) : pthA T L = .tup [rowLL (paths T L), i64 0] := by unfold pthA; rw [if_pos h, if_pos h2]
theorem pthA_3 (h : pcV T L = 0) (h2 : ¬ (paths T L).length ≤ 2000) : pthA T L = .tup [nilA, i64 3] := by unfold pthA; rw [if_pos h, if_neg h2]
theorem pthA_x (h : pcV T L ≠ 0) : pthA T L = .tup [nilA, i64 (pcV T L)] := by unfold pthA; rw [if_neg h]
theorem noRef_pthA : noRef (pthA T L) = true := by
 by_cases h : pcV T L = 0
 ·by_cases h2 : (paths T L).length ≤ 2000
  ·rw [pthA_0 h h2]
   have h := noRef_rowLL (paths T L)
   show (noRef (rowLL (paths T L)) && (noRef (i64 0) && true)) = true
   rw [h]; rfl
  ·rw [pthA_3 h h2]; rfl
 ·rw [pthA_x h]; rfl
theorem tk_gt {α : Type} {X : List α} (h : ¬ X.length ≤ 2000) : (2000 : Int) < (tk X).length := by
 unfold tk
 rw [List.length_take]
 omega
set_option maxHeartbeats 8000000 in
theorem cFpS (ha : isLLL c T) (hl : isL la L) (lL : L.length ≤ maxN) : CallOK Try.prog 11 [.agg [c], la] (pthA T L) := by
 have cc := cPcS ha hl lL
 by_cases hp : pcV T L = 0
 ·obtain ⟨hR, hC, l1, l8, hL⟩ := pcV_iff.1 hp
  obtain ⟨d0, d1⟩ := hL 0 (by omega)
  obtain ⟨b, eb⟩ := Int.eq_ofNat_of_zero_le d0
  have hbn : b < T.length := by omega
  have h0 : 0 < L.length := by omega
  have ce := cEndS ha hR.1 hl hL l1 l8
  rw [hp] at cc
  have hen0 : paths T L = if enI T L 0 b = true then grP T (L.drop 1) [(b : Int)] b else [] := by unfold paths; rw [eb, Int.toNat_natCast]
  have hEg : (rws (enRow T L) L.length)[0]? = some (.row (rws (fun b => bo (enI T L 0 b)) T.length)) := rws_get _ _ _ h0
  have hEr := rws_get (fun b => bo (enI T L 0 b)) T.length b hbn
  have hk0 : ∀ (t : Option TI) (ro : Ro) (g : Nat), kIdx t ro (.ref 20512 g [] 0 L.length) (.sc (.int .i64 0)) = kIdx t ro (.ref 20512 g [] 0 L.length) (i64 ((0 : Nat) : Int)) := fun _ _ _ => rfl
  refine call_of (fn := Try.f11) (code := bodyOf Try.f11) Try.func11 rfl (by kernel_rfl) (noRef_pthA) ?_
  intro sl hs
  have s0 : sl 0 = .agg [c] := hs 0
  have s1 : sl 1 = la := hs 1
  cases hen : enI T L 0 b with
  | false =>
   rw [hen, if_neg (by decide)] at hen0
   rw [pthA_0 hp (by rw [hen0]; exact Nat.zero_le _), hen0]
   rw [enA] at ce
   dsimp only [Try.f11, bodyOf, Option.getD]
   refine Yac ?_
   refine CLL_pure _ cc PUt rfl rfl ?_
   refine Yac ?_
   refine CLL_pure _ ce PUt rfl rfl ?_
   refine Ybt ?_
   refine FIN_of (by kernel_rfl) ?_
   refine Yae ?_
   refine Yab ?_
   rfl
  | true =>
   rw [hen, if_pos rfl] at hen0
   rw [enA] at ce
   dsimp only [Try.f11, bodyOf, Option.getD]
   refine Yac ?_
   refine CLL_pure _ cc PUt rfl rfl ?_
   refine Yac ?_
   refine CLL_pure _ ce PUt rfl rfl ?_
   refine Ybt ?_
   refine FIN_of (by kernel_rfl) ?_
   refine Ybt ?_
   generalize hNx : grP T (L.drop 1) [(b : Int)] b = Nx at hen0
   refine CLLD_inS [⟨some [4096], []⟩, e0, e0, e0, e0, e0, ⟨some [], [28768]⟩, e0, ⟨some [20512], Wgw⟩, e0] (inX_frx (W := Wgw) (C := CgW 28768 1 1) (R := [20512]) (Res := fun gn1 r ro' gn' => ∃ g, r = .ref 20528 g [] 0 (tk Nx).length ∧ ro' 20528 g = some (rowLL (tk Nx)) ∧ g ≤ gn' 20528) (fun ro1 gn1 q1 q2 => ?_) (fun gnx r ro' gn' ro2 gn1 gn2 hh hr => ?_) (by kernel_rfl) (aftB_ok (by kernel_rfl))) rfl ?_ rfl (by kernel_rfl) rfl
   ·have I := inGrw ha hR.1 hl hL l8 (L.length - 1) ro1 gn1 [(b : Int)] [] b 28768 1 1 1 (by show 1 + (L.length - 1) = L.length; omega) (Nat.le_refl _) rfl hbn (by decide) (by rw [q1 20512 (.inl (by decide))]; simp only [↓za, ↓reduceIte, Nat.reduceEqDiff, zb, reduceCtorEq]; rfl) (by rw [q1 28768 (.inr (by decide))]; simp only [↓za, ↓reduceIte, Nat.reduceEqDiff, zb, reduceCtorEq]; rfl) (by rw [q1 20528 (.inr (by decide))]; simp only [↓za, ↓reduceIte, Nat.reduceEqDiff, zb, reduceCtorEq]; rfl) (.inl rfl) (by rw [q2 28768 (by decide)]; simp only [↓za, ↓reduceIte, Nat.reduceEqDiff, zb, reduceCtorEq]; exact Nat.le_refl _) (by rw [q2 20528 (by decide)]; simp only [↓za, ↓reduceIte, Nat.reduceEqDiff, zb, reduceCtorEq]; exact Nat.le_refl _)
    rw [show ([(b : Int)] : List Int).length = 1 from rfl, hNx, List.nil_append] at I
    refine I.mono ?_
    rintro r ro' gn' ⟨k0, g, k1, k2, k3, k4⟩
    exact ⟨k0, g, k1, k2, k4⟩
   ·obtain ⟨g, k1, k2, k4⟩ := hr
    obtain ⟨p1, p2, p3⟩ := hh 20528 (by decide)
    exact ⟨g, k1, by rw [p1]; exact k2, by rw [p3]; exact k4⟩
   rintro _ ro' gn' ⟨fr', g, rfl, k2, k4⟩
   by_cases h20 : Nx.length ≤ 2000
   ·rw [pthA_0 hp (by rw [hen0]; exact h20), hen0]
    rw [tk_small (by omega)] at k2 ⊢
    have hgt : ¬ (2000 : Int) < Nx.length := by omega
    have hTk : (Nx.map rowL).take Nx.length = Nx.map rowL := List.take_of_length_le (by rw [List.length_map]; exact Nat.le_refl _)
    refine Yae ?_
    refine FING_of rfl ?_
    simp (maxSteps := 10000000) (disch := first | assumption | omega) only [go_sem, ↓reduceIte, Nat.reduceEqDiff, reduceCtorEq, Nat.reduceAdd, Nat.reduceMul, Nat.reduceLeDiff, zc, Int.reduceToNat, s0, s1, k2, eq_false hgt]
    simp only [zr, zb, retR, resL, outT, outL, zes, zez, oneV, zcp, zed, zfi, Ro.dl, St.ev, zhk, ↓za, ↓reduceIte, Nat.reduceEqDiff, Nat.reduceAdd, Nat.reduceLeDiff, k2, rowLL, hTk]
   ·rw [pthA_3 hp (by rw [hen0]; exact h20)]
    have hgt := tk_gt h20
    refine Yae ?_
    refine FING_of rfl ?_
    simp (maxSteps := 10000000) (disch := first | assumption | omega) only [go_sem, ↓reduceIte, Nat.reduceEqDiff, reduceCtorEq, Nat.reduceAdd, Nat.reduceMul, Nat.reduceLeDiff, zc, Int.reduceToNat, s0, s1, k2, eq_true hgt]
    exact Yaa
 ·rw [pthA_x hp]
  have hp' : ¬ pcV T L = 0 := hp
  refine call_of (fn := Try.f11) (code := bodyOf Try.f11) Try.func11 rfl (by kernel_rfl) (rfl) ?_
  intro sl hs
  have s0 : sl 0 = .agg [c] := hs 0
  have s1 : sl 1 = la := hs 1
  dsimp only [Try.f11, bodyOf, Option.getD]
  refine Yac ?_
  refine CLL_pure _ cc PUt rfl rfl ?_
  simp (maxSteps := 10000000) (disch := first | assumption | omega) only [go_sem, ↓reduceIte, Nat.reduceEqDiff, reduceCtorEq, Nat.reduceAdd, Nat.reduceMul, Nat.reduceLeDiff, zc, Int.reduceToNat, s0, s1, eq_false hp']
  exact Yaa
end
end Go.Proofs.Ythfgjapmgjhccaa
/- Surfaces: the program's paths. -/
namespace Go.Proofs.Ythfgjapmgjhccaa
open Go.RowKit
set_option maxRecDepth 1000000
def W35 : List Nat := [16416, 16432, 36896, 20640, 20624, 20592, 20528]
abbrev capsP (pv ev ov lv rv fv : Nat) : List AV := [.ptr 20640 pv [] 0, .ptr 20608 ev [] 0, .ptr 20624 ov [] 0, .ptr 4112 lv [] 0, .ptr 4096 rv [] 0, .ptr 24576 fv [] 0]
structure EnvP (c la : AV) (T : List (List (List Int))) (Lb : List Int) (pv ev ov lv rv fv gE : Nat) (ro : Ro) : Prop where
 e : ro 20608 ev = some (.bx [.ref 20512 gE [] 0 Lb.length])
 es : ro 20512 gE = some (enA T Lb)
 l : ro 4112 lv = some (.bx [la])
 r : ro 4096 rv = some (.bx [c])
 f : ro 24576 fv = some (.bx [.fn 36 (capsP pv ev ov lv rv fv)])
def OffP (ro : Ro) (gn : Nat → Nat) (ro' : Ro) (gn' : Nat → Nat) : Prop := ∀ s, s ∉ W35 → ro' s = ro s ∧ gn' s = gn s
theorem OffP.refl (ro : Ro) (gn : Nat → Nat) : OffP ro gn ro gn := fun _ _ => ⟨rfl, rfl⟩
theorem OffP.trans {ro ro' ro'' : Ro} {gn gn' gn'' : Nat → Nat} (h : OffP ro gn ro' gn') (h' : OffP ro' gn' ro'' gn'') : OffP ro gn ro'' gn'' := fun s hs => ⟨(h' s hs).1.trans (h s hs).1, (h' s hs).2.trans (h s hs).2⟩
theorem OffP.wr {ro ro' : Ro} {gn gn' : Nat → Nat} (h : OffP ro gn ro' gn') (s g : Nat) (v : AV) (hW : s ∈ W35) : OffP ro gn (upr ro' s g v) gn' := fun z hz => ⟨(upr_col (fun e => hz (by rw [e]; exact hW))).trans (h z hz).1, (h z hz).2⟩
theorem OffP.al {ro ro' : Ro} {gn gn' : Nat → Nat} (h : OffP ro gn ro' gn') (s g : Nat) (hW : s ∈ W35) : OffP ro gn ro' (upg gn' s g) := fun z hz => ⟨(h z hz).1, by rw [zda, if_neg (fun e : z = s => hz (by rw [e]; exact hW))]; exact (h z hz).2⟩
theorem EnvP.keep {c la : AV} {T : List (List (List Int))} {Lb : List Int} {pv ev ov lv rv fv gE : Nat} {ro ro' : Ro} {gn gn' : Nat → Nat} (h : EnvP c la T Lb pv ev ov lv rv fv gE ro) (o : OffP ro gn ro' gn') : EnvP c la T Lb pv ev ov lv rv fv gE ro' :=
 ⟨by rw [(o 20608 (by decide)).1]; exact h.e, by rw [(o 20512 (by decide)).1]; exact h.es, by rw [(o 4112 (by decide)).1]; exact h.l, by rw [(o 4096 (by decide)).1]; exact h.r, by rw [(o 24576 (by decide)).1]; exact h.f⟩
def PthI (pv ov : Nat) (x : List Int) (Ls : List (List Int)) (ro : Ro) (gn : Nat → Nat) : Prop :=
 (∃ (gP : Nat) (y : List Int), ro 20640 pv = some (.bx [.ref 20592 gP [] 0 x.length]) ∧ ro 20592 gP = some (rowL y) ∧ y.take x.length = x ∧ gP ≤ gn 20592) ∧
 ∃ gO : Nat, ro 20624 ov = some (.bx [.ref 20528 gO [] 0 Ls.length]) ∧ ro 20528 gO = some (rowLL Ls) ∧ gO ≤ gn 20528
def grE (T : List (List (List Int))) (Lb x : List Int) (b : Nat) : List (List Int) := if enI T Lb (x.length - 1) b = true then grP T (Lb.drop x.length) x b else []
def ExtS (c la : AV) (T : List (List (List Int))) (Lb : List Int) (pv ev ov lv rv fv gE : Nat) (d : Nat) : Prop := ∀ (ro : Ro) (gn : Nat → Nat) (x : List Int) (Ls : List (List Int)) (b : Nat), x.length + d = Lb.length → 1 ≤ x.length → atI x (x.length - 1) = (b : Int) → b < T.length → Ls.length ≤ 2001 →
 EnvP c la T Lb pv ev ov lv rv fv gE ro → PthI pv ov x Ls ro gn →
 InS Try.prog 36 (capsP pv ev ov lv rv fv) ro gn (fun r ro' gn' => r = .tup [] ∧ OffP ro gn ro' gn' ∧ PthI pv ov x (tk (Ls ++ grE T Lb x b)) ro' gn')
section
variable {T : List (List (List Int))} {c la : AV} {Lb : List Int} {pv ev ov lv rv fv gE : Nat}
theorem tkAt {x y : List Int} {b : Nat} (hy : y.take x.length = x) (h1 : 1 ≤ x.length) (hb : atI x (x.length - 1) = (b : Int)) : (y.map i64)[x.length - 1]? = some (i64 (b : Int)) := by
 have h : x[x.length - 1]? = some (b : Int) := by
  rw [List.getElem?_eq_getElem (by omega), ← hb]
  unfold atI
  rw [List.getD_eq_getElem?_getD, List.getElem?_eq_getElem (by omega)]
  rfl
 have h2 : (y.take x.length)[x.length - 1]? = some (b : Int) := by rw [hy]; exact h
 rw [List.getElem?_take, if_pos (by omega)] at h2
 rw [List.getElem?_map, h2]
 rfl
set_option maxHeartbeats 8000000 in
theorem extBase (hc : CubeP T) (hl : isL la Lb) (l8 : Lb.length ≤ 8) : ExtS c la T Lb pv ev ov lv rv fv gE 0 := by
 intro ro gn x Ls b hm h1x hb hbn h20 hE hP
 obtain ⟨⟨gP, y, eP, eY, hy, lP⟩, gO, eO, eL, lO⟩ := id hP
 obtain ⟨h1, h16, h3⟩ := id hc
 have hat : x.length - 1 < Lb.length := by omega
 have hxm := tkAt hy h1x hb
 have e39 : ((x.length : Int) - 1) = ((x.length - 1 : Nat) : Int) := by omega
 have hy1 : x.length - 1 < x.length := by omega
 have hylen : x.length ≤ y.length := by
  have := congrArg List.length hy
  rw [List.length_take] at this
  omega
 have hEe := hE.e
 have hEs := hE.es
 rw [enA] at hEs
 have hEl := hE.l
 have hEr := hE.r
 have hEg : (rws (enRow T Lb) Lb.length)[x.length - 1]? = some (.row (rws (fun b => bo (enI T Lb (x.length - 1) b)) T.length)) := rws_get _ _ _ hat
 have hEb := rws_get (fun b => bo (enI T Lb (x.length - 1) b)) T.length b hbn
 have lmY : (y.map i64).length = y.length := List.length_map _
 have lmL : (Ls.map rowL).length = Ls.length := List.length_map _
 have hxl : (x.length : Int) = Lb.length := by omega
 refine in_ofS (fn := Try.f36) (code := bodyOf Try.f36) Try.func36 rfl (by kernel_rfl) ?_
 intro sl hs
 have s0 : sl 0 = .ptr 20640 pv [] 0 := hs 0
 have s1 : sl 1 = .ptr 20608 ev [] 0 := hs 1
 have s2 : sl 2 = .ptr 20624 ov [] 0 := hs 2
 have s3 : sl 3 = .ptr 4112 lv [] 0 := hs 3
 have s4 : sl 4 = .ptr 4096 rv [] 0 := hs 4
 have s5 : sl 5 = .ptr 24576 fv [] 0 := hs 5
 cases hen : enI T Lb (x.length - 1) b with
 | false =>
  rw [show grE T Lb x b = [] from by unfold grE; rw [hen]; rfl, List.append_nil, tk_small h20]
  dsimp only [Try.f36, bodyOf, Option.getD]
  refine Ycz ?_
  refine FIN_of (by kernel_rfl) ?_
  refine Yau ?_
  exact RETS_0 (.inr rfl) ⟨rfl, OffP.refl _ _, hP⟩
 | true =>
  by_cases hp : (2000 : Int) < Ls.length
  ·rw [show tk (Ls ++ grE T Lb x b) = Ls from by rw [tk_full (by rw [tk_small h20]; omega), tk_small h20]]
   dsimp only [Try.f36, bodyOf, Option.getD]
   refine Ycs ?_
   refine FIN_of (by kernel_rfl) ?_
   refine Yau ?_
   exact RETS_0 (.inr rfl) ⟨rfl, OffP.refl _ _, hP⟩
  ·rw [show grE T Lb x b = [x] from by unfold grE; rw [hen, if_pos rfl, List.drop_of_length_le (by omega), grP_nil], tk_small (by rw [List.length_append]; show Ls.length + 1 ≤ 2001; omega)]
   dsimp only [Try.f36, bodyOf, Option.getD]
   refine Ycr ?_
   refine FIN_of (by kernel_rfl) ?_
   simp (maxSteps := 10000000) (disch := first | assumption | omega) only [go_sem, ↓reduceIte, Nat.reduceEqDiff, reduceCtorEq, Nat.reduceAdd, Nat.reduceMul, Nat.reduceLeDiff, zc, Int.reduceToNat, s0, s1, s2, s3, s4, s5, hEl, isL_len hl, eq_true hxl, eP, eO]
   have hL1 : Ls.length + 1 ≤ 4294967296 := by omega
   have hLt : (Ls.map rowL).take Ls.length = Ls.map rowL := List.take_of_length_le (by rw [List.length_map]; exact Nat.le_refl _)
   refine CLLD_q _ (cCloP (isL_imm x) (by unfold maxN; omega) (by omega)) (.cons (exq_refT eY hy hylen (by decide)) .nil) rfl (noI_rowL _) ?_
   have hsh : shO (blkO (ro 20592 gP)) = true := by rw [eY]; exact nrf y
   simp (maxSteps := 10000000) (disch := first | assumption | omega) only [go_sem, ↓reduceIte, Nat.reduceEqDiff, reduceCtorEq, Nat.reduceAdd, Nat.reduceMul, Nat.reduceLeDiff, zc, Int.reduceToNat, s0, s1, s2, s3, s4, s5, impE_row, rowL, rowLL, lmL, hL1, hLt, eO, eL, List.length_map, hsh]
   refine FIN_of (by kernel_rfl) ?_
   refine Yau ?_
   refine RETS_0 (.inr rfl) ⟨rfl, ?_, ⟨gP, y, ?_, ?_, hy, ?_⟩, gn 20528 + 1, ?_, ?_, ?_⟩
   ·repeat' first | exact OffP.refl _ _ | refine OffP.wr ?_ _ _ _ (by decide) | refine OffP.al ?_ _ _ (by decide)
   ·exact Ue eP
   ·exact Ue eY
   ·exact Ue lP
   ·simp only [↓za, ↓reduceIte, Nat.reduceEqDiff, zb, reduceCtorEq]; rw [List.length_append]; rfl
   ·refine Yfh ?_
    show some (AV.row _) = some (AV.row ((Ls ++ [x]).map rowL))
    rw [List.map_append]
    rfl
   ·exact Ur
set_option maxHeartbeats 16000000 in
theorem extStep (ha : isLLL c T) (hc : CubeP T) (hl : isL la Lb) (hLb : labP T.length Lb) (l8 : Lb.length ≤ 8) {m : Nat} (ih : ExtS c la T Lb pv ev ov lv rv fv gE m) : ExtS c la T Lb pv ev ov lv rv fv gE (m + 1) := by
 intro ro gn x Ls b hm h1x hb hbn h20 hE hP
 obtain ⟨⟨gP, y, eP, eY, hy, lP⟩, gO, eO, eL, lO⟩ := id hP
 obtain ⟨h1, h16, h3⟩ := id hc
 have hat : x.length - 1 < Lb.length := by omega
 have hxm := tkAt hy h1x hb
 have e39 : ((x.length : Int) - 1) = ((x.length - 1 : Nat) : Int) := by omega
 have hy1 : x.length - 1 < x.length := by omega
 have hylen : x.length ≤ y.length := by
  have := congrArg List.length hy
  rw [List.length_take] at this
  omega
 have hEe := hE.e
 have hEs := hE.es
 rw [enA] at hEs
 have hEl := hE.l
 have hEr := hE.r
 have hEg : (rws (enRow T Lb) Lb.length)[x.length - 1]? = some (.row (rws (fun b => bo (enI T Lb (x.length - 1) b)) T.length)) := rws_get _ _ _ hat
 have hEb := rws_get (fun b => bo (enI T Lb (x.length - 1) b)) T.length b hbn
 have lmY : (y.map i64).length = y.length := List.length_map _
 have lmL : (Ls.map rowL).length = Ls.length := List.length_map _
 have hxl : ¬ (x.length : Int) = Lb.length := by omega
 have hxK : x.length < Lb.length := by omega
 obtain ⟨d0, d1⟩ := hLb x.length hxK
 obtain ⟨d, ed⟩ := Int.eq_ofNat_of_zero_le d0
 have hdr : Lb.drop x.length = atI Lb x.length :: Lb.drop (x.length + 1) := by
  unfold atI
  rw [List.drop_eq_getElem_cons hxK, List.getD_eq_getElem?_getD, List.getElem?_eq_getElem hxK]
  rfl
 refine in_ofS (fn := Try.f36) (code := bodyOf Try.f36) Try.func36 rfl (by kernel_rfl) ?_
 intro sl hs
 have s0 : sl 0 = .ptr 20640 pv [] 0 := hs 0
 have s1 : sl 1 = .ptr 20608 ev [] 0 := hs 1
 have s2 : sl 2 = .ptr 20624 ov [] 0 := hs 2
 have s3 : sl 3 = .ptr 4112 lv [] 0 := hs 3
 have s4 : sl 4 = .ptr 4096 rv [] 0 := hs 4
 have s5 : sl 5 = .ptr 24576 fv [] 0 := hs 5
 cases hen : enI T Lb (x.length - 1) b with
 | false =>
  rw [show grE T Lb x b = [] from by unfold grE; rw [hen]; rfl, List.append_nil, tk_small h20]
  dsimp only [Try.f36, bodyOf, Option.getD]
  refine Ycz ?_
  refine FIN_of (by kernel_rfl) ?_
  refine Yau ?_
  exact RETS_0 (.inr rfl) ⟨rfl, OffP.refl _ _, hP⟩
 | true =>
  by_cases hp : (2000 : Int) < Ls.length
  ·rw [show tk (Ls ++ grE T Lb x b) = Ls from by rw [tk_full (by rw [tk_small h20]; omega), tk_small h20]]
   dsimp only [Try.f36, bodyOf, Option.getD]
   refine Ycs ?_
   refine FIN_of (by kernel_rfl) ?_
   refine Yau ?_
   exact RETS_0 (.inr rfl) ⟨rfl, OffP.refl _ _, hP⟩
  ·rw [show grE T Lb x b = grC T (d : Int) (Lb.drop (x.length + 1)) x b T.length from by unfold grE; rw [hen, if_pos rfl, hdr, grP_cons, ed]]
   have hm' := isLLL_mat ha hbn
   have lm := (h3 b hbn).1
   have hdm : d < (mat T b).length := by omega
   have hr := isLL_row hm' hdm
   have lr := ((h3 b hbn).2 d (by omega)).1
   dsimp only [Try.f36, bodyOf, Option.getD]
   refine Ycr ?_
   refine FIN_of (by kernel_rfl) ?_
   simp (maxSteps := 10000000) (disch := first | assumption | omega) only [go_sem, ↓reduceIte, Nat.reduceEqDiff, reduceCtorEq, Nat.reduceAdd, Nat.reduceMul, Nat.reduceLeDiff, zc, Int.reduceToNat, s0, s1, s2, s3, s4, s5, hEl, isL_len hl, eq_false hxl, eP, eO, hEr, ti33, ti31, eY, hxm, hy1, e39, isL_idx hl hxK, ed, isL_len hr, lr, lmY]
   refine FIN_of (by kernel_rfl) ?_
   refine Yau ?_
   refine WK_for (fun i st => st.sl 0 = .ptr 20640 pv [] 0 ∧ st.sl 1 = .ptr 20608 ev [] 0 ∧ st.sl 2 = .ptr 20624 ov [] 0 ∧ st.sl 3 = .ptr 4112 lv [] 0 ∧ st.sl 4 = .ptr 4096 rv [] 0 ∧ st.sl 5 = .ptr 24576 fv [] 0 ∧ st.sl 6 = i64 (x.length : Int) ∧ st.sl 52 = atA (atA c b) d ∧ st.sl 53 = i64 (T.length : Int) ∧ st.sl 54 = i64 (i : Int) ∧ (OffP ro gn st.ro st.gn) ∧ (PthI pv ov x (tk (Ls ++ grC T (d : Int) (Lb.drop (x.length + 1)) x b i)) st.ro st.gn)) T.length ?_ ?_ ?_
   ·simp only [↓za, ↓reduceIte, Nat.reduceEqDiff, zb, reduceCtorEq, rws_zero, s0, s1, s2, s3, s4, s5]
    refine ⟨rfl, OffP.refl _ _, ?_⟩
    rw [show grC T (d : Int) (Lb.drop (x.length + 1)) x b 0 = [] from rfl, List.append_nil, tk_small h20]
    exact hP
   ·rintro i sl ro gn hi ⟨s0, s1, s2, s3, s4, s5, s6, s52, s53, s54, o, p⟩
    dsimp only at s0 s1 s2 s3 s4 s5 s6 s52 s53 s54
    have hi' : (i : Int) < (T.length : Nat) := by omega
    dsimp only at o p
    have hEi := hE.keep o
    have hEf := hEi.f
    have hir : i < (row (mat T b) d).length := by omega
    have hsuc : tk (Ls ++ grC T (d : Int) (Lb.drop (x.length + 1)) x b (i + 1)) = tk (tk (Ls ++ grC T (d : Int) (Lb.drop (x.length + 1)) x b i) ++ (if at3 T b ((d : Nat) : Int).toNat i ≠ 0 ∧ enR T (Lb.drop (x.length + 1)) i = true then grP T (Lb.drop (x.length + 1)) (x ++ [(i : Int)]) i else [])) := by
     rw [tk_app, grC_succ, List.append_assoc]
    have eat : at3 T b ((d : Nat) : Int).toNat i = atI (row (mat T b) d) i := rfl
    have hPl := tk_len (Ls ++ grC T (d : Int) (Lb.drop (x.length + 1)) x b i)
    rw [hsuc, eat]
    generalize tk (Ls ++ grC T (d : Int) (Lb.drop (x.length + 1)) x b i) = Pi at p hPl ⊢
    by_cases hz : atI (row (mat T b) d) i = 0
    ·rw [if_neg (fun h => h.1 hz), List.append_nil, tk_small hPl]
     simp (maxSteps := 10000000) (disch := first | assumption | omega) only [go_sem, ↓reduceIte, Nat.reduceEqDiff, reduceCtorEq, Nat.reduceAdd, Nat.reduceMul, Nat.reduceLeDiff, zc, Int.reduceToNat, s0, s1, s2, s3, s4, s5, s6, s52, s53, s54, hi', hi, isL_idx hr hir, eq_true hz]
     exact ⟨i64c (by omega), o, p⟩
    ·have hzl : (x ++ [(i : Int)]).length = x.length + 1 := by rw [List.length_append]; rfl
     have eg : (if atI (row (mat T b) d) i ≠ 0 ∧ enR T (Lb.drop (x.length + 1)) i = true then grP T (Lb.drop (x.length + 1)) (x ++ [(i : Int)]) i else []) = grE T Lb (x ++ [(i : Int)]) i := by
      unfold grE enI
      rw [hzl, Nat.add_sub_cancel]
      by_cases h : enR T (Lb.drop (x.length + 1)) i = true
      ·rw [if_pos ⟨hz, h⟩, if_pos h]
      ·rw [if_neg (fun h' => h h'.2), if_neg h]
     rw [eg]
     have hal : atI (x ++ [(i : Int)]) (x.length + 1 - 1) = (i : Int) := by
      unfold atI
      rw [Nat.add_sub_cancel, List.getD_eq_getElem?_getD, List.getElem?_append_right (Nat.le_refl _), Nat.sub_self]
      rfl
     obtain ⟨⟨gP', y', eP', eY', hy', lP'⟩, gO', eO', eL', lO'⟩ := id p
     have hyt : (y'.map i64).take x.length = x.map i64 := by rw [← List.map_take, hy']
     have hx2 : x.length + 1 ≤ 4294967296 := by omega
     have hyl : x.length ≤ (y'.map i64).length := by
      have := congrArg List.length hy'
      rw [List.length_take] at this
      rw [List.length_map]
      omega
     have I := fun (ro1 : Ro) (gn1 : Nat → Nat) => ih ro1 gn1 (x ++ [(i : Int)]) Pi i (by omega) (by omega) (by rw [hzl]; exact hal) hi hPl
     simp (maxSteps := 10000000) (disch := first | assumption | omega) only [go_sem, ↓reduceIte, Nat.reduceEqDiff, reduceCtorEq, Nat.reduceAdd, Nat.reduceMul, Nat.reduceLeDiff, zc, Int.reduceToNat, s0, s1, s2, s3, s4, s5, s6, s52, s53, s54, hi', hi, isL_idx hr hir, eq_false hz, eP', eY', rowL, hyt, hx2, hyl, hEf]
     refine CLL_inS rfl (I _ _ ?_ ?_) ?_
     ·exact hEi.keep (gn := gn) (gn' := gn) (by repeat' first | exact OffP.refl _ _ | refine OffP.wr ?_ _ _ _ (by decide))
     ·refine ⟨⟨gn 20592 + 1, x ++ [(i : Int)], ?_, ?_, ?_, ?_⟩, gO', ?_, ?_, ?_⟩
      ·simp only [↓za, ↓reduceIte, Nat.reduceEqDiff, zb, reduceCtorEq]; rw [hzl]
      ·refine Yfh ?_
       refine congrArg some ?_
       show AV.row _ = AV.row _
       rw [List.map_append]
       rfl
      ·exact List.take_length
      ·exact Ur
      ·exact Ue eO'
      ·exact Ue eL'
      ·exact Ue lO'
     rintro _ ro' gn' ⟨rfl, o', ⟨⟨g2, y2, eP2, eY2, hy2, lP2⟩, hO2⟩⟩
     rw [hzl] at eP2 hy2
     have hsl : x.length ≤ x.length + 1 := by omega
     simp (maxSteps := 10000000) (disch := first | assumption | omega) only [go_sem, ↓reduceIte, Nat.reduceEqDiff, reduceCtorEq, Nat.reduceAdd, Nat.reduceMul, Nat.reduceLeDiff, zc, Int.reduceToNat, s0, s1, s2, s3, s4, s5, s6, s52, s53, s54, hi', hi, eP2, eY2, Option.map_none, Option.map_some, kSlice_hi, hsl]
     refine ⟨i64c (by omega), OffP.wr (OffP.trans o (OffP.trans ?_ o')) _ _ _ (by decide), ⟨g2, y2, ?_, ?_, ?_, ?_⟩, ?_⟩
     ·repeat' first | exact OffP.refl _ _ | refine OffP.wr ?_ _ _ _ (by decide) | refine OffP.al ?_ _ _ (by decide)
     ·simp only [↓za, ↓reduceIte, Nat.reduceEqDiff, zb, reduceCtorEq]
     ·exact Ue eY2
     ·have := congrArg (List.take x.length) hy2
      rw [List.take_take, Nat.min_eq_left (by omega), List.take_left' rfl] at this
      exact this
     ·exact lP2
     ·obtain ⟨gO2, eO2, eL2, lO2⟩ := hO2
      exact ⟨gO2, Ue eO2, Ue eL2, lO2⟩
   ·rintro sl ro gn ⟨s0, s1, s2, s3, s4, s5, s6, s52, s53, s54, o, p⟩
    dsimp only at s0 s1 s2 s3 s4 s5 s6 s52 s53 s54
    have hi' : ¬ ((T.length : Nat) : Int) < (T.length : Nat) := by omega
    dsimp only at o p
    simp (maxSteps := 10000000) (disch := first | assumption | omega) only [go_sem, ↓reduceIte, Nat.reduceEqDiff, reduceCtorEq, Nat.reduceAdd, Nat.reduceMul, Nat.reduceLeDiff, zc, Int.reduceToNat, s0, s1, s2, s3, s4, s5, s6, s52, s53, s54, hi']
    exact RETS_0 (.inl rfl) ⟨rfl, o, p⟩
theorem inExt (ha : isLLL c T) (hc : CubeP T) (hl : isL la Lb) (hLb : labP T.length Lb) (l8 : Lb.length ≤ 8) : ∀ m, ExtS c la T Lb pv ev ov lv rv fv gE m
 | 0 => extBase hc hl l8
 | m + 1 => extStep ha hc hl hLb l8 (inExt ha hc hl hLb l8 m)
theorem cFpI_x (ha : isLLL c T) (hz : SzP T) (hl : isL la Lb) (lL : Lb.length ≤ maxN) (hp : ¬ pcV T Lb = 0) : CallOK Try.prog 10 [.agg [c], la] (pthA T Lb) := by
 have cc := cPcI ha hz hl lL
 rw [pthA_x hp]
 rcases id hl with rfl | ⟨-, rfl⟩
 ·refine call_of (fn := Try.f10) (code := bodyOf Try.f10) Try.func10 rfl (by kernel_rfl) (rfl) ?_
  intro sl hs
  have s0 : sl 0 = .agg [c] := hs 0
  have s1 : sl 1 = .imm (Lb.map i64) := hs 1
  dsimp only [Try.f10, bodyOf, Option.getD]
  refine Yac ?_
  refine CLL_pure _ cc PUt rfl rfl ?_
  refine Yeu ?_
  exact Yaa
 ·refine call_of (fn := Try.f10) (code := bodyOf Try.f10) Try.func10 rfl (by kernel_rfl) (rfl) ?_
  intro sl hs
  have s0 : sl 0 = .agg [c] := hs 0
  have s1 : sl 1 = nilA := hs 1
  dsimp only [Try.f10, bodyOf, Option.getD]
  refine Yac ?_
  refine CLL_pure _ cc (by simp (disch := assumption) only [nilA, pureL, pureA, isLLL_pure, Bool.and_self, Bool.and_true]) rfl rfl ?_
  refine Yeu ?_
  exact Yaa
set_option maxHeartbeats 8000000 in
theorem cFpI (ha : isLLL c T) (hz : SzP T) (hl : isL la Lb) (lL : Lb.length ≤ maxN) : CallOK Try.prog 10 [.agg [c], la] (pthA T Lb) := by
 by_cases hp : pcV T Lb = 0
 ·obtain ⟨hR, hC, l1, l8, hL⟩ := pcV_iff.1 hp
  obtain rfl : la = .imm (Lb.map i64) := by
   rcases hl with h | ⟨rfl, -⟩
   ·exact h
   ·exact absurd l1 (by decide)
  have cc := cPcI ha hz hl lL
  obtain ⟨d0, d1⟩ := hL 0 (by omega)
  obtain ⟨b, eb⟩ := Int.eq_ofNat_of_zero_le d0
  have hbn : b < T.length := by omega
  have h0 : 0 < Lb.length := by omega
  have ce := cEndI ha hR.1 hl hL l1 l8
  rw [hp] at cc
  rw [enA] at ce
  have hen0 : paths T Lb = grE T Lb [(b : Int)] b := by unfold paths grE; rw [eb, Int.toNat_natCast]; rfl
  refine call_of (fn := Try.f10) (code := bodyOf Try.f10) Try.func10 rfl (by kernel_rfl) (noRef_pthA) ?_
  intro sl hs
  have s0 : sl 0 = .agg [c] := hs 0
  have s1 : sl 1 = .imm (Lb.map i64) := hs 1
  dsimp only [Try.f10, bodyOf, Option.getD]
  refine Yac ?_
  refine CLL_pure _ cc PUt rfl rfl ?_
  refine Yac ?_
  refine CLLD_pure _ ce PUt rfl ?_
  simp (maxSteps := 10000000) (disch := first | assumption | omega) only [go_sem, ↓reduceIte, Nat.reduceEqDiff, reduceCtorEq, Nat.reduceAdd, Nat.reduceMul, Nat.reduceLeDiff, zc, Int.reduceToNat, s0, s1, impE_row, zfe, isL_idx0 hl h0, eb, tB1, tB2]
  refine FIN_of (by kernel_rfl) ?_
  refine Yae ?_
  have I := fun (ro1 : Ro) (gn1 : Nat → Nat) => inExt (pv := 1) (ev := 1) (ov := 1) (lv := 1) (rv := 1) (fv := 1) (gE := 1) ha hR.1 hl hL l8 (Lb.length - 1) ro1 gn1 [(b : Int)] [] b (by show 1 + (Lb.length - 1) = Lb.length; omega) (Nat.le_refl _) rfl hbn (by decide)
  refine CLL_inS rfl (I _ _ ?_ ?_) ?_
  ·exact ⟨Ur, by simp only [↓za, ↓reduceIte, Nat.reduceEqDiff, zb, reduceCtorEq]; rfl, Ur, Ur, Ur⟩
  ·refine ⟨⟨1, [(b : Int)], ?_, ?_, rfl, ?_⟩, 1, ?_, ?_, ?_⟩
   ·simp only [↓za, ↓reduceIte, Nat.reduceEqDiff, zb, reduceCtorEq]; rfl
   ·simp only [↓za, ↓reduceIte, Nat.reduceEqDiff, zb, reduceCtorEq]; rfl
   ·exact Ur
   ·simp only [↓za, ↓reduceIte, Nat.reduceEqDiff, zb, reduceCtorEq]; rfl
   ·simp only [↓za, ↓reduceIte, Nat.reduceEqDiff, zb, reduceCtorEq]; rfl
   ·exact Ur
  rintro _ ro' gn' ⟨rfl, o', -, gO, eO, eL, lO⟩
  rw [List.nil_append, ← hen0] at eO eL
  by_cases h20 : (paths T Lb).length ≤ 2000
  ·rw [pthA_0 hp h20]
   rw [tk_small (by omega)] at eO eL
   have hgt : ¬ (2000 : Int) < (paths T Lb).length := by omega
   have hTk : ((paths T Lb).map rowL).take (paths T Lb).length = (paths T Lb).map rowL := List.take_of_length_le (by rw [List.length_map]; exact Nat.le_refl _)
   simp (maxSteps := 10000000) (disch := first | assumption | omega) only [go_sem, ↓reduceIte, Nat.reduceEqDiff, reduceCtorEq, Nat.reduceAdd, Nat.reduceMul, Nat.reduceLeDiff, zc, Int.reduceToNat, s0, s1, eO, eL, eq_false hgt]
   simp only [zr, zb, retR, resL, outT, outL, zes, zez, oneV, zcp, zed, zfi, Ro.dl, St.ev, zhk, ↓za, ↓reduceIte, Nat.reduceEqDiff, Nat.reduceAdd, Nat.reduceLeDiff, eL, rowLL, hTk]
  ·rw [pthA_3 hp h20]
   have hgt := tk_gt h20
   simp (maxSteps := 10000000) (disch := first | assumption | omega) only [go_sem, ↓reduceIte, Nat.reduceEqDiff, reduceCtorEq, Nat.reduceAdd, Nat.reduceMul, Nat.reduceLeDiff, zc, Int.reduceToNat, s0, s1, eO, eL, eq_true hgt]
   exact Yaa
 ·exact cFpI_x ha hz hl lL hp
end
end Go.Proofs.Ythfgjapmgjhccaa
