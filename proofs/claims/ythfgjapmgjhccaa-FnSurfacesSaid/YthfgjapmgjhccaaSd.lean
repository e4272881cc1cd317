/- Texts joined: SuA SuB SuC. -/
import Derived.Test.YthfgjapmgjhccaaSb
set_option linter.all false
/- Surfaces: genus numbers, duals, lists that are alike. -/
namespace Go.Proofs.Ythfgjapmgjhccaa
open Go.RowKit
set_option maxRecDepth 1000000
theorem isL_nil0 : isL nilA [] := .inr ⟨rfl, rfl⟩
def gnP (T : List (List (List Int))) (g : Nat) : Prop := ∀ h, h ≤ g → ∃ Z, surfO T h [] = some Z
noncomputable def gnR (T : List (List (List Int))) (g : Nat) : AV := .row (rws (fun h => i64 (surfR T h [])) g)
theorem surfR_nn {T : List (List (List Int))} (hR : RingP T) {g : Nat} {L Z : List Int} (h : surfO T g L = some Z) : ¬ surfR T g L < 0 := by
 have := surf_nn hR h
 unfold surfR
 rw [h]
 show ¬ atI Z 0 < 0
 omega
theorem surfR_none {T : List (List (List Int))} {g : Nat} {L : List Int} (h : surfO T g L = none) : surfR T g L = -1 := by
 unfold surfR
 rw [h]
theorem numS_some {T : List (List (List Int))} {g : Nat} {L Z : List Int} (h : surfO T g L = some Z) : numS T g L = .tup [i64 (surfR T g L), bo true] := by
 unfold numS surfR
 rw [h]
theorem numS_none {T : List (List (List Int))} {g : Nat} {L : List Int} (h : surfO T g L = none) : numS T g L = .tup [i64 0, bo false] := by
 unfold numS
 rw [h]
theorem labP_nil (n : Nat) : labP n [] := fun i hi => absurd hi (Nat.not_lt_zero _)
open Classical in
noncomputable def gnA (T : List (List (List Int))) (g : Int) : AV :=
 if RingP T then if CmP T then if 0 ≤ g ∧ g ≤ 20 then if gnP T g.toNat then .tup [gnR T (g.toNat + 1), i64 0] else .tup [nilA, i64 3] else .tup [nilA, i64 2] else .tup [nilA, i64 5] else .tup [nilA, i64 1]
section
variable {T : List (List (List Int))} {g : Int}
theorem gnA_1 (h : ¬ RingP T) : gnA T g = .tup [nilA, i64 1] := if_neg h
theorem gnA_5 (h : RingP T) (h2 : ¬ CmP T) : gnA T g = .tup [nilA, i64 5] := by unfold gnA; rw [if_pos h, if_neg h2]
theorem gnA_2 (h : RingP T) (h2 : CmP T) (h3 : ¬ (0 ≤ g ∧ g ≤ 20)) : gnA T g = .tup [nilA, i64 2] := by unfold gnA; rw [if_pos h, if_pos h2, if_neg h3]
theorem gnA_3 {n : Nat} (h : RingP T) (h2 : CmP T) (h3 : 0 ≤ (n : Int) ∧ (n : Int) ≤ 20) (h4 : ¬ gnP T n) : gnA T (n : Int) = .tup [nilA, i64 3] := by unfold gnA; rw [if_pos h, if_pos h2, if_pos h3, Int.toNat_natCast, if_neg h4]
theorem gnA_0 {n : Nat} (h : RingP T) (h2 : CmP T) (h3 : 0 ≤ (n : Int) ∧ (n : Int) ≤ 20) (h4 : gnP T n) : gnA T (n : Int) = .tup [gnR T (n + 1), i64 0] := by unfold gnA; rw [if_pos h, if_pos h2, if_pos h3, Int.toNat_natCast, if_pos h4]
theorem noRef_gnR (n : Nat) : noRef (.tup [gnR T n, i64 0]) = true := by
 have h := noRef_row (rws (fun h => i64 (surfR T h [])) n) (noRefL_rws _ _ fun _ => rfl)
 show (noRef (gnR T n) && (noRef (i64 0) && true)) = true
 unfold gnR
 rw [h]; rfl
end
section
variable {T : List (List (List Int))} {c : AV} {g : Int}
set_option maxHeartbeats 8000000 in
theorem cGnI (ha : isLLL c T) (hz : SzP T) : CallOK Try.prog 15 [.agg [c], i64 g] (gnA T g) := by
 by_cases hR : RingP T
 ·by_cases hC : CmP T
  ·have cc := cCodeI ha hz (z := 0) (.inl ⟨hR, hC, rfl⟩)
   by_cases hg : 0 ≤ g ∧ g ≤ 20
   ·obtain ⟨n, rfl⟩ := Int.eq_ofNat_of_zero_le hg.1
    have en : ((n : Int) + 1) = ((n + 1 : Nat) : Int) := rfl
    by_cases hp : gnP T n
    ·rw [gnA_0 hR hC hg hp]
     unfold gnR
     refine call_of (fn := Try.f15) (code := bodyOf Try.f15) Try.func15 rfl (by kernel_rfl) (noRef_gnR _) ?_
     intro sl hs
     have s0 : sl 0 = .agg [c] := hs 0
     have s1 : sl 1 = i64 (n : Int) := hs 1
     dsimp only [Try.f15, bodyOf, Option.getD]
     refine Yac ?_
     refine CLL_pure _ cc PUt rfl rfl ?_
     refine Yae ?_
     refine CLL_pure _ (c40 (a := (n : Int)) (b := 0) (c := 20)) rfl rfl rfl ?_
     refine Yel ?_
     refine WK_for (fun h st => st.sl 2 = .ptr 4096 1 [] 0 ∧ st.ro 4096 1 = some (.bx [c]) ∧ st.sl 20 = i64 ((n + 1 : Nat) : Int) ∧ st.sl 21 = i64 (h : Int) ∧ st.sl 7 = .ref 28672 (st.gn 28672) [] 0 h ∧ st.ro 28672 (st.gn 28672) = some (.row (rws (fun h => i64 (surfR T h [])) h))) ((n + 1)) ?_ ?_ ?_
     ·refine Yal ?_
      repeat' first | rfl | apply And.intro
     ·rintro h sl ro gn hh ⟨s2, r4096, s20, s21, s7, r28672⟩
      dsimp only at s2 r4096 s20 s21 s7 r28672
      have hh' : (h : Int) < ((n + 1) : Nat) := by omega
      have hh2 : h + 1 ≤ 4294967296 := by omega
      obtain ⟨Z, eZ⟩ := hp h (by omega)
      have hn := surfR_nn hR eZ
      have cs := cSurfI ha hR isL_nil0 (labP_nil _) (Nat.zero_le _) (g := h) (by omega)
      refine Ycc ?_
      refine CLL_pure _ cs PUt rfl rfl ?_
      refine Yds ?_
      exact i64c (by omega)
     ·rintro sl ro gn ⟨s2, r4096, s20, s21, s7, r28672⟩
      dsimp only at s2 r4096 s20 s21 s7 r28672
      have hh' : ¬ (((n + 1) : Nat) : Int) < ((n + 1) : Nat) := by omega
      simp (maxSteps := 10000000) (disch := first | assumption | omega) only [go_sem, ↓reduceIte, Nat.reduceEqDiff, reduceCtorEq, Nat.reduceAdd, Nat.reduceMul, Nat.reduceLeDiff, zc, Int.reduceToNat, s2, r4096, s20, s21, s7, r28672, hh']
      simp only [zr, zb, retR, resL, outT, outL, zes, zez, oneV, zcp, zed, zfi, Ro.dl, St.ev, zhk, ↓za, ↓reduceIte, Nat.reduceEqDiff, Nat.reduceAdd, Nat.reduceLeDiff, r28672]
    ·rw [gnA_3 hR hC hg hp]
     refine call_of (fn := Try.f15) (code := bodyOf Try.f15) Try.func15 rfl (by kernel_rfl) (rfl) ?_
     intro sl hs
     have s0 : sl 0 = .agg [c] := hs 0
     have s1 : sl 1 = i64 (n : Int) := hs 1
     dsimp only [Try.f15, bodyOf, Option.getD]
     refine Yac ?_
     refine CLL_pure _ cc PUt rfl rfl ?_
     refine Yae ?_
     refine CLL_pure _ (c40 (a := (n : Int)) (b := 0) (c := 20)) rfl rfl rfl ?_
     refine Yel ?_
     refine WK_for (fun h st => st.sl 2 = .ptr 4096 1 [] 0 ∧ st.ro 4096 1 = some (.bx [c]) ∧ st.sl 20 = i64 ((n + 1 : Nat) : Int) ∧ st.sl 21 = i64 (h : Int) ∧ st.sl 7 = .ref 28672 (st.gn 28672) [] 0 h ∧ st.ro 28672 (st.gn 28672) = some (.row (rws (fun h => i64 (surfR T h [])) h)) ∧ (∀ k, k < h → ∃ Z, surfO T k [] = some Z)) ((n + 1)) ?_ ?_ ?_
     ·refine Yal ?_
      exact ⟨rfl, fun k hk => absurd hk (Nat.not_lt_zero _)⟩
     ·rintro h sl ro gn hh ⟨s2, r4096, s20, s21, s7, r28672, q⟩
      dsimp only at s2 r4096 s20 s21 s7 r28672
      have hh' : (h : Int) < ((n + 1) : Nat) := by omega
      have hh2 : h + 1 ≤ 4294967296 := by omega
      have cs := cSurfI ha hR isL_nil0 (labP_nil _) (Nat.zero_le _) (g := h) (by omega)
      cases eZ : surfO T h [] with
      | none =>
       rw [surfR_none eZ] at cs
       refine Ycc ?_
       refine CLL_pure _ cs PUt rfl rfl ?_
       simp (maxSteps := 10000000) (disch := first | assumption | omega) only [go_sem, ↓reduceIte, Nat.reduceEqDiff, reduceCtorEq, Nat.reduceAdd, Nat.reduceMul, Nat.reduceLeDiff, zc, Int.reduceToNat, s2, r4096, s20, s21, s7, r28672, hh', hh]
       exact Yaa
      | some Z =>
       have hn := surfR_nn hR eZ
       refine Ycc ?_
       refine CLL_pure _ cs PUt rfl rfl ?_
       refine Yds ?_
       refine ⟨i64c (by omega), fun k hk => ?_⟩
       rcases Nat.lt_or_eq_of_le (Nat.le_of_lt_succ hk) with h' | h'
       ·exact q k h'
       ·rw [h']; exact ⟨Z, eZ⟩
     ·rintro sl ro gn ⟨s2, r4096, s20, s21, s7, r28672, q⟩
      dsimp only at s2 r4096 s20 s21 s7 r28672
      have hh' : ¬ (((n + 1) : Nat) : Int) < ((n + 1) : Nat) := by omega
      exact absurd (fun k hk => q k (by omega)) hp
   ·rw [gnA_2 hR hC hg]
    refine call_of (fn := Try.f15) (code := bodyOf Try.f15) Try.func15 rfl (by kernel_rfl) (rfl) ?_
    intro sl hs
    have s0 : sl 0 = .agg [c] := hs 0
    have s1 : sl 1 = i64 g := hs 1
    dsimp only [Try.f15, bodyOf, Option.getD]
    refine Yac ?_
    refine CLL_pure _ cc PUt rfl rfl ?_
    refine Yae ?_
    refine CLL_pure _ (c40 (a := g) (b := 0) (c := 20)) rfl rfl rfl ?_
    refine Yeo ?_
    exact Yaa
  ·have cc := cCodeI ha hz (z := 5) (.inr (.inl ⟨hR, hC, rfl⟩))
   rw [gnA_5 hR hC]
   refine call_of (fn := Try.f15) (code := bodyOf Try.f15) Try.func15 rfl (by kernel_rfl) (rfl) ?_
   intro sl hs
   have s0 : sl 0 = .agg [c] := hs 0
   have s1 : sl 1 = i64 g := hs 1
   dsimp only [Try.f15, bodyOf, Option.getD]
   refine Yac ?_
   refine CLL_pure _ cc PUt rfl rfl ?_
   refine Yae ?_
   exact Yaa
 ·have cc := cCodeI ha hz (z := 1) (.inr (.inr ⟨hR, rfl⟩))
  rw [gnA_1 hR]
  refine call_of (fn := Try.f15) (code := bodyOf Try.f15) Try.func15 rfl (by kernel_rfl) (rfl) ?_
  intro sl hs
  have s0 : sl 0 = .agg [c] := hs 0
  have s1 : sl 1 = i64 g := hs 1
  dsimp only [Try.f15, bodyOf, Option.getD]
  refine Yac ?_
  refine CLL_pure _ cc PUt rfl rfl ?_
  refine Yae ?_
  exact Yaa
set_option maxHeartbeats 8000000 in
theorem cGnS (ha : isLLL c T) : CallOK Try.prog 16 [.agg [c], i64 g] (gnA T g) := by
 by_cases hR : RingP T
 ·by_cases hC : CmP T
  ·have cc := cCodeS ha (z := 0) (.inl ⟨hR, hC, rfl⟩)
   by_cases hg : 0 ≤ g ∧ g ≤ 20
   ·obtain ⟨n, rfl⟩ := Int.eq_ofNat_of_zero_le hg.1
    by_cases hp : gnP T n
    ·rw [gnA_0 hR hC hg hp]
     unfold gnR
     refine call_of (fn := Try.f16) (code := bodyOf Try.f16) Try.func16 rfl (by kernel_rfl) (noRef_gnR _) ?_
     intro sl hs
     have s0 : sl 0 = .agg [c] := hs 0
     have s1 : sl 1 = i64 (n : Int) := hs 1
     dsimp only [Try.f16, bodyOf, Option.getD]
     refine Yac ?_
     refine CLL_pure _ cc PUt rfl rfl ?_
     refine Yae ?_
     refine CLL_pure _ (c38 (a := (n : Int)) (b := 0) (c := 20)) rfl rfl rfl ?_
     refine Yeq ?_
     refine WK_for (fun h st => st.sl 1 = i64 (n : Int) ∧ st.sl 2 = .ptr 4096 1 [] 0 ∧ st.ro 4096 1 = some (.bx [c]) ∧ st.sl 8 = i64 (h : Int) ∧ st.sl 7 = .ref 28672 (st.gn 28672) [] 0 h ∧ st.ro 28672 (st.gn 28672) = some (.row (rws (fun h => i64 (surfR T h [])) h))) ((n + 1)) ?_ ?_ ?_
     ·refine Yal ?_
      repeat' first | rfl | apply And.intro
     ·rintro h sl ro gn hh ⟨s1, s2, r4096, s8, s7, r28672⟩
      dsimp only at s1 s2 r4096 s8 s7 r28672
      have hh' : (h : Int) < ((n + 1) : Nat) := by omega
      have hh2 : h + 1 ≤ 4294967296 := by omega
      have hle : (h : Int) ≤ n := by omega
      obtain ⟨Z, eZ⟩ := hp h (by omega)
      have cs := cNumS ha hR (isL_imm []) (labP_nil _) (Nat.zero_le _) (g := h) (by omega)
      rw [numS_some eZ] at cs
      refine Ybx ?_
      refine CLL_q _ cs AXt rfl rfl rfl ?_
      refine Ydt ?_
      exact i64c (by omega)
     ·rintro sl ro gn ⟨s1, s2, r4096, s8, s7, r28672⟩
      dsimp only at s1 s2 r4096 s8 s7 r28672
      have hh' : ¬ (((n + 1) : Nat) : Int) < ((n + 1) : Nat) := by omega
      have hle : ¬ ((n + 1 : Nat) : Int) ≤ n := by omega
      simp (maxSteps := 10000000) (disch := first | assumption | omega) only [go_sem, ↓reduceIte, Nat.reduceEqDiff, reduceCtorEq, Nat.reduceAdd, Nat.reduceMul, Nat.reduceLeDiff, zc, Int.reduceToNat, s1, s2, r4096, s8, s7, r28672, hh', eq_false hle]
      simp only [zr, zb, retR, resL, outT, outL, zes, zez, oneV, zcp, zed, zfi, Ro.dl, St.ev, zhk, ↓za, ↓reduceIte, Nat.reduceEqDiff, Nat.reduceAdd, Nat.reduceLeDiff, r28672]
    ·rw [gnA_3 hR hC hg hp]
     refine call_of (fn := Try.f16) (code := bodyOf Try.f16) Try.func16 rfl (by kernel_rfl) (rfl) ?_
     intro sl hs
     have s0 : sl 0 = .agg [c] := hs 0
     have s1 : sl 1 = i64 (n : Int) := hs 1
     dsimp only [Try.f16, bodyOf, Option.getD]
     refine Yac ?_
     refine CLL_pure _ cc PUt rfl rfl ?_
     refine Yae ?_
     refine CLL_pure _ (c38 (a := (n : Int)) (b := 0) (c := 20)) rfl rfl rfl ?_
     refine Yeq ?_
     refine WK_for (fun h st => st.sl 1 = i64 (n : Int) ∧ st.sl 2 = .ptr 4096 1 [] 0 ∧ st.ro 4096 1 = some (.bx [c]) ∧ st.sl 8 = i64 (h : Int) ∧ st.sl 7 = .ref 28672 (st.gn 28672) [] 0 h ∧ st.ro 28672 (st.gn 28672) = some (.row (rws (fun h => i64 (surfR T h [])) h)) ∧ (∀ k, k < h → ∃ Z, surfO T k [] = some Z)) ((n + 1)) ?_ ?_ ?_
     ·refine Yal ?_
      exact ⟨rfl, fun k hk => absurd hk (Nat.not_lt_zero _)⟩
     ·rintro h sl ro gn hh ⟨s1, s2, r4096, s8, s7, r28672, q⟩
      dsimp only at s1 s2 r4096 s8 s7 r28672
      have hh' : (h : Int) < ((n + 1) : Nat) := by omega
      have hh2 : h + 1 ≤ 4294967296 := by omega
      have hle : (h : Int) ≤ n := by omega
      have cs := cNumS ha hR (isL_imm []) (labP_nil _) (Nat.zero_le _) (g := h) (by omega)
      cases eZ : surfO T h [] with
      | none =>
       rw [numS_none eZ] at cs
       refine Ybx ?_
       refine CLL_q _ cs AXt rfl rfl rfl ?_
       simp (maxSteps := 10000000) (disch := first | assumption | omega) only [go_sem, ↓reduceIte, Nat.reduceEqDiff, reduceCtorEq, Nat.reduceAdd, Nat.reduceMul, Nat.reduceLeDiff, zc, Int.reduceToNat, s1, s2, r4096, s8, s7, r28672, hh', hh, impE_tS, ti4]
       exact Yaa
      | some Z =>
       rw [numS_some eZ] at cs
       refine Ybx ?_
       refine CLL_q _ cs AXt rfl rfl rfl ?_
       refine Ydt ?_
       refine ⟨i64c (by omega), fun k hk => ?_⟩
       rcases Nat.lt_or_eq_of_le (Nat.le_of_lt_succ hk) with h' | h'
       ·exact q k h'
       ·rw [h']; exact ⟨Z, eZ⟩
     ·rintro sl ro gn ⟨s1, s2, r4096, s8, s7, r28672, q⟩
      dsimp only at s1 s2 r4096 s8 s7 r28672
      have hh' : ¬ (((n + 1) : Nat) : Int) < ((n + 1) : Nat) := by omega
      exact absurd (fun k hk => q k (by omega)) hp
   ·rw [gnA_2 hR hC hg]
    refine call_of (fn := Try.f16) (code := bodyOf Try.f16) Try.func16 rfl (by kernel_rfl) (rfl) ?_
    intro sl hs
    have s0 : sl 0 = .agg [c] := hs 0
    have s1 : sl 1 = i64 g := hs 1
    dsimp only [Try.f16, bodyOf, Option.getD]
    refine Yac ?_
    refine CLL_pure _ cc PUt rfl rfl ?_
    refine Yae ?_
    refine CLL_pure _ (c38 (a := g) (b := 0) (c := 20)) rfl rfl rfl ?_
    refine Yeo ?_
    exact Yaa
  ·have cc := cCodeS ha (z := 5) (.inr (.inl ⟨hR, hC, rfl⟩))
   rw [gnA_5 hR hC]
   refine call_of (fn := Try.f16) (code := bodyOf Try.f16) Try.func16 rfl (by kernel_rfl) (rfl) ?_
   intro sl hs
   have s0 : sl 0 = .agg [c] := hs 0
   have s1 : sl 1 = i64 g := hs 1
   dsimp only [Try.f16, bodyOf, Option.getD]
   refine Yac ?_
   refine CLL_pure _ cc PUt rfl rfl ?_
   refine Ybn ?_
   exact Yaa
 ·have cc := cCodeS ha (z := 1) (.inr (.inr ⟨hR, rfl⟩))
  rw [gnA_1 hR]
  refine call_of (fn := Try.f16) (code := bodyOf Try.f16) Try.func16 rfl (by kernel_rfl) (rfl) ?_
  intro sl hs
  have s0 : sl 0 = .agg [c] := hs 0
  have s1 : sl 1 = i64 g := hs 1
  dsimp only [Try.f16, bodyOf, Option.getD]
  refine Yac ?_
  refine CLL_pure _ cc PUt rfl rfl ?_
  refine Ybn ?_
  exact Yaa
end
theorem noRef_t2 (f : Nat → Int) (n : Nat) : noRef (.tup [.row (rws (fun i => i64 (f i)) n), i64 0]) = true := by
 have h := noRef_row (rws (fun i => i64 (f i)) n) (noRefL_rws _ _ fun _ => rfl)
 show (noRef (.row (rws (fun i => i64 (f i)) n)) && (noRef (i64 0) && true)) = true
 rw [h]; rfl
section
variable {T : List (List (List Int))} {c : AV}
theorem cDualsOf (ha : isLLL c T) (hz : SzP T) (hR : RingP T) : CallOK Try.prog 8 [.agg [c]] (.tup [.row (rws (fun i => i64 (dlT T i)) T.length), i64 0]) := by
 obtain ⟨h1, h16, h3⟩ := id hR.1
 have cR := c118 ha hz.1 hz.2 (t := true) ⟨fun _ => hR, fun _ => rfl⟩
 have cD := c168 ha hR.1
 rw [rowL_dl] at cD
 refine call_of (fn := Try.f8) (code := bodyOf Try.f8) Try.func8 rfl (by kernel_rfl) (noRef_t2 (fun i => dlT T i) T.length) ?_
 intro sl hs
 have s0 : sl 0 = .agg [c] := hs 0
 dsimp only [Try.f8, bodyOf, Option.getD]
 refine Yai ?_
 refine CLL_pure _ cR PUt rfl rfl ?_
 simp (maxSteps := 10000000) (disch := first | assumption | omega) only [go_sem, ↓reduceIte, Nat.reduceEqDiff, reduceCtorEq, Nat.reduceAdd, Nat.reduceMul, Nat.reduceLeDiff, zc, Int.reduceToNat, s0, ti4]
 refine CLL_pure _ cD PUt rfl rfl ?_
 refine Yev ?_
 refine WK_for (fun i st => st.sl 4 = .ref 16384 (st.gn 16384) [] 0 i ∧ st.ro 16384 (st.gn 16384) = some (.row (rws (fun i => i64 (dlT T i)) i)) ∧ st.sl 12 = .ref 20496 1 [] 0 T.length ∧ st.ro 20496 1 = some (.row (rws (fun i => i64 (dlT T i)) T.length)) ∧ st.sl 13 = i64 (T.length : Int) ∧ st.sl 14 = i64 (i : Int)) T.length ?_ ?_ ?_
 ·refine Yaq ?_
  repeat' first | rfl | apply And.intro
 ·rintro i sl ro gn hi ⟨s4, r16384, s12, r20496, s13, s14⟩
  dsimp only at s4 r16384 s12 r20496 s13 s14
  have hi' : (i : Int) < (T.length : Nat) := by omega
  have hi2 : i + 1 ≤ 4294967296 := by omega
  simp (maxSteps := 10000000) (disch := first | assumption | omega) only [go_sem, ↓reduceIte, Nat.reduceEqDiff, reduceCtorEq, Nat.reduceAdd, Nat.reduceMul, Nat.reduceLeDiff, zc, Int.reduceToNat, s4, r16384, s12, r20496, s13, s14, hi', hi, hi2]
  exact i64c (by omega)
 ·rintro sl ro gn ⟨s4, r16384, s12, r20496, s13, s14⟩
  dsimp only at s4 r16384 s12 r20496 s13 s14
  have hi' : ¬ ((T.length : Nat) : Int) < (T.length : Nat) := by omega
  simp (maxSteps := 10000000) (disch := first | assumption | omega) only [go_sem, ↓reduceIte, Nat.reduceEqDiff, reduceCtorEq, Nat.reduceAdd, Nat.reduceMul, Nat.reduceLeDiff, zc, Int.reduceToNat, s4, r16384, s12, r20496, s13, s14, hi']
  simp only [zr, zb, retR, resL, outT, outL, zes, zez, oneV, zcp, zed, zfi, Ro.dl, St.ev, zhk, ↓za, ↓reduceIte, Nat.reduceEqDiff, Nat.reduceAdd, Nat.reduceLeDiff, r16384]
end
section
variable {a b : AV}
theorem cLikeI {X Y : List Int} (ha : isL a X) (hb : isL b Y) (lX : X.length ≤ maxN) (he : X = Y) : CallOK Try.prog 17 [a, b] (bo true) := by
 subst he
 have lX' : X.length ≤ 4294967296 := lX
 refine call_of (fn := Try.f17) (code := bodyOf Try.f17) Try.func17 rfl (by kernel_rfl) (rfl) ?_
 intro sl hs
 have s0 : sl 0 = a := hs 0
 have s1 : sl 1 = b := hs 1
 dsimp only [Try.f17, bodyOf, Option.getD]
 simp (maxSteps := 10000000) (disch := first | assumption | omega) only [go_sem, ↓reduceIte, Nat.reduceEqDiff, reduceCtorEq, Nat.reduceAdd, Nat.reduceMul, Nat.reduceLeDiff, zc, Int.reduceToNat, s0, s1, ti31, isL_len ha, isL_len hb]
 refine WK_for (fun i st => st.sl 0 = a ∧ st.sl 1 = b ∧ st.sl 5 = i64 (i : Int)) X.length ?_ ?_ ?_
 ·refine Yal ?_
  first | done | exact rfl
 ·rintro i sl ro gn hi ⟨s0, s1, s5⟩
  dsimp only at s0 s1 s5
  have hi' : (i : Int) < (X.length : Nat) := by omega
  simp (maxSteps := 10000000) (disch := first | assumption | omega) only [go_sem, ↓reduceIte, Nat.reduceEqDiff, reduceCtorEq, Nat.reduceAdd, Nat.reduceMul, Nat.reduceLeDiff, zc, Int.reduceToNat, s0, s1, s5, hi', hi, isL_len ha, isL_idx ha hi, isL_idx hb hi]
  refine FIN_of (by kernel_rfl) ?_
  refine Ybi ?_
  exact i64c (by omega)
 ·rintro sl ro gn ⟨s0, s1, s5⟩
  dsimp only at s0 s1 s5
  have hi' : ¬ ((X.length : Nat) : Int) < (X.length : Nat) := by omega
  simp (maxSteps := 10000000) (disch := first | assumption | omega) only [go_sem, ↓reduceIte, Nat.reduceEqDiff, reduceCtorEq, Nat.reduceAdd, Nat.reduceMul, Nat.reduceLeDiff, zc, Int.reduceToNat, s0, s1, s5, hi', isL_len ha]
  exact Yaa
theorem cLikeR {X Y : List (List Int)} (ha : isLL a X) (hb : isLL b Y) (lX : X.length ≤ maxN) (hr : ∀ i, i < X.length → (row X i).length ≤ maxN) (he : X = Y) : CallOK Try.prog 12 [a, b] (bo true) := by
 subst he
 have lX' : X.length ≤ 4294967296 := lX
 refine call_of (fn := Try.f12) (code := bodyOf Try.f12) Try.func12 rfl (by kernel_rfl) (rfl) ?_
 intro sl hs
 have s0 : sl 0 = a := hs 0
 have s1 : sl 1 = b := hs 1
 dsimp only [Try.f12, bodyOf, Option.getD]
 simp (maxSteps := 10000000) (disch := first | assumption | omega) only [go_sem, ↓reduceIte, Nat.reduceEqDiff, reduceCtorEq, Nat.reduceAdd, Nat.reduceMul, Nat.reduceLeDiff, zc, Int.reduceToNat, s0, s1, ti33, isLL_len ha, isLL_len hb]
 refine WK_for (fun i st => st.sl 0 = a ∧ st.sl 1 = b ∧ st.sl 5 = i64 (i : Int)) X.length ?_ ?_ ?_
 ·refine Yal ?_
  first | done | exact rfl
 ·rintro i sl ro gn hi ⟨s0, s1, s5⟩
  dsimp only at s0 s1 s5
  have hi' : (i : Int) < (X.length : Nat) := by omega
  have h1 := isLL_row ha hi
  have h2 := isLL_row hb hi
  simp (maxSteps := 10000000) (disch := first | assumption | omega) only [go_sem, ↓reduceIte, Nat.reduceEqDiff, reduceCtorEq, Nat.reduceAdd, Nat.reduceMul, Nat.reduceLeDiff, zc, Int.reduceToNat, s0, s1, s5, hi', hi, isLL_len ha, isLL_idx ha hi, isLL_idx hb hi]
  refine CLLD_pure _ (cLikeI h1 h2 (hr i hi) rfl) PUt rfl ?_
  simp (maxSteps := 10000000) (disch := first | assumption | omega) only [go_sem, ↓reduceIte, Nat.reduceEqDiff, reduceCtorEq, Nat.reduceAdd, Nat.reduceMul, Nat.reduceLeDiff, zc, Int.reduceToNat, s0, s1, s5, hi', hi, ti4]
  refine FIN_of (by kernel_rfl) ?_
  refine Ybi ?_
  first | done | exact i64c (by omega)
 ·rintro sl ro gn ⟨s0, s1, s5⟩
  dsimp only at s0 s1 s5
  have hi' : ¬ ((X.length : Nat) : Int) < (X.length : Nat) := by omega
  simp (maxSteps := 10000000) (disch := first | assumption | omega) only [go_sem, ↓reduceIte, Nat.reduceEqDiff, reduceCtorEq, Nat.reduceAdd, Nat.reduceMul, Nat.reduceLeDiff, zc, Int.reduceToNat, s0, s1, s5, hi', isLL_len ha]
  exact Yaa
end
end Go.Proofs.Ythfgjapmgjhccaa
/- Surfaces: which labels lead to 0. -/
namespace Go.Proofs.Ythfgjapmgjhccaa
open Go.RowKit
set_option maxRecDepth 1000000
theorem tB1 : ti0 64 = some ⟨1, false, [Value.slice none 0 0], some 4, [], none, false, false, none, none⟩ := by kernel_rfl
theorem tB2 : ti0 62 = some ⟨1, false, [Value.slice none 0 0], some 64, [], none, false, false, none, none⟩ := by kernel_rfl
def anyB (f : Nat → Bool) : Nat → Bool
 | 0 => false
 | n + 1 => anyB f n || f n
theorem anyB_iff {f : Nat → Bool} : ∀ {n : Nat}, anyB f n = true ↔ ∃ k, k < n ∧ f k = true
 | 0 => ⟨fun h => (nomatch h), fun ⟨_, h, _⟩ => absurd h (Nat.not_lt_zero _)⟩
 | n + 1 => by
  rw [anyB, Bool.or_eq_true, anyB_iff]
  constructor
  ·rintro (⟨k, h1, h2⟩ | h)
   ·exact ⟨k, by omega, h2⟩
   ·exact ⟨n, by omega, h⟩
  ·rintro ⟨k, h1, h2⟩
   rcases Nat.lt_or_eq_of_le (Nat.le_of_lt_succ h1) with h | h
   ·exact .inl ⟨k, h, h2⟩
   ·subst h; exact .inr h2
def enR (T : List (List (List Int))) : List Int → Nat → Bool
 | [], b => decide (b = 0)
 | l :: ls, b => anyB (fun c => decide (at3 T b l.toNat c ≠ 0) && enR T ls c) T.length
def enI (T : List (List (List Int))) (L : List Int) (i b : Nat) : Bool := enR T (L.drop (i + 1)) b
theorem enI_last {T : List (List (List Int))} {L : List Int} {i b : Nat} (h : L.length = i + 1) : enI T L i b = decide (b = 0) := by
 unfold enI
 rw [List.drop_of_length_le (by omega)]
 rfl
theorem enI_next {T : List (List (List Int))} {L : List Int} {i b : Nat} (h : i + 1 < L.length) : enI T L i b = anyB (fun c => decide (at3 T b (atI L (i + 1)).toNat c ≠ 0) && enI T L (i + 1) c) T.length := by
 have e : L.drop (i + 1) = atI L (i + 1) :: L.drop (i + 1 + 1) := by
  unfold atI
  rw [List.drop_eq_getElem_cons h, List.getD_eq_getElem?_getD, List.getElem?_eq_getElem h]
  rfl
 unfold enI
 rw [e]
 rfl
def enRow (T : List (List (List Int))) (L : List Int) (i : Nat) : AV := .row (rws (fun b => bo (enI T L i b)) T.length)
def enA (T : List (List (List Int))) (L : List Int) : AV := .row (rws (enRow T L) L.length)
theorem noRef_enRow (T : List (List (List Int))) (L : List Int) (i : Nat) : noRef (enRow T L i) = true := noRef_row _ (noRefL_rws _ _ fun _ => rfl)
theorem noRef_enA (T : List (List (List Int))) (L : List Int) : noRef (enA T L) = true := noRef_row _ (noRefL_rws _ _ fun i => noRef_enRow T L i)
def enW (T : List (List (List Int))) (L : List Int) (i b c x : Nat) : Bool :=
 if x < b then enI T L i x else if x = b then anyB (fun c => decide (at3 T b (atI L (i + 1)).toNat c ≠ 0) && enI T L (i + 1) c) c else false
section
variable {T : List (List (List Int))} {L : List Int} {i b c n : Nat}
theorem enW_0 : rws (fun _ : Nat => bo false) n = rws (fun x => bo (enW T L i 0 0 x)) n := rws_congr fun x _ => by
 unfold enW
 rw [if_neg (Nat.not_lt_zero _)]
 split <;> rfl
theorem enW_at (hb : b < n) : (rws (fun x => bo (enW T L i b c x)) n)[b]? = some (bo (anyB (fun c => decide (at3 T b (atI L (i + 1)).toNat c ≠ 0) && enI T L (i + 1) c) c)) := by
 rw [rws_get _ _ _ hb]
 unfold enW
 rw [if_neg (Nat.lt_irrefl _), if_pos rfl]
theorem enW_set (v : Bool) (hv : v = anyB (fun c => decide (at3 T b (atI L (i + 1)).toNat c ≠ 0) && enI T L (i + 1) c) (c + 1)) : (rws (fun x => bo (enW T L i b c x)) n).set b (bo v) = rws (fun x => bo (enW T L i b (c + 1) x)) n := by
 rw [rws_set]
 refine rws_congr fun x _ => ?_
 unfold enW
 by_cases h : x = b
 ·subst h
  rw [if_pos rfl, if_neg (Nat.lt_irrefl _), if_pos rfl, hv]
 ·rw [if_neg h, if_neg h, if_neg h]
theorem enW_n (h : i + 1 < L.length) : rws (fun x => bo (enW T L i b T.length x)) n = rws (fun x => bo (enW T L i (b + 1) 0 x)) n := rws_congr fun x _ => by
 unfold enW
 by_cases h1 : x < b
 ·rw [if_pos h1, if_pos (by omega)]
 ·rw [if_neg h1]
  by_cases h2 : x = b
  ·subst h2
   rw [if_pos rfl, if_pos (Nat.lt_succ_self _), enI_next h]
  ·rw [if_neg h2, if_neg (by omega)]
   split <;> rfl
theorem enW_last (h : L.length = i + 1) (v : Bool) (hv : v = decide (b = 0)) : (rws (fun x => bo (enW T L i b 0 x)) n).set b (bo v) = rws (fun x => bo (enW T L i (b + 1) 0 x)) n := by
 rw [rws_set]
 refine rws_congr fun x _ => ?_
 unfold enW
 by_cases h2 : x = b
 ·subst h2
  rw [if_pos rfl, if_pos (Nat.lt_succ_self _), enI_last h, hv]
 ·rw [if_neg h2]
  by_cases h1 : x < b
  ·rw [if_pos h1, if_pos (by omega)]
  ·rw [if_neg h1, if_neg h2, if_neg (by omega)]
   split <;> rfl
theorem enW_end : AV.row (rws (fun x => bo (enW T L i T.length 0 x)) T.length) = enRow T L i := by
 unfold enRow
 refine congrArg AV.row (rws_congr fun x hx => ?_)
 unfold enW
 rw [if_pos hx]
end
def arT (s n K k : Nat) : List AV := rws (fun i => if K ≤ i + k then .ref s (K - i) [] 0 n else nilA) K
theorem arT_get {s n K k i : Nat} (hi : i < K) (h : K ≤ i + k) : (arT s n K k)[i]? = some (.ref s (K - i) [] 0 n) := by
 unfold arT
 rw [rws_get _ _ _ hi, if_pos h]
theorem arT_set {s n K k i : Nat} (h : K = k + 1 + i) : (arT s n K k).set i (.ref s (k + 1) [] 0 n) = arT s n K (k + 1) := by
 unfold arT
 rw [rws_set]
 refine rws_congr fun x hx => ?_
 by_cases hxi : x = i
 ·subst hxi
  rw [if_pos rfl, if_pos (by omega)]
  exact congrArg (fun t => AV.ref s t [] 0 n) (by omega)
 ·rw [if_neg hxi]
  by_cases h1 : K ≤ x + k
  ·rw [if_pos h1, if_pos (by omega)]
  ·rw [if_neg h1, if_neg (by omega)]
theorem arT_0 (s n K : Nat) : rws (fun _ => nilA) K = arT s n K 0 := rws_congr fun x hx => by rw [if_neg (by omega)]
theorem arT_len (s n K k : Nat) : (arT s n K k).length = K := zfe _ _
theorem outL_rows (F : Nat → List AV) {n : Nat} (hF : ∀ i, (F i).length = n) (s : Nat) : ∀ (l : List (Nat × Nat)) (ro : Ro), (l.map (·.2)).Nodup → (∀ p, p ∈ l → ro s p.2 = some (.row (F p.1))) → ∃ ws, outL ro (l.map fun p => .ref s p.2 [] 0 n) = some (l.map fun p => .row (F p.1), ws)
 | [], ro, _, _ => ⟨[], rfl⟩
 | p :: l, ro, hn, h => by
  have hk := h p (by simp)
  rw [List.map_cons] at hn
  have hn' := List.nodup_cons.1 hn
  obtain ⟨ws, hw⟩ := outL_rows F hF s l (ro.dl [(s, p.2)]) hn'.2 (fun j hj => by
   have : j.2 ≠ p.2 := fun e => hn'.1 (e ▸ List.mem_map.2 ⟨j, hj, rfl⟩)
   show upr ro s p.2 .dead s j.2 = _
   rw [zdb, if_neg (by omega)]
   exact h j (by simp [hj]))
  refine ⟨(s, p.2) :: ws, ?_⟩
  simp only [List.map_cons, outL, zes, hk, hF, if_true, hw, List.cons_append, List.nil_append]
theorem arT_all (s n K : Nat) : arT s n K K = ((List.range K).map fun i => (i, K - i)).map fun p => .ref s p.2 [] 0 n := by
 unfold arT rws
 rw [List.map_map]
 refine List.map_congr_left fun i hi => ?_
 have := List.mem_range.1 hi
 rw [if_pos (by omega)]
 rfl
theorem nodup_rev (K : Nat) : ((List.range K).map ((fun p : Nat × Nat => p.2) ∘ fun i => (i, K - i))).Nodup := by
 rw [List.nodup_iff_pairwise_ne, List.pairwise_map]
 refine List.Pairwise.imp_of_mem (R := (· < ·)) (fun {a b} h1 h2 h => ?_) List.pairwise_lt_range
 have := List.mem_range.1 h1
 have := List.mem_range.1 h2
 show K - a ≠ K - b
 omega
section
variable {T : List (List (List Int))} {c la : AV} {L : List Int}
set_option maxHeartbeats 8000000 in
theorem cEndI (ha : isLLL c T) (hc : CubeP T) (hl : isL la L) (hL : labP T.length L) (l0 : 1 ≤ L.length) (l8 : L.length ≤ 8) : CallOK Try.prog 35 [.agg [c], la] (enA T L) := by
 obtain ⟨h1, h16, h3⟩ := id hc
 have hm' : (L.length : Int) ≤ ((4294967296 : Nat) : Int) := by omega
 have hm2 : (T.length : Int) ≤ ((4294967296 : Nat) : Int) := by omega
 refine call_of (fn := Try.f35) (code := bodyOf Try.f35) Try.func35 rfl (by kernel_rfl) (noRef_enA _ _) ?_
 intro sl hs
 have s0 : sl 0 = .agg [c] := hs 0
 have s1 : sl 1 = la := hs 1
 dsimp only [Try.f35, bodyOf, Option.getD]
 refine Ycq ?_
 refine WK_for (fun k st => st.sl 1 = la ∧ st.sl 2 = .ptr 4096 1 [] 0 ∧ st.ro 4096 1 = some (.bx [c]) ∧ st.sl 5 = i64 (T.length : Int) ∧ st.sl 6 = i64 ((L.length : Int) - 1) ∧ st.sl 7 = .ref 12320 1 [] 0 L.length ∧ st.ro 12320 1 = some (.bx (arT 28720 T.length L.length k)) ∧ st.sl 8 = i64 ((L.length : Int) - 1 - k) ∧ (st.gn 28720 = k) ∧ (∀ i, i < L.length → L.length ≤ i + k → st.ro 28720 (L.length - i) = some (enRow T L i))) L.length ?_ ?_ ?_
 ·refine Yal ?_
  exact ⟨congrArg (fun x => some (AV.bx x)) (arT_0 _ _ _), i64c (by omega), fun i h1 h2 => absurd h1 (by omega)⟩
 ·rintro k sl ro gn hk ⟨s1, s2, r4096, s5, s6, s7, r12320, s8, g, q⟩
  dsimp only at s1 s2 r4096 s5 s6 s7 r12320 s8
  have hk' : (k : Int) < (L.length : Nat) := by omega
  dsimp only at g q
  obtain ⟨i, hi⟩ : ∃ i, L.length = k + 1 + i := ⟨L.length - (k + 1), by omega⟩
  have e8 : ((L.length : Int) - 1 - k) = ((i : Nat) : Int) := by omega
  rw [e8] at s8
  have hge : (0 : Int) ≤ (i : Nat) := Int.natCast_nonneg _
  have hil : i + 1 ≤ L.length := by omega
  have hil' : i < L.length := by omega
  simp (maxSteps := 10000000) (disch := first | assumption | omega) only [go_sem, ↓reduceIte, Nat.reduceEqDiff, reduceCtorEq, Nat.reduceAdd, Nat.reduceMul, Nat.reduceLeDiff, zc, Int.reduceToNat, s1, s2, r4096, s5, s6, s7, r12320, s8, hk', hk, tB1, tB2, eq_true hge, kMake, Int.natCast_nonneg, Int.le_refl, hm2, List.getD_cons_zero, rep_rws, arT_len, hil, g, arT_set hi]
  refine WK_for (fun b st => st.sl 1 = la ∧ st.sl 2 = .ptr 4096 1 [] 0 ∧ st.ro 4096 1 = some (.bx [c]) ∧ st.sl 5 = i64 (T.length : Int) ∧ st.sl 6 = i64 ((L.length : Int) - 1) ∧ st.sl 7 = .ref 12320 1 [] 0 L.length ∧ st.ro 12320 1 = some (.bx (arT 28720 T.length L.length (k + 1))) ∧ st.sl 8 = i64 (i : Int) ∧ st.sl 31 = i64 (T.length : Int) ∧ st.sl 32 = i64 (b : Int) ∧ (st.gn 28720 = k + 1) ∧ (st.ro 28720 (k + 1) = some (.row (rws (fun x => bo (enW T L i b 0 x)) T.length))) ∧ (∀ j, j < L.length → L.length ≤ j + k → st.ro 28720 (L.length - j) = some (enRow T L j))) T.length ?_ ?_ ?_
  ·simp only [↓za, ↓reduceIte, Nat.reduceEqDiff, zb, reduceCtorEq, rws_zero, s1, s2, r4096, s5, s6, s7, r12320, s8, hk', hk]
   refine ⟨rfl, congrArg (fun x => some (AV.row x)) enW_0, fun j hj1 hj2 => ?_⟩
   rw [if_neg (by omega)]
   exact q j hj1 hj2
  ·rintro b sl ro gn hb ⟨s1, s2, r4096, s5, s6, s7, r12320, s8, s31, s32, g, rw, q⟩
   dsimp only at s1 s2 r4096 s5 s6 s7 r12320 s8 s31 s32
   have hb' : (b : Int) < (T.length : Nat) := by omega
   dsimp only at g rw q
   have ek : L.length - i = k + 1 := by omega
   have hg1 := arT_get (s := 28720) (n := T.length) hil' (show L.length ≤ i + (k + 1) by omega)
   rw [ek] at hg1
   by_cases hlast : (i : Int) = (L.length : Int) - 1
   ·have hwl := enW_last (T := T) (b := b) (n := T.length) (show L.length = i + 1 by omega)
    by_cases hb0 : b = 0
    ·have hb0' : (b : Int) = 0 := by omega
     simp (maxSteps := 10000000) (disch := first | assumption | omega) only [go_sem, ↓reduceIte, Nat.reduceEqDiff, reduceCtorEq, Nat.reduceAdd, Nat.reduceMul, Nat.reduceLeDiff, zc, Int.reduceToNat, s1, s2, r4096, s5, s6, s7, r12320, s8, s31, s32, hb', hb, tB1, tB2, eq_true hlast, hg1, rw, zfe, eq_true hb0']
     refine ⟨i64c (by omega), g, congrArg (fun x => some (AV.row x)) (hwl true (by rw [decide_eq_true hb0])), fun j hj1 hj2 => ?_⟩
     rw [if_neg (by omega)]
     exact q j hj1 hj2
    ·have hb0' : ¬ (b : Int) = 0 := by omega
     simp (maxSteps := 10000000) (disch := first | assumption | omega) only [go_sem, ↓reduceIte, Nat.reduceEqDiff, reduceCtorEq, Nat.reduceAdd, Nat.reduceMul, Nat.reduceLeDiff, zc, Int.reduceToNat, s1, s2, r4096, s5, s6, s7, r12320, s8, s31, s32, hb', hb, tB1, tB2, eq_true hlast, hg1, rw, zfe, eq_false hb0']
     refine ⟨i64c (by omega), g, congrArg (fun x => some (AV.row x)) (hwl false (by rw [decide_eq_false hb0])), fun j hj1 hj2 => ?_⟩
     rw [if_neg (by omega)]
     exact q j hj1 hj2
   ·have hlt : i + 1 < L.length := by omega
    have e1 : ((i : Int) + 1) = ((i + 1 : Nat) : Int) := rfl
    obtain ⟨d0, d1⟩ := hL (i + 1) hlt
    obtain ⟨d, ed⟩ := Int.eq_ofNat_of_zero_le d0
    have hm := isLLL_mat ha hb
    have lm := (h3 b hb).1
    have hdm : d < (mat T b).length := by omega
    have hr := isLL_row hm hdm
    have lr := ((h3 b hb).2 d (by omega)).1
    simp (maxSteps := 10000000) (disch := first | assumption | omega) only [go_sem, ↓reduceIte, Nat.reduceEqDiff, reduceCtorEq, Nat.reduceAdd, Nat.reduceMul, Nat.reduceLeDiff, zc, Int.reduceToNat, s1, s2, r4096, s5, s6, s7, r12320, s8, s31, s32, hb', hb, tB1, tB2, ti33, ti31, eq_false hlast, e1, ed, isL_idx hl hlt, isL_len hr, lr]
    refine FIN_of (by kernel_rfl) ?_
    simp (maxSteps := 10000000) (disch := first | assumption | omega) only [go_sem, ↓reduceIte, Nat.reduceEqDiff, reduceCtorEq, Nat.reduceAdd, Nat.reduceMul, Nat.reduceLeDiff, zc, Int.reduceToNat, s1, s2, r4096, s5, s6, s7, r12320, s8, s31, s32, hb', hb]
    have hw0 := rw
    have ek2 : L.length - (i + 1) = k := by omega
    have hg2 := arT_get (s := 28720) (n := T.length) hlt (show L.length ≤ i + 1 + (k + 1) by omega)
    rw [ek2] at hg2
    refine WK_for (fun x st => st.sl 1 = la ∧ st.sl 2 = .ptr 4096 1 [] 0 ∧ st.ro 4096 1 = some (.bx [c]) ∧ st.sl 5 = i64 (T.length : Int) ∧ st.sl 6 = i64 ((L.length : Int) - 1) ∧ st.sl 7 = .ref 12320 1 [] 0 L.length ∧ st.ro 12320 1 = some (.bx (arT 28720 T.length L.length (k + 1))) ∧ st.sl 8 = i64 (i : Int) ∧ st.sl 31 = i64 (T.length : Int) ∧ st.sl 32 = i64 (b : Int) ∧ st.sl 9 = i64 (b : Int) ∧ st.sl 57 = atA (atA c b) d ∧ st.sl 58 = i64 (T.length : Int) ∧ st.sl 59 = i64 (x : Int) ∧ (st.gn 28720 = k + 1) ∧ (st.ro 28720 (k + 1) = some (.row (rws (fun y => bo (enW T L i b x y)) T.length))) ∧ (∀ j, j < L.length → L.length ≤ j + k → st.ro 28720 (L.length - j) = some (enRow T L j))) T.length ?_ ?_ ?_
    ·simp only [↓za, ↓reduceIte, Nat.reduceEqDiff, zb, reduceCtorEq, rws_zero, s1, s2, r4096, s5, s6, s7, r12320, s8, s31, s32, hb', hb]
     exact ⟨rfl, g, hw0, q⟩
    ·rintro x sl ro gn hx ⟨s1, s2, r4096, s5, s6, s7, r12320, s8, s31, s32, s9, s57, s58, s59, g, rw, q⟩
     dsimp only at s1 s2 r4096 s5 s6 s7 r12320 s8 s31 s32 s9 s57 s58 s59
     have hx' : (x : Int) < (T.length : Nat) := by omega
     dsimp only at g rw q
     have rn := q (i + 1) hlt (by omega)
     rw [ek2, enRow] at rn
     have hx2 : x < (row (mat T b) d).length := by omega
     have hgx := rws_get (fun b => bo (enI T L (i + 1) b)) T.length x hx
     have hgb := enW_at (T := T) (L := L) (i := i) (c := x) hb
     have hst := fun v => enW_set (T := T) (L := L) (i := i) (b := b) (c := x) (n := T.length) v
     have hsuc : anyB (fun c => decide (at3 T b (atI L (i + 1)).toNat c ≠ 0) && enI T L (i + 1) c) (x + 1) = (anyB (fun c => decide (at3 T b (atI L (i + 1)).toNat c ≠ 0) && enI T L (i + 1) c) x || (decide (atI (row (mat T b) d) x ≠ 0) && enI T L (i + 1) x)) := by
      rw [ed]; rfl
     rw [hsuc] at hst
     cases hA : anyB (fun c => decide (at3 T b (atI L (i + 1)).toNat c ≠ 0) && enI T L (i + 1) c) x with
     | true =>
      rw [hA] at hgb hst
      have hst := hst true rfl
      simp (maxSteps := 10000000) (disch := first | assumption | omega) only [go_sem, ↓reduceIte, Nat.reduceEqDiff, reduceCtorEq, Nat.reduceAdd, Nat.reduceMul, Nat.reduceLeDiff, zc, Int.reduceToNat, s1, s2, r4096, s5, s6, s7, r12320, s8, s31, s32, s9, s57, s58, s59, hx', hx, tB1, tB2, ti31, e1, hg1, hg2, rw, hgb, zfe, isL_idx hr hx2, hst, undef]
      refine FIN_of (by kernel_rfl) ?_
      refine Ybs ?_
      refine ⟨i64c (by omega), g, fun j hj1 hj2 => ?_⟩
      rw [if_neg (by omega)]
      exact q j hj1 hj2
     | false =>
      rw [hA] at hgb hst
      by_cases hz : atI (row (mat T b) d) x = 0
      ·have hst := hst false (by simp [hz])
       simp (maxSteps := 10000000) (disch := first | assumption | omega) only [go_sem, ↓reduceIte, Nat.reduceEqDiff, reduceCtorEq, Nat.reduceAdd, Nat.reduceMul, Nat.reduceLeDiff, zc, Int.reduceToNat, s1, s2, r4096, s5, s6, s7, r12320, s8, s31, s32, s9, s57, s58, s59, hx', hx, tB1, tB2, ti31, e1, hg1, hg2, rw, hgb, zfe, isL_idx hr hx2, eq_true hz, hst, undef]
       refine FIN_of (by kernel_rfl) ?_
       refine Ybs ?_
       refine ⟨i64c (by omega), g, fun j hj1 hj2 => ?_⟩
       rw [if_neg (by omega)]
       exact q j hj1 hj2
      ·have hst := hst (enI T L (i + 1) x) (by simp [hz])
       simp (maxSteps := 10000000) (disch := first | assumption | omega) only [go_sem, ↓reduceIte, Nat.reduceEqDiff, reduceCtorEq, Nat.reduceAdd, Nat.reduceMul, Nat.reduceLeDiff, zc, Int.reduceToNat, s1, s2, r4096, s5, s6, s7, r12320, s8, s31, s32, s9, s57, s58, s59, hx', hx, tB1, tB2, ti31, e1, hg1, hg2, rw, rn, hgb, hgx, zfe, isL_idx hr hx2, eq_false hz, hst, undef]
       refine FIN_of (by kernel_rfl) ?_
       refine Ybs ?_
       refine ⟨i64c (by omega), g, fun j hj1 hj2 => ?_⟩
       rw [if_neg (by omega)]
       exact q j hj1 hj2
    ·rintro sl ro gn ⟨s1, s2, r4096, s5, s6, s7, r12320, s8, s31, s32, s9, s57, s58, s59, g, rw, q⟩
     dsimp only at s1 s2 r4096 s5 s6 s7 r12320 s8 s31 s32 s9 s57 s58 s59
     have hx' : ¬ ((T.length : Nat) : Int) < (T.length : Nat) := by omega
     dsimp only at g rw q
     rw [enW_n hlt] at rw
     simp (maxSteps := 10000000) (disch := first | assumption | omega) only [go_sem, ↓reduceIte, Nat.reduceEqDiff, reduceCtorEq, Nat.reduceAdd, Nat.reduceMul, Nat.reduceLeDiff, zc, Int.reduceToNat, s1, s2, r4096, s5, s6, s7, r12320, s8, s31, s32, s9, s57, s58, s59, hx']
     exact ⟨i64c (by omega), g, rw, q⟩
  ·rintro sl ro gn ⟨s1, s2, r4096, s5, s6, s7, r12320, s8, s31, s32, g, rw, q⟩
   dsimp only at s1 s2 r4096 s5 s6 s7 r12320 s8 s31 s32
   have hb' : ¬ ((T.length : Nat) : Int) < (T.length : Nat) := by omega
   dsimp only at g rw q
   rw [enW_end] at rw
   simp (maxSteps := 10000000) (disch := first | assumption | omega) only [go_sem, ↓reduceIte, Nat.reduceEqDiff, reduceCtorEq, Nat.reduceAdd, Nat.reduceMul, Nat.reduceLeDiff, zc, Int.reduceToNat, s1, s2, r4096, s5, s6, s7, r12320, s8, s31, s32, hb']
   refine ⟨i64c (by omega), g, fun j hj1 hj2 => ?_⟩
   by_cases hj : j = i
   ·rw [hj, show L.length - i = k + 1 by omega]; exact rw
   ·exact q j hj1 (by omega)
 ·rintro sl ro gn ⟨s1, s2, r4096, s5, s6, s7, r12320, s8, g, q⟩
  dsimp only at s1 s2 r4096 s5 s6 s7 r12320 s8
  have hk' : ¬ ((L.length : Nat) : Int) < (L.length : Nat) := by omega
  dsimp only at g q
  have hge : ¬ (0 : Int) ≤ (L.length : Int) - 1 - L.length := by omega
  simp (maxSteps := 10000000) (disch := first | assumption | omega) only [go_sem, ↓reduceIte, Nat.reduceEqDiff, reduceCtorEq, Nat.reduceAdd, Nat.reduceMul, Nat.reduceLeDiff, zc, Int.reduceToNat, s1, s2, r4096, s5, s6, s7, r12320, s8, hk', eq_false hge]
  obtain ⟨ws, hw⟩ := outL_rows (fun i => rws (fun b => bo (enI T L i b)) T.length) (n := T.length) (fun _ => zfe _ _) 28720 ((List.range L.length).map fun i => (i, L.length - i)) (upr ro 12320 1 .dead) (by
   rw [List.map_map]
   exact nodup_rev L.length) (fun p hp => by
   obtain ⟨i, hi, rfl⟩ := List.mem_map.1 hp
   have := List.mem_range.1 hi
   rw [zdb, if_neg (by omega)]
   exact q i this (by omega))
  rw [← arT_all] at hw
  simp only [zr, zb, retR, resL, outT, outL, zes, zez, oneV, zcp, zed, zfi, Ro.dl, St.ev, zhk, ↓za, ↓reduceIte, Nat.reduceEqDiff, Nat.reduceAdd, Nat.reduceLeDiff, r12320, hw, arT_len]
  rw [List.map_map]
  rfl
end
section
variable {T : List (List (List Int))} {c la : AV} {L : List Int}
set_option maxHeartbeats 8000000 in
theorem cEndS (ha : isLLL c T) (hc : CubeP T) (hl : isL la L) (hL : labP T.length L) (l0 : 1 ≤ L.length) (l8 : L.length ≤ 8) : CallOK Try.prog 39 [.agg [c], la] (enA T L) := by
 obtain ⟨h1, h16, h3⟩ := id hc
 have hm' : (L.length : Int) ≤ ((4294967296 : Nat) : Int) := by omega
 have hm2 : (T.length : Int) ≤ ((4294967296 : Nat) : Int) := by omega
 refine call_of (fn := Try.f39) (code := bodyOf Try.f39) Try.func39 rfl (by kernel_rfl) (noRef_enA _ _) ?_
 intro sl hs
 have s0 : sl 0 = .agg [c] := hs 0
 have s1 : sl 1 = la := hs 1
 dsimp only [Try.f39, bodyOf, Option.getD]
 refine Ycq ?_
 refine WK_for (fun k st => st.sl 1 = la ∧ st.sl 2 = .ptr 4096 1 [] 0 ∧ st.ro 4096 1 = some (.bx [c]) ∧ st.sl 5 = .ref 8224 1 [] 0 L.length ∧ st.ro 8224 1 = some (.bx (arT 24624 T.length L.length k)) ∧ st.sl 6 = i64 ((L.length : Int) - 1 - k) ∧ (st.gn 24624 = k) ∧ (∀ i, i < L.length → L.length ≤ i + k → st.ro 24624 (L.length - i) = some (enRow T L i))) L.length ?_ ?_ ?_
 ·refine Yal ?_
  exact ⟨congrArg (fun x => some (AV.bx x)) (arT_0 _ _ _), i64c (by omega), fun i h1 h2 => absurd h1 (by omega)⟩
 ·rintro k sl ro gn hk ⟨s1, s2, r4096, s5, r8224, s6, g, q⟩
  dsimp only at s1 s2 r4096 s5 r8224 s6
  have hk' : (k : Int) < (L.length : Nat) := by omega
  dsimp only at g q
  obtain ⟨i, hi⟩ : ∃ i, L.length = k + 1 + i := ⟨L.length - (k + 1), by omega⟩
  have e8 : ((L.length : Int) - 1 - k) = ((i : Nat) : Int) := by omega
  rw [e8] at s6
  have hge : (0 : Int) ≤ (i : Nat) := Int.natCast_nonneg _
  have hil : i + 1 ≤ L.length := by omega
  have hil' : i < L.length := by omega
  simp (maxSteps := 10000000) (disch := first | assumption | omega) only [go_sem, ↓reduceIte, Nat.reduceEqDiff, reduceCtorEq, Nat.reduceAdd, Nat.reduceMul, Nat.reduceLeDiff, zc, Int.reduceToNat, s1, s2, r4096, s5, r8224, s6, hk', hk, tB1, tB2, ti33, ti31, eq_true hge, kMake, isLLL_len ha, Int.natCast_nonneg, Int.le_refl, hm2, List.getD_cons_zero, rep_rws, arT_len, hil, g]
  refine WK_for (fun b st => st.sl 1 = la ∧ st.sl 2 = .ptr 4096 1 [] 0 ∧ st.ro 4096 1 = some (.bx [c]) ∧ st.sl 5 = .ref 8224 1 [] 0 L.length ∧ st.ro 8224 1 = some (.bx (arT 24624 T.length L.length k)) ∧ st.sl 6 = i64 (i : Int) ∧ st.sl 7 = .ref 24624 (k + 1) [] 0 T.length ∧ st.sl 8 = i64 (b : Int) ∧ (st.gn 24624 = k + 1) ∧ (st.ro 24624 (k + 1) = some (.row (rws (fun x => bo (enW T L i b 0 x)) T.length))) ∧ (∀ j, j < L.length → L.length ≤ j + k → st.ro 24624 (L.length - j) = some (enRow T L j))) T.length ?_ ?_ ?_
  ·simp only [↓za, ↓reduceIte, Nat.reduceEqDiff, zb, reduceCtorEq, rws_zero, s1, s2, r4096, s5, r8224, s6, hk', hk]
   refine ⟨rfl, congrArg (fun x => some (AV.row x)) enW_0, fun j hj1 hj2 => ?_⟩
   rw [if_neg (by omega)]
   exact q j hj1 hj2
  ·rintro b sl ro gn hb ⟨s1, s2, r4096, s5, r8224, s6, s7, s8, g, rw, q⟩
   dsimp only at s1 s2 r4096 s5 r8224 s6 s7 s8
   have hb' : (b : Int) < (T.length : Nat) := by omega
   dsimp only at g rw q
   by_cases hlast : (i : Int) = (L.length : Int) - 1
   ·have hwl := enW_last (T := T) (b := b) (n := T.length) (show L.length = i + 1 by omega)
    by_cases hb0 : b = 0
    ·have hb0' : (b : Int) = 0 := by omega
     simp (maxSteps := 10000000) (disch := first | assumption | omega) only [go_sem, ↓reduceIte, Nat.reduceEqDiff, reduceCtorEq, Nat.reduceAdd, Nat.reduceMul, Nat.reduceLeDiff, zc, Int.reduceToNat, s1, s2, r4096, s5, r8224, s6, s7, s8, hb', hb, tB1, tB2, isL_len hl, eq_true hlast, rw, zfe, eq_true hb0']
     refine ⟨i64c (by omega), g, congrArg (fun x => some (AV.row x)) (hwl true (by rw [decide_eq_true hb0])), fun j hj1 hj2 => ?_⟩
     rw [if_neg (by omega)]
     exact q j hj1 hj2
    ·have hb0' : ¬ (b : Int) = 0 := by omega
     simp (maxSteps := 10000000) (disch := first | assumption | omega) only [go_sem, ↓reduceIte, Nat.reduceEqDiff, reduceCtorEq, Nat.reduceAdd, Nat.reduceMul, Nat.reduceLeDiff, zc, Int.reduceToNat, s1, s2, r4096, s5, r8224, s6, s7, s8, hb', hb, tB1, tB2, isL_len hl, eq_true hlast, rw, zfe, eq_false hb0']
     refine ⟨i64c (by omega), g, congrArg (fun x => some (AV.row x)) (hwl false (by rw [decide_eq_false hb0])), fun j hj1 hj2 => ?_⟩
     rw [if_neg (by omega)]
     exact q j hj1 hj2
   ·have hlt : i + 1 < L.length := by omega
    have e1 : ((i : Int) + 1) = ((i + 1 : Nat) : Int) := rfl
    obtain ⟨d0, d1⟩ := hL (i + 1) hlt
    obtain ⟨d, ed⟩ := Int.eq_ofNat_of_zero_le d0
    have hm := isLLL_mat ha hb
    have lm := (h3 b hb).1
    have hdm : d < (mat T b).length := by omega
    have hr := isLL_row hm hdm
    have lr := ((h3 b hb).2 d (by omega)).1
    simp (maxSteps := 10000000) (disch := first | assumption | omega) only [go_sem, ↓reduceIte, Nat.reduceEqDiff, reduceCtorEq, Nat.reduceAdd, Nat.reduceMul, Nat.reduceLeDiff, zc, Int.reduceToNat, s1, s2, r4096, s5, r8224, s6, s7, s8, hb', hb, tB1, tB2, ti33, ti31, isL_len hl, eq_false hlast, rw]
    have hw0 := rw
    have ek2 : L.length - (i + 1) = k := by omega
    have hg2 := arT_get (s := 24624) (n := T.length) hlt (show L.length ≤ i + 1 + k by omega)
    rw [ek2] at hg2
    refine WK_for (fun x st => st.sl 1 = la ∧ st.sl 2 = .ptr 4096 1 [] 0 ∧ st.ro 4096 1 = some (.bx [c]) ∧ st.sl 5 = .ref 8224 1 [] 0 L.length ∧ st.ro 8224 1 = some (.bx (arT 24624 T.length L.length k)) ∧ st.sl 6 = i64 (i : Int) ∧ st.sl 7 = .ref 24624 (k + 1) [] 0 T.length ∧ st.sl 8 = i64 (b : Int) ∧ st.sl 9 = i64 (x : Int) ∧ (st.gn 24624 = k + 1) ∧ (st.ro 24624 (k + 1) = some (.row (rws (fun y => bo (enW T L i b x y)) T.length))) ∧ (∀ j, j < L.length → L.length ≤ j + k → st.ro 24624 (L.length - j) = some (enRow T L j))) T.length ?_ ?_ ?_
    ·simp only [↓za, ↓reduceIte, Nat.reduceEqDiff, zb, reduceCtorEq, rws_zero, s1, s2, r4096, s5, r8224, s6, s7, s8, hb', hb]
     exact ⟨rfl, g, hw0, q⟩
    ·rintro x sl ro gn hx ⟨s1, s2, r4096, s5, r8224, s6, s7, s8, s9, g, rw, q⟩
     dsimp only at s1 s2 r4096 s5 r8224 s6 s7 s8 s9
     have hx' : (x : Int) < (T.length : Nat) := by omega
     dsimp only at g rw q
     have rn := q (i + 1) hlt (by omega)
     rw [ek2, enRow] at rn
     have hx2 : x < (row (mat T b) d).length := by omega
     have hgx := rws_get (fun b => bo (enI T L (i + 1) b)) T.length x hx
     have hgb := enW_at (T := T) (L := L) (i := i) (c := x) hb
     have hst := fun v => enW_set (T := T) (L := L) (i := i) (b := b) (c := x) (n := T.length) v
     have hsuc : anyB (fun c => decide (at3 T b (atI L (i + 1)).toNat c ≠ 0) && enI T L (i + 1) c) (x + 1) = (anyB (fun c => decide (at3 T b (atI L (i + 1)).toNat c ≠ 0) && enI T L (i + 1) c) x || (decide (atI (row (mat T b) d) x ≠ 0) && enI T L (i + 1) x)) := by
      rw [ed]; rfl
     rw [hsuc] at hst
     cases hA : anyB (fun c => decide (at3 T b (atI L (i + 1)).toNat c ≠ 0) && enI T L (i + 1) c) x with
     | true =>
      rw [hA] at hgb hst
      have hst := hst true rfl
      simp (maxSteps := 10000000) (disch := first | assumption | omega) only [go_sem, ↓reduceIte, Nat.reduceEqDiff, reduceCtorEq, Nat.reduceAdd, Nat.reduceMul, Nat.reduceLeDiff, zc, Int.reduceToNat, s1, s2, r4096, s5, r8224, s6, s7, s8, s9, hx', hx, tB1, tB2, ti31, rw, hgb, zfe, hst, undef]
      refine FIN_of (by kernel_rfl) ?_
      refine Ycf ?_
      refine ⟨i64c (by omega), g, fun j hj1 hj2 => ?_⟩
      rw [if_neg (by omega)]
      exact q j hj1 hj2
     | false =>
      rw [hA] at hgb hst
      by_cases hz : atI (row (mat T b) d) x = 0
      ·have hst := hst false (by simp [hz])
       simp (maxSteps := 10000000) (disch := first | assumption | omega) only [go_sem, ↓reduceIte, Nat.reduceEqDiff, reduceCtorEq, Nat.reduceAdd, Nat.reduceMul, Nat.reduceLeDiff, zc, Int.reduceToNat, s1, s2, r4096, s5, r8224, s6, s7, s8, s9, hx', hx, tB1, tB2, ti31, ti33, e1, ed, hg2, rw, hgb, zfe, isL_idx hl hlt, isL_idx hr hx2, eq_true hz, hst, undef]
       refine FIN_of (by kernel_rfl) ?_
       refine Ycf ?_
       refine ⟨i64c (by omega), g, fun j hj1 hj2 => ?_⟩
       rw [if_neg (by omega)]
       exact q j hj1 hj2
      ·have hst := hst (enI T L (i + 1) x) (by simp [hz])
       simp (maxSteps := 10000000) (disch := first | assumption | omega) only [go_sem, ↓reduceIte, Nat.reduceEqDiff, reduceCtorEq, Nat.reduceAdd, Nat.reduceMul, Nat.reduceLeDiff, zc, Int.reduceToNat, s1, s2, r4096, s5, r8224, s6, s7, s8, s9, hx', hx, tB1, tB2, ti31, ti33, e1, ed, hg2, rw, rn, hgb, hgx, zfe, isL_idx hl hlt, isL_idx hr hx2, eq_false hz, hst, undef]
       refine FIN_of (by kernel_rfl) ?_
       refine Ycf ?_
       refine ⟨i64c (by omega), g, fun j hj1 hj2 => ?_⟩
       rw [if_neg (by omega)]
       exact q j hj1 hj2
    ·rintro sl ro gn ⟨s1, s2, r4096, s5, r8224, s6, s7, s8, s9, g, rw, q⟩
     dsimp only at s1 s2 r4096 s5 r8224 s6 s7 s8 s9
     have hx' : ¬ ((T.length : Nat) : Int) < (T.length : Nat) := by omega
     dsimp only at g rw q
     rw [enW_n hlt] at rw
     simp (maxSteps := 10000000) (disch := first | assumption | omega) only [go_sem, ↓reduceIte, Nat.reduceEqDiff, reduceCtorEq, Nat.reduceAdd, Nat.reduceMul, Nat.reduceLeDiff, zc, Int.reduceToNat, s1, s2, r4096, s5, r8224, s6, s7, s8, s9, hx', tB1, rw]
     exact ⟨i64c (by omega), g, q⟩
  ·rintro sl ro gn ⟨s1, s2, r4096, s5, r8224, s6, s7, s8, g, rw, q⟩
   dsimp only at s1 s2 r4096 s5 r8224 s6 s7 s8
   have hb' : ¬ ((T.length : Nat) : Int) < (T.length : Nat) := by omega
   dsimp only at g rw q
   have rw' := rw
   rw [enW_end] at rw'
   simp (maxSteps := 10000000) (disch := first | assumption | omega) only [go_sem, ↓reduceIte, Nat.reduceEqDiff, reduceCtorEq, Nat.reduceAdd, Nat.reduceMul, Nat.reduceLeDiff, zc, Int.reduceToNat, s1, s2, r4096, s5, r8224, s6, s7, s8, hb', tB1, tB2, rw, arT_len, hil, arT_set hi]
   refine ⟨i64c (by omega), g, fun j hj1 hj2 => ?_⟩
   by_cases hj : j = i
   ·rw [hj, show L.length - i = k + 1 by omega]; exact rw'
   ·exact q j hj1 (by omega)
 ·rintro sl ro gn ⟨s1, s2, r4096, s5, r8224, s6, g, q⟩
  dsimp only at s1 s2 r4096 s5 r8224 s6
  have hk' : ¬ ((L.length : Nat) : Int) < (L.length : Nat) := by omega
  dsimp only at g q
  have hge : ¬ (0 : Int) ≤ (L.length : Int) - 1 - L.length := by omega
  simp (maxSteps := 10000000) (disch := first | assumption | omega) only [go_sem, ↓reduceIte, Nat.reduceEqDiff, reduceCtorEq, Nat.reduceAdd, Nat.reduceMul, Nat.reduceLeDiff, zc, Int.reduceToNat, s1, s2, r4096, s5, r8224, s6, hk', eq_false hge]
  obtain ⟨ws, hw⟩ := outL_rows (fun i => rws (fun b => bo (enI T L i b)) T.length) (n := T.length) (fun _ => zfe _ _) 24624 ((List.range L.length).map fun i => (i, L.length - i)) (upr ro 8224 1 .dead) (by
   rw [List.map_map]
   exact nodup_rev L.length) (fun p hp => by
   obtain ⟨i, hi, rfl⟩ := List.mem_map.1 hp
   have := List.mem_range.1 hi
   rw [zdb, if_neg (by omega)]
   exact q i this (by omega))
  rw [← arT_all] at hw
  simp only [zr, zb, retR, resL, outT, outL, zes, zez, oneV, zcp, zed, zfi, Ro.dl, St.ev, zhk, ↓za, ↓reduceIte, Nat.reduceEqDiff, Nat.reduceAdd, Nat.reduceLeDiff, r8224, hw, arT_len]
  rw [List.map_map]
  rfl
end
end Go.Proofs.Ythfgjapmgjhccaa
