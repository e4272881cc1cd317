/- Texts joined: Su4 Su5 Su6. -/
import Derived.Test.YthfgjapmgjhccaaSa
set_option linter.all false
/- Surfaces: their numbers. -/
namespace Go.Proofs.Ythfgjapmgjhccaa
open Go.RowKit
set_option maxRecDepth 1000000
open Classical in
noncomputable def stB (T : List (List (List Int))) (o : Option (List Int)) (Y : List Int) : Option (List Int) := o.bind fun X => if fitV T X Y then some (mvL T X Y) else none
noncomputable def stV (T : List (List (List Int))) (X : List Int) (Ys : List (List Int)) : Option (List Int) := Ys.foldl (stB T) (some X)
noncomputable def labV (T : List (List (List Int))) (L : List Int) : List (List Int) := L.map fun l => oneL T.length l.toNat
noncomputable def ysV (T : List (List (List Int))) (g : Nat) (L : List Int) : List (List Int) := labV T L ++ List.replicate g (hdL T)
noncomputable def surfO (T : List (List (List Int))) (g : Nat) (L : List Int) : Option (List Int) := stV T (oneL T.length 0) (ysV T g L)
noncomputable def surfR (T : List (List (List Int))) (g : Nat) (L : List Int) : Int := match surfO T g L with
 | some Z => atI Z 0
 | none => -1
section
variable {T : List (List (List Int))} {X Y Z : List Int} {Ys : List (List Int)} {m : Int}
theorem st_none (T : List (List (List Int))) : ∀ Ys : List (List Int), Ys.foldl (stB T) none = none
 | [] => rfl
 | _ :: Ys => st_none T Ys
theorem st_app {As Bs : List (List Int)} : stV T X (As ++ Bs) = match stV T X As with
  | some Z => stV T Z Bs
  | none => none := by
 unfold stV
 rw [List.foldl_append]
 cases As.foldl (stB T) (some X) with
 | some Z => rfl
 | none => exact st_none T Bs
theorem st_take {i : Nat} (hi : i < Ys.length) (h : stV T X (Ys.take i) = some Z) : stV T X (Ys.take (i + 1)) = stB T (some Z) (Ys.getD i []) := by
 have e : Ys.take (i + 1) = Ys.take i ++ [Ys.getD i []] := by
  rw [List.getD_eq_getElem?_getD, List.getElem?_eq_getElem hi, List.take_succ, List.getElem?_eq_getElem hi]
  rfl
 rw [e, st_app, h]
 rfl
theorem st_bad {i : Nat} (h : stV T X (Ys.take i) = none) : stV T X Ys = none := by
 rw [← List.take_append_drop i Ys, st_app, h]
theorem mv_vc (hc : CubeP T) {m1 m2 : Int} (hX : VcP T X m1) (hY : VcP T Y m2) (hf : fitV T X Y) : VcP T (mvL T X Y) 1000000000000 := by
 refine ⟨zfe _ _, fun k hk => ?_⟩
 unfold mvL
 rw [atI_rws _ hk]
 exact ⟨pS_nn hc hX hY (Nat.le_refl _) hk, hf k hk⟩
theorem labV_at (T : List (List (List Int))) {L : List Int} {i : Nat} (hi : i < L.length) : (labV T L).getD i [] = oneL T.length (atI L i).toNat := by
 unfold labV atI
 rw [List.getD_eq_getElem?_getD, List.getElem?_map, List.getD_eq_getElem?_getD, List.getElem?_eq_getElem hi]
 rfl
theorem rep_at {α : Type} {g i : Nat} (x d : α) (hi : i < g) : (List.replicate g x).getD i d = x := by
 rw [List.getD_eq_getElem?_getD, List.getElem?_replicate, if_pos hi]
 rfl
end
theorem oneL_len (n i : Nat) : (oneL n i).length = n := zfe _ _
theorem mvL_len (T : List (List (List Int))) (X Y : List Int) : (mvL T X Y).length = T.length := zfe _ _
theorem surf_bad {T : List (List (List Int))} {L : List Int} {g j : Nat} (h : stV T (oneL T.length 0) ((labV T L).take j) = none) : surfR T g L = -1 := by
 unfold surfR surfO ysV
 rw [st_app, st_bad h]
theorem surf_bad2 {T : List (List (List Int))} {L Z : List Int} {g j : Nat} (hz : stV T (oneL T.length 0) (labV T L) = some Z) (h : stV T Z ((List.replicate g (hdL T)).take j) = none) : surfR T g L = -1 := by
 unfold surfR surfO ysV
 rw [st_app, hz]
 show (match stV T Z (List.replicate g (hdL T)) with | some Z => atI Z 0 | none => -1) = -1
 rw [st_bad h]
theorem surf_ok {T : List (List (List Int))} {L Z Z' : List Int} {g : Nat} (hz : stV T (oneL T.length 0) (labV T L) = some Z) (h : stV T Z (List.replicate g (hdL T)) = some Z') : surfR T g L = atI Z' 0 := by
 unfold surfR surfO ysV
 rw [st_app, hz]
 show (match stV T Z (List.replicate g (hdL T)) with | some Z => atI Z 0 | none => -1) = _
 rw [h]
section
variable {T : List (List (List Int))} {c la : AV} {L : List Int} {g : Nat}
set_option maxHeartbeats 8000000 in
theorem cSurfI (ha : isLLL c T) (hR : RingP T) (hl : isL la L) (hL : labP T.length L) (l8 : L.length ≤ 8) (hg : g ≤ 20) : CallOK Try.prog 25 [.agg [c], i64 (g : Int), la] (i64 (surfR T g L)) := by
 obtain ⟨h1, h16, h3⟩ := id hR.1
 have cv0 := cVecI ha h16 (i := 0) (by omega)
 have lY : (labV T L).length = L.length := List.length_map _
 have hd := hd_vc hR
 have hdl : (hdL T).length = T.length := zfe _ _
 have ch := cHandI ha hR
 refine call_of (fn := Try.f25) (code := bodyOf Try.f25) Try.func25 rfl (by kernel_rfl) (rfl) ?_
 intro sl hs
 have s0 : sl 0 = .agg [c] := hs 0
 have s1 : sl 1 = i64 (g : Int) := hs 1
 have s2 : sl 2 = la := hs 2
 dsimp only [Try.f25, bodyOf, Option.getD]
 refine Yaf ?_
 refine CLL_pure _ cv0 PUt rfl rfl ?_
 refine Ydv ?_
 refine WK_for (fun i st => st.sl 1 = i64 (g : Int) ∧ st.sl 2 = la ∧ st.sl 3 = .ptr 4096 1 [] 0 ∧ st.ro 4096 1 = some (.bx [c]) ∧ st.sl 12 = la ∧ st.sl 13 = i64 (L.length : Int) ∧ st.sl 14 = i64 (i : Int) ∧ (∃ sx gx Z, (sx = 8208 ∨ sx = 24656) ∧ st.sl 7 = .ref sx gx [] 0 T.length ∧ st.ro sx gx = some (rowL Z) ∧ gx ≤ st.gn sx ∧ stV T (oneL T.length 0) ((labV T L).take i) = some Z ∧ VcP T Z 1000000000000)) L.length ?_ ?_ ?_
 ·refine Ycm ?_
  exact ⟨rfl, 8208, 1, oneL T.length 0, .inl rfl, rfl, rfl, Nat.le_refl _, rfl, one_vc T 0 (by decide)⟩
 ·rintro i sl ro gn hi ⟨s1, s2, s3, r4096, s12, s13, s14, pz⟩
  dsimp only at s1 s2 s3 r4096 s12 s13 s14
  have hi' : (i : Int) < (L.length : Nat) := by omega
  dsimp only at pz
  obtain ⟨sx, gx, Z, hsx, s7, rz, lz, eZ, hZ⟩ := pz
  obtain ⟨l0, l1⟩ := hL i hi
  obtain ⟨d, el⟩ := Int.eq_ofNat_of_zero_le l0
  have hd' : d < T.length := by omega
  have cv := cVecI ha h16 hd'
  have cl := cLimI ha hR.1 (isL_imm Z) (isL_imm (oneL T.length d)) hZ (one_vc T d (by decide))
  rcases hsx with rfl | rfl
  ·have hsh : shO (blkO (ro 8208 gx)) = true := by rw [rz]; exact noRef_rowL Z
   by_cases hf : fitV T Z (oneL T.length d)
   ·have e1 : limR T Z (oneL T.length d) = rowL (mvL T Z (oneL T.length d)) := if_pos hf
    have e2 : stV T (oneL T.length 0) ((labV T L).take (i + 1)) = some (mvL T Z (oneL T.length d)) := by
     rw [st_take (by omega) eZ, labV_at T hi, el, Int.toNat_natCast]
     exact if_pos hf
    rw [e1] at cl
    refine Ybb ?_
    refine CLLD_pure _ cv PUt rfl ?_
    refine Yax ?_
    refine CLLD_q _ cl (.cons (exq_agg (n := 7) (.cons (exq_LLL ha (by decide)) .nil)) (.cons (exq_refL (n := 8) (s := 8208) (g := gx) (xs := Z) (Ue rz) (hZ.l).symm (by decide)) (.cons (exq_refL (n := 8) (s := 24640) (g := gn 24640 + 1) (xs := oneL T.length d) Ur (by rw [oneL_len]) (by decide)) .nil))) rfl (noI_rowL _) ?_
    refine Ydf ?_
    refine FIN_of (by kernel_rfl) ?_
    refine Ybd ?_
    exact ⟨i64c (by omega), 24656, gn 24656 + 1, mvL T Z (oneL T.length d), .inr rfl, rfl, Ur, Ur, e2, mv_vc hR.1 hZ (one_vc T d (m := 1) (by decide)) hf⟩
   ·have e1 : limR T Z (oneL T.length d) = nilA := if_neg hf
    have e2 : stV T (oneL T.length 0) ((labV T L).take (i + 1)) = none := by
     rw [st_take (by omega) eZ, labV_at T hi, el, Int.toNat_natCast]
     exact if_neg hf
    rw [e1] at cl
    refine Ybb ?_
    refine CLLD_pure _ cv PUt rfl ?_
    refine Yax ?_
    refine CLLD_q _ cl (.cons (exq_agg (n := 7) (.cons (exq_LLL ha (by decide)) .nil)) (.cons (exq_refL (n := 8) (s := 8208) (g := gx) (xs := Z) (Ue rz) (hZ.l).symm (by decide)) (.cons (exq_refL (n := 8) (s := 24640) (g := gn 24640 + 1) (xs := oneL T.length d) Ur (by rw [oneL_len]) (by decide)) .nil))) rfl rfl ?_
    refine Yea ?_
    refine FIN_of (by kernel_rfl) ?_
    refine Ybd ?_
    simp only [zr, zb, retR, resL, outT, outL, zes, zez, oneV, zcp, zed, zfi, Ro.dl, St.ev, zhk, ↓za, ↓reduceIte, Nat.reduceEqDiff, Nat.reduceAdd, Nat.reduceLeDiff, surf_bad e2]
  ·have hsh : shO (blkO (ro 24656 gx)) = true := by rw [rz]; exact noRef_rowL Z
   by_cases hf : fitV T Z (oneL T.length d)
   ·have e1 : limR T Z (oneL T.length d) = rowL (mvL T Z (oneL T.length d)) := if_pos hf
    have e2 : stV T (oneL T.length 0) ((labV T L).take (i + 1)) = some (mvL T Z (oneL T.length d)) := by
     rw [st_take (by omega) eZ, labV_at T hi, el, Int.toNat_natCast]
     exact if_pos hf
    rw [e1] at cl
    refine Ybb ?_
    refine CLLD_pure _ cv PUt rfl ?_
    refine Yax ?_
    refine CLLD_q _ cl (.cons (exq_agg (n := 7) (.cons (exq_LLL ha (by decide)) .nil)) (.cons (exq_refL (n := 8) (s := 24656) (g := gx) (xs := Z) (Ue rz) (hZ.l).symm (by decide)) (.cons (exq_refL (n := 8) (s := 24640) (g := gn 24640 + 1) (xs := oneL T.length d) Ur (by rw [oneL_len]) (by decide)) .nil))) rfl (noI_rowL _) ?_
    refine Ydf ?_
    refine FIN_of (by kernel_rfl) ?_
    refine Ybd ?_
    exact ⟨i64c (by omega), 24656, gn 24656 + 1, mvL T Z (oneL T.length d), .inr rfl, rfl, Ur, Ur, e2, mv_vc hR.1 hZ (one_vc T d (m := 1) (by decide)) hf⟩
   ·have e1 : limR T Z (oneL T.length d) = nilA := if_neg hf
    have e2 : stV T (oneL T.length 0) ((labV T L).take (i + 1)) = none := by
     rw [st_take (by omega) eZ, labV_at T hi, el, Int.toNat_natCast]
     exact if_neg hf
    rw [e1] at cl
    refine Ybb ?_
    refine CLLD_pure _ cv PUt rfl ?_
    refine Yax ?_
    refine CLLD_q _ cl (.cons (exq_agg (n := 7) (.cons (exq_LLL ha (by decide)) .nil)) (.cons (exq_refL (n := 8) (s := 24656) (g := gx) (xs := Z) (Ue rz) (hZ.l).symm (by decide)) (.cons (exq_refL (n := 8) (s := 24640) (g := gn 24640 + 1) (xs := oneL T.length d) Ur (by rw [oneL_len]) (by decide)) .nil))) rfl rfl ?_
    refine Yea ?_
    refine FIN_of (by kernel_rfl) ?_
    refine Ybd ?_
    simp only [zr, zb, retR, resL, outT, outL, zes, zez, oneV, zcp, zed, zfi, Ro.dl, St.ev, zhk, ↓za, ↓reduceIte, Nat.reduceEqDiff, Nat.reduceAdd, Nat.reduceLeDiff, surf_bad e2]
 ·rintro sl ro gn ⟨s1, s2, s3, r4096, s12, s13, s14, pz⟩
  dsimp only at s1 s2 s3 r4096 s12 s13 s14
  have hi' : ¬ ((L.length : Nat) : Int) < (L.length : Nat) := by omega
  dsimp only at pz
  obtain ⟨sx, gx, Z, hsx, s7, rz, lz, eZ, hZ⟩ := pz
  rw [List.take_of_length_le (by omega)] at eZ
  simp (maxSteps := 10000000) (disch := first | assumption | omega) only [go_sem, ↓reduceIte, Nat.reduceEqDiff, reduceCtorEq, Nat.reduceAdd, Nat.reduceMul, Nat.reduceLeDiff, zc, Int.reduceToNat, s1, s2, s3, r4096, s12, s13, s14, hi', s7]
  refine WK_for (fun u st => st.sl 3 = .ptr 4096 1 [] 0 ∧ st.ro 4096 1 = some (.bx [c]) ∧ st.sl 27 = i64 (g : Int) ∧ st.sl 28 = i64 (u : Int) ∧ (∃ sx gx W, (sx = 8208 ∨ sx = 24656 ∨ sx = 49216) ∧ st.sl 7 = .ref sx gx [] 0 T.length ∧ st.ro sx gx = some (rowL W) ∧ gx ≤ st.gn sx ∧ stV T Z ((List.replicate g (hdL T)).take u) = some W ∧ VcP T W 1000000000000)) g ?_ ?_ ?_
  ·simp only [↓za, ↓reduceIte, Nat.reduceEqDiff, zb, reduceCtorEq, rws_zero, s1, s2, s3, r4096, s12, s13, s14, hi']
   refine ⟨rfl, sx, gx, Z, ?_, s7, rz, lz, rfl, hZ⟩
   rcases hsx with e | e
   ·exact .inl e
   ·exact .inr (.inl e)
  ·rintro u sl ro gn hu ⟨s3, r4096, s27, s28, pz2⟩
   dsimp only at s3 r4096 s27 s28
   have hu' : (u : Int) < (g : Nat) := by omega
   dsimp only at pz2
   obtain ⟨sx, gx, W, hsx, s7, rz, lz, eW, hW⟩ := pz2
   have cl := cLimI ha hR.1 (isL_imm W) (isL_imm (hdL T)) hW hd
   rcases hsx with rfl | rfl | rfl
   ·have hsh : shO (blkO (ro 8208 gx)) = true := by rw [rz]; exact noRef_rowL W
    by_cases hf : fitV T W (hdL T)
    ·have e1 : limR T W (hdL T) = rowL (mvL T W (hdL T)) := if_pos hf
     have e2 : stV T Z ((List.replicate g (hdL T)).take (u + 1)) = some (mvL T W (hdL T)) := by
      rw [st_take (by rw [List.length_replicate]; exact hu) eW, rep_at _ _ hu]
      exact if_pos hf
     rw [e1] at cl
     refine Yap ?_
     refine CLLD_pure _ ch PUt rfl ?_
     refine Yan ?_
     refine CLLD_q _ cl (.cons (exq_agg (n := 7) (.cons (exq_LLL ha (by decide)) .nil)) (.cons (exq_refL (n := 8) (s := 8208) (g := gx) (xs := W) (Ue rz) (hW.l).symm (by decide)) (.cons (exq_refL (n := 8) (s := 49200) (g := gn 49200 + 1) (xs := hdL T) Ur hdl.symm (by decide)) .nil))) rfl (noI_rowL _) ?_
     refine Ybr ?_
     refine FIN_of (by kernel_rfl) ?_
     refine Yar ?_
     exact ⟨i64c (by omega), 49216, gn 49216 + 1, mvL T W (hdL T), .inr (.inr rfl), rfl, Ur, Ur, e2, mv_vc hR.1 hW hd hf⟩
    ·have e1 : limR T W (hdL T) = nilA := if_neg hf
     have e2 : stV T Z ((List.replicate g (hdL T)).take (u + 1)) = none := by
      rw [st_take (by rw [List.length_replicate]; exact hu) eW, rep_at _ _ hu]
      exact if_neg hf
     rw [e1] at cl
     refine Yap ?_
     refine CLLD_pure _ ch PUt rfl ?_
     refine Yan ?_
     refine CLLD_q _ cl (.cons (exq_agg (n := 7) (.cons (exq_LLL ha (by decide)) .nil)) (.cons (exq_refL (n := 8) (s := 8208) (g := gx) (xs := W) (Ue rz) (hW.l).symm (by decide)) (.cons (exq_refL (n := 8) (s := 49200) (g := gn 49200 + 1) (xs := hdL T) Ur hdl.symm (by decide)) .nil))) rfl rfl ?_
     refine Ycl ?_
     refine FIN_of (by kernel_rfl) ?_
     refine Yar ?_
     exact Ydm
   ·have hsh : shO (blkO (ro 24656 gx)) = true := by rw [rz]; exact noRef_rowL W
    by_cases hf : fitV T W (hdL T)
    ·have e1 : limR T W (hdL T) = rowL (mvL T W (hdL T)) := if_pos hf
     have e2 : stV T Z ((List.replicate g (hdL T)).take (u + 1)) = some (mvL T W (hdL T)) := by
      rw [st_take (by rw [List.length_replicate]; exact hu) eW, rep_at _ _ hu]
      exact if_pos hf
     rw [e1] at cl
     refine Yap ?_
     refine CLLD_pure _ ch PUt rfl ?_
     refine Yan ?_
     refine CLLD_q _ cl (.cons (exq_agg (n := 7) (.cons (exq_LLL ha (by decide)) .nil)) (.cons (exq_refL (n := 8) (s := 24656) (g := gx) (xs := W) (Ue rz) (hW.l).symm (by decide)) (.cons (exq_refL (n := 8) (s := 49200) (g := gn 49200 + 1) (xs := hdL T) Ur hdl.symm (by decide)) .nil))) rfl (noI_rowL _) ?_
     refine Ybr ?_
     refine FIN_of (by kernel_rfl) ?_
     refine Yar ?_
     exact ⟨i64c (by omega), 49216, gn 49216 + 1, mvL T W (hdL T), .inr (.inr rfl), rfl, Ur, Ur, e2, mv_vc hR.1 hW hd hf⟩
    ·have e1 : limR T W (hdL T) = nilA := if_neg hf
     have e2 : stV T Z ((List.replicate g (hdL T)).take (u + 1)) = none := by
      rw [st_take (by rw [List.length_replicate]; exact hu) eW, rep_at _ _ hu]
      exact if_neg hf
     rw [e1] at cl
     refine Yap ?_
     refine CLLD_pure _ ch PUt rfl ?_
     refine Yan ?_
     refine CLLD_q _ cl (.cons (exq_agg (n := 7) (.cons (exq_LLL ha (by decide)) .nil)) (.cons (exq_refL (n := 8) (s := 24656) (g := gx) (xs := W) (Ue rz) (hW.l).symm (by decide)) (.cons (exq_refL (n := 8) (s := 49200) (g := gn 49200 + 1) (xs := hdL T) Ur hdl.symm (by decide)) .nil))) rfl rfl ?_
     refine Ycl ?_
     refine FIN_of (by kernel_rfl) ?_
     refine Yar ?_
     exact Ydm
   ·have hsh : shO (blkO (ro 49216 gx)) = true := by rw [rz]; exact noRef_rowL W
    by_cases hf : fitV T W (hdL T)
    ·have e1 : limR T W (hdL T) = rowL (mvL T W (hdL T)) := if_pos hf
     have e2 : stV T Z ((List.replicate g (hdL T)).take (u + 1)) = some (mvL T W (hdL T)) := by
      rw [st_take (by rw [List.length_replicate]; exact hu) eW, rep_at _ _ hu]
      exact if_pos hf
     rw [e1] at cl
     refine Yap ?_
     refine CLLD_pure _ ch PUt rfl ?_
     refine Yan ?_
     refine CLLD_q _ cl (.cons (exq_agg (n := 7) (.cons (exq_LLL ha (by decide)) .nil)) (.cons (exq_refL (n := 8) (s := 49216) (g := gx) (xs := W) (Ue rz) (hW.l).symm (by decide)) (.cons (exq_refL (n := 8) (s := 49200) (g := gn 49200 + 1) (xs := hdL T) Ur hdl.symm (by decide)) .nil))) rfl (noI_rowL _) ?_
     refine Ybr ?_
     refine FIN_of (by kernel_rfl) ?_
     refine Yar ?_
     exact ⟨i64c (by omega), 49216, gn 49216 + 1, mvL T W (hdL T), .inr (.inr rfl), rfl, Ur, Ur, e2, mv_vc hR.1 hW hd hf⟩
    ·have e1 : limR T W (hdL T) = nilA := if_neg hf
     have e2 : stV T Z ((List.replicate g (hdL T)).take (u + 1)) = none := by
      rw [st_take (by rw [List.length_replicate]; exact hu) eW, rep_at _ _ hu]
      exact if_neg hf
     rw [e1] at cl
     refine Yap ?_
     refine CLLD_pure _ ch PUt rfl ?_
     refine Yan ?_
     refine CLLD_q _ cl (.cons (exq_agg (n := 7) (.cons (exq_LLL ha (by decide)) .nil)) (.cons (exq_refL (n := 8) (s := 49216) (g := gx) (xs := W) (Ue rz) (hW.l).symm (by decide)) (.cons (exq_refL (n := 8) (s := 49200) (g := gn 49200 + 1) (xs := hdL T) Ur hdl.symm (by decide)) .nil))) rfl rfl ?_
     refine Ycl ?_
     refine FIN_of (by kernel_rfl) ?_
     refine Yar ?_
     exact Ydm
  ·rintro sl ro gn ⟨s3, r4096, s27, s28, pz2⟩
   dsimp only at s3 r4096 s27 s28
   have hu' : ¬ ((g : Nat) : Int) < (g : Nat) := by omega
   dsimp only at pz2
   obtain ⟨sx, gx, W, hsx, s7, rz, lz, eW, hW⟩ := pz2
   rw [List.take_of_length_le (by rw [List.length_replicate]; omega)] at eW
   have hn0 : 0 < T.length := by omega
   have hW0 : (W.map i64)[0]? = some (i64 (atI W 0)) := by
    rw [List.getElem?_map, List.getElem?_eq_getElem (by rw [hW.l]; omega)]
    unfold atI
    rw [List.getD_eq_getElem?_getD, List.getElem?_eq_getElem (by rw [hW.l]; omega)]
    rfl
   have hlw : W.length = T.length := hW.l
   rw [surf_ok eZ eW]
   have hk0 : ∀ (t : Option TI) (ro : Ro) (a : AV), kIdx t ro a (.sc (.int .i64 0)) = kIdx t ro a (i64 ((0 : Nat) : Int)) := fun _ _ _ => rfl
   simp (maxSteps := 10000000) (disch := first | assumption | omega) only [go_sem, ↓reduceIte, Nat.reduceEqDiff, reduceCtorEq, Nat.reduceAdd, Nat.reduceMul, Nat.reduceLeDiff, zc, Int.reduceToNat, s3, r4096, s27, s28, hu', s7, rz, rowL, hn0, hW0, hk0]
   exact Yaa
end
end Go.Proofs.Ythfgjapmgjhccaa
/- Surfaces: their numbers, by the reference. -/
namespace Go.Proofs.Ythfgjapmgjhccaa
open Go.RowKit
set_option maxRecDepth 1000000
theorem impE_tV (b : Nat) (gn : Nat → Nat) (cs : List AV) (v : Value) : impE b gn (.tup [.row cs, .sc v]) = ⟨.tup [.ref b (gn b + 1) [] 0 cs.length, .sc v], none, [], [(b, .row cs)]⟩ := nr _
theorem impE_tS (b : Nat) (gn : Nat → Nat) (v x : Value) : impE b gn (.tup [.sc v, .sc x]) = ⟨.tup [.sc v, .sc x], none, [], []⟩ := nr _
theorem noI_tV (X : List Int) {v : Value} : noI (.tup [rowL X, .sc v]) = true := by
 have h := noI_rowL X
 show (noI (rowL X) && (noI (.sc v) && true)) = true
 rw [h]; rfl
noncomputable def numS (T : List (List (List Int))) (g : Nat) (L : List Int) : AV := match surfO T g L with
 | some Z => .tup [i64 (atI Z 0), bo true]
 | none => .tup [i64 0, bo false]
theorem numS_bad {T : List (List (List Int))} {L : List Int} {g j : Nat} (h : stV T (oneL T.length 0) ((labV T L).take j) = none) : numS T g L = .tup [i64 0, bo false] := by
 unfold numS surfO ysV
 rw [st_app, st_bad h]
theorem numS_bad2 {T : List (List (List Int))} {L Z : List Int} {g j : Nat} (hz : stV T (oneL T.length 0) (labV T L) = some Z) (h : stV T Z ((List.replicate g (hdL T)).take j) = none) : numS T g L = .tup [i64 0, bo false] := by
 unfold numS surfO ysV
 rw [st_app, hz]
 show (match stV T Z (List.replicate g (hdL T)) with | some Z => AV.tup [i64 (atI Z 0), bo true] | none => .tup [i64 0, bo false]) = _
 rw [st_bad h]
theorem numS_ok {T : List (List (List Int))} {L Z Z' : List Int} {g : Nat} (hz : stV T (oneL T.length 0) (labV T L) = some Z) (h : stV T Z (List.replicate g (hdL T)) = some Z') : numS T g L = .tup [i64 (atI Z' 0), bo true] := by
 unfold numS surfO ysV
 rw [st_app, hz]
 show (match stV T Z (List.replicate g (hdL T)) with | some Z => AV.tup [i64 (atI Z 0), bo true] | none => .tup [i64 0, bo false]) = _
 rw [h]
theorem noRef_numS (T : List (List (List Int))) (g : Nat) (L : List Int) : noRef (numS T g L) = true := by
 unfold numS
 split <;> rfl
section
variable {T : List (List (List Int))} {c la : AV} {L : List Int} {g : Nat}
set_option maxHeartbeats 16000000 in
theorem cNumS (ha : isLLL c T) (hR : RingP T) (hl : isL la L) (hL : labP T.length L) (l8 : L.length ≤ 8) (hg : g ≤ 20) : CallOK Try.prog 29 [.agg [c], i64 (g : Int), la] (numS T g L) := by
 obtain ⟨h1, h16, h3⟩ := id hR.1
 have cv0 := cOneS ha h16 (i := 0) (by omega)
 have lY : (labV T L).length = L.length := List.length_map _
 have hd := hd_vc hR
 have hdl : (hdL T).length = T.length := zfe _ _
 have ch := cHandS ha hR
 refine call_of (fn := Try.f29) (code := bodyOf Try.f29) Try.func29 rfl (by kernel_rfl) (noRef_numS _ _ _) ?_
 intro sl hs
 have s0 : sl 0 = .agg [c] := hs 0
 have s1 : sl 1 = i64 (g : Int) := hs 1
 have s2 : sl 2 = la := hs 2
 dsimp only [Try.f29, bodyOf, Option.getD]
 refine Yaf ?_
 refine CLLD_pure _ cv0 PUt rfl ?_
 refine Ydv ?_
 refine CLLD_pure _ ch PUt rfl ?_
 simp (maxSteps := 10000000) (disch := first | assumption | omega) only [go_sem, ↓reduceIte, Nat.reduceEqDiff, reduceCtorEq, Nat.reduceAdd, Nat.reduceMul, Nat.reduceLeDiff, zc, Int.reduceToNat, s0, s1, s2, impE_row, rowL, List.length_map, hdl]
 refine FIN_of (by kernel_rfl) ?_
 refine Yag ?_
 refine WK_for (fun i st => st.sl 1 = i64 (g : Int) ∧ st.sl 2 = la ∧ st.sl 3 = .ptr 4096 1 [] 0 ∧ st.ro 4096 1 = some (.bx [c]) ∧ st.sl 9 = .ref 8240 1 [] 0 T.length ∧ st.ro 8240 1 = some (rowL (hdL T)) ∧ st.sl 10 = i64 (i : Int) ∧ (∃ sx gx Z, (sx = 8208 ∨ sx = 24704) ∧ st.sl 8 = .ref sx gx [] 0 T.length ∧ st.ro sx gx = some (rowL Z) ∧ gx ≤ st.gn sx ∧ stV T (oneL T.length 0) ((labV T L).take i) = some Z ∧ VcP T Z 1000000000000)) L.length ?_ ?_ ?_
 ·refine Ycm ?_
  exact ⟨rfl, 8208, 1, oneL T.length 0, .inl rfl, rfl, rfl, Nat.le_refl _, rfl, one_vc T 0 (by decide)⟩
 ·rintro i sl ro gn hi ⟨s1, s2, s3, r4096, s9, r8240, s10, pz⟩
  dsimp only at s1 s2 s3 r4096 s9 r8240 s10
  have hi' : (i : Int) < (L.length : Nat) := by omega
  dsimp only at pz
  obtain ⟨sx, gx, Z, hsx, s8, rz, lz, eZ, hZ⟩ := pz
  obtain ⟨l0, l1⟩ := hL i hi
  obtain ⟨d, el⟩ := Int.eq_ofNat_of_zero_le l0
  have hd' : d < T.length := by omega
  have cv := cOneS ha h16 hd'
  have cl := cLimS ha hR.1 (isL_imm Z) (isL_imm (oneL T.length d)) hZ (one_vc T d (by decide))
  rcases hsx with rfl | rfl
  ·have hsh : shO (blkO (ro 8208 gx)) = true := by rw [rz]; exact noRef_rowL Z
   by_cases hf : fitV T Z (oneL T.length d)
   ·have e1 : limS T Z (oneL T.length d) = .tup [rowL (mvL T Z (oneL T.length d)), bo true] := if_pos hf
    have e2 : stV T (oneL T.length 0) ((labV T L).take (i + 1)) = some (mvL T Z (oneL T.length d)) := by
     rw [st_take (by omega) eZ, labV_at T hi, el, Int.toNat_natCast]
     exact if_pos hf
    rw [e1] at cl
    refine Yba ?_
    refine CLLD_pure _ cv PUt rfl ?_
    refine Yaw ?_
    refine CLLD_q _ cl (.cons (exq_agg (n := 7) (.cons (exq_LLL ha (by decide)) .nil)) (.cons (exq_refL (n := 8) (s := 8208) (g := gx) (xs := Z) (Ue rz) (hZ.l).symm (by decide)) (.cons (exq_refL (n := 8) (s := 24688) (g := gn 24688 + 1) (xs := oneL T.length d) Ur (by rw [oneL_len]) (by decide)) .nil))) rfl (noI_tV _) ?_
    refine Yda ?_
    refine FIN_of (by kernel_rfl) ?_
    refine Yec ?_
    exact ⟨i64c (by omega), 24704, gn 24704 + 1, mvL T Z (oneL T.length d), .inr rfl, rfl, Ur, Ur, e2, mv_vc hR.1 hZ (one_vc T d (m := 1) (by decide)) hf⟩
   ·have e1 : limS T Z (oneL T.length d) = .tup [nilA, bo false] := if_neg hf
    have e2 : stV T (oneL T.length 0) ((labV T L).take (i + 1)) = none := by
     rw [st_take (by omega) eZ, labV_at T hi, el, Int.toNat_natCast]
     exact if_neg hf
    rw [e1] at cl
    refine Yba ?_
    refine CLLD_pure _ cv PUt rfl ?_
    refine Yaw ?_
    refine CLLD_q _ cl (.cons (exq_agg (n := 7) (.cons (exq_LLL ha (by decide)) .nil)) (.cons (exq_refL (n := 8) (s := 8208) (g := gx) (xs := Z) (Ue rz) (hZ.l).symm (by decide)) (.cons (exq_refL (n := 8) (s := 24688) (g := gn 24688 + 1) (xs := oneL T.length d) Ur (by rw [oneL_len]) (by decide)) .nil))) rfl rfl ?_
    refine Ydu ?_
    refine FIN_of (by kernel_rfl) ?_
    refine Ydz ?_
    simp only [zr, zb, retR, resL, outT, outL, zes, zez, oneV, zcp, zed, zfi, Ro.dl, St.ev, zhk, ↓za, ↓reduceIte, Nat.reduceEqDiff, Nat.reduceAdd, Nat.reduceLeDiff, numS_bad e2]
  ·have hsh : shO (blkO (ro 24704 gx)) = true := by rw [rz]; exact noRef_rowL Z
   by_cases hf : fitV T Z (oneL T.length d)
   ·have e1 : limS T Z (oneL T.length d) = .tup [rowL (mvL T Z (oneL T.length d)), bo true] := if_pos hf
    have e2 : stV T (oneL T.length 0) ((labV T L).take (i + 1)) = some (mvL T Z (oneL T.length d)) := by
     rw [st_take (by omega) eZ, labV_at T hi, el, Int.toNat_natCast]
     exact if_pos hf
    rw [e1] at cl
    refine Yba ?_
    refine CLLD_pure _ cv PUt rfl ?_
    refine Yaw ?_
    refine CLLD_q _ cl (.cons (exq_agg (n := 7) (.cons (exq_LLL ha (by decide)) .nil)) (.cons (exq_refL (n := 8) (s := 24704) (g := gx) (xs := Z) (Ue rz) (hZ.l).symm (by decide)) (.cons (exq_refL (n := 8) (s := 24688) (g := gn 24688 + 1) (xs := oneL T.length d) Ur (by rw [oneL_len]) (by decide)) .nil))) rfl (noI_tV _) ?_
    refine Yda ?_
    refine FIN_of (by kernel_rfl) ?_
    refine Yec ?_
    exact ⟨i64c (by omega), 24704, gn 24704 + 1, mvL T Z (oneL T.length d), .inr rfl, rfl, Ur, Ur, e2, mv_vc hR.1 hZ (one_vc T d (m := 1) (by decide)) hf⟩
   ·have e1 : limS T Z (oneL T.length d) = .tup [nilA, bo false] := if_neg hf
    have e2 : stV T (oneL T.length 0) ((labV T L).take (i + 1)) = none := by
     rw [st_take (by omega) eZ, labV_at T hi, el, Int.toNat_natCast]
     exact if_neg hf
    rw [e1] at cl
    refine Yba ?_
    refine CLLD_pure _ cv PUt rfl ?_
    refine Yaw ?_
    refine CLLD_q _ cl (.cons (exq_agg (n := 7) (.cons (exq_LLL ha (by decide)) .nil)) (.cons (exq_refL (n := 8) (s := 24704) (g := gx) (xs := Z) (Ue rz) (hZ.l).symm (by decide)) (.cons (exq_refL (n := 8) (s := 24688) (g := gn 24688 + 1) (xs := oneL T.length d) Ur (by rw [oneL_len]) (by decide)) .nil))) rfl rfl ?_
    refine Ydu ?_
    refine FIN_of (by kernel_rfl) ?_
    refine Ydz ?_
    simp only [zr, zb, retR, resL, outT, outL, zes, zez, oneV, zcp, zed, zfi, Ro.dl, St.ev, zhk, ↓za, ↓reduceIte, Nat.reduceEqDiff, Nat.reduceAdd, Nat.reduceLeDiff, numS_bad e2]
 ·rintro sl ro gn ⟨s1, s2, s3, r4096, s9, r8240, s10, pz⟩
  dsimp only at s1 s2 s3 r4096 s9 r8240 s10
  have hi' : ¬ ((L.length : Nat) : Int) < (L.length : Nat) := by omega
  dsimp only at pz
  obtain ⟨sx, gx, Z, hsx, s8, rz, lz, eZ, hZ⟩ := pz
  rw [List.take_of_length_le (by omega)] at eZ
  simp (maxSteps := 10000000) (disch := first | assumption | omega) only [go_sem, ↓reduceIte, Nat.reduceEqDiff, reduceCtorEq, Nat.reduceAdd, Nat.reduceMul, Nat.reduceLeDiff, zc, Int.reduceToNat, s1, s2, s3, r4096, s9, r8240, s10, hi', s8]
  refine WK_for (fun u st => st.sl 1 = i64 ((g : Int) - u) ∧ st.sl 3 = .ptr 4096 1 [] 0 ∧ st.ro 4096 1 = some (.bx [c]) ∧ st.sl 9 = .ref 8240 1 [] 0 T.length ∧ st.ro 8240 1 = some (rowL (hdL T)) ∧ (∃ sx gx W, (sx = 8208 ∨ sx = 24704 ∨ sx = 49200) ∧ st.sl 8 = .ref sx gx [] 0 T.length ∧ st.ro sx gx = some (rowL W) ∧ gx ≤ st.gn sx ∧ stV T Z ((List.replicate g (hdL T)).take u) = some W ∧ VcP T W 1000000000000)) g ?_ ?_ ?_
  ·simp only [↓za, ↓reduceIte, Nat.reduceEqDiff, zb, reduceCtorEq, rws_zero, s1, s2, s3, r4096, s9, r8240, s10, hi']
   refine ⟨by simp, sx, gx, Z, ?_, s8, rz, lz, rfl, hZ⟩
   rcases hsx with e | e
   ·exact .inl e
   ·exact .inr (.inl e)
  ·rintro u sl ro gn hu ⟨s1, s3, r4096, s9, r8240, pz2⟩
   dsimp only at s1 s3 r4096 s9 r8240
   have hu' : (u : Int) < (g : Nat) := by omega
   dsimp only at pz2
   obtain ⟨sx, gx, W, hsx, s8, rz, lz, eW, hW⟩ := pz2
   have hgu : (0 : Int) < (g : Int) - u := by omega
   have cl := cLimS ha hR.1 (isL_imm W) (isL_imm (hdL T)) hW hd
   rcases hsx with rfl | rfl | rfl
   ·have hsh : shO (blkO (ro 8208 gx)) = true := by rw [rz]; exact noRef_rowL W
    by_cases hf : fitV T W (hdL T)
    ·have e1 : limS T W (hdL T) = .tup [rowL (mvL T W (hdL T)), bo true] := if_pos hf
     have e2 : stV T Z ((List.replicate g (hdL T)).take (u + 1)) = some (mvL T W (hdL T)) := by
      rw [st_take (by rw [List.length_replicate]; exact hu) eW, rep_at _ _ hu]
      exact if_pos hf
     rw [e1] at cl
     refine Yao ?_
     refine CLL_q _ cl (.cons (exq_agg (n := 7) (.cons (exq_LLL ha (by decide)) .nil)) (.cons (exq_refL (n := 8) (s := 8208) (g := gx) (xs := W) rz (hW.l).symm (by decide)) (.cons (exq_refL (n := 8) (s := 8240) (g := 1) (xs := hdL T) r8240 hdl.symm (by decide)) .nil))) rfl rfl (noI_tV _) ?_
     refine Ybj ?_
     exact ⟨i64c (by omega), 49200, gn 49200 + 1, mvL T W (hdL T), .inr (.inr rfl), rfl, Ur, Ur, e2, mv_vc hR.1 hW hd hf⟩
    ·have e1 : limS T W (hdL T) = .tup [nilA, bo false] := if_neg hf
     have e2 : stV T Z ((List.replicate g (hdL T)).take (u + 1)) = none := by
      rw [st_take (by rw [List.length_replicate]; exact hu) eW, rep_at _ _ hu]
      exact if_neg hf
     rw [e1] at cl
     refine Yao ?_
     refine CLL_q _ cl (.cons (exq_agg (n := 7) (.cons (exq_LLL ha (by decide)) .nil)) (.cons (exq_refL (n := 8) (s := 8208) (g := gx) (xs := W) rz (hW.l).symm (by decide)) (.cons (exq_refL (n := 8) (s := 8240) (g := 1) (xs := hdL T) r8240 hdl.symm (by decide)) .nil))) rfl rfl rfl ?_
     refine Ycg ?_
     exact Ydn
   ·have hsh : shO (blkO (ro 24704 gx)) = true := by rw [rz]; exact noRef_rowL W
    by_cases hf : fitV T W (hdL T)
    ·have e1 : limS T W (hdL T) = .tup [rowL (mvL T W (hdL T)), bo true] := if_pos hf
     have e2 : stV T Z ((List.replicate g (hdL T)).take (u + 1)) = some (mvL T W (hdL T)) := by
      rw [st_take (by rw [List.length_replicate]; exact hu) eW, rep_at _ _ hu]
      exact if_pos hf
     rw [e1] at cl
     refine Yao ?_
     refine CLL_q _ cl (.cons (exq_agg (n := 7) (.cons (exq_LLL ha (by decide)) .nil)) (.cons (exq_refL (n := 8) (s := 24704) (g := gx) (xs := W) rz (hW.l).symm (by decide)) (.cons (exq_refL (n := 8) (s := 8240) (g := 1) (xs := hdL T) r8240 hdl.symm (by decide)) .nil))) rfl rfl (noI_tV _) ?_
     refine Ybj ?_
     exact ⟨i64c (by omega), 49200, gn 49200 + 1, mvL T W (hdL T), .inr (.inr rfl), rfl, Ur, Ur, e2, mv_vc hR.1 hW hd hf⟩
    ·have e1 : limS T W (hdL T) = .tup [nilA, bo false] := if_neg hf
     have e2 : stV T Z ((List.replicate g (hdL T)).take (u + 1)) = none := by
      rw [st_take (by rw [List.length_replicate]; exact hu) eW, rep_at _ _ hu]
      exact if_neg hf
     rw [e1] at cl
     refine Yao ?_
     refine CLL_q _ cl (.cons (exq_agg (n := 7) (.cons (exq_LLL ha (by decide)) .nil)) (.cons (exq_refL (n := 8) (s := 24704) (g := gx) (xs := W) rz (hW.l).symm (by decide)) (.cons (exq_refL (n := 8) (s := 8240) (g := 1) (xs := hdL T) r8240 hdl.symm (by decide)) .nil))) rfl rfl rfl ?_
     refine Ycg ?_
     exact Ydn
   ·have hsh : shO (blkO (ro 49200 gx)) = true := by rw [rz]; exact noRef_rowL W
    by_cases hf : fitV T W (hdL T)
    ·have e1 : limS T W (hdL T) = .tup [rowL (mvL T W (hdL T)), bo true] := if_pos hf
     have e2 : stV T Z ((List.replicate g (hdL T)).take (u + 1)) = some (mvL T W (hdL T)) := by
      rw [st_take (by rw [List.length_replicate]; exact hu) eW, rep_at _ _ hu]
      exact if_pos hf
     rw [e1] at cl
     refine Yao ?_
     refine CLL_q _ cl (.cons (exq_agg (n := 7) (.cons (exq_LLL ha (by decide)) .nil)) (.cons (exq_refL (n := 8) (s := 49200) (g := gx) (xs := W) rz (hW.l).symm (by decide)) (.cons (exq_refL (n := 8) (s := 8240) (g := 1) (xs := hdL T) r8240 hdl.symm (by decide)) .nil))) rfl rfl (noI_tV _) ?_
     refine Ybj ?_
     exact ⟨i64c (by omega), 49200, gn 49200 + 1, mvL T W (hdL T), .inr (.inr rfl), rfl, Ur, Ur, e2, mv_vc hR.1 hW hd hf⟩
    ·have e1 : limS T W (hdL T) = .tup [nilA, bo false] := if_neg hf
     have e2 : stV T Z ((List.replicate g (hdL T)).take (u + 1)) = none := by
      rw [st_take (by rw [List.length_replicate]; exact hu) eW, rep_at _ _ hu]
      exact if_neg hf
     rw [e1] at cl
     refine Yao ?_
     refine CLL_q _ cl (.cons (exq_agg (n := 7) (.cons (exq_LLL ha (by decide)) .nil)) (.cons (exq_refL (n := 8) (s := 49200) (g := gx) (xs := W) rz (hW.l).symm (by decide)) (.cons (exq_refL (n := 8) (s := 8240) (g := 1) (xs := hdL T) r8240 hdl.symm (by decide)) .nil))) rfl rfl rfl ?_
     refine Ycg ?_
     exact Ydn
  ·rintro sl ro gn ⟨s1, s3, r4096, s9, r8240, pz2⟩
   dsimp only at s1 s3 r4096 s9 r8240
   have hu' : ¬ ((g : Nat) : Int) < (g : Nat) := by omega
   dsimp only at pz2
   obtain ⟨sx, gx, W, hsx, s8, rz, lz, eW, hW⟩ := pz2
   have hgu : ¬ (0 : Int) < (g : Int) - g := by omega
   rw [List.take_of_length_le (by rw [List.length_replicate]; omega)] at eW
   have hn0 : 0 < T.length := by omega
   have hW0 : (W.map i64)[0]? = some (i64 (atI W 0)) := by
    rw [List.getElem?_map, List.getElem?_eq_getElem (by rw [hW.l]; omega)]
    unfold atI
    rw [List.getD_eq_getElem?_getD, List.getElem?_eq_getElem (by rw [hW.l]; omega)]
    rfl
   have hlw : W.length = T.length := hW.l
   rw [numS_ok eZ eW]
   have hk0 : ∀ (t : Option TI) (ro : Ro) (a : AV), kIdx t ro a (.sc (.int .i64 0)) = kIdx t ro a (i64 ((0 : Nat) : Int)) := fun _ _ _ => rfl
   simp (maxSteps := 10000000) (disch := first | assumption | omega) only [go_sem, ↓reduceIte, Nat.reduceEqDiff, reduceCtorEq, Nat.reduceAdd, Nat.reduceMul, Nat.reduceLeDiff, zc, Int.reduceToNat, s1, s3, r4096, s9, r8240, hu', s8, rz, rowL, hn0, hW0, hk0, eq_false hgu]
   exact Yaa
end
theorem st_vc {T : List (List (List Int))} (hc : CubeP T) : ∀ {Ys : List (List Int)} {X Z : List Int}, VcP T X 1000000000000 → (∀ Y, Y ∈ Ys → VcP T Y 100000) → stV T X Ys = some Z → VcP T Z 1000000000000
 | [], X, Z, hX, _, h => by obtain rfl := Option.some.inj h; exact hX
 | Y :: Ys, X, Z, hX, hY, h => by
  have e : stV T X (Y :: Ys) = Ys.foldl (stB T) (stB T (some X) Y) := rfl
  rw [e] at h
  by_cases hf : fitV T X Y
  ·have e2 : stB T (some X) Y = some (mvL T X Y) := if_pos hf
   rw [e2] at h
   exact st_vc hc (mv_vc hc hX (hY Y (by simp)) hf) (fun Y' h' => hY Y' (by simp [h'])) h
  ·have e2 : stB T (some X) Y = none := if_neg hf
   rw [e2, st_none] at h
   cases h
theorem ys_vc {T : List (List (List Int))} (hR : RingP T) {g : Nat} {L : List Int} : ∀ Y, Y ∈ ysV T g L → VcP T Y 100000 := by
 intro Y hY
 rcases List.mem_append.1 hY with h | h
 ·obtain ⟨l, -, rfl⟩ := List.mem_map.1 h
  exact one_vc T _ (by decide)
 ·rw [(List.mem_replicate.1 h).2]
  exact hd_vc hR
theorem surf_vc {T : List (List (List Int))} (hR : RingP T) {g : Nat} {L Z : List Int} (h : surfO T g L = some Z) : VcP T Z 1000000000000 :=
 st_vc hR.1 (one_vc T 0 (by decide)) (ys_vc hR) h
theorem surf_nn {T : List (List (List Int))} (hR : RingP T) {g : Nat} {L Z : List Int} (h : surfO T g L = some Z) : 0 ≤ atI Z 0 ∧ atI Z 0 ≤ 1000000000000 := (surf_vc hR h).b 0 hR.1.1
open Classical in
noncomputable def sdV (T : List (List (List Int))) (g : Int) (L : List Int) : Int × Int :=
 if RingP T then if CmP T then if (0 ≤ g ∧ g ≤ 20) ∧ labP T.length L ∧ L.length ≤ 8 then (match surfO T g.toNat L with
  | some Z => (atI Z 0, 0)
  | none => (0, 3)) else (0, 2) else (0, 5) else (0, 1)
theorem sdV_1 {T : List (List (List Int))} {g : Int} {L : List Int} (h : ¬ RingP T) : sdV T g L = (0, 1) := if_neg h
theorem sdV_5 {T : List (List (List Int))} {g : Int} {L : List Int} (h : RingP T) (h2 : ¬ CmP T) : sdV T g L = (0, 5) := by unfold sdV; rw [if_pos h, if_neg h2]
theorem sdV_2 {T : List (List (List Int))} {g : Int} {L : List Int} (h : RingP T) (h2 : CmP T) (h3 : ¬ ((0 ≤ g ∧ g ≤ 20) ∧ labP T.length L ∧ L.length ≤ 8)) : sdV T g L = (0, 2) := by unfold sdV; rw [if_pos h, if_pos h2, if_neg h3]
theorem sdV_3 {T : List (List (List Int))} {g : Nat} {L : List Int} (h : RingP T) (h2 : CmP T) (h3 : (0 ≤ (g : Int) ∧ (g : Int) ≤ 20) ∧ labP T.length L ∧ L.length ≤ 8) (e : surfO T g L = none) : sdV T g L = (0, 3) := by unfold sdV; rw [if_pos h, if_pos h2, if_pos h3, Int.toNat_natCast, e]
theorem sdV_0 {T : List (List (List Int))} {g : Nat} {L Z : List Int} (h : RingP T) (h2 : CmP T) (h3 : (0 ≤ (g : Int) ∧ (g : Int) ≤ 20) ∧ labP T.length L ∧ L.length ≤ 8) (e : surfO T g L = some Z) : sdV T g L = (atI Z 0, 0) := by unfold sdV; rw [if_pos h, if_pos h2, if_pos h3, Int.toNat_natCast, e]
noncomputable abbrev sdA (T : List (List (List Int))) (g : Int) (L : List Int) : AV := .tup [i64 (sdV T g L).1, i64 (sdV T g L).2]
section
variable {T : List (List (List Int))} {c la : AV} {L : List Int} {g : Int}
set_option maxHeartbeats 8000000 in
theorem cSdI (ha : isLLL c T) (hz : SzP T) (hl : isL la L) (lL : L.length ≤ maxN) : CallOK Try.prog 6 [.agg [c], i64 g, la] (sdA T g L) := by
 have lL' : L.length ≤ 4294967296 := lL
 unfold sdA
 by_cases hR : RingP T
 ·by_cases hC : CmP T
  ·have h16 := hR.1.2.1
   have cc := cCodeI ha hz (z := 0) (.inl ⟨hR, hC, rfl⟩)
   by_cases hg : 0 ≤ g ∧ g ≤ 20
   ·by_cases h8 : L.length ≤ 8
    ·have h8' : ¬ (8 : Int) < L.length := by omega
     by_cases hL : labP T.length L
     ·obtain ⟨n, rfl⟩ := Int.eq_ofNat_of_zero_le hg.1
      have cs := cSurfI ha hR hl hL h8 (g := n) (by omega)
      unfold surfR at cs
      cases ho : surfO T n L with
      | none =>
       rw [ho] at cs
       rw [sdV_3 hR hC ⟨hg, hL, h8⟩ ho]
       refine call_of (fn := Try.f6) (code := bodyOf Try.f6) Try.func6 rfl (by kernel_rfl) (rfl) ?_
       intro sl hs
       have s0 : sl 0 = .agg [c] := hs 0
       have s1 : sl 1 = i64 (n : Int) := hs 1
       have s2 : sl 2 = la := hs 2
       dsimp only [Try.f6, bodyOf, Option.getD]
       refine Yaf ?_
       refine CLL_pure _ cc PUt rfl rfl ?_
       refine Yag ?_
       refine CLL_pure _ (c40 (a := (n : Int)) (b := 0) (c := 20)) rfl rfl rfl ?_
       refine Ych ?_
       refine CLL_pure _ (cAreL ha h16 hl lL (t := true) ⟨fun _ => hL, fun _ => rfl⟩) PUt rfl rfl ?_
       refine Yav ?_
       refine CLL_pure _ cs PUt rfl rfl ?_
       refine Yag ?_
       exact Yaa
      | some Z =>
       rw [ho] at cs
       obtain ⟨z0, z1⟩ := surf_nn hR ho
       have z0' : ¬ atI Z 0 < 0 := by omega
       rw [sdV_0 hR hC ⟨hg, hL, h8⟩ ho]
       refine call_of (fn := Try.f6) (code := bodyOf Try.f6) Try.func6 rfl (by kernel_rfl) (rfl) ?_
       intro sl hs
       have s0 : sl 0 = .agg [c] := hs 0
       have s1 : sl 1 = i64 (n : Int) := hs 1
       have s2 : sl 2 = la := hs 2
       dsimp only [Try.f6, bodyOf, Option.getD]
       refine Yaf ?_
       refine CLL_pure _ cc PUt rfl rfl ?_
       refine Yag ?_
       refine CLL_pure _ (c40 (a := (n : Int)) (b := 0) (c := 20)) rfl rfl rfl ?_
       refine Ych ?_
       refine CLL_pure _ (cAreL ha h16 hl lL (t := true) ⟨fun _ => hL, fun _ => rfl⟩) PUt rfl rfl ?_
       refine Yav ?_
       refine CLL_pure _ cs PUt rfl rfl ?_
       simp (maxSteps := 10000000) (disch := first | assumption | omega) only [go_sem, ↓reduceIte, Nat.reduceEqDiff, reduceCtorEq, Nat.reduceAdd, Nat.reduceMul, Nat.reduceLeDiff, zc, Int.reduceToNat, s0, s1, s2, eq_false z0']
       exact Yaa
     ·rw [sdV_2 hR hC (fun h => hL h.2.1)]
      refine call_of (fn := Try.f6) (code := bodyOf Try.f6) Try.func6 rfl (by kernel_rfl) (rfl) ?_
      intro sl hs
      have s0 : sl 0 = .agg [c] := hs 0
      have s1 : sl 1 = i64 g := hs 1
      have s2 : sl 2 = la := hs 2
      dsimp only [Try.f6, bodyOf, Option.getD]
      refine Yaf ?_
      refine CLL_pure _ cc PUt rfl rfl ?_
      refine Yag ?_
      refine CLL_pure _ (c40 (a := g) (b := 0) (c := 20)) rfl rfl rfl ?_
      refine Ych ?_
      refine CLL_pure _ (cAreL ha h16 hl lL (t := false) ⟨fun h => (nomatch h), fun h => absurd h hL⟩) PUt rfl rfl ?_
      refine Yav ?_
      exact Yaa
    ·have h8' : (8 : Int) < L.length := by omega
     rw [sdV_2 hR hC (fun h => h8 h.2.2)]
     refine call_of (fn := Try.f6) (code := bodyOf Try.f6) Try.func6 rfl (by kernel_rfl) (rfl) ?_
     intro sl hs
     have s0 : sl 0 = .agg [c] := hs 0
     have s1 : sl 1 = i64 g := hs 1
     have s2 : sl 2 = la := hs 2
     dsimp only [Try.f6, bodyOf, Option.getD]
     refine Yaf ?_
     refine CLL_pure _ cc PUt rfl rfl ?_
     refine Yag ?_
     refine CLL_pure _ (c40 (a := g) (b := 0) (c := 20)) rfl rfl rfl ?_
     simp (maxSteps := 10000000) (disch := first | assumption | omega) only [go_sem, ↓reduceIte, Nat.reduceEqDiff, reduceCtorEq, Nat.reduceAdd, Nat.reduceMul, Nat.reduceLeDiff, zc, Int.reduceToNat, s0, s1, s2, ti4, eq_true hg, eq_true h8', undef]
     exact Yaa
   ·rw [sdV_2 hR hC (fun h => hg h.1)]
    refine call_of (fn := Try.f6) (code := bodyOf Try.f6) Try.func6 rfl (by kernel_rfl) (rfl) ?_
    intro sl hs
    have s0 : sl 0 = .agg [c] := hs 0
    have s1 : sl 1 = i64 g := hs 1
    have s2 : sl 2 = la := hs 2
    dsimp only [Try.f6, bodyOf, Option.getD]
    refine Yaf ?_
    refine CLL_pure _ cc PUt rfl rfl ?_
    refine Yag ?_
    refine CLL_pure _ (c40 (a := g) (b := 0) (c := 20)) rfl rfl rfl ?_
    refine Yef ?_
    exact Yaa
  ·have cc := cCodeI ha hz (z := 5) (.inr (.inl ⟨hR, hC, rfl⟩))
   rw [sdV_5 hR hC]
   refine call_of (fn := Try.f6) (code := bodyOf Try.f6) Try.func6 rfl (by kernel_rfl) (rfl) ?_
   intro sl hs
   have s0 : sl 0 = .agg [c] := hs 0
   have s1 : sl 1 = i64 g := hs 1
   have s2 : sl 2 = la := hs 2
   dsimp only [Try.f6, bodyOf, Option.getD]
   refine Yaf ?_
   refine CLL_pure _ cc PUt rfl rfl ?_
   refine Yag ?_
   exact Yaa
 ·have cc := cCodeI ha hz (z := 1) (.inr (.inr ⟨hR, rfl⟩))
  rw [sdV_1 hR]
  refine call_of (fn := Try.f6) (code := bodyOf Try.f6) Try.func6 rfl (by kernel_rfl) (rfl) ?_
  intro sl hs
  have s0 : sl 0 = .agg [c] := hs 0
  have s1 : sl 1 = i64 g := hs 1
  have s2 : sl 2 = la := hs 2
  dsimp only [Try.f6, bodyOf, Option.getD]
  refine Yaf ?_
  refine CLL_pure _ cc PUt rfl rfl ?_
  refine Yag ?_
  exact Yaa
set_option maxHeartbeats 8000000 in
theorem cSdS (ha : isLLL c T) (hl : isL la L) (lL : L.length ≤ maxN) : CallOK Try.prog 7 [.agg [c], i64 g, la] (sdA T g L) := by
 have lL' : L.length ≤ 4294967296 := lL
 unfold sdA
 by_cases hR : RingP T
 ·by_cases hC : CmP T
  ·have h16 := hR.1.2.1
   have cc := cCodeS ha (z := 0) (.inl ⟨hR, hC, rfl⟩)
   by_cases hg : 0 ≤ g ∧ g ≤ 20
   ·by_cases hL : labP T.length L ∧ L.length ≤ 8
    ·obtain ⟨n, rfl⟩ := Int.eq_ofNat_of_zero_le hg.1
     have cs := cNumS ha hR hl hL.1 hL.2 (g := n) (by omega)
     unfold numS at cs
     cases ho : surfO T n L with
     | none =>
      rw [ho] at cs
      rw [sdV_3 hR hC ⟨hg, hL⟩ ho]
      refine call_of (fn := Try.f7) (code := bodyOf Try.f7) Try.func7 rfl (by kernel_rfl) (rfl) ?_
      intro sl hs
      have s0 : sl 0 = .agg [c] := hs 0
      have s1 : sl 1 = i64 (n : Int) := hs 1
      have s2 : sl 2 = la := hs 2
      dsimp only [Try.f7, bodyOf, Option.getD]
      refine Yaf ?_
      refine CLL_pure _ cc PUt rfl rfl ?_
      refine Yag ?_
      refine CLL_pure _ (c38 (a := (n : Int)) (b := 0) (c := 20)) rfl rfl rfl ?_
      refine Ycb ?_
      refine CLL_pure _ (cLabS (n := T.length) (by omega) hl lL (t := true) ⟨fun _ => hL, fun _ => rfl⟩) PUt rfl rfl ?_
      refine Yav ?_
      refine CLL_pure _ cs PUt rfl rfl ?_
      refine Yet ?_
      exact Yaa
     | some Z =>
      rw [ho] at cs
      rw [sdV_0 hR hC ⟨hg, hL⟩ ho]
      refine call_of (fn := Try.f7) (code := bodyOf Try.f7) Try.func7 rfl (by kernel_rfl) (rfl) ?_
      intro sl hs
      have s0 : sl 0 = .agg [c] := hs 0
      have s1 : sl 1 = i64 (n : Int) := hs 1
      have s2 : sl 2 = la := hs 2
      dsimp only [Try.f7, bodyOf, Option.getD]
      refine Yaf ?_
      refine CLL_pure _ cc PUt rfl rfl ?_
      refine Yag ?_
      refine CLL_pure _ (c38 (a := (n : Int)) (b := 0) (c := 20)) rfl rfl rfl ?_
      refine Ycb ?_
      refine CLL_pure _ (cLabS (n := T.length) (by omega) hl lL (t := true) ⟨fun _ => hL, fun _ => rfl⟩) PUt rfl rfl ?_
      refine Yav ?_
      refine CLL_pure _ cs PUt rfl rfl ?_
      refine Yet ?_
      exact Yaa
    ·rw [sdV_2 hR hC (fun h => hL h.2)]
     refine call_of (fn := Try.f7) (code := bodyOf Try.f7) Try.func7 rfl (by kernel_rfl) (rfl) ?_
     intro sl hs
     have s0 : sl 0 = .agg [c] := hs 0
     have s1 : sl 1 = i64 g := hs 1
     have s2 : sl 2 = la := hs 2
     dsimp only [Try.f7, bodyOf, Option.getD]
     refine Yaf ?_
     refine CLL_pure _ cc PUt rfl rfl ?_
     refine Yag ?_
     refine CLL_pure _ (c38 (a := g) (b := 0) (c := 20)) rfl rfl rfl ?_
     refine Ycb ?_
     refine CLL_pure _ (cLabS (n := T.length) (by omega) hl lL (t := false) ⟨fun h => (nomatch h), fun h => absurd h hL⟩) PUt rfl rfl ?_
     refine Yav ?_
     exact Yaa
   ·rw [sdV_2 hR hC (fun h => hg h.1)]
    refine call_of (fn := Try.f7) (code := bodyOf Try.f7) Try.func7 rfl (by kernel_rfl) (rfl) ?_
    intro sl hs
    have s0 : sl 0 = .agg [c] := hs 0
    have s1 : sl 1 = i64 g := hs 1
    have s2 : sl 2 = la := hs 2
    dsimp only [Try.f7, bodyOf, Option.getD]
    refine Yaf ?_
    refine CLL_pure _ cc PUt rfl rfl ?_
    refine Yag ?_
    refine CLL_pure _ (c38 (a := g) (b := 0) (c := 20)) rfl rfl rfl ?_
    refine Yef ?_
    exact Yaa
  ·have cc := cCodeS ha (z := 5) (.inr (.inl ⟨hR, hC, rfl⟩))
   rw [sdV_5 hR hC]
   refine call_of (fn := Try.f7) (code := bodyOf Try.f7) Try.func7 rfl (by kernel_rfl) (rfl) ?_
   intro sl hs
   have s0 : sl 0 = .agg [c] := hs 0
   have s1 : sl 1 = i64 g := hs 1
   have s2 : sl 2 = la := hs 2
   dsimp only [Try.f7, bodyOf, Option.getD]
   refine Yaf ?_
   refine CLL_pure _ cc PUt rfl rfl ?_
   refine Yew ?_
   exact Yaa
 ·have cc := cCodeS ha (z := 1) (.inr (.inr ⟨hR, rfl⟩))
  rw [sdV_1 hR]
  refine call_of (fn := Try.f7) (code := bodyOf Try.f7) Try.func7 rfl (by kernel_rfl) (rfl) ?_
  intro sl hs
  have s0 : sl 0 = .agg [c] := hs 0
  have s1 : sl 1 = i64 g := hs 1
  have s2 : sl 2 = la := hs 2
  dsimp only [Try.f7, bodyOf, Option.getD]
  refine Yaf ?_
  refine CLL_pure _ cc PUt rfl rfl ?_
  refine Yew ?_
  exact Yaa
end
end Go.Proofs.Ythfgjapmgjhccaa
