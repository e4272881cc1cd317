/- Texts joined: Ac5 Cl1 Al1. -/
import Derived.Test.YtdpinkgkmcbckaaGreatCp
import Derived.Test.YtdpinkgkmcbckaaGreatCq
set_option linter.all false
/- ExponentsOf: by the reference and by the program. -/
namespace Go.Proofs.YtdpinkgkmcbckaaGreat
open Go.RowKit
set_option maxRecDepth 1000000
def exL (A : List (List (List Int))) (n : Nat) (X : List (List Int)) : List Int := X.map fun v => ((exN A n v : Nat) : Int)
theorem exL_len (A : List (List (List Int))) (n : Nat) (X : List (List Int)) : (exL A n X).length = X.length := List.length_map _
theorem exL_succ {A : List (List (List Int))} {n i : Nat} {X : List (List Int)} {x : List Int} (hx : X[i]? = some x) : exL A n (X.take (i + 1)) = exL A n (X.take i) ++ [((exN A n x : Nat) : Int)] := by
 unfold exL
 rw [List.take_add_one, hx, List.map_append]
 rfl
theorem cmA_mat (n : Nat) (q : (Nat → Nat → Int) × Nat) : ∃ F, cmA n q = matA F (cmQ n q) n := by
 unfold cmA cmQ krA
 split
 ·exact ⟨_, rfl⟩
 ·exact ⟨_, rfl⟩
theorem fam_rws {n : Nat} {A : List (List (List Int))} (h : FamP n A) : rws (fun k => matL (at3 A k) (mat A 0).length (mat A 0).length) n = A := by
 apply List.ext_getElem?
 intro i
 by_cases hi : i < n
 ·rw [rws_get _ _ _ hi, ← fam_mat h hi]
  unfold mat
  rw [List.getD_eq_getElem?_getD, List.getElem?_eq_getElem (show i < A.length by rw [h.1]; exact hi)]
  rfl
 ·rw [List.getElem?_eq_none (by rw [zfe]; omega), List.getElem?_eq_none (by rw [h.1]; omega)]
theorem atI_map {x : List Int} {k : Nat} (hk : k < x.length) : (x.map i64)[k]? = some (i64 (atI x k)) := by
 rw [List.getElem?_map]
 unfold atI
 rw [List.getD_eq_getElem?_getD, List.getElem?_eq_getElem hk]
 rfl
theorem bg_rows (A : List (List (List Int))) (v : List Int) (k : Nat) (h0 : 0 < (mat A 0).length) : rws (fun i => AV.row (rws (fun j => i64 (bgM A v i j)) (mat A 0).length)) (k * (mat A 0).length) ++ rws (fun i => AV.row (rws (fun j => i64 (lsM (at3 A k) (atI v k) i j)) (mat A 0).length)) (mat A 0).length = rws (fun i => AV.row (rws (fun j => i64 (bgM A v i j)) (mat A 0).length)) ((k + 1) * (mat A 0).length) := by
 apply List.ext_getElem?
 intro r
 have e : (k + 1) * (mat A 0).length = k * (mat A 0).length + (mat A 0).length := Nat.succ_mul _ _
 by_cases h1 : r < k * (mat A 0).length
 ·rw [List.getElem?_append_left (by rw [zfe]; exact h1), rws_get _ _ _ h1, rws_get _ _ _ (by omega)]
 ·rw [List.getElem?_append_right (by rw [zfe]; omega), zfe]
  by_cases h2 : r - k * (mat A 0).length < (mat A 0).length
  ·rw [rws_get _ _ _ h2, rws_get _ _ _ (by omega)]
   have e1 : r / (mat A 0).length = k := by
    rw [show r = (mat A 0).length * k + (r - k * (mat A 0).length) by rw [Nat.mul_comm]; omega, Nat.mul_add_div h0, Nat.div_eq_of_lt h2]
    rfl
   have e2 : r % (mat A 0).length = r - k * (mat A 0).length := by
    rw [show r = (mat A 0).length * k + (r - k * (mat A 0).length) by rw [Nat.mul_comm]; omega, Nat.mul_add_mod, Nat.mod_eq_of_lt h2]
    rw [Nat.mul_comm]; omega
   unfold bgM
   rw [e1, e2]
  ·rw [List.getElem?_eq_none (by rw [zfe]; omega), List.getElem?_eq_none (by rw [zfe]; omega)]
theorem imp_tM {b : Nat} {gn : Nat → Nat} {M : Nat → Nat → Int} {n w : Nat} {v : Value} : impE b gn (.tup [matA M n w, .sc v]) = ⟨.tup [.ref b (gn b + 1) [] 0 n, .sc v], none, [], [(b, matA M n w)]⟩ := by
 show (⟨.tup [.ref b (gn b + 1) [] 0 (rws (fun i => AV.row (rws (fun j => i64 (M i j)) w)) n).length, .sc v], none, [], [(b, matA M n w)]⟩ : Eff) = _
 rw [zfe]
theorem cPts {a : AV} {A : List (List (List Int))} (ha : isLLL a A) (h0 : 0 < A.length) : CallOK Tryz.prog 29 [.agg [a]] (i64 ((mat A 0).length : Nat)) := by
 have hm0 := isLLL_mat ha h0
 refine call_of (fn := Tryz.f29) (code := bodyOf Tryz.f29) Tryz.func29 rfl (by kernel_rfl) (rfl) ?_
 intro sl hs
 have s0 : sl 0 = .agg [a] := hs 0
 dsimp only [Tryz.f29, bodyOf, Option.getD]
 simp (maxSteps := 10000000) (disch := first | assumption | omega) only [go_sem, ↓reduceIte, Nat.reduceEqDiff, reduceCtorEq, Nat.reduceAdd, Nat.reduceMul, Nat.reduceLeDiff, zc, Int.reduceToNat, s0, tiAc, isLLL_len ha, isLL_len hm0]
 exact Yac
section
variable {c a : AV} {T A : List (List (List Int))}
theorem cExS0 (hc : isLLL c T) (ha : isLLL a A) (hP : ActP T A) (hm : CmP T) (hl : (chsI T).length = T.length) : CallOK Tryz.prog 6 [.agg [c], .agg [a]] (.tup [rowL (exL A T.length (chsI T)), i64 0]) := by
 obtain ⟨hR, hF, hE⟩ := id hP
 obtain ⟨t1, t16, hcu⟩ := id hR.1
 obtain ⟨f1, f2, f3, f4⟩ := id hF
 have c1 := cIsActS hc ha (t := true) ⟨fun _ => hP, fun _ => rfl⟩
 have c2 := cCommS hc hR.1 (t := true) ⟨fun _ => hm, fun _ => rfl⟩
 have c3 := cAllS hc hR.1
 rw [← chs_same hR.1] at c3
 have hl' : ((chsI T).length : Int) = T.length := by omega
 refine call_of (fn := Tryz.f6) (code := bodyOf Tryz.f6) Tryz.func6 rfl (by kernel_rfl) (noRef_tL _ _) ?_
 intro sl hs
 have s0 : sl 0 = .agg [c] := hs 0
 have s1 : sl 1 = .agg [a] := hs 1
 dsimp only [Tryz.f6, bodyOf, Option.getD]
 refine Yah ?_
 refine CLL_pure _ c1 PUt rfl rfl ?_
 refine Yaa ?_
 refine CLL_pure _ c2 PUt rfl rfl ?_
 refine Yaa ?_
 refine CLL_pure _ c3 PUt rfl rfl ?_
 simp (maxSteps := 10000000) (disch := first | assumption | omega) only [go_sem, ↓reduceIte, Nat.reduceEqDiff, reduceCtorEq, Nat.reduceAdd, Nat.reduceMul, Nat.reduceLeDiff, zc, Int.reduceToNat, s0, s1, rowLL, impE_row, List.length_map, isLLL_len hc, eq_true hl']
 refine WK_for (fun i st => st.sl 3 = .ptr 4112 1 [] 0 ∧ st.ro 4112 1 = some (.bx [a]) ∧ st.sl 6 = .ref 24592 1 [] 0 (chsI T).length ∧ st.ro 24592 1 = some (rowLL (chsI T)) ∧ st.sl 7 = .ref 24608 (st.gn 24608) [] 0 i ∧ st.ro 24608 (st.gn 24608) = some (rowL (exL A T.length ((chsI T).take i))) ∧ st.sl 8 = i64 (i : Int)) ((chsI T).length) ?_ ?_ ?_
 ·refine Yak ?_
  repeat' first | rfl | apply And.intro
 ·rintro i sl ro gn hi ⟨s3, r4112, s6, r24592, s7, r24608, s8⟩
  dsimp only at s3 r4112 s6 r24592 s7 r24608 s8
  have hi' : (i : Int) < ((chsI T).length : Nat) := by omega
  obtain ⟨x, hx, hxl, nx⟩ := ch_get hR.1 hi
  have hxr : ((chsI T).map rowL)[i]? = some (.row (x.map i64)) := by rw [List.getElem?_map, hx]; rfl
  have hi2 : i + 1 ≤ 4294967296 := by omega
  have hA : isLLL a (rws (fun k => matL (at3 A k) (mat A 0).length (mat A 0).length) T.length) := by rw [fam_rws hF]; exact ha
  have cp := cCommon hA (isL_imm x) (by omega) (by omega) (by omega) (by omega) (by omega) (fam_numM hF) nx
  obtain ⟨F, hM⟩ := cmA_mat (mat A 0).length (cmn (mat A 0).length (fun k => lsM (at3 A k) (atI x k)) T.length)
  rw [hM, ex_same hF (by omega) x] at cp
  have hn1 : noRefL ((chsI T).map rowL) = true := noRef_rowLL (chsI T)
  have htk : (exL A T.length ((chsI T).take i)).length = i := by rw [exL_len, List.length_take]; omega
  have htt : ((exL A T.length ((chsI T).take i)).map i64).take i = (exL A T.length ((chsI T).take i)).map i64 := List.take_of_length_le (by rw [List.length_map, htk]; exact Nat.le_refl _)
  rw [exL_succ hx]
  simp (maxSteps := 10000000) (disch := first | assumption | omega) only [go_sem, ↓reduceIte, Nat.reduceEqDiff, reduceCtorEq, Nat.reduceAdd, Nat.reduceMul, Nat.reduceLeDiff, zc, Int.reduceToNat, s3, r4112, s6, r24592, s7, r24608, s8, hi', hi, hxr, List.length_map, hxl]
  refine CLLD_q _ cp (.cons (exq_LLL ha (by decide)) (.cons (exq_rowX r24592 hx hxl.symm (by decide)) .nil)) rfl (noI_mat _ _ _) ?_
  simp (maxSteps := 10000000) (disch := first | assumption | omega) only [go_sem, ↓reduceIte, Nat.reduceEqDiff, reduceCtorEq, Nat.reduceAdd, Nat.reduceMul, Nat.reduceLeDiff, zc, Int.reduceToNat, s3, r4112, s6, r24592, s7, r24608, s8, hi', hi, impE_row, zfe, hxr, List.length_map, hxl, hn1, htk, htt, hi2]
  refine FIN_of (by kernel_rfl) ?_
  simp (maxSteps := 10000000) (disch := first | assumption | omega) only [go_sem, ↓reduceIte, Nat.reduceEqDiff, reduceCtorEq, Nat.reduceAdd, Nat.reduceMul, Nat.reduceLeDiff, zc, Int.reduceToNat, s3, r4112, s6, r24592, s7, r24608, s8, hi', hi]
  refine ⟨?_, i64c (by omega)⟩
  show some (AV.row _) = some (AV.row ((exL A T.length ((chsI T).take i) ++ [((exN A T.length x : Nat) : Int)]).map i64))
  rw [List.map_append]
  rfl
 ·rintro sl ro gn ⟨s3, r4112, s6, r24592, s7, r24608, s8⟩
  dsimp only at s3 r4112 s6 r24592 s7 r24608 s8
  have hi' : ¬ (((chsI T).length : Nat) : Int) < ((chsI T).length : Nat) := by omega
  rw [List.take_length] at r24608
  simp (maxSteps := 10000000) (disch := first | assumption | omega) only [go_sem, ↓reduceIte, Nat.reduceEqDiff, reduceCtorEq, Nat.reduceAdd, Nat.reduceMul, Nat.reduceLeDiff, zc, Int.reduceToNat, s3, r4112, s6, r24592, s7, r24608, s8, hi', List.length_map]
  simp only [zr, zb, retR, resL, outT, outL, zes, zez, oneV, zcp, zed, zfi, Ro.dl, St.ev, zhk, ↓za, ↓reduceIte, Nat.reduceEqDiff, Nat.reduceAdd, Nat.reduceLeDiff, r24608, rowL, exL_len]
theorem cExS1 (hc : isLLL c T) (ha : isLLL a A) (hP : ¬ ActP T A) : CallOK Tryz.prog 6 [.agg [c], .agg [a]] (.tup [nilA, i64 1]) := by
 have c1 := cIsActS hc ha (t := false) ⟨fun h => (nomatch h), fun h => absurd h hP⟩
 refine call_of (fn := Tryz.f6) (code := bodyOf Tryz.f6) Tryz.func6 rfl (by kernel_rfl) (rfl) ?_
 intro sl hs
 have s0 : sl 0 = .agg [c] := hs 0
 have s1 : sl 1 = .agg [a] := hs 1
 dsimp only [Tryz.f6, bodyOf, Option.getD]
 refine Yah ?_
 refine CLL_pure _ c1 PUt rfl rfl ?_
 refine Yaa ?_
 exact Yac
theorem cExS5 (hc : isLLL c T) (ha : isLLL a A) (hP : ActP T A) (hm : ¬ CmP T) : CallOK Tryz.prog 6 [.agg [c], .agg [a]] (.tup [nilA, i64 5]) := by
 have c1 := cIsActS hc ha (t := true) ⟨fun _ => hP, fun _ => rfl⟩
 have c2 := cCommS hc hP.1.1 (t := false) ⟨fun h => (nomatch h), fun h => absurd h hm⟩
 refine call_of (fn := Tryz.f6) (code := bodyOf Tryz.f6) Tryz.func6 rfl (by kernel_rfl) (rfl) ?_
 intro sl hs
 have s0 : sl 0 = .agg [c] := hs 0
 have s1 : sl 1 = .agg [a] := hs 1
 dsimp only [Tryz.f6, bodyOf, Option.getD]
 refine Yah ?_
 refine CLL_pure _ c1 PUt rfl rfl ?_
 refine Yaa ?_
 refine CLL_pure _ c2 PUt rfl rfl ?_
 refine Yaa ?_
 exact Yac
theorem cExS6 (hc : isLLL c T) (ha : isLLL a A) (hP : ActP T A) (hm : CmP T) (hl : (chsI T).length ≠ T.length) : CallOK Tryz.prog 6 [.agg [c], .agg [a]] (.tup [nilA, i64 5]) := by
 have c1 := cIsActS hc ha (t := true) ⟨fun _ => hP, fun _ => rfl⟩
 have c2 := cCommS hc hP.1.1 (t := true) ⟨fun _ => hm, fun _ => rfl⟩
 have c3 := cAllS hc hP.1.1
 rw [← chs_same hP.1.1] at c3
 have hl' : ¬ ((chsI T).length : Int) = T.length := by omega
 refine call_of (fn := Tryz.f6) (code := bodyOf Tryz.f6) Tryz.func6 rfl (by kernel_rfl) (rfl) ?_
 intro sl hs
 have s0 : sl 0 = .agg [c] := hs 0
 have s1 : sl 1 = .agg [a] := hs 1
 dsimp only [Tryz.f6, bodyOf, Option.getD]
 refine Yah ?_
 refine CLL_pure _ c1 PUt rfl rfl ?_
 refine Yaa ?_
 refine CLL_pure _ c2 PUt rfl rfl ?_
 refine Yaa ?_
 refine CLL_pure _ c3 PUt rfl rfl ?_
 simp (maxSteps := 10000000) (disch := first | assumption | omega) only [go_sem, ↓reduceIte, Nat.reduceEqDiff, reduceCtorEq, Nat.reduceAdd, Nat.reduceMul, Nat.reduceLeDiff, zc, Int.reduceToNat, s0, s1, rowLL, impE_row, List.length_map, isLLL_len hc, eq_false hl']
 exact Yac
theorem cExI1 (hc : isLLL c T) (ha : isLLL a A) (hz : SzP T) (hzA : SzP A) (hP : ¬ ActP T A) : CallOK Tryz.prog 9 [.agg [c], .agg [a]] (.tup [nilA, i64 1]) := by
 have c1 := cIsActI hc ha hz hzA (t := false) ⟨fun h => (nomatch h), fun h => absurd h hP⟩
 refine call_of (fn := Tryz.f9) (code := bodyOf Tryz.f9) Tryz.func9 rfl (by kernel_rfl) (rfl) ?_
 intro sl hs
 have s0 : sl 0 = .agg [c] := hs 0
 have s1 : sl 1 = .agg [a] := hs 1
 dsimp only [Tryz.f9, bodyOf, Option.getD]
 refine Yah ?_
 refine CLL_pure _ c1 PUt rfl rfl ?_
 refine Yaa ?_
 exact Yac
theorem cExI5 (hc : isLLL c T) (ha : isLLL a A) (hz : SzP T) (hzA : SzP A) (hP : ActP T A) (hm : ¬ CmP T) : CallOK Tryz.prog 9 [.agg [c], .agg [a]] (.tup [nilA, i64 5]) := by
 have c1 := cIsActI hc ha hz hzA (t := true) ⟨fun _ => hP, fun _ => rfl⟩
 have c2 := cCommI hc hP.1.1 (t := false) ⟨fun h => (nomatch h), fun h => absurd h hm⟩
 refine call_of (fn := Tryz.f9) (code := bodyOf Tryz.f9) Tryz.func9 rfl (by kernel_rfl) (rfl) ?_
 intro sl hs
 have s0 : sl 0 = .agg [c] := hs 0
 have s1 : sl 1 = .agg [a] := hs 1
 dsimp only [Tryz.f9, bodyOf, Option.getD]
 refine Yah ?_
 refine CLL_pure _ c1 PUt rfl rfl ?_
 refine Yaa ?_
 refine CLL_pure _ c2 PUt rfl rfl ?_
 refine Yaa ?_
 exact Yac
theorem cExI6 (hc : isLLL c T) (ha : isLLL a A) (hz : SzP T) (hzA : SzP A) (hP : ActP T A) (hm : CmP T) (hl : (chsI T).length ≠ T.length) : CallOK Tryz.prog 9 [.agg [c], .agg [a]] (.tup [nilA, i64 5]) := by
 have c1 := cIsActI hc ha hz hzA (t := true) ⟨fun _ => hP, fun _ => rfl⟩
 have c2 := cCommI hc hP.1.1 (t := true) ⟨fun _ => hm, fun _ => rfl⟩
 have c3 : CallOK Tryz.prog 25 [.agg [c]] (rowLL (chsI T)) := cChars hc hP.1.1
 have hl' : ((chsI T).length : Int) < T.length := by have := chs_few hP.1.1; omega
 refine call_of (fn := Tryz.f9) (code := bodyOf Tryz.f9) Tryz.func9 rfl (by kernel_rfl) (rfl) ?_
 intro sl hs
 have s0 : sl 0 = .agg [c] := hs 0
 have s1 : sl 1 = .agg [a] := hs 1
 dsimp only [Tryz.f9, bodyOf, Option.getD]
 refine Yah ?_
 refine CLL_pure _ c1 PUt rfl rfl ?_
 refine Yaa ?_
 refine CLL_pure _ c2 PUt rfl rfl ?_
 refine Yaa ?_
 refine CLL_pure _ c3 PUt rfl rfl ?_
 simp (maxSteps := 10000000) (disch := first | assumption | omega) only [go_sem, ↓reduceIte, Nat.reduceEqDiff, reduceCtorEq, Nat.reduceAdd, Nat.reduceMul, Nat.reduceLeDiff, zc, Int.reduceToNat, s0, s1, rowLL, impE_row, List.length_map, isLLL_len hc, eq_true hl']
 exact Yac
theorem cExI0 (hc : isLLL c T) (ha : isLLL a A) (hz : SzP T) (hzA : SzP A) (hP : ActP T A) (hm : CmP T) (hl : (chsI T).length = T.length) : CallOK Tryz.prog 9 [.agg [c], .agg [a]] (.tup [rowL (exL A T.length (chsI T)), i64 0]) := by
 obtain ⟨hR, hF, hE⟩ := id hP
 obtain ⟨t1, t16, hcu⟩ := id hR.1
 obtain ⟨f1, f2, f3, f4⟩ := id hF
 have c1 := cIsActI hc ha hz hzA (t := true) ⟨fun _ => hP, fun _ => rfl⟩
 have c2 := cCommI hc hP.1.1 (t := true) ⟨fun _ => hm, fun _ => rfl⟩
 have c3 : CallOK Tryz.prog 25 [.agg [c]] (rowLL (chsI T)) := cChars hc hP.1.1
 have hl' : ¬ ((chsI T).length : Int) < T.length := by omega
 have cQ := cPts ha (by omega : 0 < A.length)
 refine call_of (fn := Tryz.f9) (code := bodyOf Tryz.f9) Tryz.func9 rfl (by kernel_rfl) (noRef_tL _ _) ?_
 intro sl hs
 have s0 : sl 0 = .agg [c] := hs 0
 have s1 : sl 1 = .agg [a] := hs 1
 dsimp only [Tryz.f9, bodyOf, Option.getD]
 refine Yah ?_
 refine CLL_pure _ c1 PUt rfl rfl ?_
 refine Yaa ?_
 refine CLL_pure _ c2 PUt rfl rfl ?_
 refine Yaa ?_
 refine CLL_pure _ c3 PUt rfl rfl ?_
 simp (maxSteps := 10000000) (disch := first | assumption | omega) only [go_sem, ↓reduceIte, Nat.reduceEqDiff, reduceCtorEq, Nat.reduceAdd, Nat.reduceMul, Nat.reduceLeDiff, zc, Int.reduceToNat, s0, s1, rowLL, impE_row, List.length_map, isLLL_len hc, eq_false hl']
 refine WK_for (fun i st => st.sl 3 = .ptr 4112 1 [] 0 ∧ st.ro 4112 1 = some (.bx [a]) ∧ st.sl 31 = .ref 24592 1 [] 0 (chsI T).length ∧ st.ro 24592 1 = some (rowLL (chsI T)) ∧ st.sl 32 = i64 ((chsI T).length : Nat) ∧ st.sl 33 = i64 (i : Int) ∧ st.sl 7 = .ref 36864 (st.gn 36864) [] 0 i ∧ st.ro 36864 (st.gn 36864) = some (rowL (exL A T.length ((chsI T).take i)))) ((chsI T).length) ?_ ?_ ?_
 ·refine Yak ?_
  repeat' first | rfl | apply And.intro
 ·rintro i sl ro gn hi ⟨s3, r4112, s31, r24592, s32, s33, s7, r36864⟩
  dsimp only at s3 r4112 s31 r24592 s32 s33 s7 r36864
  have hi' : (i : Int) < ((chsI T).length : Nat) := by omega
  obtain ⟨x, hx, hxl, nx⟩ := ch_get hR.1 hi
  have hxr : ((chsI T).map rowL)[i]? = some (.row (x.map i64)) := by rw [List.getElem?_map, hx]; rfl
  have hi2 : i + 1 ≤ 4294967296 := by omega
  simp (maxSteps := 10000000) (disch := first | assumption | omega) only [go_sem, ↓reduceIte, Nat.reduceEqDiff, reduceCtorEq, Nat.reduceAdd, Nat.reduceMul, Nat.reduceLeDiff, zc, Int.reduceToNat, s3, r4112, s31, r24592, s32, s33, s7, r36864, hi', hi, hxr, List.length_map, hxl, isLLL_len ha, f1]
  refine WK_for (fun k st => st.sl 3 = .ptr 4112 1 [] 0 ∧ st.ro 4112 1 = some (.bx [a]) ∧ st.sl 31 = .ref 24592 1 [] 0 (chsI T).length ∧ st.ro 24592 1 = some (rowLL (chsI T)) ∧ st.sl 32 = i64 ((chsI T).length : Nat) ∧ st.sl 33 = i64 (i : Int) ∧ st.sl 7 = .ref 36864 (st.gn 36864) [] 0 i ∧ st.ro 36864 (st.gn 36864) = some (rowL (exL A T.length ((chsI T).take i))) ∧ st.sl 9 = .ref 24592 1 [i] 0 T.length ∧ st.sl 10 = .ref 53248 (st.gn 53248) [] 0 (k * (mat A 0).length) ∧ st.ro 53248 (st.gn 53248) = some (matA (bgM A x) (k * (mat A 0).length) (mat A 0).length) ∧ st.sl 39 = a ∧ st.sl 40 = i64 (T.length : Nat) ∧ st.sl 41 = i64 (k : Int)) T.length ?_ ?_ ?_
  ·simp only [↓za, ↓reduceIte, Nat.reduceEqDiff, zb, reduceCtorEq, rws_zero, s3, r4112, s31, r24592, s32, s33, s7, r36864, hi', hi]
   repeat' first | rfl | apply And.intro
   all_goals (rw [Nat.zero_mul]; try rfl)
  ·rintro k sl ro gn hk ⟨s3, r4112, s31, r24592, s32, s33, s7, r36864, s9, s10, r53248, s39, s40, s41⟩
   dsimp only at s3 r4112 s31 r24592 s32 s33 s7 r36864 s9 s10 r53248 s39 s40 s41
   have hk' : (k : Int) < (T.length : Nat) := by omega
   have hkA : k < A.length := by omega
   have hmk := isLLL_mat ha hkA
   have wk : isLL (atA a k) (matL (at3 A k) (mat A 0).length (mat A 0).length) := by
    have h := hmk
    rw [fam_mat hF hk] at h
    exact h
   have cN := cNumOf wk (by omega) (fam_numM hF k)
   have cL := cLessU (v := atI x k) (isLL_mat (at3 A k) (mat A 0).length (mat A 0).length) (by omega) (fam_numM hF k) (nx k)
   have hxk := atI_map (x := x) (k := k) (by omega)
   have hkm : k * (mat A 0).length ≤ 16 * 16 := Nat.mul_le_mul (by omega) (by omega)
   have hrn : k * (mat A 0).length + (mat A 0).length ≤ 4294967296 := by omega
   have hA1 := rows_all1 (f := fun i => rws (fun j => i64 (lsM (at3 A k) (atI x k) i j)) (mat A 0).length) (show 0 < (mat A 0).length by omega)
   have hA2 := rows_all2 (f := fun i => rws (fun j => i64 (lsM (at3 A k) (atI x k) i j)) (mat A 0).length) (n := (mat A 0).length)
   have hnr1 : noRefL (rws (fun i => AV.row (rws (fun j => i64 (bgM A x i j)) (mat A 0).length)) (k * (mat A 0).length)) = true := noRef_mat _ _ _
   have hnr2 : noRefL (rws (fun i => AV.row (rws (fun j => i64 (lsM (at3 A k) (atI x k) i j)) (mat A 0).length)) (mat A 0).length) = true := noRef_mat _ _ _
   have hnr3 : noRefL ((chsI T).map rowL) = true := noRef_rowLL (chsI T)
   refine Ycf ?_
   refine CLLD_pure _ cN PUt rfl ?_
   simp (maxSteps := 10000000) (disch := first | assumption | omega) only [go_sem, ↓reduceIte, Nat.reduceEqDiff, reduceCtorEq, Nat.reduceAdd, Nat.reduceMul, Nat.reduceLeDiff, zc, Int.reduceToNat, s3, r4112, s31, r24592, s32, s33, s7, r36864, s9, s10, r53248, s39, s40, s41, hk', hk, impE_row, zfe, hxr, hxk, hnr1, hnr2, hnr3]
   refine CLLD_q _ cL (.cons (exq_mat Ur (by decide)) (.cons (exq_sc _ _ _ (by decide)) .nil)) rfl (noI_mat _ _ _) ?_
   simp (maxSteps := 10000000) (disch := first | assumption | omega) only [go_sem, ↓reduceIte, Nat.reduceEqDiff, reduceCtorEq, Nat.reduceAdd, Nat.reduceMul, Nat.reduceLeDiff, zc, Int.reduceToNat, s3, r4112, s31, r24592, s32, s33, s7, r36864, s9, s10, r53248, s39, s40, s41, hk', hk, impE_row, zfe, hxr, hxk, hrn, hA1, ↓hA2, hnr1, hnr2, hnr3]
   rw [bg_rows A x k (by omega)]
   refine FIN_of (by kernel_rfl) ?_
   refine Ycf ?_
   exact ⟨by rw [Nat.succ_mul], i64c (by omega)⟩
  ·rintro sl ro gn ⟨s3, r4112, s31, r24592, s32, s33, s7, r36864, s9, s10, r53248, s39, s40, s41⟩
   dsimp only at s3 r4112 s31 r24592 s32 s33 s7 r36864 s9 s10 r53248 s39 s40 s41
   have hk' : ¬ ((T.length : Nat) : Int) < (T.length : Nat) := by omega
   have hnm : 0 < T.length * (mat A 0).length := Nat.mul_pos (by omega) (by omega)
   have hnm2 : T.length * (mat A 0).length ≤ 16 * 16 := Nat.mul_le_mul (by omega) (by omega)
   have cR := cReduce (isLL_mat (bgM A x) (T.length * (mat A 0).length) (mat A 0).length) hnm (by omega) (by omega) (by omega) (num_bgM hF x)
   have hrk := rank_le (n := T.length * (mat A 0).length) (w := (mat A 0).length) (num_bgM hF x)
   have hnr3 : noRefL ((chsI T).map rowL) = true := noRef_rowLL (chsI T)
   have htk : (exL A T.length ((chsI T).take i)).length = i := by rw [exL_len, List.length_take]; omega
   have htt : ((exL A T.length ((chsI T).take i)).map i64).take i = (exL A T.length ((chsI T).take i)).map i64 := List.take_of_length_le (by rw [List.length_map, htk]; exact Nat.le_refl _)
   have ev : ((mat A 0).length : Int) - ((gj (T.length * (mat A 0).length) (bgM A x) (mat A 0).length).2.1 : Nat) = ((exN A T.length x : Nat) : Int) := by unfold exN; omega
   rw [exL_succ hx]
   simp (maxSteps := 10000000) (disch := first | assumption | omega) only [go_sem, ↓reduceIte, Nat.reduceEqDiff, reduceCtorEq, Nat.reduceAdd, Nat.reduceMul, Nat.reduceLeDiff, zc, Int.reduceToNat, s3, r4112, s31, r24592, s32, s33, s7, r36864, s9, s10, r53248, s39, s40, s41, hk']
   refine CLL_q _ cR (.cons (exq_mat r53248 (by decide)) .nil) rfl rfl (noI_tM _ _ _ _) ?_
   simp (maxSteps := 10000000) (disch := first | assumption | omega) only [go_sem, ↓reduceIte, Nat.reduceEqDiff, reduceCtorEq, Nat.reduceAdd, Nat.reduceMul, Nat.reduceLeDiff, zc, Int.reduceToNat, s3, r4112, s31, r24592, s32, s33, s7, r36864, s9, s10, r53248, s39, s40, s41, hk', imp_tM]
   refine CLL_pure _ cQ PUt rfl rfl ?_
   simp (maxSteps := 10000000) (disch := first | assumption | omega) only [go_sem, ↓reduceIte, Nat.reduceEqDiff, reduceCtorEq, Nat.reduceAdd, Nat.reduceMul, Nat.reduceLeDiff, zc, Int.reduceToNat, s3, r4112, s31, r24592, s32, s33, s7, r36864, s9, s10, r53248, s39, s40, s41, hk', ev, htk, htt, hi2, List.length_map]
   refine ⟨i64c (by omega), ?_⟩
   show some (AV.row _) = some (AV.row ((exL A T.length ((chsI T).take i) ++ [((exN A T.length x : Nat) : Int)]).map i64))
   rw [List.map_append]
   rfl
 ·rintro sl ro gn ⟨s3, r4112, s31, r24592, s32, s33, s7, r36864⟩
  dsimp only at s3 r4112 s31 r24592 s32 s33 s7 r36864
  have hi' : ¬ (((chsI T).length : Nat) : Int) < ((chsI T).length : Nat) := by omega
  rw [List.take_length] at r36864
  simp (maxSteps := 10000000) (disch := first | assumption | omega) only [go_sem, ↓reduceIte, Nat.reduceEqDiff, reduceCtorEq, Nat.reduceAdd, Nat.reduceMul, Nat.reduceLeDiff, zc, Int.reduceToNat, s3, r4112, s31, r24592, s32, s33, s7, r36864, hi', List.length_map]
  simp only [zr, zb, retR, resL, outT, outL, zes, zez, oneV, zcp, zed, zfi, Ro.dl, St.ev, zhk, ↓za, ↓reduceIte, Nat.reduceEqDiff, Nat.reduceAdd, Nat.reduceLeDiff, r36864, rowL, exL_len]
end
end Go.Proofs.YtdpinkgkmcbckaaGreat
/- Rings as a statement hands them in: sizes, copies, equality, marks. -/
namespace Go.Proofs.YtdpinkgkmcbckaaGreat
open Go.RowKit
set_option maxRecDepth 1000000
theorem tiRg : ti0 24 = some ⟨1, true, [Value.slice none 0 0], none, [(0, 22)], none, false, false⟩ := by kernel_rfl
attribute [go_sem] tiRg isLLLw_lift isLLLw_cellB
section
variable {T : List (List (List Int))} {a : AV}
theorem cSzRC {left : Int} (ha : isLLLw a T) (hx : T.length < 2^63) (hr : ∀ i, (mat T i).length < 2^63) (hr2 : ∀ i j, (row (mat T i) j).length < 2^63) (h1 : 0 ≤ left) (h2 : left ≤ 1048576) : CallOK Tryz.prog 4 [.agg [a], i64 left] (i64 (szV (szT T (left - T.length) T.length))) := by
 refine call_of (fn := Tryz.f4) (code := bodyOf Tryz.f4) Tryz.func4 rfl (by kernel_rfl) (rfl) ?_
 intro sl hs
 have s0 : sl 0 = .agg [a] := hs 0
 have s1 : sl 1 = i64 left := hs 1
 dsimp only [Tryz.f4, bodyOf, Option.getD]
 simp (maxSteps := 10000000) (disch := first | assumption | omega) only [go_sem, ↓reduceIte, Nat.reduceEqDiff, reduceCtorEq, Nat.reduceAdd, Nat.reduceMul, Nat.reduceLeDiff, zc, Int.reduceToNat, s0, s1, tiRg, ti31]
 refine CLL_pure _ (cSzT ha hx hr hr2 h1 h2) (by simp (disch := assumption) only [pureL, pureA, isLw_pure, isLLw_pure, isLLLw_pure, pureL_map, Bool.and_self, Bool.and_true]) rfl rfl ?_
 by_cases h : szT T (left - T.length) T.length < 0
 ·have e : szV (szT T (left - T.length) T.length) = -1 := if_pos h
  rw [e]
  refine Yaa ?_
  exact Yac
 ·have e : szV (szT T (left - T.length) T.length) = szT T (left - T.length) T.length := if_neg h
  rw [e]
  simp (maxSteps := 10000000) (disch := first | assumption | omega) only [go_sem, ↓reduceIte, Nat.reduceEqDiff, reduceCtorEq, Nat.reduceAdd, Nat.reduceMul, Nat.reduceLeDiff, zc, Int.reduceToNat, s0, s1, h]
  exact Yac
theorem cToRC (ha : isLLLw a T) (hT : SzP T) : CallOK Tryz.prog 7 [.agg [a]] (.agg [rowLLL T]) := by
 refine call_of (fn := Tryz.f7) (code := bodyOf Tryz.f7) Tryz.func7 rfl (by kernel_rfl) (by have h := noRef_rowLLL T; simp only [noRef, noRefL, Bool.and_true] at h ⊢; exact h) ?_
 intro sl hs
 have s0 : sl 0 = .agg [a] := hs 0
 dsimp only [Tryz.f7, bodyOf, Option.getD]
 simp (maxSteps := 10000000) (disch := first | assumption | omega) only [go_sem, ↓reduceIte, Nat.reduceEqDiff, reduceCtorEq, Nat.reduceAdd, Nat.reduceMul, Nat.reduceLeDiff, zc, Int.reduceToNat, s0, tiRg, ti31, ti33]
 refine CLL_pure _ (cToT ha hT.1 hT.2) (by simp (disch := assumption) only [pureL, pureA, isLw_pure, isLLw_pure, isLLLw_pure, pureL_map, Bool.and_self, Bool.and_true]) rfl rfl ?_
 refine Yad ?_
 simp only [zr, zb, retR, resL, outT, outL, zes, zez, oneV, zcp, zed, zfi, Ro.dl, St.ev, zhk, ↓za, ↓reduceIte, Nat.reduceEqDiff, Nat.reduceAdd, Nat.reduceLeDiff, outL, zfi, zfh, zev, zex, List.all_cons, List.all_nil, zep, Option.isSome_some, ti33, List.length_cons, List.length_nil]
theorem cEqRC (hT : SzP T) : CallOK Tryz.prog 11 [.agg [immLLL T], .agg [immLLL T]] (bo true) := by
 have h1 := isLLL_imm T
 refine call_of (fn := Tryz.f11) (code := bodyOf Tryz.f11) Tryz.func11 rfl (by kernel_rfl) (rfl) ?_
 intro sl hs
 have s0 : sl 0 = .agg [immLLL T] := hs 0
 have s1 : sl 1 = .agg [immLLL T] := hs 1
 dsimp only [Tryz.f11, bodyOf, Option.getD]
 refine Yaa ?_
 refine CLL_pure _ (cEqT h1 h1 hT.1 hT.2) (by simp only [pureL, show pureA (immLLL T) = true from isLLL_pure h1, Bool.and_self]) rfl rfl ?_
 refine Yaa ?_
 exact Yac
end
theorem plc_twoC (s g i j : Nat) (rs ts : List AV) (hi : i < rs.length) (hj : j < ts.length) : Plc s g [i, j] (fun cs => .row (rs.set i (.row (ts.set j (.row cs))))) := by
 refine ⟨fun ro cs h => ?_, fun ro cs h => ?_, fun f cs => ?_⟩
 ·simp [Ro.cells, Ro.at, h, ath, hi, hj]
 ·simp [isBxAt, Ro.at, h, ath, hi, hj]
 ·simp [putR, hi, hj]
theorem in43q {s g i : Nat} {rs : List AV} {css : List (List AV)} {ro : Ro} {gn : Nat → Nat} {k : Int} (hi : i < rs.length) (hro : ro s g = some (.row (rs.set i (.row (rowsOf css))))) (hn : css.length ≤ maxN) (hn2 : ∀ j, (css.getD j []).length ≤ maxN) (hk : 0 ≤ k) (hk2 : k + sumN (css.map List.length) ≤ 2^62) :
  InOK Tryz.prog 60 [.ref s g [i] 0 css.length, i64 k] ro gn (i64 (k + sumN (css.map List.length))) (upr ro s g (.row (rs.set i (.row (labsA k (css.map List.length)))))) gn := by
 refine in_of (fn := Tryz.f60) (code := bodyOf Tryz.f60) Tryz.func60 rfl (by kernel_rfl) ?_
 intro sl hs
 have s0 : sl 0 = .ref s g [i] 0 css.length := hs 0
 have s1 : sl 1 = i64 k := hs 1
 have hn' : css.length ≤ 4294967296 := hn
 have hsg : ∀ X, (rs.set i X)[i]? = some X := fun X => by simp [hi]
 simp only [Tryz.f60, bodyOf, Option.getD, go_sem, ↓reduceIte, Nat.reduceEqDiff, reduceCtorEq, Nat.reduceAdd, Nat.reduceMul, Nat.reduceLeDiff, ti2, ti3, ti4, ti22, s0, s1]
 refine WK_for (fun j st => st.sl 0 = .ref s g [i] 0 css.length ∧ st.sl 1 = i64 (k + sumN ((css.map List.length).take j)) ∧ st.sl 5 = i64 (j : Int) ∧ st.ro = upr ro s g (.row (rs.set i (.row (mkr k j css)))) ∧ st.gn = gn) css.length ?_ ?_ ?_
 ·simp only [↓za, ↓reduceIte, Nat.reduceEqDiff, zb, reduceCtorEq, s0, s1, Int.natCast_zero, Int.add_zero, List.take_zero, sumN]
  exact (upr_id _ _ _ _ hro).symm
 ·rintro j sl ro' gn' hj ⟨s0, s1, s5, rfl, rfl⟩
  dsimp only at s0 s1 s5
  have hj' : (j : Int) < css.length := by omega
  simp (maxSteps := 10000000) (disch := first | omega | assumption) only [go_sem, ↓reduceIte, Nat.reduceEqDiff, reduceCtorEq, Nat.reduceAdd, Nat.reduceMul, Nat.reduceLeDiff, zc, ti2, ti3, ti4, ti22, ti23, s0, s1, s5, kLen1, hj', hj, hsg, inO_row, rowO_row, mkr_at k j css hj, lift]
  have hle := sumN_take_le (css.map List.length) (j + 1)
  have hst := sumN_take (css.map List.length) j (by simpa using hj)
  have hgl : (css.map List.length).getD j 0 = (css.getD j []).length := by simp [hj]
  rw [hgl] at hst
  have hset : (mkr k j css).set j (.row (css.getD j [])) = mkr k j css := by
   have h1 : j < (mkr k j css).length := by rw [mkr_len _ _ _ (Nat.le_of_lt hj)]; exact hj
   have h2 := mkr_at k j css hj
   rw [List.getElem?_eq_getElem h1, Option.some.injEq] at h2
   rw [← h2, List.set_getElem_self]
  refine CLL_in rfl _ _ _ (in32 (plc_twoC s g i j rs (mkr k j css) hi (by rw [mkr_len _ _ _ (Nat.le_of_lt hj)]; exact hj)) (cs := css.getD j []) (by rw [hset]; exact upr_same _ _ _ _) (hn2 j) (by omega) (by omega)) ?_
  simp (maxSteps := 10000000) (disch := first | omega | assumption) only [go_sem, ↓reduceIte, Nat.reduceEqDiff, reduceCtorEq, Nat.reduceAdd, Nat.reduceMul, Nat.reduceLeDiff, zc, ti2, ti3, ti4, ti22, ti23, s0, s1, s5]
  exact ⟨i64c (by omega), i64c (by omega), by rw [upr_upr, mkr_succ k j css hj]⟩
 ·rintro sl ro' gn' ⟨s0, s1, s5, rfl, rfl⟩
  dsimp only at s0 s1 s5
  have hj' : ¬ (css.length : Int) < css.length := by omega
  simp (maxSteps := 10000000) (disch := first | omega | assumption) only [go_sem, ↓reduceIte, Nat.reduceEqDiff, reduceCtorEq, Nat.reduceAdd, Nat.reduceMul, Nat.reduceLeDiff, zc, ti2, ti3, ti4, ti22, ti23, s0, s1, s5, kLen1, hj', hsg, inO_row, rowO_row]
  refine ⟨.inr rfl, ⟨_, rfl, ?_⟩, ?_, rfl⟩
  ·simp only [↓za, ↓reduceIte, Nat.reduceEqDiff, zb, reduceCtorEq, oneOrA]
   rw [List.take_of_length_le (by simp)]
  ·simp [mkr]
   rw [List.take_of_length_le (by simp)]
def tot (T : List (List (List Int))) : Nat → Nat
 | 0 => 0
 | i + 1 => tot T i + sumN ((mat T i).map List.length)
theorem szA_sumsC (S : List (List Int)) (l : Int) : ∀ i, i ≤ S.length → szA S l i = l - (sumN ((S.map List.length).take i) : Nat)
 | 0, _ => by simp [szA, sumN]
 | i + 1, h => by
  have hi : i < (S.map List.length).length := by rw [List.length_map]; omega
  have e : (S.map List.length).getD i 0 = (row S i).length := by
   unfold row
   simp only [List.getD_eq_getElem?_getD, List.getElem?_map]
   cases S[i]? <;> rfl
  simp only [szA]
  rw [szA_sumsC S l i (by omega), sumN_take _ i hi, e]
  omega
theorem szT_tot (T : List (List (List Int))) (l : Int) : ∀ i, szT T l i ≤ l - (tot T i : Nat)
 | 0 => by show l ≤ l - ((0 : Nat) : Int); omega
 | i + 1 => by
  have ih := szT_tot T l i
  have h2 := szA_sumsC (mat T i) (szT T l i - (mat T i).length) (mat T i).length (Nat.le_refl _)
  rw [List.take_of_length_le (by simp)] at h2
  show szA _ _ _ ≤ l - ((tot T i + sumN ((mat T i).map List.length) : Nat) : Int)
  omega
theorem tot_mono (T : List (List (List Int))) : ∀ {i j : Nat}, i ≤ j → tot T i ≤ tot T j
 | i, 0, h => by
  obtain rfl : i = 0 := by omega
  exact Nat.le_refl _
 | i, j + 1, h => by
  by_cases e : i = j + 1
  ·rw [e]; exact Nat.le_refl _
  ·have := tot_mono T (i := i) (j := j) (by omega)
   show tot T i ≤ tot T j + _
   omega
theorem labs_lens : ∀ (ns : List Nat) (k : Int), (labs k ns).map List.length = ns
 | [], _ => rfl
 | n :: ns, k => by
  show (iota k n).length :: (labs (k + n) ns).map List.length = n :: ns
  rw [labs_lens ns, iota_len]
theorem in48q {s g : Nat} {T : List (List (List Int))} {ro0 : Ro} {gn0 : Nat → Nat} {k : Int} (hro : ro0 s g = some (rowLLL T)) (hz : SzP T) (hk : 0 ≤ k) (hk2 : k + tot T T.length ≤ 2^62) :
  InS Tryz.prog 31 [.ref s g [] 0 T.length, i64 k] ro0 gn0 (fun r ro' gn' => r = i64 (k + tot T T.length) ∧ (∃ b, ro' = upr ro0 s g b) ∧ gn' = gn0) := by
 obtain ⟨z1, z2⟩ := hz
 have z1' : T.length ≤ 4294967296 := z1
 refine in_ofS (fn := Tryz.f31) (code := bodyOf Tryz.f31) Tryz.func31 rfl (by kernel_rfl) ?_
 intro sl hs
 have s0 : sl 0 = .ref s g [] 0 T.length := hs 0
 have s1 : sl 1 = i64 k := hs 1
 have hT0 : (T.map fun S => AV.row (rowsOf (S.map fun xs => xs.map i64))) = T.map rowLL := List.map_congr_left fun S _ => by
  show AV.row ((S.map fun xs => xs.map i64).map .row) = AV.row (S.map rowL)
  rw [List.map_map]
  rfl
 dsimp only [Tryz.f31, bodyOf, Option.getD]
 simp (maxSteps := 10000000) (disch := first | assumption | omega) only [go_sem, ↓reduceIte, Nat.reduceEqDiff, reduceCtorEq, Nat.reduceAdd, Nat.reduceMul, Nat.reduceLeDiff, zc, Int.reduceToNat, s0, s1, hro, List.length_map]
 refine WK_for (fun i st => st.sl 0 = .ref s g [] 0 T.length ∧ st.sl 1 = i64 (k + tot T i) ∧ st.sl 5 = i64 (i : Int) ∧ (∃ R : List (List (List AV)), R.length = T.length ∧ (∀ j, (R.getD j []).map List.length = (mat T j).map List.length) ∧ st.ro = upr ro0 s g (.row (R.map fun css => AV.row (rowsOf css))) ∧ st.gn = gn0)) T.length ?_ ?_ ?_
 ·refine Yak ?_
  refine ⟨i64c (by show k = k + ((0 : Nat) : Int); omega), rfl, T.map fun S => S.map fun xs => xs.map i64, by rw [List.length_map], fun j => ?_, ?_⟩
  ·unfold mat
   simp only [List.getD_eq_getElem?_getD, List.getElem?_map]
   cases T[j]? with
   | none => rfl
   | some S => simp [Function.comp_def]
  ·rw [List.map_map]
   have e : (T.map ((fun css => AV.row (rowsOf css)) ∘ fun S => S.map fun xs => xs.map i64)) = T.map rowLL := hT0
   rw [e]
   exact (upr_id _ _ _ _ hro).symm
 ·rintro i sl ro gn hi ⟨s0, s1, s5, q⟩
  dsimp only at s0 s1 s5
  have hi' : (i : Int) < (T.length : Nat) := by omega
  obtain ⟨R, hRl, hRs, rfl, rfl⟩ := q
  have hiR : i < R.length := by omega
  have htm := tot_mono T (show i + 1 ≤ T.length by omega)
  have hts : tot T (i + 1) = tot T i + sumN ((mat T i).map List.length) := rfl
  obtain ⟨z3, z4⟩ := z2 i hi
  obtain ⟨css, hcs⟩ : ∃ css, css = R.getD i [] := ⟨_, rfl⟩
  have hcl : css.map List.length = (mat T i).map List.length := by rw [hcs]; exact hRs i
  have hcn : css.length = (mat T i).length := by have := congrArg List.length hcl; simpa using this
  have hRg : (R.map fun css => AV.row (rowsOf css))[i]? = some (.row (rowsOf css)) := by
   rw [List.getElem?_map, hcs, List.getD_eq_getElem?_getD, List.getElem?_eq_getElem hiR]
   rfl
  have hrl : (rowsOf css).length = css.length := by unfold rowsOf; rw [List.length_map]
  have hset : (R.map fun css => AV.row (rowsOf css)).set i (.row (rowsOf css)) = R.map fun css => AV.row (rowsOf css) := by
   have h1 : i < (R.map fun css => AV.row (rowsOf css)).length := by rw [List.length_map]; exact hiR
   rw [List.getElem?_eq_getElem h1, Option.some.injEq] at hRg
   rw [← hRg, List.set_getElem_self]
  simp (maxSteps := 10000000) (disch := first | assumption | omega) only [go_sem, ↓reduceIte, Nat.reduceEqDiff, reduceCtorEq, Nat.reduceAdd, Nat.reduceMul, Nat.reduceLeDiff, zc, Int.reduceToNat, s0, s1, s5, hi', hi, List.length_map, hRl, hRg, hrl, zfp]
  refine CLL_in rfl _ _ _ (in43q (i := i) (rs := R.map fun css => AV.row (rowsOf css)) (css := css) (by rw [List.length_map]; exact hiR) (by rw [hset]; exact upr_same _ _ _ _) (by rw [hcn]; exact z3) (fun j => ?_) (by omega) (by rw [hcl]; omega)) ?_
  ·have e : (css.getD j []).length = (row (mat T i) j).length := by
    have h1 := congrArg (fun l => l.getD j 0) hcl
    simp only [List.getD_eq_getElem?_getD, List.getElem?_map] at h1
    unfold row
    simp only [List.getD_eq_getElem?_getD]
    cases h2 : css[j]? <;> cases h3 : (mat T i)[j]? <;> simp [h2, h3] at h1 ⊢ <;> omega
   rw [e]
   by_cases hj : j < (mat T i).length
   ·exact z4 j hj
   ·rw [row_out (by omega)]; simp
  refine Yai ?_
  rw [hcl]
  refine ⟨i64c (by omega), i64c (by omega), R.set i ((labs (k + tot T i) ((mat T i).map List.length)).map fun xs => xs.map i64), by rw [List.length_set]; exact hRl, fun j => ?_, ?_⟩
  ·by_cases e : j = i
   ·subst e
    rw [List.getD_eq_getElem?_getD, List.getElem?_set_self hiR]
    simp only [Option.getD_some, List.map_map]
    refine Eq.trans (List.map_congr_left fun xs _ => ?_) (labs_lens ((mat T j).map List.length) _)
    exact List.length_map _
   ·rw [List.getD_eq_getElem?_getD, List.getElem?_set_ne (fun h => e h.symm), ← List.getD_eq_getElem?_getD]
    exact hRs j
  ·rw [upr_upr, List.map_set]
   simp only [rowsOf, labsA, List.map_map]
   rfl
 ·rintro sl ro gn ⟨s0, s1, s5, q⟩
  dsimp only at s0 s1 s5
  have hi' : ¬ ((T.length : Nat) : Int) < (T.length : Nat) := by omega
  obtain ⟨R, hRl, hRs, rfl, rfl⟩ := q
  simp (maxSteps := 10000000) (disch := first | assumption | omega) only [go_sem, ↓reduceIte, Nat.reduceEqDiff, reduceCtorEq, Nat.reduceAdd, Nat.reduceMul, Nat.reduceLeDiff, zc, Int.reduceToNat, s0, s1, s5, hi', List.length_map, hRl]
  refine RETS_1 (i64 (k + tot T T.length)) Ur ⟨rfl, ⟨_, rfl⟩, rfl⟩
theorem in18q {s g : Nat} {T : List (List (List Int))} {ro0 : Ro} {gn0 : Nat → Nat} {k : Int} (hro : ro0 s g = some (rowLLL T)) (hf : s ≠ 4096) (hz : SzP T) (hk : 0 ≤ k) (hk2 : k + tot T T.length ≤ 2^62) :
  InS Tryz.prog 13 [.agg [.ref s g [] 0 T.length], i64 k] ro0 gn0 (fun r ro' gn' => r = i64 (k + tot T T.length) ∧ (∃ b, ro' = upr (upr ro0 4096 (gn0 4096 + 1) (.bx [.ref s g [] 0 T.length])) s g b) ∧ gn' = upg gn0 4096 (gn0 4096 + 1)) := by
 refine in_ofS (fn := Tryz.f13) (code := bodyOf Tryz.f13) Tryz.func13 rfl (by kernel_rfl) ?_
 intro sl hs
 have s0 : sl 0 = .agg [.ref s g [] 0 T.length] := hs 0
 have s1 : sl 1 = i64 k := hs 1
 dsimp only [Tryz.f13, bodyOf, Option.getD]
 simp (maxSteps := 10000000) (disch := first | assumption | omega) only [go_sem, ↓reduceIte, Nat.reduceEqDiff, reduceCtorEq, Nat.reduceAdd, Nat.reduceMul, Nat.reduceLeDiff, zc, Int.reduceToNat, s0, s1, ti33, ti31, hro]
 refine CLL_inS rfl (in48q (ro0 := upr ro0 4096 (gn0 4096 + 1) (.bx [.ref s g [] 0 T.length])) (by rw [upr_ne hf]; exact hro) hz hk hk2) ?_
 rintro r ro' gn' ⟨rfl, ⟨b, rfl⟩, rfl⟩
 refine Yaa ?_
 refine RETS_1 (i64 (k + tot T T.length)) Ur ⟨rfl, ⟨b, rfl⟩, rfl⟩
theorem nrL3 (T : List (List (List Int))) : noRefL (List.map rowLL T) = true := by
 have h := noRef_rowLLL T
 simpa only [noRef] using h
theorem imp_tl {b : Nat} {gn : Nat → Nat} {X : List Int} {v : Value} : impE b gn (.tup [rowL X, .sc v]) = ⟨.tup [.ref b (gn b + 1) [] 0 X.length, .sc v], none, [], [(b, rowL X)]⟩ := by
 show (⟨.tup [.ref b (gn b + 1) [] 0 (X.map i64).length, .sc v], none, [], [(b, .row (X.map i64))]⟩ : Eff) = _
 rw [List.length_map]
theorem noI_tL (X : List Int) (v : Value) : noI (.tup [rowL X, .sc v]) = true := by
 have h := noI_rowL X
 show (noI (rowL X) && (noI (.sc v) && true)) = true
 rw [h]; rfl
theorem in32C {s g : Nat} {xs : List Int} {ro : Ro} {gn : Nat → Nat} (hro : ro s g = some (rowL xs)) (hn : xs.length ≤ maxN) (hk2 : (1 : Int) + xs.length ≤ 2^62) :
  InOK Tryz.prog 15 [.ref s g [] 0 xs.length, i64 1] ro gn (i64 (1 + xs.length)) (upr ro s g (rowL (iota 1 xs.length))) gn := by
 have := in32 (plc_nil s g) (cs := xs.map i64) (ro := ro) (gn := gn) (k := 1) hro (by rw [List.length_map]; exact hn) (by decide) (by rw [List.length_map]; exact hk2)
 rw [List.length_map] at this
 exact this
theorem e31N : CallOK Tryz.prog 10 [nilA, nilA] (bo true) := by
 have := c31 (a := nilA) (b := nilA) (xs := []) (ys := []) (.inr ⟨rfl, rfl⟩) (.inr ⟨rfl, rfl⟩) (by decide)
 rwa [decide_eq_true rfl] at this
theorem e33N : CallOK Tryz.prog 16 [nilA, i64 1] (i64 1) :=
 c33 (a := nilA) (n := 0) (k := 1) (.inr ⟨rfl, rfl⟩) (by decide) (by decide) (by decide)
end Go.Proofs.YtdpinkgkmcbckaaGreat
/- The law of ExponentsOf. -/
namespace Go.Proofs.YtdpinkgkmcbckaaGreat
open Go.RowKit
set_option maxRecDepth 1000000
theorem tiLa : ti0 26 = some ⟨1, true, [Value.slice none 0 0], none, [(0, 22)], none, false, false⟩ := by kernel_rfl
attribute [go_sem] tiLa
section
variable {T : List (List (List Int))} {a : AV}
theorem cSzAC {left : Int} (ha : isLLLw a T) (hx : T.length < 2^63) (hr : ∀ i, (mat T i).length < 2^63) (hr2 : ∀ i j, (row (mat T i) j).length < 2^63) (h1 : 0 ≤ left) (h2 : left ≤ 1048576) : CallOK Tryz.prog 5 [.agg [a], i64 left] (i64 (szV (szT T (left - T.length) T.length))) := by
 refine call_of (fn := Tryz.f5) (code := bodyOf Tryz.f5) Tryz.func5 rfl (by kernel_rfl) (rfl) ?_
 intro sl hs
 have s0 : sl 0 = .agg [a] := hs 0
 have s1 : sl 1 = i64 left := hs 1
 dsimp only [Tryz.f5, bodyOf, Option.getD]
 simp (maxSteps := 10000000) (disch := first | assumption | omega) only [go_sem, ↓reduceIte, Nat.reduceEqDiff, reduceCtorEq, Nat.reduceAdd, Nat.reduceMul, Nat.reduceLeDiff, zc, Int.reduceToNat, s0, s1, tiLa, ti31]
 refine CLL_pure _ (cSzT ha hx hr hr2 h1 h2) (by simp (disch := assumption) only [pureL, pureA, isLw_pure, isLLw_pure, isLLLw_pure, pureL_map, Bool.and_self, Bool.and_true]) rfl rfl ?_
 by_cases h : szT T (left - T.length) T.length < 0
 ·have e : szV (szT T (left - T.length) T.length) = -1 := if_pos h
  rw [e]
  refine Yaa ?_
  exact Yac
 ·have e : szV (szT T (left - T.length) T.length) = szT T (left - T.length) T.length := if_neg h
  rw [e]
  simp (maxSteps := 10000000) (disch := first | assumption | omega) only [go_sem, ↓reduceIte, Nat.reduceEqDiff, reduceCtorEq, Nat.reduceAdd, Nat.reduceMul, Nat.reduceLeDiff, zc, Int.reduceToNat, s0, s1, h]
  exact Yac
theorem cToAC (ha : isLLLw a T) (hT : SzP T) : CallOK Tryz.prog 8 [.agg [a]] (.agg [rowLLL T]) := by
 refine call_of (fn := Tryz.f8) (code := bodyOf Tryz.f8) Tryz.func8 rfl (by kernel_rfl) (by have h := noRef_rowLLL T; simp only [noRef, noRefL, Bool.and_true] at h ⊢; exact h) ?_
 intro sl hs
 have s0 : sl 0 = .agg [a] := hs 0
 dsimp only [Tryz.f8, bodyOf, Option.getD]
 simp (maxSteps := 10000000) (disch := first | assumption | omega) only [go_sem, ↓reduceIte, Nat.reduceEqDiff, reduceCtorEq, Nat.reduceAdd, Nat.reduceMul, Nat.reduceLeDiff, zc, Int.reduceToNat, s0, tiLa, ti31, tiAc]
 refine CLL_pure _ (cToT ha hT.1 hT.2) (by simp (disch := assumption) only [pureL, pureA, isLw_pure, isLLw_pure, isLLLw_pure, pureL_map, Bool.and_self, Bool.and_true]) rfl rfl ?_
 refine Yad ?_
 simp only [zr, zb, retR, resL, outT, outL, zes, zez, oneV, zcp, zed, zfi, Ro.dl, St.ev, zhk, ↓za, ↓reduceIte, Nat.reduceEqDiff, Nat.reduceAdd, Nat.reduceLeDiff, outL, zfi, zfh, zev, zex, List.all_cons, List.all_nil, zep, Option.isSome_some, tiAc, List.length_cons, List.length_nil]
theorem cEqAC (hT : SzP T) : CallOK Tryz.prog 12 [.agg [immLLL T], .agg [immLLL T]] (bo true) := by
 have h1 := isLLL_imm T
 refine call_of (fn := Tryz.f12) (code := bodyOf Tryz.f12) Tryz.func12 rfl (by kernel_rfl) (rfl) ?_
 intro sl hs
 have s0 : sl 0 = .agg [immLLL T] := hs 0
 have s1 : sl 1 = .agg [immLLL T] := hs 1
 dsimp only [Tryz.f12, bodyOf, Option.getD]
 refine Yaa ?_
 refine CLL_pure _ (cEqT h1 h1 hT.1 hT.2) (by simp only [pureL, show pureA (immLLL T) = true from isLLL_pure h1, Bool.and_self]) rfl rfl ?_
 refine Yaa ?_
 exact Yac
end
theorem in14q {s g : Nat} {T : List (List (List Int))} {ro0 : Ro} {gn0 : Nat → Nat} {k : Int} (hro : ro0 s g = some (rowLLL T)) (hf : s ≠ 4096) (hz : SzP T) (hk : 0 ≤ k) (hk2 : k + tot T T.length ≤ 2^62) :
  InS Tryz.prog 14 [.agg [.ref s g [] 0 T.length], i64 k] ro0 gn0 (fun r ro' gn' => r = i64 (k + tot T T.length) ∧ (∃ b, ro' = upr (upr ro0 4096 (gn0 4096 + 1) (.bx [.ref s g [] 0 T.length])) s g b) ∧ gn' = upg gn0 4096 (gn0 4096 + 1)) := by
 refine in_ofS (fn := Tryz.f14) (code := bodyOf Tryz.f14) Tryz.func14 rfl (by kernel_rfl) ?_
 intro sl hs
 have s0 : sl 0 = .agg [.ref s g [] 0 T.length] := hs 0
 have s1 : sl 1 = i64 k := hs 1
 dsimp only [Tryz.f14, bodyOf, Option.getD]
 simp (maxSteps := 10000000) (disch := first | assumption | omega) only [go_sem, ↓reduceIte, Nat.reduceEqDiff, reduceCtorEq, Nat.reduceAdd, Nat.reduceMul, Nat.reduceLeDiff, zc, Int.reduceToNat, s0, s1, tiAc, ti31, hro]
 refine CLL_inS rfl (in48q (ro0 := upr ro0 4096 (gn0 4096 + 1) (.bx [.ref s g [] 0 T.length])) (by rw [upr_ne hf]; exact hro) hz hk hk2) ?_
 rintro r ro' gn' ⟨rfl, ⟨b, rfl⟩, rfl⟩
 refine Yaa ?_
 refine RETS_1 (i64 (k + tot T T.length)) Ur ⟨rfl, ⟨b, rfl⟩, rfl⟩
theorem szP_le {T : List (List (List Int))} {left : Int} (h2 : left ≤ 1048576) (h : ¬ szT T (left - T.length) T.length < 0) : SzP T ∧ (tot T T.length : Int) ≤ 1048576 := by
 obtain ⟨z1, z2⟩ := szT_ok h
 have h3 := szT_tot T (left - T.length) T.length
 refine ⟨⟨by unfold maxN; omega, fun i hi => ⟨by have := (z2 i hi).1; unfold maxN; omega, fun j hj => by have := (z2 i hi).2 j hj; unfold maxN; omega⟩⟩, by omega⟩
theorem ex_both {T A : List (List (List Int))} (hz : SzP T) (hzA : SzP A) : (∃ L : List Int, L.length ≤ 16 ∧ CallOK Tryz.prog 6 [.agg [immLLL T], .agg [immLLL A]] (.tup [rowL L, i64 0]) ∧ CallOK Tryz.prog 9 [.agg [immLLL T], .agg [immLLL A]] (.tup [rowL L, i64 0])) ∨
  ∃ z : Int, CallOK Tryz.prog 6 [.agg [immLLL T], .agg [immLLL A]] (.tup [nilA, i64 z]) ∧ CallOK Tryz.prog 9 [.agg [immLLL T], .agg [immLLL A]] (.tup [nilA, i64 z]) := by
 have hc := isLLL_imm T
 have ha := isLLL_imm A
 by_cases hP : ActP T A
 ·by_cases hm : CmP T
  ·by_cases hl : (chsI T).length = T.length
   ·exact .inl ⟨exL A T.length (chsI T), by rw [exL_len, hl]; exact hP.1.1.2.1, cExS0 hc ha hP hm hl, cExI0 hc ha hz hzA hP hm hl⟩
   ·exact .inr ⟨5, cExS6 hc ha hP hm hl, cExI6 hc ha hz hzA hP hm hl⟩
  ·exact .inr ⟨5, cExS5 hc ha hP hm, cExI5 hc ha hz hzA hP hm⟩
 ·exact .inr ⟨1, cExS1 hc ha hP, cExI1 hc ha hz hzA hP⟩
theorem cLaw23 {a b : AV} {T A : List (List (List Int))} (ha : isLLLw a T) (hx : T.length < 2^63) (hr : ∀ i, (mat T i).length < 2^63) (hr2 : ∀ i j, (row (mat T i) j).length < 2^63) (hb : isLLLw b A) (hy : A.length < 2^63) (hy1 : ∀ i, (mat A i).length < 2^63) (hy2 : ∀ i j, (row (mat A i) j).length < 2^63) : CallOK Tryz.prog 3 [.agg [a], .agg [b]] (bo true) := by
 have cZ := cSzRC (left := 1048576) ha hx hr hr2 (by decide) (by decide)
 have hpa : pureA a = true := isLLLw_pure ha
 have hpb : pureA b = true := isLLLw_pure hb
 refine call_of (fn := Tryz.f3) (code := bodyOf Tryz.f3) Tryz.func3 rfl (by kernel_rfl) (rfl) ?_
 intro sl hs
 have s0 : sl 0 = .agg [a] := hs 0
 have s1 : sl 1 = .agg [b] := hs 1
 by_cases hz : szT T ((1048576 : Int) - T.length) T.length < 0
 ·have e : szV (szT T ((1048576 : Int) - T.length) T.length) = -1 := if_pos hz
  rw [e] at cZ
  dsimp only [Tryz.f3, bodyOf, Option.getD]
  simp (maxSteps := 10000000) (disch := first | assumption | omega) only [go_sem, ↓reduceIte, Nat.reduceEqDiff, reduceCtorEq, Nat.reduceAdd, Nat.reduceMul, Nat.reduceLeDiff, zc, Int.reduceToNat, s0, s1, tiRg, tiLa, ti31]
  refine CLL_pure _ cZ (by simp only [pureL, pureA, hpa, Bool.and_self, Bool.and_true]) rfl rfl ?_
  refine Yaa ?_
  exact Yac
 have e : szV (szT T ((1048576 : Int) - T.length) T.length) = szT T ((1048576 : Int) - T.length) T.length := if_neg hz
 rw [e] at cZ
 obtain ⟨hS, htot⟩ := szP_le (left := 1048576) (by decide) hz
 obtain ⟨l, hl⟩ : ∃ l, l = szT T ((1048576 : Int) - T.length) T.length := ⟨_, rfl⟩
 have hl1 : 0 ≤ l := by omega
 have hl2 : l ≤ 1048576 := by have := szT_tot T ((1048576 : Int) - T.length) T.length; omega
 rw [← hl] at cZ
 have hz' : ¬ l < 0 := by omega
 have cZ2 := cSzAC (left := l) hb hy hy1 hy2 hl1 hl2
 by_cases hzA : szT A (l - A.length) A.length < 0
 ·have e : szV (szT A (l - A.length) A.length) = -1 := if_pos hzA
  rw [e] at cZ2
  dsimp only [Tryz.f3, bodyOf, Option.getD]
  simp (maxSteps := 10000000) (disch := first | assumption | omega) only [go_sem, ↓reduceIte, Nat.reduceEqDiff, reduceCtorEq, Nat.reduceAdd, Nat.reduceMul, Nat.reduceLeDiff, zc, Int.reduceToNat, s0, s1, tiRg, tiLa, ti31]
  refine CLL_pure _ cZ (by simp only [pureL, pureA, hpa, Bool.and_self, Bool.and_true]) rfl rfl ?_
  refine Ybu ?_
  refine CLL_pure _ cZ2 (by simp only [pureL, pureA, hpa, hpb, Bool.and_self, Bool.and_true]) rfl rfl ?_
  refine Yaa ?_
  exact Yac
 have e2 : szV (szT A (l - A.length) A.length) = szT A (l - A.length) A.length := if_neg hzA
 rw [e2] at cZ2
 obtain ⟨hSA, htotA⟩ := szP_le hl2 hzA
 have cT := cToRC ha hS
 have cE := cEqRC hS
 have cTA := cToAC hb hSA
 have cEA := cEqAC hSA
 have hpos : ¬ ((1 : Int) + (tot T T.length : Nat) + (tot A A.length : Nat) < 0) := by omega
 have hn3 := nrL3 T
 have hn4 := nrL3 A
 rcases ex_both hS hSA with ⟨L, m1, hL, hI⟩ | ⟨z, hL, hI⟩
 ·have hX : L.length ≤ maxN := Nat.le_trans m1 (by decide)
  have cD := c31 (isL_imm L) (isL_imm L) hX
  rw [decide_eq_true rfl] at cD
  have cH := c33 (isL_imm (iota 1 L.length)) (k := 1) (n := L.length) hX (by decide) (by omega)
  have hge : ¬ ((1 : Int) + L.length < 0) := by omega
  dsimp only [Tryz.f3, bodyOf, Option.getD]
  simp (maxSteps := 10000000) (disch := first | assumption | omega) only [go_sem, ↓reduceIte, Nat.reduceEqDiff, reduceCtorEq, Nat.reduceAdd, Nat.reduceMul, Nat.reduceLeDiff, zc, Int.reduceToNat, s0, s1, tiRg, tiLa, ti31, ti33, tiAc]
  refine CLL_pure _ cZ (by simp only [pureL, pureA, hpa, Bool.and_self, Bool.and_true]) rfl rfl ?_
  refine Ybu ?_
  refine CLL_pure _ cZ2 (by simp only [pureL, pureA, hpa, hpb, Bool.and_self, Bool.and_true]) rfl rfl ?_
  simp (maxSteps := 10000000) (disch := first | assumption | omega) only [go_sem, ↓reduceIte, Nat.reduceEqDiff, reduceCtorEq, Nat.reduceAdd, Nat.reduceMul, Nat.reduceLeDiff, zc, Int.reduceToNat, s0, s1, eq_false hzA]
  refine CLLD_pure _ cT (by simp only [pureL, pureA, hpa, Bool.and_self, Bool.and_true]) rfl ?_
  refine Yaf ?_
  refine CLLD_pure _ cTA (by simp only [pureL, pureA, hpa, hpb, Bool.and_self, Bool.and_true]) rfl ?_
  refine Yaf ?_
  refine CLLD_q _ hL (.cons (exq_agg (.cons (exq_refLLL Ur rfl (by decide)) .nil)) (.cons (exq_agg (.cons (exq_refLLL Ur rfl (by decide)) .nil)) .nil)) rfl (noI_tL _ _) ?_
  simp (maxSteps := 10000000) (disch := first | assumption | omega) only [go_sem, ↓reduceIte, Nat.reduceEqDiff, reduceCtorEq, Nat.reduceAdd, Nat.reduceMul, Nat.reduceLeDiff, zc, Int.reduceToNat, s0, s1, imp_tl, hn3, hn4]
  refine FIN_of (by kernel_rfl) ?_
  refine Yaa ?_
  refine CLL_pure _ cT (by simp only [pureL, pureA, hpa, Bool.and_self, Bool.and_true]) rfl rfl ?_
  refine Yaf ?_
  refine CLL_pure _ cTA (by simp only [pureL, pureA, hpa, hpb, Bool.and_self, Bool.and_true]) rfl rfl ?_
  refine Yaf ?_
  refine CLL_q _ hI (.cons (exq_agg (.cons (exq_refLLL Ur rfl (by decide)) .nil)) (.cons (exq_agg (.cons (exq_refLLL Ur rfl (by decide)) .nil)) .nil)) rfl rfl (noI_tL _ _) ?_
  simp (maxSteps := 10000000) (disch := first | assumption | omega) only [go_sem, ↓reduceIte, Nat.reduceEqDiff, reduceCtorEq, Nat.reduceAdd, Nat.reduceMul, Nat.reduceLeDiff, zc, Int.reduceToNat, s0, s1, imp_tl]
  refine CLL_q _ cD AXt rfl rfl rfl ?_
  refine Yaa ?_
  refine CLLD_pure _ cT (by simp only [pureL, pureA, hpa, Bool.and_self, Bool.and_true]) rfl ?_
  refine Yaf ?_
  refine CLLD_q _ cE (.cons (exq_agg (.cons (exq_refLLL Ur rfl (by decide)) .nil)) (.cons (exq_agg (.cons (exq_refLLL Ur rfl (by decide)) .nil)) .nil)) rfl rfl ?_
  simp (maxSteps := 10000000) (disch := first | assumption | omega) only [go_sem, ↓reduceIte, Nat.reduceEqDiff, reduceCtorEq, Nat.reduceAdd, Nat.reduceMul, Nat.reduceLeDiff, zc, Int.reduceToNat, s0, s1, hn3]
  refine FIN_of (by kernel_rfl) ?_
  refine Yaa ?_
  refine CLLD_pure _ cTA (by simp only [pureL, pureA, hpa, hpb, Bool.and_self, Bool.and_true]) rfl ?_
  refine Yaf ?_
  refine CLLD_q _ cEA (.cons (exq_agg (.cons (exq_refLLL Ur rfl (by decide)) .nil)) (.cons (exq_agg (.cons (exq_refLLL Ur rfl (by decide)) .nil)) .nil)) rfl rfl ?_
  simp (maxSteps := 10000000) (disch := first | assumption | omega) only [go_sem, ↓reduceIte, Nat.reduceEqDiff, reduceCtorEq, Nat.reduceAdd, Nat.reduceMul, Nat.reduceLeDiff, zc, Int.reduceToNat, s0, s1, hn4]
  refine FIN_of (by kernel_rfl) ?_
  refine Yaa ?_
  refine CLL_inS rfl (in18q (T := T) (k := 1) Ur (by decide) hS (by decide) (by omega)) ?_
  rintro r ro' gn' ⟨rfl, ⟨b, rfl⟩, rfl⟩
  refine Yaa ?_
  refine CLL_inS rfl (in14q (T := A) (k := 1 + (tot T T.length : Nat)) Ur (by decide) hSA (by omega) (by omega)) ?_
  rintro r ro' gn' ⟨rfl, ⟨b', rfl⟩, rfl⟩
  simp (maxSteps := 10000000) (disch := first | assumption | omega) only [go_sem, ↓reduceIte, Nat.reduceEqDiff, reduceCtorEq, Nat.reduceAdd, Nat.reduceMul, Nat.reduceLeDiff, zc, Int.reduceToNat, s0, s1, hpos]
  refine CLL_q _ cD AXt rfl rfl rfl ?_
  refine Yaa ?_
  refine CLL_in rfl _ _ _ (in32C (xs := L) Ur hX (by omega)) ?_
  refine Yaa ?_
  refine CLL_q _ cH (.cons (exq_refL Ur (iota_len _ _).symm (by decide)) (.cons (exq_sc _ _ _ (by decide)) .nil)) rfl rfl rfl ?_
  simp (maxSteps := 10000000) (disch := first | assumption | omega) only [go_sem, ↓reduceIte, Nat.reduceEqDiff, reduceCtorEq, Nat.reduceAdd, Nat.reduceMul, Nat.reduceLeDiff, zc, Int.reduceToNat, s0, s1, hge]
  refine CLLD_pure _ cT (by simp only [pureL, pureA, hpa, Bool.and_self, Bool.and_true]) rfl ?_
  refine Yaf ?_
  refine CLLD_pure _ cTA (by simp only [pureL, pureA, hpa, hpb, Bool.and_self, Bool.and_true]) rfl ?_
  refine Yaf ?_
  refine CLLD_q _ hI (.cons (exq_agg (.cons (exq_refLLL Ur rfl (by decide)) .nil)) (.cons (exq_agg (.cons (exq_refLLL Ur rfl (by decide)) .nil)) .nil)) rfl (noI_tL _ _) ?_
  simp (maxSteps := 10000000) (disch := first | assumption | omega) only [go_sem, ↓reduceIte, Nat.reduceEqDiff, reduceCtorEq, Nat.reduceAdd, Nat.reduceMul, Nat.reduceLeDiff, zc, Int.reduceToNat, s0, s1, imp_tl, hn3, hn4]
  refine FIN_of (by kernel_rfl) ?_
  refine Yaa ?_
  refine CLL_q _ cD AXt rfl rfl rfl ?_
  refine Yaa ?_
  refine CLL_q _ cH (.cons (exq_refL Ur (iota_len _ _).symm (by decide)) (.cons (exq_sc _ _ _ (by decide)) .nil)) rfl rfl rfl ?_
  simp (maxSteps := 10000000) (disch := first | assumption | omega) only [go_sem, ↓reduceIte, Nat.reduceEqDiff, reduceCtorEq, Nat.reduceAdd, Nat.reduceMul, Nat.reduceLeDiff, zc, Int.reduceToNat, s0, s1, hge]
  exact Yac
 ·have e42 := e31N
  have e44 := e33N
  have h11 : ¬ ((1 : Int) < 0) := by decide
  dsimp only [Tryz.f3, bodyOf, Option.getD]
  simp (maxSteps := 10000000) (disch := first | assumption | omega) only [go_sem, ↓reduceIte, Nat.reduceEqDiff, reduceCtorEq, Nat.reduceAdd, Nat.reduceMul, Nat.reduceLeDiff, zc, Int.reduceToNat, s0, s1, tiRg, tiLa, ti31, ti33, tiAc]
  refine CLL_pure _ cZ (by simp only [pureL, pureA, hpa, Bool.and_self, Bool.and_true]) rfl rfl ?_
  refine Ybu ?_
  refine CLL_pure _ cZ2 (by simp only [pureL, pureA, hpa, hpb, Bool.and_self, Bool.and_true]) rfl rfl ?_
  simp (maxSteps := 10000000) (disch := first | assumption | omega) only [go_sem, ↓reduceIte, Nat.reduceEqDiff, reduceCtorEq, Nat.reduceAdd, Nat.reduceMul, Nat.reduceLeDiff, zc, Int.reduceToNat, s0, s1, eq_false hzA]
  refine CLLD_pure _ cT (by simp only [pureL, pureA, hpa, Bool.and_self, Bool.and_true]) rfl ?_
  refine Yaf ?_
  refine CLLD_pure _ cTA (by simp only [pureL, pureA, hpa, hpb, Bool.and_self, Bool.and_true]) rfl ?_
  refine Yaf ?_
  refine CLLD_q _ hL (.cons (exq_agg (.cons (exq_refLLL Ur rfl (by decide)) .nil)) (.cons (exq_agg (.cons (exq_refLLL Ur rfl (by decide)) .nil)) .nil)) rfl rfl ?_
  simp (maxSteps := 10000000) (disch := first | assumption | omega) only [go_sem, ↓reduceIte, Nat.reduceEqDiff, reduceCtorEq, Nat.reduceAdd, Nat.reduceMul, Nat.reduceLeDiff, zc, Int.reduceToNat, s0, s1, imp_tN, hn3, hn4]
  refine FIN_of (by kernel_rfl) ?_
  refine Yaa ?_
  refine CLL_pure _ cT (by simp only [pureL, pureA, hpa, Bool.and_self, Bool.and_true]) rfl rfl ?_
  refine Yaf ?_
  refine CLL_pure _ cTA (by simp only [pureL, pureA, hpa, hpb, Bool.and_self, Bool.and_true]) rfl rfl ?_
  refine Yaf ?_
  refine CLL_q _ hI (.cons (exq_agg (.cons (exq_refLLL Ur rfl (by decide)) .nil)) (.cons (exq_agg (.cons (exq_refLLL Ur rfl (by decide)) .nil)) .nil)) rfl rfl rfl ?_
  simp (maxSteps := 10000000) (disch := first | assumption | omega) only [go_sem, ↓reduceIte, Nat.reduceEqDiff, reduceCtorEq, Nat.reduceAdd, Nat.reduceMul, Nat.reduceLeDiff, zc, Int.reduceToNat, s0, s1, imp_tN]
  refine CLL_pure _ e42 rfl rfl rfl ?_
  refine Yaa ?_
  refine CLLD_pure _ cT (by simp only [pureL, pureA, hpa, Bool.and_self, Bool.and_true]) rfl ?_
  refine Yaf ?_
  refine CLLD_q _ cE (.cons (exq_agg (.cons (exq_refLLL Ur rfl (by decide)) .nil)) (.cons (exq_agg (.cons (exq_refLLL Ur rfl (by decide)) .nil)) .nil)) rfl rfl ?_
  simp (maxSteps := 10000000) (disch := first | assumption | omega) only [go_sem, ↓reduceIte, Nat.reduceEqDiff, reduceCtorEq, Nat.reduceAdd, Nat.reduceMul, Nat.reduceLeDiff, zc, Int.reduceToNat, s0, s1, hn3]
  refine FIN_of (by kernel_rfl) ?_
  refine Yaa ?_
  refine CLLD_pure _ cTA (by simp only [pureL, pureA, hpa, hpb, Bool.and_self, Bool.and_true]) rfl ?_
  refine Yaf ?_
  refine CLLD_q _ cEA (.cons (exq_agg (.cons (exq_refLLL Ur rfl (by decide)) .nil)) (.cons (exq_agg (.cons (exq_refLLL Ur rfl (by decide)) .nil)) .nil)) rfl rfl ?_
  simp (maxSteps := 10000000) (disch := first | assumption | omega) only [go_sem, ↓reduceIte, Nat.reduceEqDiff, reduceCtorEq, Nat.reduceAdd, Nat.reduceMul, Nat.reduceLeDiff, zc, Int.reduceToNat, s0, s1, hn4]
  refine FIN_of (by kernel_rfl) ?_
  refine Yaa ?_
  refine CLL_inS rfl (in18q (T := T) (k := 1) Ur (by decide) hS (by decide) (by omega)) ?_
  rintro r ro' gn' ⟨rfl, ⟨b, rfl⟩, rfl⟩
  refine Yaa ?_
  refine CLL_inS rfl (in14q (T := A) (k := 1 + (tot T T.length : Nat)) Ur (by decide) hSA (by omega) (by omega)) ?_
  rintro r ro' gn' ⟨rfl, ⟨b', rfl⟩, rfl⟩
  simp (maxSteps := 10000000) (disch := first | assumption | omega) only [go_sem, ↓reduceIte, Nat.reduceEqDiff, reduceCtorEq, Nat.reduceAdd, Nat.reduceMul, Nat.reduceLeDiff, zc, Int.reduceToNat, s0, s1, hpos]
  refine CLL_pure _ e42 rfl rfl rfl ?_
  refine Yaa ?_
  refine CLL_in rfl _ _ _ in32n ?_
  refine Yaa ?_
  refine CLL_pure _ e44 rfl rfl rfl ?_
  simp (maxSteps := 10000000) (disch := first | assumption | omega) only [go_sem, ↓reduceIte, Nat.reduceEqDiff, reduceCtorEq, Nat.reduceAdd, Nat.reduceMul, Nat.reduceLeDiff, zc, Int.reduceToNat, s0, s1, h11]
  refine CLLD_pure _ cT (by simp only [pureL, pureA, hpa, Bool.and_self, Bool.and_true]) rfl ?_
  refine Yaf ?_
  refine CLLD_pure _ cTA (by simp only [pureL, pureA, hpa, hpb, Bool.and_self, Bool.and_true]) rfl ?_
  refine Yaf ?_
  refine CLLD_q _ hI (.cons (exq_agg (.cons (exq_refLLL Ur rfl (by decide)) .nil)) (.cons (exq_agg (.cons (exq_refLLL Ur rfl (by decide)) .nil)) .nil)) rfl rfl ?_
  simp (maxSteps := 10000000) (disch := first | assumption | omega) only [go_sem, ↓reduceIte, Nat.reduceEqDiff, reduceCtorEq, Nat.reduceAdd, Nat.reduceMul, Nat.reduceLeDiff, zc, Int.reduceToNat, s0, s1, imp_tN, hn3, hn4]
  refine FIN_of (by kernel_rfl) ?_
  refine Yaa ?_
  refine CLL_pure _ e42 rfl rfl rfl ?_
  refine Yaa ?_
  refine CLL_pure _ e44 rfl rfl rfl ?_
  simp (maxSteps := 10000000) (disch := first | assumption | omega) only [go_sem, ↓reduceIte, Nat.reduceEqDiff, reduceCtorEq, Nat.reduceAdd, Nat.reduceMul, Nat.reduceLeDiff, zc, Int.reduceToNat, s0, s1, h11]
  exact Yac
end Go.Proofs.YtdpinkgkmcbckaaGreat
