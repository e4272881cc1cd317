/- Texts joined: Cs5 Cs6. -/
import Derived.Test.YtiljdiaigoppbaaGreatCg
set_option linter.all false
/- All characters by the reference and by the program; the codes. -/
namespace Go.Proofs.YtiljdiaigoppbaaGreat
open Go.RowKit
set_option maxRecDepth 1000000
theorem cAllS {c : AV} {T : List (List (List Int))} (hc : isLLL c T) (hT : CubeP T) : CallOK Tryz.prog 24 [.agg [c]] (rowLL (chsS T)) := by
 obtain ⟨t1, t16, hcu⟩ := id hT
 have hfew : (chsS T).length ≤ T.length := by rw [← chs_same hT]; exact chs_few hT
 refine call_of (fn := Tryz.f24) (code := bodyOf Tryz.f24) Tryz.func24 rfl (by kernel_rfl) (noRef_rowLL _) ?_
 intro sl hs
 have s0 : sl 0 = .agg [c] := hs 0
 dsimp only [Tryz.f24, bodyOf, Option.getD]
 simp (maxSteps := 10000000) (disch := first | assumption | omega) only [go_sem, ↓reduceIte, Nat.reduceEqDiff, reduceCtorEq, Nat.reduceAdd, Nat.reduceMul, Nat.reduceLeDiff, zc, Int.reduceToNat, s0, ti33, ti31]
 refine WK_for (fun i st => st.sl 1 = .ptr 4096 1 [] 0 ∧ st.ro 4096 1 = some (.bx [c]) ∧ st.sl 3 = .ref 8192 (st.gn 8192) [] 0 i ∧ st.ro 8192 (st.gn 8192) = some (.row (rws (fun k => rowL (vlS T k)) i)) ∧ st.sl 4 = i64 (i : Int)) T.length ?_ ?_ ?_
 ·simp only [↓za, ↓reduceIte, Nat.reduceEqDiff, zb, reduceCtorEq, rws_zero, s0]
  repeat' first | rfl | apply And.intro
 ·rintro i sl ro gn hi ⟨s1, r4096, s3, r8192, s4⟩
  dsimp only at s1 r4096 s3 r8192 s4
  have hi' : (i : Int) < (T.length : Nat) := by omega
  have hi2 : i + 1 ≤ 4294967296 := by omega
  have hm := isLLL_mat hc hi
  rw [ringM_mat hT hi] at hm
  have cv : CallOK Tryz.prog 36 [atA c i] (rowL (vlS T i)) := cValS hm (by omega) (by omega) (ringM_num hT i)
  simp (maxSteps := 10000000) (disch := first | assumption | omega) only [go_sem, ↓reduceIte, Nat.reduceEqDiff, reduceCtorEq, Nat.reduceAdd, Nat.reduceMul, Nat.reduceLeDiff, zc, Int.reduceToNat, s1, r4096, s3, r8192, s4, hi', hi, isLLL_len hc]
  refine CLL_pure _ cv PUt rfl rfl ?_
  simp (maxSteps := 10000000) (disch := first | assumption | omega) only [go_sem, ↓reduceIte, Nat.reduceEqDiff, reduceCtorEq, Nat.reduceAdd, Nat.reduceMul, Nat.reduceLeDiff, zc, Int.reduceToNat, s1, r4096, s3, r8192, s4, hi', hi, impE_row, List.length_map, hi2]
  exact i64c (by omega)
 ·rintro sl ro gn ⟨s1, r4096, s3, r8192, s4⟩
  dsimp only at s1 r4096 s3 r8192 s4
  have hi' : ¬ ((T.length : Nat) : Int) < (T.length : Nat) := by omega
  simp (maxSteps := 10000000) (disch := first | assumption | omega) only [go_sem, ↓reduceIte, Nat.reduceEqDiff, reduceCtorEq, Nat.reduceAdd, Nat.reduceMul, Nat.reduceLeDiff, zc, Int.reduceToNat, s1, r4096, s3, r8192, s4, hi', isLLL_len hc]
  refine CLL_inS rfl (inGrow hc hT T.length _ _ [] [] 28704 _ _ _ (by simp) (fun j => by rw [atI_out (by simp)]; unfold num; decide) ?_ ?_ ?_ ?_ (.inl rfl) ?_ ?_ ?_) ?_
  ·show 0 + (chsS T).length ≤ 65536
   omega
  ·simp only [↓za, ↓reduceIte, Nat.reduceEqDiff, zb, reduceCtorEq]
   rw [r8192, rowLL, rws_map]
  ·simp only [↓za, ↓reduceIte, Nat.reduceEqDiff, zb, reduceCtorEq]; rfl
  ·simp only [↓za, ↓reduceIte, Nat.reduceEqDiff, zb, reduceCtorEq]; rfl
  ·simp only [↓za, ↓reduceIte, Nat.reduceEqDiff, zb, reduceCtorEq]; exact Nat.le_refl _
  ·simp only [↓za, ↓reduceIte, Nat.reduceEqDiff, zb, reduceCtorEq]; exact Nat.le_refl _
  ·simp only [↓za, ↓reduceIte, Nat.reduceEqDiff, zb, reduceCtorEq]; exact Nat.le_refl _
  rintro r ro' gn' ⟨⟨g', rfl, hro', -, -⟩, -, -⟩
  rw [List.nil_append] at hro' ⊢
  simp (maxSteps := 10000000) (disch := first | assumption | omega) only [go_sem, ↓reduceIte, Nat.reduceEqDiff, reduceCtorEq, Nat.reduceAdd, Nat.reduceMul, Nat.reduceLeDiff, zc, Int.reduceToNat, s1, r4096, s3, r8192, s4, hi']
  simp only [zr, zb, retR, resL, outT, outL, zes, zez, oneV, zcp, zed, zfi, Ro.dl, St.ev, zhk, ↓za, ↓reduceIte, Nat.reduceEqDiff, Nat.reduceAdd, Nat.reduceLeDiff, hro', rowLL]
  rfl
theorem RF_F2 {T : List (List (List Int))} (h : RF T = none) : F2 T = none := by
 cases h1 : F1 T with
 | some l => rw [RF1 h1] at h; cases h
 | none =>
  cases h2 : F2 T with
  | some l => rw [RF2 h1 h2] at h; cases h
  | none => rfl
noncomputable def dd (T : List (List (List Int))) (j : Nat) : Nat := (dlT T j).toNat
theorem dd_ok {T : List (List (List Int))} (h : RngP T) {j : Nat} (hj : j < T.length) : dlT T j = (dd T j : Nat) ∧ dd T j < T.length := by
 obtain ⟨m, h1, h2⟩ := dl_ok (RF_F2 h.2) hj
 have e : dd T j = m := by unfold dd; rw [h1]; exact Int.toNat_natCast m
 rw [e]
 exact ⟨h1, h2⟩
noncomputable def cdg (T : List (List (List Int))) (x : List Int) : Int := sm (fun j => atI x j * atI x (dd T j)) T.length % 55441
theorem duals_nat {T : List (List (List Int))} (h : RngP T) : rws (fun i => i64 (dlT T i)) T.length = (rws (fun i => ((dd T i : Nat) : Int)) T.length).map i64 := by
 rw [rws_map]
 exact rws_congr fun i hi => by rw [(dd_ok h hi).1]
theorem cTurnL {a b : AV} {d : Nat → Nat} {x : List Int} {n : Nat} (ha : isL a (rws (fun i => ((d i : Nat) : Int)) n)) (hb : isL b x) (hn : n ≤ 65536) (hd : ∀ i, i < n → d i < x.length) : CallOK Tryz.prog 50 [a, b] (rowL (rws (fun i => atI x (d i)) n)) := by
 have hl : (rws (fun i => ((d i : Nat) : Int)) n).length = n := zfe _ _
 refine call_of (fn := Tryz.f50) (code := bodyOf Tryz.f50) Tryz.func50 rfl (by kernel_rfl) (noRef_rowL _) ?_
 intro sl hs
 have s0 : sl 0 = a := hs 0
 have s1 : sl 1 = b := hs 1
 dsimp only [Tryz.f50, bodyOf, Option.getD]
 simp (maxSteps := 10000000) (disch := first | assumption | omega) only [go_sem, ↓reduceIte, Nat.reduceEqDiff, reduceCtorEq, Nat.reduceAdd, Nat.reduceMul, Nat.reduceLeDiff, zc, Int.reduceToNat, s0, s1, isL_len ha, hl]
 refine WK_for (fun i st => st.sl 1 = b ∧ st.sl 9 = a ∧ st.sl 10 = i64 (n : Nat) ∧ st.sl 11 = i64 (i : Int) ∧ st.sl 5 = .ref 8192 (st.gn 8192) [] 0 i ∧ st.ro 8192 (st.gn 8192) = some (.row (rws (fun i => i64 (atI x (d i))) i))) n ?_ ?_ ?_
 ·simp only [↓za, ↓reduceIte, Nat.reduceEqDiff, zb, reduceCtorEq, rws_zero, s0, s1]
  repeat' first | rfl | apply And.intro
 ·rintro i sl ro gn hi ⟨s1, s9, s10, s11, s5, r8192⟩
  dsimp only at s1 s9 s10 s11 s5 r8192
  have hi' : (i : Int) < (n : Nat) := by omega
  have hi2 : i + 1 ≤ 4294967296 := by omega
  have hai : i < (rws (fun i => ((d i : Nat) : Int)) n).length := by omega
  have hdi := hd i hi
  have ea : atI (rws (fun i => ((d i : Nat) : Int)) n) i = (d i : Nat) := atI_rws _ hi
  simp (maxSteps := 10000000) (disch := first | assumption | omega) only [go_sem, ↓reduceIte, Nat.reduceEqDiff, reduceCtorEq, Nat.reduceAdd, Nat.reduceMul, Nat.reduceLeDiff, zc, Int.reduceToNat, s1, s9, s10, s11, s5, r8192, hi', hi, isL_idx ha hai, ea, isL_idx hb hdi, hi2]
  exact i64c (by omega)
 ·rintro sl ro gn ⟨s1, s9, s10, s11, s5, r8192⟩
  dsimp only at s1 s9 s10 s11 s5 r8192
  have hi' : ¬ ((n : Nat) : Int) < (n : Nat) := by omega
  simp (maxSteps := 10000000) (disch := first | assumption | omega) only [go_sem, ↓reduceIte, Nat.reduceEqDiff, reduceCtorEq, Nat.reduceAdd, Nat.reduceMul, Nat.reduceLeDiff, zc, Int.reduceToNat, s1, s9, s10, s11, s5, r8192, hi']
  simp only [zr, zb, retR, resL, outT, outL, zes, zez, oneV, zcp, zed, zfi, Ro.dl, St.ev, zhk, ↓za, ↓reduceIte, Nat.reduceEqDiff, Nat.reduceAdd, Nat.reduceLeDiff, r8192, rowL, rws_map]
theorem cPairI {c a : AV} {T : List (List (List Int))} {x : List Int} (hc : isLLL c T) (hR : RngP T) (ha : isL a x) (hl : x.length = T.length) (nx : numL x) : CallOK Tryz.prog 32 [.agg [c], a, a] (i64 (cdg T x)) := by
 obtain ⟨t1, t16, hcu⟩ := id hR.1
 have cd := cDualsI hc hR.1
 rw [duals_nat hR] at cd
 have ct := cTurnL (d := dd T) (isL_imm (rws (fun i => ((dd T i : Nat) : Int)) T.length)) ha (by omega) (fun i hi => by rw [hl]; exact (dd_ok hR hi).2)
 have hl2 : (rws (fun i => ((dd T i : Nat) : Int)) T.length).length = T.length := zfe _ _
 have hl3 : (rws (fun i => atI x (dd T i)) T.length).length = T.length := zfe _ _
 have cdot := c119 ha (isL_imm (rws (fun i => atI x (dd T i)) T.length)) (by rw [hl]; unfold maxN; omega) (by rw [hl3, hl]; exact Nat.le_refl _) nx (numL_rws _ _ fun i _ => nx _)
 have ec : sm (fun j => atI x j * atI (rws (fun i => atI x (dd T i)) T.length) j) x.length % 55441 = cdg T x := by
  unfold cdg
  rw [hl]
  exact congrArg (· % 55441) (sm_congr fun j hj => by rw [atI_rws _ hj])
 rw [ec] at cdot
 refine call_of (fn := Tryz.f32) (code := bodyOf Tryz.f32) Tryz.func32 rfl (by kernel_rfl) (rfl) ?_
 intro sl hs
 have s0 : sl 0 = .agg [c] := hs 0
 have s1 : sl 1 = a := hs 1
 have s2 : sl 2 = a := hs 2
 dsimp only [Tryz.f32, bodyOf, Option.getD]
 simp (maxSteps := 10000000) (disch := first | assumption | omega) only [go_sem, ↓reduceIte, Nat.reduceEqDiff, reduceCtorEq, Nat.reduceAdd, Nat.reduceMul, Nat.reduceLeDiff, zc, Int.reduceToNat, s0, s1, s2, ti33, ti31]
 refine CLL_pure _ cd PUt rfl rfl ?_
 simp (maxSteps := 10000000) (disch := first | assumption | omega) only [go_sem, ↓reduceIte, Nat.reduceEqDiff, reduceCtorEq, Nat.reduceAdd, Nat.reduceMul, Nat.reduceLeDiff, zc, Int.reduceToNat, s0, s1, s2, impE_row, List.length_map, hl2]
 refine CLL_q _ ct (.cons (exq_refL (xs := rws (fun i => ((dd T i : Nat) : Int)) T.length) Ur hl2.symm (by decide)) (.cons (exq_L ha (by decide)) .nil)) rfl rfl (noI_rowL _) ?_
 simp (maxSteps := 10000000) (disch := first | assumption | omega) only [go_sem, ↓reduceIte, Nat.reduceEqDiff, reduceCtorEq, Nat.reduceAdd, Nat.reduceMul, Nat.reduceLeDiff, zc, Int.reduceToNat, s0, s1, s2, impE_row, List.length_map, hl3]
 refine CLL_q _ cdot (.cons (exq_L ha (by decide)) (.cons (exq_refL (xs := rws (fun i => atI x (dd T i)) T.length) Ur hl3.symm (by decide)) .nil)) rfl rfl rfl ?_
 simp (maxSteps := 10000000) (disch := first | assumption | omega) only [go_sem, ↓reduceIte, Nat.reduceEqDiff, reduceCtorEq, Nat.reduceAdd, Nat.reduceMul, Nat.reduceLeDiff, zc, Int.reduceToNat, s0, s1, s2]
 simp only [zr, zb, retR, resL, outT, outL, zes, zez, oneV, zcp, zed, zfi, Ro.dl, St.ev, zhk, ↓za, ↓reduceIte, Nat.reduceEqDiff, Nat.reduceAdd, Nat.reduceLeDiff]
theorem cDualsS {c : AV} {T : List (List (List Int))} (ha : isLLL c T) (hc : CubeP T) : CallOK Tryz.prog 30 [.agg [c]] (.row (rws (fun i => i64 (dlT T i)) T.length)) := by
 obtain ⟨h1, h2, h3⟩ := id hc
 refine call_of (fn := Tryz.f30) (code := bodyOf Tryz.f30) Tryz.func30 rfl (by kernel_rfl) (noRef_row _ (noRefL_rws _ _ fun _ => rfl)) ?_
 intro sl hs
 have s0 : sl 0 = .agg [c] := hs 0
 dsimp only [Tryz.f30, bodyOf, Option.getD]
 simp (maxSteps := 10000000) (disch := first | assumption | omega) only [go_sem, ↓reduceIte, Nat.reduceEqDiff, reduceCtorEq, Nat.reduceAdd, Nat.reduceMul, Nat.reduceLeDiff, zc, Int.reduceToNat, s0, ti33, ti31]
 refine WK_for (fun i st => st.sl 1 = .ptr 4096 1 [] 0 ∧ st.ro 4096 1 = some (.bx [c]) ∧ st.sl 4 = i64 (i : Int) ∧ st.sl 3 = .ref 8192 (st.gn 8192) [] 0 i ∧ st.ro 8192 (st.gn 8192) = some (.row (rws (fun i => i64 (dlT T i)) i))) T.length ?_ ?_ ?_
 ·simp only [↓za, ↓reduceIte, Nat.reduceEqDiff, zb, reduceCtorEq, rws_zero, s0]
  repeat' first | rfl | apply And.intro
 ·rintro i sl ro gn hi ⟨s1, r4096, s4, s3, r8192⟩
  dsimp only at s1 r4096 s4 s3 r8192
  have hi' : (i : Int) < (T.length : Nat) := by omega
  have hi2 : i + 1 ≤ 4294967296 := by omega
  simp (maxSteps := 10000000) (disch := first | assumption | omega) only [go_sem, ↓reduceIte, Nat.reduceEqDiff, reduceCtorEq, Nat.reduceAdd, Nat.reduceMul, Nat.reduceLeDiff, zc, Int.reduceToNat, s1, r4096, s4, s3, r8192, hi', hi, isLLL_len ha]
  refine CLL_pure _ (c150 ha hc hi) PUt rfl rfl ?_
  simp (maxSteps := 10000000) (disch := first | assumption | omega) only [go_sem, ↓reduceIte, Nat.reduceEqDiff, reduceCtorEq, Nat.reduceAdd, Nat.reduceMul, Nat.reduceLeDiff, zc, Int.reduceToNat, s1, r4096, s4, s3, r8192, hi', hi, hi2]
  exact i64c (by omega)
 ·rintro sl ro gn ⟨s1, r4096, s4, s3, r8192⟩
  dsimp only at s1 r4096 s4 s3 r8192
  have hi' : ¬ ((T.length : Nat) : Int) < (T.length : Nat) := by omega
  simp (maxSteps := 10000000) (disch := first | assumption | omega) only [go_sem, ↓reduceIte, Nat.reduceEqDiff, reduceCtorEq, Nat.reduceAdd, Nat.reduceMul, Nat.reduceLeDiff, zc, Int.reduceToNat, s1, r4096, s4, s3, r8192, hi', isLLL_len ha]
  simp only [zr, zb, retR, resL, outT, outL, zes, zez, oneV, zcp, zed, zfi, Ro.dl, St.ev, zhk, ↓za, ↓reduceIte, Nat.reduceEqDiff, Nat.reduceAdd, Nat.reduceLeDiff, r8192]
theorem cPairS {a b : AV} {T : List (List (List Int))} {x : List Int} (hR : RngP T) (ha : isL a x) (hb : isL b (rws (fun i => ((dd T i : Nat) : Int)) T.length)) (hl : x.length = T.length) (nx : numL x) : CallOK Tryz.prog 31 [a, a, b] (i64 (cdg T x)) := by
 obtain ⟨t1, t16, hcu⟩ := id hR.1
 have hl2 : (rws (fun i => ((dd T i : Nat) : Int)) T.length).length = T.length := zfe _ _
 refine call_of (fn := Tryz.f31) (code := bodyOf Tryz.f31) Tryz.func31 rfl (by kernel_rfl) (rfl) ?_
 intro sl hs
 have s0 : sl 0 = a := hs 0
 have s1 : sl 1 = a := hs 1
 have s2 : sl 2 = b := hs 2
 dsimp only [Tryz.f31, bodyOf, Option.getD]
 simp (maxSteps := 10000000) (disch := first | assumption | omega) only [go_sem, ↓reduceIte, Nat.reduceEqDiff, reduceCtorEq, Nat.reduceAdd, Nat.reduceMul, Nat.reduceLeDiff, zc, Int.reduceToNat, s0, s1, s2]
 refine WK_for (fun i st => st.sl 0 = a ∧ st.sl 1 = a ∧ st.sl 2 = b ∧ st.sl 7 = i64 (sm (fun j => atI x j * atI x (dd T j)) i % 55441) ∧ st.sl 8 = i64 (i : Int)) x.length ?_ ?_ ?_
 ·simp only [↓za, ↓reduceIte, Nat.reduceEqDiff, zb, reduceCtorEq, rws_zero, s0, s1, s2]
  repeat' first | rfl | apply And.intro
 ·rintro i sl ro gn hi ⟨s0, s1, s2, s7, s8⟩
  dsimp only at s0 s1 s2 s7 s8
  have hi' : (i : Int) < (x.length : Nat) := by omega
  have hin : i < T.length := by omega
  have hbi : i < (rws (fun i => ((dd T i : Nat) : Int)) T.length).length := by omega
  have hdi : dd T i < x.length := by rw [hl]; exact (dd_ok hR hin).2
  have ea : atI (rws (fun i => ((dd T i : Nat) : Int)) T.length) i = (dd T i : Nat) := atI_rws _ hin
  have n1 := nx i
  have n2 := nx (dd T i)
  have n3 := num_mod (sm (fun j => atI x j * atI x (dd T j)) i)
  unfold num at n1 n2 n3
  have mu := mulB n1.1 (show atI x i ≤ 55440 by omega) n2.1 (show atI x (dd T i) ≤ 55440 by omega)
  have tm : Int.tmod (sm (fun j => atI x j * atI x (dd T j)) i % 55441 + atI x i * atI x (dd T i)) 55441 = sm (fun j => atI x j * atI x (dd T j)) (i + 1) % 55441 := by
   rw [← sm_step (fun j => atI x j * atI x (dd T j)) i]
   exact Int.tmod_eq_emod_of_nonneg (by omega)
  simp (maxSteps := 10000000) (disch := first | assumption | omega) only [go_sem, ↓reduceIte, Nat.reduceEqDiff, reduceCtorEq, Nat.reduceAdd, Nat.reduceMul, Nat.reduceLeDiff, zc, Int.reduceToNat, s0, s1, s2, s7, s8, hi', hi, isL_len ha, isL_idx ha hi, isL_idx hb hbi, ea, isL_idx ha hdi, tm]
  refine FIN_of (by kernel_rfl) ?_
  simp (maxSteps := 10000000) (disch := first | assumption | omega) only [go_sem, ↓reduceIte, Nat.reduceEqDiff, reduceCtorEq, Nat.reduceAdd, Nat.reduceMul, Nat.reduceLeDiff, zc, Int.reduceToNat, s0, s1, s2, s7, s8, hi', hi]
  exact i64c (by omega)
 ·rintro sl ro gn ⟨s0, s1, s2, s7, s8⟩
  dsimp only at s0 s1 s2 s7 s8
  have hi' : ¬ ((x.length : Nat) : Int) < (x.length : Nat) := by omega
  simp (maxSteps := 10000000) (disch := first | assumption | omega) only [go_sem, ↓reduceIte, Nat.reduceEqDiff, reduceCtorEq, Nat.reduceAdd, Nat.reduceMul, Nat.reduceLeDiff, zc, Int.reduceToNat, s0, s1, s2, s7, s8, hi', isL_len ha]
  simp only [zr, zb, retR, resL, outT, outL, zes, zez, oneV, zcp, zed, zfi, Ro.dl, St.ev, zhk, ↓za, ↓reduceIte, Nat.reduceEqDiff, Nat.reduceAdd, Nat.reduceLeDiff]
  unfold cdg
  rw [hl]
end Go.Proofs.YtiljdiaigoppbaaGreat
/- CharactersOf, MatrixOfCharacters, CodegreesOf: by the reference and by the program. -/
namespace Go.Proofs.YtiljdiaigoppbaaGreat
open Go.RowKit
set_option maxRecDepth 1000000
theorem imp_tLL {b : Nat} {gn : Nat → Nat} {X : List (List Int)} {v : Value} : impE b gn (.tup [rowLL X, .sc v]) = ⟨.tup [.ref b (gn b + 1) [] 0 X.length, .sc v], none, [], [(b, rowLL X)]⟩ := by
 show (⟨.tup [.ref b (gn b + 1) [] 0 (X.map rowL).length, .sc v], none, [], [(b, .row (X.map rowL))]⟩ : Eff) = _
 rw [List.length_map]
theorem imp_tN {b : Nat} {gn : Nat → Nat} {v x : Value} : impE b gn (.tup [.sc v, .sc x]) = ⟨.tup [.sc v, .sc x], none, [], []⟩ := nr _
theorem noRef_tLL (X : List (List Int)) (v : Value) : noRef (.tup [rowLL X, .sc v]) = true := by
 have h := noRef_rowLL X
 show (noRef (rowLL X) && (noRef (.sc v) && true)) = true
 rw [h]; rfl
theorem noRef_tL (X : List Int) (v : Value) : noRef (.tup [rowL X, .sc v]) = true := by
 have h := noRef_rowL X
 show (noRef (rowL X) && (noRef (.sc v) && true)) = true
 rw [h]; rfl
section
variable {c : AV} {T : List (List (List Int))}
theorem cChI0 (hc : isLLL c T) (hR : RngP T) (hm : CmP T) : CallOK Tryz.prog 9 [.agg [c]] (.tup [rowLL (chsI T), i64 0]) := by
 have c1 := cCodeI hc hR.1.sz (z := 0) (.inl ⟨hR, hm, rfl⟩)
 have c2 : CallOK Tryz.prog 27 [.agg [c]] (rowLL (chsI T)) := cChars hc hR.1
 refine call_of (fn := Tryz.f9) (code := bodyOf Tryz.f9) Tryz.func9 rfl (by kernel_rfl) (noRef_tLL _ _) ?_
 intro sl hs
 have s0 : sl 0 = .agg [c] := hs 0
 dsimp only [Tryz.f9, bodyOf, Option.getD]
 simp (maxSteps := 10000000) (disch := first | assumption | omega) only [go_sem, ↓reduceIte, Nat.reduceEqDiff, reduceCtorEq, Nat.reduceAdd, Nat.reduceMul, Nat.reduceLeDiff, zc, Int.reduceToNat, s0, ti33, ti31]
 refine CLL_pure _ c1 PUt rfl rfl ?_
 simp (maxSteps := 10000000) (disch := first | assumption | omega) only [go_sem, ↓reduceIte, Nat.reduceEqDiff, reduceCtorEq, Nat.reduceAdd, Nat.reduceMul, Nat.reduceLeDiff, zc, Int.reduceToNat, s0]
 refine CLL_pure _ c2 PUt rfl rfl ?_
 simp (maxSteps := 10000000) (disch := first | assumption | omega) only [go_sem, ↓reduceIte, Nat.reduceEqDiff, reduceCtorEq, Nat.reduceAdd, Nat.reduceMul, Nat.reduceLeDiff, zc, Int.reduceToNat, s0, rowLL, impE_row, List.length_map]
 simp only [zr, zb, retR, resL, outT, outL, zes, zez, oneV, zcp, zed, zfi, Ro.dl, St.ev, zhk, ↓za, ↓reduceIte, Nat.reduceEqDiff, Nat.reduceAdd, Nat.reduceLeDiff]
theorem cChI1 (hc : isLLL c T) (hs : SzP T) {z : Int} (h : CodP T z) (hz : z ≠ 0) : CallOK Tryz.prog 9 [.agg [c]] (.tup [nilA, i64 z]) := by
 have c1 := cCodeI hc hs h
 refine call_of (fn := Tryz.f9) (code := bodyOf Tryz.f9) Tryz.func9 rfl (by kernel_rfl) (rfl) ?_
 intro sl hs
 have s0 : sl 0 = .agg [c] := hs 0
 dsimp only [Tryz.f9, bodyOf, Option.getD]
 simp (maxSteps := 10000000) (disch := first | assumption | omega) only [go_sem, ↓reduceIte, Nat.reduceEqDiff, reduceCtorEq, Nat.reduceAdd, Nat.reduceMul, Nat.reduceLeDiff, zc, Int.reduceToNat, s0, ti33, ti31]
 refine CLL_pure _ c1 PUt rfl rfl ?_
 simp (maxSteps := 10000000) (disch := first | assumption | omega) only [go_sem, ↓reduceIte, Nat.reduceEqDiff, reduceCtorEq, Nat.reduceAdd, Nat.reduceMul, Nat.reduceLeDiff, zc, Int.reduceToNat, s0, eq_false hz]
 simp only [zr, zb, retR, resL, outT, outL, zes, zez, oneV, zcp, zed, zfi, Ro.dl, St.ev, zhk, ↓za, ↓reduceIte, Nat.reduceEqDiff, Nat.reduceAdd, Nat.reduceLeDiff]
theorem ch_get {i : Nat} (hT : CubeP T) (hi : i < (chsI T).length) : ∃ x, (chsI T)[i]? = some x ∧ x.length = T.length ∧ numL x := by
 have h := (chsI_iff hT).1 (List.getElem_mem hi)
 exact ⟨_, List.getElem?_eq_getElem hi, h.1, h.2.1⟩
theorem cCdS0 (hc : isLLL c T) (hR : RngP T) (hm : CmP T) : CallOK Tryz.prog 17 [.agg [c]] (.tup [rowL ((chsI T).map (cdg T)), i64 0]) := by
 obtain ⟨t1, t16, hcu⟩ := id hR.1
 have c1 := cCodeS hc (z := 0) (.inl ⟨hR, hm, rfl⟩)
 have c2 := cAllS hc hR.1
 rw [← chs_same hR.1] at c2
 have c3 := cDualsS hc hR.1
 rw [duals_nat hR] at c3
 have hl2 : (rws (fun i => ((dd T i : Nat) : Int)) T.length).length = T.length := zfe _ _
 have hfew := chs_few hR.1
 refine call_of (fn := Tryz.f17) (code := bodyOf Tryz.f17) Tryz.func17 rfl (by kernel_rfl) (noRef_tL _ _) ?_
 intro sl hs
 have s0 : sl 0 = .agg [c] := hs 0
 dsimp only [Tryz.f17, bodyOf, Option.getD]
 simp (maxSteps := 10000000) (disch := first | assumption | omega) only [go_sem, ↓reduceIte, Nat.reduceEqDiff, reduceCtorEq, Nat.reduceAdd, Nat.reduceMul, Nat.reduceLeDiff, zc, Int.reduceToNat, s0, ti33, ti31]
 refine CLL_pure _ c1 PUt rfl rfl ?_
 simp (maxSteps := 10000000) (disch := first | assumption | omega) only [go_sem, ↓reduceIte, Nat.reduceEqDiff, reduceCtorEq, Nat.reduceAdd, Nat.reduceMul, Nat.reduceLeDiff, zc, Int.reduceToNat, s0]
 refine CLLD_pure _ c2 PUt rfl ?_
 simp (maxSteps := 10000000) (disch := first | assumption | omega) only [go_sem, ↓reduceIte, Nat.reduceEqDiff, reduceCtorEq, Nat.reduceAdd, Nat.reduceMul, Nat.reduceLeDiff, zc, Int.reduceToNat, s0, rowLL, impE_row, List.length_map]
 refine CLLD_pure _ c3 PUt rfl ?_
 simp (maxSteps := 10000000) (disch := first | assumption | omega) only [go_sem, ↓reduceIte, Nat.reduceEqDiff, reduceCtorEq, Nat.reduceAdd, Nat.reduceMul, Nat.reduceLeDiff, zc, Int.reduceToNat, s0, impE_row, List.length_map, hl2]
 refine FIN_of (by kernel_rfl) ?_
 simp (maxSteps := 10000000) (disch := first | assumption | omega) only [go_sem, ↓reduceIte, Nat.reduceEqDiff, reduceCtorEq, Nat.reduceAdd, Nat.reduceMul, Nat.reduceLeDiff, zc, Int.reduceToNat, s0]
 refine WK_for (fun i st => st.sl 5 = .ref 20496 1 [] 0 (chsI T).length ∧ st.ro 20496 1 = some (rowLL (chsI T)) ∧ st.sl 6 = .ref 20528 1 [] 0 T.length ∧ st.ro 20528 1 = some (rowL (rws (fun i => ((dd T i : Nat) : Int)) T.length)) ∧ st.sl 7 = .ref 20544 (st.gn 20544) [] 0 i ∧ st.ro 20544 (st.gn 20544) = some (rowL (((chsI T).take i).map (cdg T))) ∧ st.sl 8 = i64 (i : Int)) ((chsI T).length) ?_ ?_ ?_
 ·simp only [↓za, ↓reduceIte, Nat.reduceEqDiff, zb, reduceCtorEq, rws_zero, s0]
  repeat' first | rfl | apply And.intro
 ·rintro i sl ro gn hi ⟨s5, r20496, s6, r20528, s7, r20544, s8⟩
  dsimp only at s5 r20496 s6 r20528 s7 r20544 s8
  have hi' : (i : Int) < ((chsI T).length : Nat) := by omega
  obtain ⟨x, hx, hxl, nx⟩ := ch_get hR.1 hi
  have hxr : ((chsI T).map rowL)[i]? = some (.row (x.map i64)) := by rw [List.getElem?_map, hx]; rfl
  have hi2 : i + 1 ≤ 4294967296 := by omega
  have cp := cPairS hR (isL_imm x) (isL_imm (rws (fun i => ((dd T i : Nat) : Int)) T.length)) hxl nx
  have hn1 : noRefL ((chsI T).map rowL) = true := noRef_rowLL (chsI T)
  have hn2 := nrf (rws (fun i => ((dd T i : Nat) : Int)) T.length)
  have htk : (((chsI T).take i).map (cdg T)).length = i := by rw [List.length_map, List.length_take]; omega
  have htt : ((((chsI T).take i).map (cdg T)).map i64).take i = (((chsI T).take i).map (cdg T)).map i64 := List.take_of_length_le (by rw [List.length_map, htk]; exact Nat.le_refl _)
  have et : ((chsI T).take (i + 1)).map (cdg T) = ((chsI T).take i).map (cdg T) ++ [cdg T x] := by rw [List.take_add_one, hx, List.map_append]; rfl
  rw [et]
  simp (maxSteps := 10000000) (disch := first | assumption | omega) only [go_sem, ↓reduceIte, Nat.reduceEqDiff, reduceCtorEq, Nat.reduceAdd, Nat.reduceMul, Nat.reduceLeDiff, zc, Int.reduceToNat, s5, r20496, s6, r20528, s7, r20544, s8, hi', hi, hxr, List.length_map, hxl]
  refine CLLD_q _ cp (.cons (exq_rowX r20496 hx hxl.symm (by decide)) (.cons (exq_rowX r20496 hx hxl.symm (by decide)) (.cons (exq_refL r20528 hl2.symm (by decide)) .nil))) rfl rfl ?_
  simp (maxSteps := 10000000) (disch := first | assumption | omega) only [go_sem, ↓reduceIte, Nat.reduceEqDiff, reduceCtorEq, Nat.reduceAdd, Nat.reduceMul, Nat.reduceLeDiff, zc, Int.reduceToNat, s5, r20496, s6, r20528, s7, r20544, s8, hi', hi, hxr, List.length_map, hxl, hn1, hn2, htk, htt, hi2]
  refine FIN_of (by kernel_rfl) ?_
  simp (maxSteps := 10000000) (disch := first | assumption | omega) only [go_sem, ↓reduceIte, Nat.reduceEqDiff, reduceCtorEq, Nat.reduceAdd, Nat.reduceMul, Nat.reduceLeDiff, zc, Int.reduceToNat, s5, r20496, s6, r20528, s7, r20544, s8, hi', hi]
  refine ⟨?_, i64c (by omega)⟩
  show some (AV.row _) = some (AV.row ((((chsI T).take i).map (cdg T) ++ [cdg T x]).map i64))
  rw [List.map_append]
  rfl
 ·rintro sl ro gn ⟨s5, r20496, s6, r20528, s7, r20544, s8⟩
  dsimp only at s5 r20496 s6 r20528 s7 r20544 s8
  have hi' : ¬ (((chsI T).length : Nat) : Int) < ((chsI T).length : Nat) := by omega
  rw [List.take_length] at r20544
  simp (maxSteps := 10000000) (disch := first | assumption | omega) only [go_sem, ↓reduceIte, Nat.reduceEqDiff, reduceCtorEq, Nat.reduceAdd, Nat.reduceMul, Nat.reduceLeDiff, zc, Int.reduceToNat, s5, r20496, s6, r20528, s7, r20544, s8, hi', List.length_map]
  simp only [zr, zb, retR, resL, outT, outL, zes, zez, oneV, zcp, zed, zfi, Ro.dl, St.ev, zhk, ↓za, ↓reduceIte, Nat.reduceEqDiff, Nat.reduceAdd, Nat.reduceLeDiff, r20544, rowL]
theorem cCdS1 (hc : isLLL c T) {z : Int} (h : CodP T z) (hz : z ≠ 0) : CallOK Tryz.prog 17 [.agg [c]] (.tup [nilA, i64 z]) := by
 have c1 := cCodeS hc h
 refine call_of (fn := Tryz.f17) (code := bodyOf Tryz.f17) Tryz.func17 rfl (by kernel_rfl) (rfl) ?_
 intro sl hs
 have s0 : sl 0 = .agg [c] := hs 0
 dsimp only [Tryz.f17, bodyOf, Option.getD]
 simp (maxSteps := 10000000) (disch := first | assumption | omega) only [go_sem, ↓reduceIte, Nat.reduceEqDiff, reduceCtorEq, Nat.reduceAdd, Nat.reduceMul, Nat.reduceLeDiff, zc, Int.reduceToNat, s0, ti33, ti31]
 refine CLL_pure _ c1 PUt rfl rfl ?_
 simp (maxSteps := 10000000) (disch := first | assumption | omega) only [go_sem, ↓reduceIte, Nat.reduceEqDiff, reduceCtorEq, Nat.reduceAdd, Nat.reduceMul, Nat.reduceLeDiff, zc, Int.reduceToNat, s0, eq_false hz]
 simp only [zr, zb, retR, resL, outT, outL, zes, zez, oneV, zcp, zed, zfi, Ro.dl, St.ev, zhk, ↓za, ↓reduceIte, Nat.reduceEqDiff, Nat.reduceAdd, Nat.reduceLeDiff]
theorem cCdI1 (hc : isLLL c T) (hs : SzP T) {z : Int} (h : CodP T z) (hz : z ≠ 0) : CallOK Tryz.prog 18 [.agg [c]] (.tup [nilA, i64 z]) := by
 have c1 := cChI1 hc hs h hz
 refine call_of (fn := Tryz.f18) (code := bodyOf Tryz.f18) Tryz.func18 rfl (by kernel_rfl) (rfl) ?_
 intro sl hs
 have s0 : sl 0 = .agg [c] := hs 0
 dsimp only [Tryz.f18, bodyOf, Option.getD]
 simp (maxSteps := 10000000) (disch := first | assumption | omega) only [go_sem, ↓reduceIte, Nat.reduceEqDiff, reduceCtorEq, Nat.reduceAdd, Nat.reduceMul, Nat.reduceLeDiff, zc, Int.reduceToNat, s0, ti33, ti31]
 refine CLL_pure _ c1 PUt rfl rfl ?_
 simp (maxSteps := 10000000) (disch := first | assumption | omega) only [go_sem, ↓reduceIte, Nat.reduceEqDiff, reduceCtorEq, Nat.reduceAdd, Nat.reduceMul, Nat.reduceLeDiff, zc, Int.reduceToNat, s0, imp_tN, eq_false hz]
 simp only [zr, zb, retR, resL, outT, outL, zes, zez, oneV, zcp, zed, zfi, Ro.dl, St.ev, zhk, ↓za, ↓reduceIte, Nat.reduceEqDiff, Nat.reduceAdd, Nat.reduceLeDiff]
theorem cCdI0 (hc : isLLL c T) (hR : RngP T) (hm : CmP T) : CallOK Tryz.prog 18 [.agg [c]] (.tup [rowL ((chsI T).map (cdg T)), i64 0]) := by
 obtain ⟨t1, t16, hcu⟩ := id hR.1
 have c1 := cChI0 hc hR hm
 have hfew := chs_few hR.1
 refine call_of (fn := Tryz.f18) (code := bodyOf Tryz.f18) Tryz.func18 rfl (by kernel_rfl) (noRef_tL _ _) ?_
 intro sl hs
 have s0 : sl 0 = .agg [c] := hs 0
 dsimp only [Tryz.f18, bodyOf, Option.getD]
 simp (maxSteps := 10000000) (disch := first | assumption | omega) only [go_sem, ↓reduceIte, Nat.reduceEqDiff, reduceCtorEq, Nat.reduceAdd, Nat.reduceMul, Nat.reduceLeDiff, zc, Int.reduceToNat, s0, ti33, ti31]
 refine CLL_pure _ c1 PUt rfl rfl ?_
 simp (maxSteps := 10000000) (disch := first | assumption | omega) only [go_sem, ↓reduceIte, Nat.reduceEqDiff, reduceCtorEq, Nat.reduceAdd, Nat.reduceMul, Nat.reduceLeDiff, zc, Int.reduceToNat, s0, imp_tLL, rowLL, List.length_map]
 refine WK_for (fun i st => st.sl 1 = .ptr 4096 1 [] 0 ∧ st.ro 4096 1 = some (.bx [c]) ∧ st.sl 18 = .ref 8208 1 [] 0 (chsI T).length ∧ st.ro 8208 1 = some (rowLL (chsI T)) ∧ st.sl 19 = i64 ((chsI T).length : Nat) ∧ st.sl 20 = i64 (i : Int) ∧ st.sl 6 = .ref 20480 (st.gn 20480) [] 0 i ∧ st.ro 20480 (st.gn 20480) = some (rowL (((chsI T).take i).map (cdg T)))) ((chsI T).length) ?_ ?_ ?_
 ·simp only [↓za, ↓reduceIte, Nat.reduceEqDiff, zb, reduceCtorEq, rws_zero, s0]
  repeat' first | rfl | apply And.intro
 ·rintro i sl ro gn hi ⟨s1, r4096, s18, r8208, s19, s20, s6, r20480⟩
  dsimp only at s1 r4096 s18 r8208 s19 s20 s6 r20480
  have hi' : (i : Int) < ((chsI T).length : Nat) := by omega
  obtain ⟨x, hx, hxl, nx⟩ := ch_get hR.1 hi
  have hxr : ((chsI T).map rowL)[i]? = some (.row (x.map i64)) := by rw [List.getElem?_map, hx]; rfl
  have hi2 : i + 1 ≤ 4294967296 := by omega
  have cp := cPairI hc hR (isL_imm x) hxl nx
  have htk : (((chsI T).take i).map (cdg T)).length = i := by rw [List.length_map, List.length_take]; omega
  have htt : ((((chsI T).take i).map (cdg T)).map i64).take i = (((chsI T).take i).map (cdg T)).map i64 := List.take_of_length_le (by rw [List.length_map, htk]; exact Nat.le_refl _)
  have et : ((chsI T).take (i + 1)).map (cdg T) = ((chsI T).take i).map (cdg T) ++ [cdg T x] := by rw [List.take_add_one, hx, List.map_append]; rfl
  rw [et]
  simp (maxSteps := 10000000) (disch := first | assumption | omega) only [go_sem, ↓reduceIte, Nat.reduceEqDiff, reduceCtorEq, Nat.reduceAdd, Nat.reduceMul, Nat.reduceLeDiff, zc, Int.reduceToNat, s1, r4096, s18, r8208, s19, s20, s6, r20480, hi', hi, hxr, List.length_map, hxl]
  refine CLL_q _ cp (.cons (exq_agg (.cons (exq_LLL hc (by decide)) .nil)) (.cons (exq_rowX r8208 hx hxl.symm (by decide)) (.cons (exq_rowX r8208 hx hxl.symm (by decide)) .nil))) rfl rfl rfl ?_
  simp (maxSteps := 10000000) (disch := first | assumption | omega) only [go_sem, ↓reduceIte, Nat.reduceEqDiff, reduceCtorEq, Nat.reduceAdd, Nat.reduceMul, Nat.reduceLeDiff, zc, Int.reduceToNat, s1, r4096, s18, r8208, s19, s20, s6, r20480, hi', hi, List.length_map, htk, htt, hi2]
  refine ⟨i64c (by omega), ?_⟩
  show some (AV.row _) = some (AV.row ((((chsI T).take i).map (cdg T) ++ [cdg T x]).map i64))
  rw [List.map_append]
  rfl
 ·rintro sl ro gn ⟨s1, r4096, s18, r8208, s19, s20, s6, r20480⟩
  dsimp only at s1 r4096 s18 r8208 s19 s20 s6 r20480
  have hi' : ¬ (((chsI T).length : Nat) : Int) < ((chsI T).length : Nat) := by omega
  rw [List.take_length] at r20480
  simp (maxSteps := 10000000) (disch := first | assumption | omega) only [go_sem, ↓reduceIte, Nat.reduceEqDiff, reduceCtorEq, Nat.reduceAdd, Nat.reduceMul, Nat.reduceLeDiff, zc, Int.reduceToNat, s1, r4096, s18, r8208, s19, s20, s6, r20480, hi', List.length_map]
  simp only [zr, zb, retR, resL, outT, outL, zes, zez, oneV, zcp, zed, zfi, Ro.dl, St.ev, zhk, ↓za, ↓reduceIte, Nat.reduceEqDiff, Nat.reduceAdd, Nat.reduceLeDiff, r20480, rowL]
end
end Go.Proofs.YtiljdiaigoppbaaGreat
