/- Texts joined: Ef1 Ee0 Ef2 Ee2 Ee3 Ee4. -/
import Derived.Test.YtilfkbgdpmimlaaGreatMj
import Derived.Test.YtilfkbgdpmimlaaGreatOe
import Derived.Test.YtilfkbgdpmimlaaGreatPa
set_option linter.all false
/- Lists of rings: all tables are counted. -/
namespace Go.Proofs.YtilfkbgdpmimlaaGreat
open Go.RowKit
set_option maxRecDepth 1000000
def SvC (gc x y : Nat) : Prop := x = 16384 ∧ y = gc
def PvC (gc : Nat) (ro : Ro) (gn : Nat → Nat) (Ls : List C3) : Prop := gc ≤ gn 16384 ∧ ro 16384 gc = some (.bx [i64 (Ls.length : Int)])
theorem visC {n gc : Nat} : VisP n 26 [.ptr 16384 gc [] 0] (SvC gc) (PvC gc) := by
 refine ⟨?_, ?_, ?_, rfl, fun _ _ _ => rfl, ?_⟩
 ·rintro x y ⟨rfl, _⟩
  decide
 ·rintro ro gn ro2 gn2 Ls h ⟨k1, k2⟩
  have a1 := h 16384 (by decide)
  exact ⟨by rw [a1.2]; exact k1, by rw [a1.1]; exact k2⟩
 ·rintro ro gn ro2 gn2 Ls ⟨k1, k2⟩ hk hg
  exact ⟨Nat.le_trans k1 (hg _), (hk _ _ (by decide) k1).trans k2⟩
 ·rintro ro gn F gr Ls ⟨k1, k2⟩ rr lr hl
  have hl' : (Ls.length : Int) < 4294967296 := by unfold maxN at hl; omega
  have e1 : (Ls.length : Int) + 1 = ((Ls ++ [F]).length : Nat) := by rw [List.length_append]; rfl
  have hb : ((Ls ++ [F]).length : Int) ≤ 4294967296 := by omega
  refine in_ofS (fn := Tryz.f26) (code := bodyOf Tryz.f26) Tryz.func26 rfl (by kernel_rfl) ?_
  intro sl hs
  have s0 : sl 0 = .agg [.ref 12320 gr [] 0 n] := hs 0
  have s1 : sl 1 = .ptr 16384 gc [] 0 := hs 1
  dsimp only [Tryz.f26, bodyOf, Option.getD]
  simp (disch := first | assumption | omega) only [go_sem, ↓reduceIte, Nat.reduceEqDiff, Nat.reduceAdd, Nat.reduceMul, zc, s0, s1, ti2, ti33, rr, k2, e1]
  refine RETS_0 (.inl rfl) ⟨rfl, ?_, k1, Ur⟩
  refine Frx.wr ?_ _ _ _ (by decide) (.inr (.inl ⟨rfl, rfl⟩))
  (repeat' first | assumption | exact Frx.refl _ _ _ _ | refine Frx.al ?_ _ _ _ (by decide) rfl | refine Frx.wr ?_ _ _ _ (by decide) (by first | (left; omega) | (right; exact ⟨rfl, rfl⟩) | (right; exact .inl ⟨rfl, rfl⟩) | (right; exact .inr ⟨rfl, rfl⟩) | (right; exact .inr (.inl ⟨rfl, rfl⟩)) | (right; exact .inr (.inr ⟨rfl, rfl⟩))))
theorem cCount1 {n m : Nat} (h1 : 1 ≤ n) (h3 : n ≤ 3) (hm : m ≤ 4) : CallOK Tryz.prog 8 [i64 (n : Int), i64 (m : Int)] (.tup [i64 ((tabsA n m).length : Int), i64 0]) := by
 have h : (1 ≤ (n : Int) ∧ (n : Int) ≤ 3) ∧ 0 ≤ (m : Int) ∧ (m : Int) ≤ 4 := by omega
 refine call_of (fn := Tryz.f8) (code := bodyOf Tryz.f8) Tryz.func8 rfl (by kernel_rfl) (rfl) ?_
 intro sl hs
 have s0 : sl 0 = i64 (n : Int) := hs 0
 have s1 : sl 1 = i64 (m : Int) := hs 1
 dsimp only [Tryz.f8, bodyOf, Option.getD]
 refine Yae ?_
 refine CLL_pure _ (cIsList (n := (n : Int)) (m := (m : Int))) rfl rfl rfl ?_
 rw [decide_eq_true h]
 refine Yae ?_
 refine CLL_inS rfl (sTab (visC (gc := 1)) h1 h3 hm ⟨Ur, by simp only [↓za, ↓reduceIte, Nat.reduceEqDiff, zb, reduceCtorEq]; rfl⟩) ?_
 rintro _ ro1 gn1 ⟨rfl, fr1, k1, k2⟩
 simp (disch := first | assumption | omega) only [go_sem, ↓reduceIte, Nat.reduceEqDiff, Nat.reduceAdd, Nat.reduceMul, zc, s0, s1, ti2, k2]
 exact Yab
theorem cCount0 {n m : Int} (h : ¬ ((1 ≤ n ∧ n ≤ 3) ∧ 0 ≤ m ∧ m ≤ 4)) : CallOK Tryz.prog 8 [i64 n, i64 m] (.tup [i64 0, i64 2]) := by
 refine call_of (fn := Tryz.f8) (code := bodyOf Tryz.f8) Tryz.func8 rfl (by kernel_rfl) (rfl) ?_
 intro sl hs
 have s0 : sl 0 = i64 n := hs 0
 have s1 : sl 1 = i64 m := hs 1
 dsimp only [Tryz.f8, bodyOf, Option.getD]
 refine Yae ?_
 refine CLL_pure _ (cIsList (n := n) (m := m)) rfl rfl rfl ?_
 rw [decide_eq_false h]
 refine Yae ?_
 exact Yab
theorem exq_ptrc {n s g : Nat} {ro : Ro} {cs cs' : List AV} (h : ro s g = some (.bx cs)) (hc : exqL n ro cs cs') : exq (n + 1) ro (.ptr s g [] 0) (.iptr cs') := by
 refine ⟨fun j hj => ?_, fun hp => by simp [pureA] at hp⟩
 obtain ⟨j, rfl⟩ : ∃ i, j = i + 1 := ⟨j - 1, by omega⟩
 show (match ro.cells s g [] with | some cs => AV.iptr ((cs.drop 0).map (ex ro j)) | none => .dead) = _
 rw [zef, h]
 simp only [zei, List.drop_zero]
 rw [hc.mapE j (by omega)]
def SzP (T : List (List (List Int))) : Prop := T.length ≤ maxN ∧ ∀ i, i < T.length → (mat T i).length ≤ maxN ∧ ∀ j, j < (mat T i).length → (row (mat T i) j).length ≤ maxN
theorem CubeP.sz {T : List (List (List Int))} (h : CubeP T) : SzP T := by
 obtain ⟨h1, h2, h3⟩ := h
 refine ⟨by unfold maxN; omega, fun i hi => ⟨by rw [(h3 i hi).1]; unfold maxN; omega, fun j hj => ?_⟩⟩
 rw [((h3 i hi).2 j (by rw [← (h3 i hi).1]; exact hj)).1]; unfold maxN; omega
theorem eqL3 {xs ys : List (List (List Int))} (hl : xs.length = ys.length) (h : ∀ i, i < xs.length → mat xs i = mat ys i) : xs = ys := by
 apply List.ext_getElem?
 intro i
 by_cases hi : i < xs.length
 ·have := h i hi
  unfold mat at this
  rw [List.getD_eq_getElem?_getD, List.getD_eq_getElem?_getD, List.getElem?_eq_getElem hi, List.getElem?_eq_getElem (show i < ys.length by omega)] at this
  rw [List.getElem?_eq_getElem hi, List.getElem?_eq_getElem (show i < ys.length by omega)]
  exact congrArg some this
 ·rw [List.getElem?_eq_none (by omega), List.getElem?_eq_none (by omega)]
theorem cube_self {T : List (List (List Int))} (hc : CubeP T) : T = cubeL (at3 T) T.length := by
 obtain ⟨h1, h2, h3⟩ := hc
 have lr : ∀ {i j}, i < T.length → j < T.length → (row (mat T i) j).length = T.length := fun hi hj => ((h3 _ hi).2 _ hj).1
 have hl : (cubeL (at3 T) T.length).length = T.length := zfe _ _
 refine eqL3 hl.symm fun i hi => ?_
 rw [mat_cube hi]
 refine isLs_inj (by rw [zfe]; exact (h3 i hi).1) fun j hj => ?_
 rw [(h3 i hi).1] at hj
 have er : row (rws (fun j => rws (fun k => at3 T i j k) T.length) T.length) j = rws (fun k => at3 T i j k) T.length := row_rws _ hj
 show row (mat T i) j = row _ j
 rw [er]
 have hs := rws_self (row (mat T i) j)
 rw [lr hi hj] at hs
 exact hs.symm
section
variable {c d : AV} {T : List (List (List Int))} {F : C3} {n : Nat} {ro : Ro} {gn : Nat → Nat}
theorem cForm0 (ha : isLLL c T) (h : RingP T) (h7 : T.length ≤ 7) : CallOK Tryz.prog 27 [.agg [c]] (i64 0) := by
 have hz := h.1.sz
 have h7' : ¬ (7 : Int) < (T.length : Nat) := by omega
 refine call_of (fn := Tryz.f27) (code := bodyOf Tryz.f27) Tryz.func27 rfl (by kernel_rfl) (rfl) ?_
 intro sl hs
 have s0 : sl 0 = .agg [c] := hs 0
 dsimp only [Tryz.f27, bodyOf, Option.getD]
 simp (disch := first | assumption | omega) only [go_sem, ↓reduceIte, Nat.reduceEqDiff, Nat.reduceAdd, Nat.reduceMul, zc, s0, ti33, ti31]
 refine CLL_pure _ (c118 (t := true) ha hz.1 hz.2 ⟨fun _ => h, fun _ => rfl⟩) PUt rfl rfl ?_
 simp (disch := first | assumption | omega) only [go_sem, ↓reduceIte, Nat.reduceEqDiff, Nat.reduceAdd, Nat.reduceMul, zc, s0, ti2, ti4, ti3, ti31, isLLL_len ha, eq_false h7']
 exact Yab
theorem sCopyR {rv : AV} (hr : RdC ro gn F n rv) (h1 : 1 ≤ n) (h16 : n ≤ 16) (hF : cubeOk F n) : InS Tryz.prog 28 [.agg [rv]] ro gn (fun r ro' gn' => r = .agg [.ref 600000 (gn 600000 + 1) [] 0 n] ∧ ro' = upr ro 600000 (gn 600000 + 1) (cubeA F n) ∧ gn' = upg gn 600000 (gn 600000 + 1)) := by
 have hq : exqL 8 ro [.agg [rv]] [.agg [rdV F n rv]] := .cons (exq_mono (exq_agg (.cons (hr.xk (fun _ _ _ _ _ => rfl)) .nil)) (by decide)) .nil
 have hc := cCopyR hr.v h1 h16 hF
 rw [← argsX_q hq] at hc
 refine (InS_imp (X := XX) 600000 (fun _ => .sc undef) hc (by
  unfold okR
  rw [noI_aggC, Bool.or_true, Bool.and_true]
  rfl)).mono ?_
 rintro _ _ _ ⟨rfl, rfl, rfl⟩
 rw [impE_agg1, zfe]
 exact ⟨rfl, rfl, rfl⟩
set_option maxHeartbeats 2000000 in
theorem cLeastR (ha : isLLL c (cubeL F n)) (hi : ∃ cs, c = .imm cs) (hR : RingP (cubeL F n)) (h1 : 1 ≤ n) (h3 : n ≤ 3) (hL : cubeOk (leastF F n) n) : CallOK Tryz.prog 9 [.agg [c]] (.tup [.agg [cubeA (leastF F n) n], i64 0]) := by
 have lX : (cubeL F n).length = n := lenC F n
 have cF := cForm0 ha hR (by omega)
 have hv := vis_ok n h1 h3
 have hpc : pureA c = true := isLLL_pure ha
 refine call_of (fn := Tryz.f9) (code := bodyOf Tryz.f9) Tryz.func9 rfl (by kernel_rfl) (by rw [noRef, noRefL, noRef, noRefL, noRef_cube]; rfl) ?_
 intro sl hs
 have s0 : sl 0 = .agg [c] := hs 0
 dsimp only [Tryz.f9, bodyOf, Option.getD]
 simp (disch := first | assumption | omega) only [go_sem, ↓reduceIte, Nat.reduceEqDiff, Nat.reduceAdd, Nat.reduceMul, zc, s0, ti33, ti31]
 refine CLL_pure _ cF PUt rfl rfl ?_
 simp (disch := first | assumption | omega) only [go_sem, ↓reduceIte, Nat.reduceEqDiff, Nat.reduceAdd, Nat.reduceMul, zc, s0, ti2, ti4, ti33]
 refine CLL_inS rfl (sLeast (F := F) h1 (by unfold maxN; omega) hv (rv := c) (.imm _ hi ha)) ?_
 rintro _ ro1 gn1 ⟨fr1, bv, rfl, hb⟩
 have r4 : ro1 4112 1 = some (.bx [nilA]) := (fr1.kp 4112 1 Ur (fun e => e)).trans Ur
 simp (disch := first | assumption | omega) only [go_sem, ↓reduceIte, Nat.reduceEqDiff, Nat.reduceAdd, Nat.reduceMul, zc, s0, ti33]
 refine CLL_inS rfl (sCopyR hb h1 (by omega) hL) ?_
 rintro _ ro2 gn2 ⟨rfl, rfl, rfl⟩
 simp (disch := first | assumption | omega) only [go_sem, ↓reduceIte, Nat.reduceEqDiff, Nat.reduceAdd, Nat.reduceMul, zc, s0, ti33, r4, ti2]
 simp only [zr, zb, retR, resL, outT, outL, zes, zez, oneV, zcp, zed, zfi, Ro.dl, St.ev, zhk, ↓za, ↓reduceIte, Nat.reduceEqDiff, Nat.reduceAdd, Nat.reduceLeDiff, outL, zfi, zfh, zev, zex, List.all_cons, List.all_nil, zep, Option.isSome_some, ti33, List.length_cons, List.length_nil]
theorem cLike {a b : AV} {xs : List Int} (ha : isL a xs) (hb : isL b xs) (hx : xs.length ≤ maxN) : CallOK Tryz.prog 57 [a, b] (bo true) := by
 have hx' : xs.length ≤ 4294967296 := hx
 refine call_of (fn := Tryz.f57) (code := bodyOf Tryz.f57) Tryz.func57 rfl (by kernel_rfl) (rfl) ?_
 intro sl hs
 have s0 : sl 0 = a := hs 0
 have s1 : sl 1 = b := hs 1
 dsimp only [Tryz.f57, bodyOf, Option.getD]
 refine Yac ?_
 refine WK_for (fun i st => st.sl 0 = a ∧ st.sl 1 = b ∧ st.sl 5 = i64 (i : Int)) xs.length ?_ ?_ ?_
 ·refine Yag ?_
  exact rfl
 ·rintro i sl ro gn hi ⟨s0, s1, s5⟩
  dsimp only at s0 s1 s5
  have hi' : (i : Int) < (xs.length : Nat) := by omega
  refine Yaw ?_
  refine FIN_of (by kernel_rfl) ?_
  refine Yaw ?_
  exact i64c (by omega)
 ·rintro sl ro gn ⟨s0, s1, s5⟩
  dsimp only at s0 s1 s5
  have hi' : ¬ ((xs.length : Nat) : Int) < (xs.length : Nat) := by omega
  simp (disch := first | assumption | omega) only [go_sem, ↓reduceIte, Nat.reduceEqDiff, Nat.reduceAdd, Nat.reduceMul, zc, s0, s1, s5, hi']
  exact Yab
theorem cSame9 {a b : AV} {xs : List (List Int)} (ha : isLL a xs) (hb : isLL b xs) (hx : xs.length ≤ maxN) (hr : ∀ i, i < xs.length → (row xs i).length ≤ maxN) : CallOK Tryz.prog 32 [a, b] (bo true) := by
 have hx' : xs.length ≤ 4294967296 := hx
 refine call_of (fn := Tryz.f32) (code := bodyOf Tryz.f32) Tryz.func32 rfl (by kernel_rfl) (rfl) ?_
 intro sl hs
 have s0 : sl 0 = a := hs 0
 have s1 : sl 1 = b := hs 1
 dsimp only [Tryz.f32, bodyOf, Option.getD]
 refine Yac ?_
 refine WK_for (fun i st => st.sl 0 = a ∧ st.sl 1 = b ∧ st.sl 5 = i64 (i : Int)) xs.length ?_ ?_ ?_
 ·refine Yag ?_
  exact rfl
 ·rintro i sl ro gn hi ⟨s0, s1, s5⟩
  dsimp only at s0 s1 s5
  have hi' : (i : Int) < (xs.length : Nat) := by omega
  have h1 := isLL_row ha hi
  have h2 := isLL_row hb hi
  refine Yaw ?_
  refine CLLD_pure _ (cLike h1 h2 (hr i hi)) PUt rfl ?_
  refine Yaw ?_
  refine FIN_of (by kernel_rfl) ?_
  refine Yaw ?_
  exact i64c (by omega)
 ·rintro sl ro gn ⟨s0, s1, s5⟩
  dsimp only at s0 s1 s5
  have hi' : ¬ ((xs.length : Nat) : Int) < (xs.length : Nat) := by omega
  simp (disch := first | assumption | omega) only [go_sem, ↓reduceIte, Nat.reduceEqDiff, Nat.reduceAdd, Nat.reduceMul, zc, s0, s1, s5, hi']
  exact Yab
theorem cRing9 (ha : isLLL c T) (hb : isLLL d T) (hz : SzP T) : CallOK Tryz.prog 11 [.agg [c], .agg [d]] (bo true) := by
 have hx' : T.length ≤ 4294967296 := hz.1
 refine call_of (fn := Tryz.f11) (code := bodyOf Tryz.f11) Tryz.func11 rfl (by kernel_rfl) (rfl) ?_
 intro sl hs
 have s0 : sl 0 = .agg [c] := hs 0
 have s1 : sl 1 = .agg [d] := hs 1
 dsimp only [Tryz.f11, bodyOf, Option.getD]
 simp (disch := first | assumption | omega) only [go_sem, ↓reduceIte, Nat.reduceEqDiff, Nat.reduceAdd, Nat.reduceMul, zc, s0, s1, ti33, ti31, isLLL_len ha, isLLL_len hb]
 refine WK_for (fun i st => st.sl 2 = .ptr 4096 1 [] 0 ∧ st.ro 4096 1 = some (.bx [c]) ∧ st.sl 3 = .ptr 4112 1 [] 0 ∧ st.ro 4112 1 = some (.bx [d]) ∧ st.sl 5 = i64 (i : Int)) T.length ?_ ?_ ?_
 ·refine Yag ?_
  exact rfl
 ·rintro i sl ro gn hi ⟨s2, r4096, s3, r4112, s5⟩
  dsimp only at s2 r4096 s3 r4112 s5
  have hi' : (i : Int) < (T.length : Nat) := by omega
  have h1 := isLLL_mat ha hi
  have h2 := isLLL_mat hb hi
  simp (disch := first | assumption | omega) only [go_sem, ↓reduceIte, Nat.reduceEqDiff, Nat.reduceAdd, Nat.reduceMul, zc, s2, r4096, s3, r4112, s5, hi', hi, ti33, ti31, isLLL_len ha]
  refine CLLD_pure _ (cSame9 h1 h2 (hz.2 i hi).1 (hz.2 i hi).2) PUt rfl ?_
  simp (disch := first | assumption | omega) only [go_sem, ↓reduceIte, Nat.reduceEqDiff, Nat.reduceAdd, Nat.reduceMul, zc, s2, r4096, s3, r4112, s5, hi', hi]
  refine FIN_of (by kernel_rfl) ?_
  simp (disch := first | assumption | omega) only [go_sem, ↓reduceIte, Nat.reduceEqDiff, Nat.reduceAdd, Nat.reduceMul, zc, s2, r4096, s3, r4112, s5, hi', hi]
  exact i64c (by omega)
 ·rintro sl ro gn ⟨s2, r4096, s3, r4112, s5⟩
  dsimp only at s2 r4096 s3 r4112 s5
  have hi' : ¬ ((T.length : Nat) : Int) < (T.length : Nat) := by omega
  simp (disch := first | assumption | omega) only [go_sem, ↓reduceIte, Nat.reduceEqDiff, Nat.reduceAdd, Nat.reduceMul, zc, s2, r4096, s3, r4112, s5, hi', ti33, ti31, isLLL_len ha]
  exact Yab
def fcN : Nat → Int
 | 0 => 1
 | t + 1 => fcN t * ((t : Int) + 2)
def fct (n : Nat) : Int := fcN (n - 1)
theorem cFact {n : Nat} (hn : n ≤ 2) : CallOK Tryz.prog 13 [i64 (n : Int)] (i64 (fct n)) := by
 refine call_of (fn := Tryz.f13) (code := bodyOf Tryz.f13) Tryz.func13 rfl (by kernel_rfl) (rfl) ?_
 intro sl hs
 have s0 : sl 0 = i64 (n : Int) := hs 0
 dsimp only [Tryz.f13, bodyOf, Option.getD]
 refine Yad ?_
 refine WK_for (fun t st => st.sl 0 = i64 (n : Int) ∧ st.sl 3 = i64 (fcN t) ∧ st.sl 4 = i64 ((t : Int) + 2)) ((n - 1)) ?_ ?_ ?_
 ·refine Yam ?_
  exact ⟨rfl, rfl⟩
 ·rintro t sl ro gn ht ⟨s0, s3, s4⟩
  dsimp only at s0 s3 s4
  have ht' : (t : Int) < ((n - 1) : Nat) := by omega
  have h0 : t = 0 := by omega
  subst h0
  have hle : (((0 : Nat) : Int) + 2) ≤ (n : Int) := by omega
  simp (disch := first | assumption | omega) only [go_sem, ↓reduceIte, Nat.reduceEqDiff, Nat.reduceAdd, Nat.reduceMul, zc, s0, s3, s4, ht', ht, eq_true hle]
  exact ⟨rfl, rfl⟩
 ·rintro sl ro gn ⟨s0, s3, s4⟩
  dsimp only at s0 s3 s4
  have ht' : ¬ (((n - 1) : Nat) : Int) < ((n - 1) : Nat) := by omega
  have hle : ¬ (((n - 1 : Nat) : Int) + 2) ≤ (n : Int) := by omega
  simp (disch := first | assumption | omega) only [go_sem, ↓reduceIte, Nat.reduceEqDiff, Nat.reduceAdd, Nat.reduceMul, zc, s0, s3, s4, ht', eq_false hle]
  refine Yaa ?_
  rfl
end
section
variable {n : Nat} {F : C3} {a : AV}
theorem bst_take {Os : List (List Nat)} {i : Nat} (hi : i < Os.length) (B : C3) : bstB F n (Os.take (i + 1)) B = nxB F n (bstB F n (Os.take i) B) (Os.getD i []) := by
 rw [List.take_add_one, bst_app, List.getElem?_eq_getElem hi, List.getD_eq_getElem?_getD, List.getElem?_eq_getElem hi]
 rfl
set_option maxHeartbeats 16000000 in
theorem cLeastS (ha : isLLL a (cubeL F n)) (h1 : 1 ≤ n) (h3 : n ≤ 3) : CallOK Tryz.prog 41 [a] (cubeA (leastF F n) n) := by
 have hv := vis_ok n h1 h3
 obtain ⟨hv1, hv2, hv3⟩ := vis_2 n h1 h3
 have hn' : n ≤ maxN := by unfold maxN; omega
 have lX : (cubeL F n).length = n := lenC F n
 have hpw : (n + 1) ^ (n - 1) ≤ 1000 := by
  obtain rfl | rfl | rfl : n = 1 ∨ n = 2 ∨ n = 3 := by omega
  all_goals decide
 have hpa : pureA a = true := isLLL_pure ha
 refine call_of (fn := Tryz.f41) (code := bodyOf Tryz.f41) Tryz.func41 rfl (by kernel_rfl) (noRef_cube _ _) ?_
 intro sl hs
 have s0 : sl 0 = a := hs 0
 dsimp only [Tryz.f41, bodyOf, Option.getD]
 refine Yad ?_
 refine CLL_pure _ (cOwnC ha hn') PUt rfl rfl ?_
 simp (disch := first | assumption | omega) only [go_sem, ↓reduceIte, Nat.reduceEqDiff, Nat.reduceAdd, Nat.reduceMul, zc, s0, impE_row, zfe, lX, ti3]
 refine CLL_inS rfl (ordA (n := n) (by omega) (n - 1) _ _ [0] [] 8256 1 0 nilA (.inl rfl) (by show 1 + (n - 1) = n; omega) (by simp) Ur Ur (.nil 0 rfl) (by show 0 + _ ≤ _; omega)) ?_
 rintro r ro1 gn1 ⟨fr1, gl1, hL1, -⟩
 rw [List.nil_append] at hL1
 have r8 : ro1 8208 1 = some (cubeA F n) := (fr1.kp 8208 1 Ur (by omega)).trans Ur
 have u8 := fr1.up 8208
 simp only [↓za, ↓reduceIte, Nat.reduceEqDiff, zb, reduceCtorEq] at u8
 unfold leastF
 generalize vis n (n - 1) [0] = Os at hv hv1 hv2 hv3 hL1
 cases hL1 with
 | nil _ e => subst e; simp at hv1
 | ref _ rO lO =>
  simp (disch := first | assumption | omega) only [go_sem, ↓reduceIte, Nat.reduceEqDiff, Nat.reduceAdd, Nat.reduceMul, zc, s0, ti3]
  obtain ⟨ol, hol⟩ : ∃ ol, ol = immLL (Os.map zl) := ⟨_, rfl⟩
  have hao : isLL ol (Os.map zl) := by rw [hol]; exact isLL_imm _
  have lOs : (Os.map zl).length = Os.length := List.length_map _
  refine WK_forG (fun i st => st.sl 0 = a ∧ st.sl 4 = ol ∧ st.sl 5 = i64 (i : Int) ∧ (∃ sk gk, (sk = 8208 ∨ sk = 24656) ∧ st.sl 3 = .ref sk gk [] 0 n ∧ st.ro sk gk = some (cubeA (bstB F n (Os.take i) F) n) ∧ gk ≤ st.gn sk)) Os.length (.frzR 12336 gl1 ((Os.map zl).map rowL) (Ue rO) (noIL_rowLs _)) ?_ ?_ ?_
  ·simp only [frzS, ↓za, ↓reduceIte, Nat.reduceEqDiff, zb, reduceCtorEq, s0, frzB]
   rw [if_pos (by rw [List.length_map, List.length_map]), frz_rowLs]
   exact ⟨by rcases ha with ⟨cs, rfl, -⟩ | ⟨-, rfl⟩ <;> rfl, hol.symm, rfl, 8208, 1, .inl rfl, rfl, r8, u8⟩
  ·rintro i sl ro gn hi ⟨s0, s4, s5, pb⟩
   dsimp only at s0 s4 s5
   have hi' : (i : Int) < (Os.length : Nat) := by omega
   dsimp only at pb
   obtain ⟨sk, gk, hsk, s3, rk, lk⟩ := pb
   obtain ⟨l, hl⟩ : ∃ l, l = Os.getD i [] := ⟨_, rfl⟩
   have hlm : l ∈ Os := by
    rw [hl, List.getD_eq_getElem?_getD, List.getElem?_eq_getElem hi]
    exact List.getElem_mem hi
   have hp : isL (atA ol i) (zl l) := by
    have := isLL_row hao (k := i) (by omega)
    have e : row (Os.map zl) i = zl l := by
     unfold row
     rw [hl, List.getD_eq_getElem?_getD, List.getElem?_map, List.getD_eq_getElem?_getD, List.getElem?_eq_getElem hi]
     rfl
    rwa [e] at this
   have P := hv l hlm
   rw [bst_take hi, ← hl]
   generalize bstB F n (Os.take i) F = B at rk
   rcases hsk with rfl | rfl
   ·simp (disch := first | assumption | omega) only [go_sem, ↓reduceIte, Nat.reduceEqDiff, Nat.reduceAdd, Nat.reduceMul, zc, s0, s4, s5, hi', hi, ti3, lOs, s3]
    refine CLL_pure _ (cImage ha hp P hn') (by simp only [pureL, hpa, isL_pure hp, Bool.and_self]) rfl rfl ?_
    simp (disch := first | assumption | omega) only [go_sem, ↓reduceIte, Nat.reduceEqDiff, Nat.reduceAdd, Nat.reduceMul, zc, s0, s4, s5, hi', hi, impE_row, zfe, s3]
    refine CLL_q _ (cBefore (isLLL_immC (imgF (zl l) F) n) (isLLL_immC B n) hn') (.cons (exq_cube Ur (by decide)) (.cons (exq_cube (by simpa only [↓za, ↓reduceIte, Nat.reduceEqDiff, zb, reduceCtorEq] using rk) (by decide)) .nil)) rfl rfl rfl ?_
    unfold nxB
    by_cases hc : cmp3 (cubeL (imgF (zl l) F) n) (cubeL B n) < 0
    ·rw [if_pos hc]
     simp (disch := first | assumption | omega) only [go_sem, ↓reduceIte, Nat.reduceEqDiff, Nat.reduceAdd, Nat.reduceMul, zc, s0, s4, s5, hi', hi, eq_true hc, s3]
     exact ⟨i64c (by omega), 24656, gn 24656 + 1, .inr rfl, rfl, Ur, Ur⟩
    ·rw [if_neg hc]
     simp (disch := first | assumption | omega) only [go_sem, ↓reduceIte, Nat.reduceEqDiff, Nat.reduceAdd, Nat.reduceMul, zc, s0, s4, s5, hi', hi, eq_false hc, s3]
     exact ⟨i64c (by omega), 8208, gk, by decide, rfl, by simpa only [↓za, ↓reduceIte, Nat.reduceEqDiff, zb, reduceCtorEq] using rk, by simpa only [↓za, ↓reduceIte, Nat.reduceEqDiff, zb, reduceCtorEq] using lk⟩
   ·have hne : ¬ gk = gn 24656 + 1 := by omega
    simp (disch := first | assumption | omega) only [go_sem, ↓reduceIte, Nat.reduceEqDiff, Nat.reduceAdd, Nat.reduceMul, zc, s0, s4, s5, hi', hi, ti3, lOs, s3]
    refine CLL_pure _ (cImage ha hp P hn') (by simp only [pureL, hpa, isL_pure hp, Bool.and_self]) rfl rfl ?_
    simp (disch := first | assumption | omega) only [go_sem, ↓reduceIte, Nat.reduceEqDiff, Nat.reduceAdd, Nat.reduceMul, zc, s0, s4, s5, hi', hi, impE_row, zfe, s3]
    refine CLL_q _ (cBefore (isLLL_immC (imgF (zl l) F) n) (isLLL_immC B n) hn') (.cons (exq_cube Ur (by decide)) (.cons (exq_cube (by simpa only [↓za, ↓reduceIte, Nat.reduceEqDiff, zb, reduceCtorEq, eq_false hne] using rk) (by decide)) .nil)) rfl rfl rfl ?_
    unfold nxB
    by_cases hc : cmp3 (cubeL (imgF (zl l) F) n) (cubeL B n) < 0
    ·rw [if_pos hc]
     simp (disch := first | assumption | omega) only [go_sem, ↓reduceIte, Nat.reduceEqDiff, Nat.reduceAdd, Nat.reduceMul, zc, s0, s4, s5, hi', hi, eq_true hc, s3]
     exact ⟨i64c (by omega), 24656, gn 24656 + 1, .inr rfl, rfl, Ur, Ur⟩
    ·rw [if_neg hc]
     simp (disch := first | assumption | omega) only [go_sem, ↓reduceIte, Nat.reduceEqDiff, Nat.reduceAdd, Nat.reduceMul, zc, s0, s4, s5, hi', hi, eq_false hc, s3]
     exact ⟨i64c (by omega), 24656, gk, by decide, rfl, by simpa only [↓za, ↓reduceIte, Nat.reduceEqDiff, zb, reduceCtorEq, eq_false hne] using rk, by ((simp only [↓za, ↓reduceIte, Nat.reduceEqDiff, zb, reduceCtorEq]) <;> omega)⟩
  ·rintro sl ro gn ⟨s0, s4, s5, pb⟩
   dsimp only at s0 s4 s5
   have hi' : ¬ ((Os.length : Nat) : Int) < (Os.length : Nat) := by omega
   dsimp only at pb
   obtain ⟨sk, gk, hsk, s3, rk, lk⟩ := pb
   rw [List.take_length] at rk
   simp (disch := first | assumption | omega) only [go_sem, ↓reduceIte, Nat.reduceEqDiff, Nat.reduceAdd, Nat.reduceMul, zc, s0, s4, s5, hi', s3]
   simp only [zr, zb, retR, resL, outT, outL, zes, zez, oneV, zcp, zed, zfi, Ro.dl, St.ev, zhk, ↓za, ↓reduceIte, Nat.reduceEqDiff, Nat.reduceAdd, Nat.reduceLeDiff, rk]
end
def PxP (Xs : List (List (List (List Int)))) (X : List (List (List Int))) (w : Int) : Prop :=
 (∃ k, k < Xs.length ∧ Xs.getD k [] = X ∧ (∀ j, j < k → Xs.getD j [] ≠ X) ∧ w = (k : Int)) ∨ ((∀ j, j < Xs.length → Xs.getD j [] ≠ X) ∧ w = -1)
theorem PxP_ex (Xs : List (List (List (List Int)))) (X : List (List (List Int))) : ∃ w, PxP Xs X w := by
 by_cases h : ∃ k, k < Xs.length ∧ Xs.getD k [] = X
 ·obtain ⟨k, ⟨h1, h2⟩, h3⟩ := Nat.find_ex h
  exact ⟨k, .inl ⟨k, h1, h2, fun j hj e => h3 j hj ⟨by omega, e⟩, rfl⟩⟩
 ·exact ⟨-1, .inr ⟨fun j hj e => h ⟨j, hj, e⟩, rfl⟩⟩
theorem PxP.at {Xs : List (List (List (List Int)))} {X : List (List (List Int))} {w : Int} (h : PxP Xs X w) {i : Nat} (hi : i < Xs.length) (q : ∀ j, j < i → Xs.getD j [] ≠ X) (e : Xs.getD i [] = X) : w = (i : Int) := by
 rcases h with ⟨k, h1, h2, h3, h4⟩ | ⟨h1, h2⟩
 ·rcases Nat.lt_trichotomy k i with h | h | h
  ·exact absurd h2 (q k h)
  ·omega
  ·exact absurd e (h3 i h)
 ·exact absurd e (h1 i hi)
theorem PxP.no {Xs : List (List (List (List Int)))} {X : List (List (List Int))} {w : Int} (h : PxP Xs X w) (q : ∀ j, j < Xs.length → Xs.getD j [] ≠ X) : w = -1 := by
 rcases h with ⟨k, h1, h2, h3, h4⟩ | ⟨h1, h2⟩
 ·exact absurd h2 (q k h1)
 ·exact h2
theorem getD_cubes (Ls : List C3) (n : Nat) {i : Nat} (hi : i < Ls.length) : (Ls.map fun F => cubeL F n).getD i [] = cubeL (Ls.getD i c0) n := by
 rw [List.getD_eq_getElem?_getD, List.getElem?_map, List.getD_eq_getElem?_getD, List.getElem?_eq_getElem hi]
 rfl
abbrev resP (w : Int) : AV := .tup [i64 (if w < 0 then 0 else w), i64 (if w < 0 then 4 else 0)]
theorem resP_at (i : Nat) : resP (i : Int) = .tup [i64 (i : Int), i64 0] := by
 show AV.tup [i64 (if (i : Int) < 0 then 0 else (i : Int)), i64 (if (i : Int) < 0 then 4 else 0)] = _
 rw [if_neg (by omega), if_neg (by omega)]
theorem resP_no : resP (-1) = .tup [i64 0, i64 4] := rfl
section
variable {c : AV} {T : List (List (List Int))} {m : Int}
theorem cPlS1 (ha : isLLL c T) (h : ¬ RingP T) : CallOK Tryz.prog 18 [.agg [c], i64 m] (.tup [i64 0, i64 1]) := by
 refine call_of (fn := Tryz.f18) (code := bodyOf Tryz.f18) Tryz.func18 rfl (by kernel_rfl) (rfl) ?_
 intro sl hs
 have s0 : sl 0 = .agg [c] := hs 0
 have s1 : sl 1 = i64 m := hs 1
 dsimp only [Tryz.f18, bodyOf, Option.getD]
 refine Ycd ?_
 refine CLL_pure _ (c108 (t := false) ha ⟨fun e => (nomatch e), fun e => absurd e h⟩) PUt rfl rfl ?_
 refine Yae ?_
 exact Yab
theorem cPlS2 (ha : isLLL c T) (h : RingP T) (h2 : ¬ ((1 ≤ (T.length : Int) ∧ (T.length : Int) ≤ 3) ∧ 0 ≤ m ∧ m ≤ 4)) : CallOK Tryz.prog 18 [.agg [c], i64 m] (.tup [i64 0, i64 2]) := by
 have hl : 1 ≤ T.length := h.1.1
 by_cases d : 0 ≤ m ∧ m ≤ 4
 ·have d3 : (3 : Int) < (T.length : Nat) := by omega
  refine call_of (fn := Tryz.f18) (code := bodyOf Tryz.f18) Tryz.func18 rfl (by kernel_rfl) (rfl) ?_
  intro sl hs
  have s0 : sl 0 = .agg [c] := hs 0
  have s1 : sl 1 = i64 m := hs 1
  dsimp only [Tryz.f18, bodyOf, Option.getD]
  refine Ycd ?_
  refine CLL_pure _ (c108 (t := true) ha ⟨fun _ => h, fun _ => rfl⟩) PUt rfl rfl ?_
  refine Yae ?_
  refine CLL_pure _ (c38 (a := m) (b := 0) (c := 4)) rfl rfl rfl ?_
  simp (disch := first | assumption | omega) only [go_sem, ↓reduceIte, Nat.reduceEqDiff, Nat.reduceAdd, Nat.reduceMul, zc, s0, s1, ti2, ti4, eq_true d, isLLL_len ha, eq_true d3]
  exact Yab
 ·refine call_of (fn := Tryz.f18) (code := bodyOf Tryz.f18) Tryz.func18 rfl (by kernel_rfl) (rfl) ?_
  intro sl hs
  have s0 : sl 0 = .agg [c] := hs 0
  have s1 : sl 1 = i64 m := hs 1
  dsimp only [Tryz.f18, bodyOf, Option.getD]
  refine Ycd ?_
  refine CLL_pure _ (c108 (t := true) ha ⟨fun _ => h, fun _ => rfl⟩) PUt rfl rfl ?_
  refine Yae ?_
  refine CLL_pure _ (c38 (a := m) (b := 0) (c := 4)) rfl rfl rfl ?_
  simp (disch := first | assumption | omega) only [go_sem, ↓reduceIte, Nat.reduceEqDiff, Nat.reduceAdd, Nat.reduceMul, zc, s0, s1, ti2, ti4, eq_false d, undef]
  exact Yab
end
section
variable {c : AV} {T : List (List (List Int))} {m : Nat}
set_option maxHeartbeats 8000000 in
theorem cPlS3 (ha : isLLL c T) (h : RingP T) (h3 : T.length ≤ 3) (hm : m ≤ 4) {w : Int} (hw : PxP ((tabsS T.length m).map fun F => cubeL F T.length) (cubeL (leastF (at3 T) T.length) T.length) w) : CallOK Tryz.prog 18 [.agg [c], i64 (m : Int)] (resP w) := by
 have h1 : 1 ≤ T.length := h.1.1
 have d1 : 0 ≤ (m : Int) ∧ (m : Int) ≤ 4 := by omega
 have d3 : ¬ (3 : Int) < (T.length : Nat) := by omega
 have hn' : T.length ≤ maxN := by unfold maxN; omega
 have hpc : pureA c = true := isLLL_pure ha
 have ha' : isLLL c (cubeL (at3 T) T.length) := by rw [← cube_self h.1]; exact ha
 have cL := cListS (n := T.length) (m := m) h1 h3 hm
 rw [show kepS T.length (vis T.length (T.length - 1) [0]) (allS T.length m (vis T.length (T.length - 1) [0]) (vis T.length (T.length - 1) [0]).length) (allS T.length m (vis T.length (T.length - 1) [0]) (vis T.length (T.length - 1) [0]).length).length = tabsS T.length m from rfl] at cL
 have cB := cLeastS ha' h1 h3
 have hSn : (tabsS T.length m).length ≤ 1000000 := by
  have := congrArg List.length (plainLaw (m := m) h1 h3)
  rw [List.length_map, List.length_map, srt_len] at this
  have := tabs_len h1 h3 hm
  omega
 generalize tabsS T.length m = S at cL hw hSn
 generalize leastF (at3 T) T.length = B at cB hw
 have lS : (S.map fun F => immC F T.length).length = S.length := List.length_map _
 have lC : (S.map fun F => cubeL F T.length).length = S.length := List.length_map _
 have hnl : noRefL (S.map fun F => immC F T.length) = true := pure_noRefL _ (immC_pure S T.length)
 refine call_of (fn := Tryz.f18) (code := bodyOf Tryz.f18) Tryz.func18 rfl (by kernel_rfl) (rfl) ?_
 intro sl hs
 have s0 : sl 0 = .agg [c] := hs 0
 have s1 : sl 1 = i64 (m : Int) := hs 1
 dsimp only [Tryz.f18, bodyOf, Option.getD]
 refine Ycd ?_
 refine CLL_pure _ (c108 (t := true) ha ⟨fun _ => h, fun _ => rfl⟩) PUt rfl rfl ?_
 refine Yae ?_
 refine CLL_pure _ (c38 (a := (m : Int)) (b := 0) (c := 4)) rfl rfl rfl ?_
 simp (disch := first | assumption | omega) only [go_sem, ↓reduceIte, Nat.reduceEqDiff, Nat.reduceAdd, Nat.reduceMul, zc, s0, s1, ti2, ti4, eq_true d1, isLLL_len ha, eq_false d3]
 refine CLLD_pure _ cL rfl rfl ?_
 simp (disch := first | assumption | omega) only [go_sem, ↓reduceIte, Nat.reduceEqDiff, Nat.reduceAdd, Nat.reduceMul, zc, s0, s1, impE_row, listI, lS, hnl]
 refine CLLD_pure _ cB PUt rfl ?_
 refine Yde ?_
 refine FIN_of (by kernel_rfl) ?_
 refine Yao ?_
 refine WK_for (fun i st => st.sl 6 = .ref 24640 1 [] 0 S.length ∧ st.sl 7 = .ref 24688 1 [] 0 T.length ∧ st.sl 8 = i64 (i : Int) ∧ st.ro 24640 1 = some (.row (S.map fun F => immC F T.length)) ∧ st.ro 24688 1 = some (cubeA B T.length) ∧ (∀ j, j < i → (S.map fun F => cubeL F T.length).getD j [] ≠ cubeL B T.length)) S.length ?_ ?_ ?_
 ·refine Yag ?_
  exact ⟨rfl, lt0⟩
 ·rintro i sl ro gn hi ⟨s6, s7, s8, r24640, r24688, q⟩
  dsimp only at s6 s7 s8 r24640 r24688
  have hi' : (i : Int) < (S.length : Nat) := by omega
  obtain ⟨G, hG⟩ : ∃ G, G = S.getD i c0 := ⟨_, rfl⟩
  have hgC := getD_cubes S T.length hi
  rw [← hG] at hgC
  have hgG : (S.map fun F => immC F T.length)[i]? = some (immC G T.length) := by rw [List.getElem?_map, List.getElem?_eq_getElem hi, hG, List.getD_eq_getElem?_getD, List.getElem?_eq_getElem hi]; rfl
  have hpG : pureA (immC G T.length) = true := isLLL_pure (isLLL_immC G T.length)
  simp (disch := first | assumption | omega) only [go_sem, ↓reduceIte, Nat.reduceEqDiff, Nat.reduceAdd, Nat.reduceMul, zc, s6, s7, s8, r24640, r24688, hi', hi, ti3, ti4, ti33, lS, hgG, hi]
  refine CLL_q _ (cBefore (isLLL_immC G T.length) (isLLL_immC B T.length) hn') (.cons (exq_mono (exq_LLL (isLLL_immC G T.length) (Nat.le_refl 4)) (by decide)) (.cons (exq_cube r24688 (by decide)) .nil)) rfl rfl rfl ?_
  have an := cmp3_O.anti (cubeL G T.length) (cubeL B T.length)
  have an2 := cmp3_O.anti (cubeL B T.length) (cubeL G T.length)
  have e0 := cmp3_O.eq0 (cubeL G T.length) (cubeL B T.length)
  by_cases hc : cmp3 (cubeL G T.length) (cubeL B T.length) < 0
  ·have hne : (S.map fun F => cubeL F T.length).getD i [] ≠ cubeL B T.length := fun e => by rw [hgC] at e; have := e0.2 e; omega
   simp (disch := first | assumption | omega) only [go_sem, ↓reduceIte, Nat.reduceEqDiff, Nat.reduceAdd, Nat.reduceMul, zc, s6, s7, s8, r24640, r24688, hi', hi, ti4, eq_true hc, undef]
   exact ⟨i64c (by omega), ltS q hne⟩
  ·simp (disch := first | assumption | omega) only [go_sem, ↓reduceIte, Nat.reduceEqDiff, Nat.reduceAdd, Nat.reduceMul, zc, s6, s7, s8, r24640, r24688, hi', hi, ti3, ti4, ti33, eq_false hc, lS, hgG, hi]
   refine CLL_q _ (cBefore (isLLL_immC B T.length) (isLLL_immC G T.length) hn') (.cons (exq_cube r24688 (by decide)) (.cons (exq_mono (exq_LLL (isLLL_immC G T.length) (Nat.le_refl 4)) (by decide)) .nil)) rfl rfl rfl ?_
   by_cases hd : cmp3 (cubeL B T.length) (cubeL G T.length) < 0
   ·have hne : (S.map fun F => cubeL F T.length).getD i [] ≠ cubeL B T.length := fun e => by rw [hgC] at e; have := e0.2 e; omega
    simp (disch := first | assumption | omega) only [go_sem, ↓reduceIte, Nat.reduceEqDiff, Nat.reduceAdd, Nat.reduceMul, zc, s6, s7, s8, r24640, r24688, hi', hi, ti4, eq_true hd]
    exact ⟨i64c (by omega), ltS q hne⟩
   ·have he : (S.map fun F => cubeL F T.length).getD i [] = cubeL B T.length := by rw [hgC]; exact e0.1 (by omega)
    have hwi := hw.at (by omega) q he
    rw [hwi, resP_at]
    simp (disch := first | assumption | omega) only [go_sem, ↓reduceIte, Nat.reduceEqDiff, Nat.reduceAdd, Nat.reduceMul, zc, s6, s7, s8, r24640, r24688, hi', hi, ti4, eq_false hd]
    exact Yab
 ·rintro sl ro gn ⟨s6, s7, s8, r24640, r24688, q⟩
  dsimp only at s6 s7 s8 r24640 r24688
  have hi' : ¬ ((S.length : Nat) : Int) < (S.length : Nat) := by omega
  have hwi := hw.no (fun j hj => q j (by omega))
  rw [hwi, resP_no]
  simp (disch := first | assumption | omega) only [go_sem, ↓reduceIte, Nat.reduceEqDiff, Nat.reduceAdd, Nat.reduceMul, zc, s6, s7, s8, r24640, r24688, hi', ti3, lS]
  exact Yab
end
section
variable {n : Nat} {F B : C3} {x c : AV}
theorem cPl1 (ha : isLLL x (cubeL F n)) (hb : isLLL c (cubeL B n)) (hn : n ≤ maxN) : CallOK Tryz.prog 36 [.agg [x], .iptr [c]] (bo (decide (cmp3 (cubeL F n) (cubeL B n) = 0))) := by
 have hpa : pureA x = true := isLLL_pure ha
 have hpb : pureA c = true := isLLL_pure hb
 refine call_of (fn := Tryz.f36) (code := bodyOf Tryz.f36) Tryz.func36 rfl (by kernel_rfl) (rfl) ?_
 intro sl hs
 have s0 : sl 0 = .agg [x] := hs 0
 have s1 : sl 1 = .iptr [c] := hs 1
 dsimp only [Tryz.f36, bodyOf, Option.getD]
 refine Ybs ?_
 refine CLL_pure _ (cCmpC ha hb hn) PUt rfl rfl ?_
 simp (disch := first | assumption | omega) only [go_sem, ↓reduceIte, Nat.reduceEqDiff, Nat.reduceAdd, Nat.reduceMul, Nat.reduceLeDiff, zc, s0, s1, ti3, ti4]
 exact Yab
theorem cIdxR {Ls : List C3} {w : Int} (hb : isLLL c (cubeL B n)) (hn : n ≤ maxN) (hN : Ls.length ≤ 1000000) (hw : PxP (Ls.map fun F => cubeL F n) (cubeL B n) w) : CallOK Tryz.prog 35 [immR n Ls, .fn 36 [.iptr [c]]] (i64 w) := by
 have lS : (Ls.map fun F => immC F n).length = Ls.length := List.length_map _
 have lC : (Ls.map fun F => cubeL F n).length = Ls.length := List.length_map _
 have hpb : pureA c = true := isLLL_pure hb
 have hN' : Ls.length ≤ 4294967296 := by omega
 refine call_of (fn := Tryz.f35) (code := bodyOf Tryz.f35) Tryz.func35 rfl (by kernel_rfl) (rfl) ?_
 intro sl hs
 have s0 : sl 0 = immR n Ls := hs 0
 have s1 : sl 1 = .fn 36 [.iptr [c]] := hs 1
 dsimp only [Tryz.f35, bodyOf, Option.getD]
 simp (disch := first | assumption | omega) only [go_sem, ↓reduceIte, Nat.reduceEqDiff, Nat.reduceAdd, Nat.reduceMul, Nat.reduceLeDiff, zc, s0, s1, ti3, lS, kLen_imm]
 refine WK_for (fun i st => st.sl 0 = immR n Ls ∧ st.sl 1 = .fn 36 [.iptr [c]] ∧ st.sl 7 = i64 (Ls.length : Int) ∧ st.sl 8 = i64 (i : Int) ∧ (∀ j, j < i → (Ls.map fun F => cubeL F n).getD j [] ≠ cubeL B n)) Ls.length ?_ ?_ ?_
 ·refine Yag ?_
  exact ⟨rfl, lt0⟩
 ·rintro i sl ro gn hi ⟨s0, s1, s7, s8, q⟩
  dsimp only at s0 s1 s7 s8
  have hi' : (i : Int) < (Ls.length : Nat) := by omega
  obtain ⟨G, hG⟩ : ∃ G, G = Ls.getD i c0 := ⟨_, rfl⟩
  have hgC := getD_cubes Ls n hi
  rw [← hG] at hgC
  have hgG : (Ls.map fun F => immC F n)[i]? = some (immC G n) := by rw [List.getElem?_map, List.getElem?_eq_getElem hi, hG, List.getD_eq_getElem?_getD, List.getElem?_eq_getElem hi]; rfl
  have hpG : pureA (immC G n) = true := isLLL_pure (isLLL_immC G n)
  simp (disch := first | assumption | omega) only [go_sem, ↓reduceIte, Nat.reduceEqDiff, Nat.reduceAdd, Nat.reduceMul, Nat.reduceLeDiff, zc, s0, s1, s7, s8, hi', hi, ti3, ti33, lS, hgG, kIdx_imm, hi]
  refine CLL_pure _ (cPl1 (isLLL_immC G n) hb hn) (by show ((pureA (immC G n) && true) && ((pureA c && true) && true)) = true; rw [hpG, hpb]; rfl) rfl rfl ?_
  have e0 := cmp3_O.eq0 (cubeL G n) (cubeL B n)
  by_cases hc : cmp3 (cubeL G n) (cubeL B n) = 0
  ·have he : (Ls.map fun F => cubeL F n).getD i [] = cubeL B n := by rw [hgC]; exact e0.1 hc
   have hwi := hw.at (by omega) q he
   rw [hwi]
   simp (disch := first | assumption | omega) only [go_sem, ↓reduceIte, Nat.reduceEqDiff, Nat.reduceAdd, Nat.reduceMul, Nat.reduceLeDiff, zc, s0, s1, s7, s8, hi', hi, ti3, ti4, eq_true hc]
   exact Yab
  ·have hne : (Ls.map fun F => cubeL F n).getD i [] ≠ cubeL B n := fun e => by rw [hgC] at e; exact hc (e0.2 e)
   simp (disch := first | assumption | omega) only [go_sem, ↓reduceIte, Nat.reduceEqDiff, Nat.reduceAdd, Nat.reduceMul, Nat.reduceLeDiff, zc, s0, s1, s7, s8, hi', hi, ti3, ti4, eq_false hc]
   exact ⟨i64c (by omega), ltS q hne⟩
 ·rintro sl ro gn ⟨s0, s1, s7, s8, q⟩
  dsimp only at s0 s1 s7 s8
  have hi' : ¬ ((Ls.length : Nat) : Int) < (Ls.length : Nat) := by omega
  have hwi := hw.no (fun j hj => q j (by omega))
  rw [hwi]
  simp (disch := first | assumption | omega) only [go_sem, ↓reduceIte, Nat.reduceEqDiff, Nat.reduceAdd, Nat.reduceMul, Nat.reduceLeDiff, zc, s0, s1, s7, s8, hi', ti3]
  exact Yab
end
section
variable {c : AV} {T : List (List (List Int))} {m : Int}
theorem cPlI1 (ha : isLLL c T) (hz : SzP T) (h : ¬ RingP T) : CallOK Tryz.prog 16 [.agg [c], i64 m] (.tup [i64 0, i64 1]) := by
 refine call_of (fn := Tryz.f16) (code := bodyOf Tryz.f16) Tryz.func16 rfl (by kernel_rfl) (rfl) ?_
 intro sl hs
 have s0 : sl 0 = .agg [c] := hs 0
 have s1 : sl 1 = i64 m := hs 1
 dsimp only [Tryz.f16, bodyOf, Option.getD]
 refine Ybs ?_
 refine CLL_pure _ (c118 (t := false) ha hz.1 hz.2 ⟨fun e => (nomatch e), fun e => absurd e h⟩) PUt rfl rfl ?_
 simp (disch := first | assumption | omega) only [go_sem, ↓reduceIte, Nat.reduceEqDiff, Nat.reduceAdd, Nat.reduceMul, Nat.reduceLeDiff, zc, s0, s1, ti2, ti4]
 exact Yab
theorem cPlI2 (ha : isLLL c T) (h : RingP T) (h2 : ¬ ((1 ≤ (T.length : Int) ∧ (T.length : Int) ≤ 3) ∧ 0 ≤ m ∧ m ≤ 4)) : CallOK Tryz.prog 16 [.agg [c], i64 m] (.tup [i64 0, i64 2]) := by
 have hz := h.1.sz
 refine call_of (fn := Tryz.f16) (code := bodyOf Tryz.f16) Tryz.func16 rfl (by kernel_rfl) (rfl) ?_
 intro sl hs
 have s0 : sl 0 = .agg [c] := hs 0
 have s1 : sl 1 = i64 m := hs 1
 dsimp only [Tryz.f16, bodyOf, Option.getD]
 refine Ybs ?_
 refine CLL_pure _ (c118 (t := true) ha hz.1 hz.2 ⟨fun _ => h, fun _ => rfl⟩) PUt rfl rfl ?_
 refine Ydz ?_
 refine CLL_pure _ (cIsList (n := (T.length : Int)) (m := m)) rfl rfl rfl ?_
 rw [decide_eq_false h2]
 simp (disch := first | assumption | omega) only [go_sem, ↓reduceIte, Nat.reduceEqDiff, Nat.reduceAdd, Nat.reduceMul, Nat.reduceLeDiff, zc, s0, s1, ti2, ti4]
 exact Yab
end
section
variable {c : AV} {T : List (List (List Int))} {m : Nat}
set_option maxHeartbeats 8000000 in
theorem cPlI3 (ha : isLLL c T) (h : RingP T) (h3 : T.length ≤ 3) (hm : m ≤ 4) {w : Int} (hw : PxP ((srtL T.length (tabs T.length m)).map fun F => cubeL F T.length) (cubeL (leastF (at3 T) T.length) T.length) w) : CallOK Tryz.prog 16 [.agg [c], i64 (m : Int)] (resP w) := by
 have hz := h.1.sz
 have h1 : 1 ≤ T.length := h.1.1
 have d1 : (1 ≤ (T.length : Int) ∧ (T.length : Int) ≤ 3) ∧ 0 ≤ (m : Int) ∧ (m : Int) ≤ 4 := by omega
 have hn' : T.length ≤ maxN := hz.1
 have hpc : pureA c = true := isLLL_pure ha
 have ha' : isLLL c (cubeL (at3 T) T.length) := by rw [← cube_self h.1]; exact ha
 have hci : ∃ cs, c = .imm cs := by
  rcases ha with ⟨cs, e, -⟩ | ⟨e, -⟩
  ·exact ⟨cs, e⟩
  ·rw [e] at h1; exact absurd h1 (by decide)
 have cA := cAllR (n := T.length) (m := m) h1 h3 hm
 have hN : (srtL T.length (tabs T.length m)).length ≤ 1000000 := by rw [srt_len]; exact tabs_len h1 h3 hm
 have hv := vis_ok T.length h1 h3
 generalize srtL T.length (tabs T.length m) = P at cA hw hN
 have lP : (P.map fun F => cubeA F T.length).length = P.length := List.length_map _
 refine call_of (fn := Tryz.f16) (code := bodyOf Tryz.f16) Tryz.func16 rfl (by kernel_rfl) (rfl) ?_
 intro sl hs
 have s0 : sl 0 = .agg [c] := hs 0
 have s1 : sl 1 = i64 (m : Int) := hs 1
 dsimp only [Tryz.f16, bodyOf, Option.getD]
 refine Ybs ?_
 refine CLL_pure _ (c118 (t := true) ha hz.1 hz.2 ⟨fun _ => h, fun _ => rfl⟩) PUt rfl rfl ?_
 refine Ydz ?_
 refine CLL_pure _ (cIsList (n := (T.length : Int)) (m := (m : Int))) rfl rfl rfl ?_
 rw [decide_eq_true d1]
 simp (disch := first | assumption | omega) only [go_sem, ↓reduceIte, Nat.reduceEqDiff, Nat.reduceAdd, Nat.reduceMul, Nat.reduceLeDiff, zc, s0, s1, ti2, ti4, ti33]
 refine CLL_inS rfl (sLeast (F := at3 T) h1 hn' hv (rv := c) (.imm _ hci ha')) ?_
 rintro _ ro1 gn1 ⟨fr1, bv, rfl, hb⟩
 generalize leastF (at3 T) T.length = B at hb hw
 have hl3 := hb.l
 have hob : ∀ (ro' : Ro), (∀ x y, y ≤ gn1 x → x ≠ 8192 → x ≠ 8208 → ro' x y = ro1 x y) → cellOkB ro' bv = true := by
  intro ro' hk
  cases hb with
  | imm _ h2 h3 => obtain ⟨cs, rfl⟩ := h2; rfl
  | ref s g h2 h3 h4 => have := (hk s g h3 h2.1 h2.2).trans h4; show (ro'.cells s g []).isSome = true; simp [Ro.cells, this, blk]
 simp (disch := first | assumption | omega) only [go_sem, ↓reduceIte, Nat.reduceEqDiff, Nat.reduceAdd, Nat.reduceMul, Nat.reduceLeDiff, zc, s0, s1, ti33, ti2, hl3]
 rw [if_pos (hob _ ?_)]
 rotate_left
 ·(intro x y hy h1 h2; simp only [zdb]; repeat' (first | rfl | rw [if_neg (by rintro ⟨rfl, rfl⟩; omega)]))
 simp (disch := first | assumption | omega) only [go_sem, ↓reduceIte, Nat.reduceEqDiff, Nat.reduceAdd, Nat.reduceMul, Nat.reduceLeDiff, zc, s0, s1, ti33, ti2, hl3]
 refine CLL_pure _ cA rfl rfl (by rfl) ?_
 simp (disch := first | assumption | omega) only [go_sem, ↓reduceIte, Nat.reduceEqDiff, Nat.reduceAdd, Nat.reduceMul, Nat.reduceLeDiff, zc, s0, s1, impE_row, listA, lP, ti33]
 refine CLL_q _ (cIdxR (n := T.length) (B := B) hb.v hn' hN hw) (.cons (exq_listA (n := T.length) (Ls := P) Ur rfl) (.cons (exq_mono (exq_fn (.cons (exq_ptrc Ur (.cons (hb.xk (by intro x y hy h1 h2; simp only [zdb]; repeat' (first | rfl | rw [if_neg (by rintro ⟨rfl, rfl⟩; omega)]))) .nil)) .nil)) (by decide)) .nil)) rfl rfl rfl ?_
 by_cases hw0 : w < 0
 ·have e : resP w = .tup [i64 0, i64 4] := by unfold resP; rw [if_pos hw0, if_pos hw0]
  rw [e]
  simp (disch := first | assumption | omega) only [go_sem, ↓reduceIte, Nat.reduceEqDiff, Nat.reduceAdd, Nat.reduceMul, Nat.reduceLeDiff, zc, s0, s1, ti2, ti3, ti4, eq_true hw0]
  exact Yab
 ·have e : resP w = .tup [i64 w, i64 0] := by unfold resP; rw [if_neg hw0, if_neg hw0]
  rw [e]
  simp (disch := first | assumption | omega) only [go_sem, ↓reduceIte, Nat.reduceEqDiff, Nat.reduceAdd, Nat.reduceMul, Nat.reduceLeDiff, zc, s0, s1, ti2, ti3, ti4, eq_false hw0]
  exact Yab
end
end Go.Proofs.YtilfkbgdpmimlaaGreat
