/- Texts joined: Bi5 Bi6 Bi7. -/
import Derived.Test.YtmchdjiigfiabaaGreatPd
set_option linter.all false
/- The braid numbers that leading numbers tell (program), in the caller's memory. -/
namespace Go.Proofs.YtmchdjiigfiabaaGreat
open Go.RowKit
set_option maxRecDepth 1000000
theorem setL_full {α : Type} : ∀ (us cs : List α) (i : Nat), i + us.length = cs.length → setL i us cs = cs.take i ++ us
 | [], cs, i, h => by
  rw [List.append_nil, List.take_of_length_le (by simpa using Nat.le_of_eq h.symm)]
  rfl
 | a :: us, cs, i, h => by
  rw [List.length_cons] at h
  show setL (i + 1) us (cs.set i a) = _
  rw [setL_full us (cs.set i a) (i + 1) (by rw [List.length_set]; omega), List.take_succ, List.getElem?_set_self (by omega), List.take_set_of_le (Nat.le_refl _)]
  simp
theorem mat_wrR {ro : Ro} {s g i n m : Nat} {f : Nat → Nat → Int} {R : Nat → Int} (h : ro s g = some (matA f n m)) (hi : i < n) : ro.wr ⟨s, g, [i], 0, rws (fun z => i64 (R z)) m⟩ = upr ro s g (matA (updR f i R) n m) := by
 unfold Ro.wr
 simp only [h, putR, rws_get _ _ _ hi]
 rw [setL_full _ _ 0 (by rw [zfe, zfe, Nat.zero_add]), List.take_zero, List.nil_append, rws_set]
 refine congrArg (upr ro s g) (congrArg AV.row (rws_congr fun x hx => ?_))
 by_cases hxi : x = i
 ·rw [if_pos hxi]
  refine congrArg AV.row (rws_congr fun y hy => ?_)
  simp [updR, hxi]
 ·rw [if_neg hxi]
  refine congrArg AV.row (rws_congr fun y hy => ?_)
  simp [updR, hxi]
theorem WK_abs {X : WX} {c : Code} {K : List Fr} {Q : Exit → St → Prop} {sl0 : Nat → AV} {ro0 : Ro} {gn0 : Nat → Nat} (P : (Nat → AV) → Ro → (Nat → Nat) → Prop) (h0 : P sl0 ro0 gn0) (h : ∀ sl ro gn, P sl ro gn → WK X c K Q ⟨sl, ro, gn⟩) : WK X c K Q ⟨sl0, ro0, gn0⟩ := h _ _ _ h0
section
variable {O : List Int} {m : Nat} {F : Nat → Nat → Nat → Int} {l : List Nat} {c : AV}
theorem cOwnN (hO : GrpP O) (sm : SmO O) : CallOK Tryz.prog 45 [immL O] (.row (rws (fun i => i64 (gen O i : Nat)) O.length)) := by
 have e : rws (fun i => i64 (genI O i)) O.length = rws (fun i => i64 (gen O i : Nat)) O.length := rws_congr fun i hi => by rw [sm.gnI hi]
 rw [← e]
 exact cOwnG hO
def W47 : List Nat := [4096, 4112, 4128, 8224, 8320, 8336, 12336, 12368, 16416, 28720, 28736, 32784, 32800, 49184, 53280, 53296, 20528]
set_option maxHeartbeats 16000000 in
theorem sByL {rb : Ro} {gb : Nat → Nat} {gL : Nat} (hW : CoP O m F (szO O)) (sm : SmO O) (hr : O.length ≤ 3) (hc : isLLL c (cubeL F (szO O))) (hl : l.length = O.length * O.length) (hlm : ∀ x, x ∈ l → x < m) (rL : rb 61488 gL = some (rowL (zl l))) (hgL : gL ≤ gb 61488) :
  InS Tryz.prog 47 [.agg [immL O, i64 (m : Int), c], .ref 61488 gL [] 0 (O.length * O.length)] rb gb (fun r ro' gn' => Fru W47 12336 (gb 12336 + 1) rb gb ro' gn' ∧
   ∃ gA, r = .agg [immL O, i64 (m : Int), c, .ref 53280 gA [] 0 (szO O)] ∧ gb 53280 < gA ∧ gA ≤ gn' 53280 ∧ ro' 53280 gA = some (matA (bdI O m F (LI O.length l) (plI O)) (szO O) (szO O))) := by
 have hO := hW.s.g sm.l6
 have ho := isL_imm O
 have hm := hW.s.m
 have n8 := hW.s.n8
 have h4 := hO.l4
 have hl1 := hO.l1
 have hn0 := hW.s.pos
 have lX : (cubeL F (szO O)).length = szO O := zfe _ _
 obtain ⟨cs, rfl⟩ : ∃ cs, c = .imm cs := by
  rcases hc with ⟨cs, rfl, _⟩ | ⟨h, _⟩
  ·exact ⟨cs, rfl⟩
  ·rw [h] at lX
   exact absurd lX (by simp; omega)
 have co := cOwnN hO sm
 have cz := c126m (n := szO O) (m := szO O) (by unfold maxN; omega) (by unfold maxN; omega)
 have hm' : ((szO O : Nat) : Int) ≤ ((4294967296 : Nat) : Int) := by omega
 have hge : (0 : Int) ≤ ((szO O : Nat) : Int) := by omega
 refine in_ofS (fn := Tryz.f47) (code := bodyOf Tryz.f47) Tryz.func47 rfl (by kernel_rfl) ?_
 intro sl hs
 have s0 : sl 0 = .agg [immL O, i64 (m : Int), .imm cs] := hs 0
 have s1 : sl 1 = .ref 61488 gL [] 0 (O.length * O.length) := hs 1
 dsimp only [Tryz.f47, bodyOf, Option.getD]
 simp (maxSteps := 10000000) (disch := first | assumption | omega) only [go_sem, ↓reduceIte, Nat.reduceEqDiff, reduceCtorEq, Nat.reduceAdd, Nat.reduceMul, Nat.reduceLeDiff, zc, Int.reduceToNat, s0, s1, tiC, tiD, rL]
 refine CLLD_pure _ co PUt rfl ?_
 simp (maxSteps := 10000000) (disch := first | assumption | omega) only [go_sem, ↓reduceIte, Nat.reduceEqDiff, reduceCtorEq, Nat.reduceAdd, Nat.reduceMul, Nat.reduceLeDiff, zc, Int.reduceToNat, s0, s1, tiC, tiD, lX, impE_row, zfe]
 refine FIN_of (by kernel_rfl) ?_
 simp (maxSteps := 10000000) (disch := first | assumption | omega) only [go_sem, ↓reduceIte, Nat.reduceEqDiff, reduceCtorEq, Nat.reduceAdd, Nat.reduceMul, Nat.reduceLeDiff, zc, Int.reduceToNat, s0, s1, tiC, tiD, lX]
 refine CLLD_pure _ cz PUt rfl ?_
 simp (maxSteps := 10000000) (disch := first | assumption | omega) only [go_sem, ↓reduceIte, Nat.reduceEqDiff, reduceCtorEq, Nat.reduceAdd, Nat.reduceMul, Nat.reduceLeDiff, zc, Int.reduceToNat, s0, s1, tiC, tiD, lX, impE_row, zfe]
 refine FIN_of (by kernel_rfl) ?_
 simp (maxSteps := 10000000) (disch := first | assumption | omega) only [go_sem, ↓reduceIte, Nat.reduceEqDiff, reduceCtorEq, Nat.reduceAdd, Nat.reduceMul, Nat.reduceLeDiff, zc, Int.reduceToNat, s0, s1, tiC, tiD, lX]
 obtain ⟨gc, hgc⟩ : ∃ g, g = gb 4096 + 1 := ⟨_, rfl⟩
 obtain ⟨gl, hgl⟩ : ∃ g, g = gb 4112 + 1 := ⟨_, rfl⟩
 obtain ⟨g4, hg4⟩ : ∃ g, g = gb 4128 + 1 := ⟨_, rfl⟩
 obtain ⟨go, hgo⟩ : ∃ g, g = gb 8224 + 1 := ⟨_, rfl⟩
 obtain ⟨gN, hgN⟩ : ∃ g, g = gb 8320 + 1 := ⟨_, rfl⟩
 obtain ⟨gw, hgw⟩ : ∃ g, g = gb 8336 + 1 := ⟨_, rfl⟩
 obtain ⟨g8, hg8⟩ : ∃ g, g = gb 12368 + 1 := ⟨_, rfl⟩
 obtain ⟨g9, hg9⟩ : ∃ g, g = gb 16416 + 1 := ⟨_, rfl⟩
 obtain ⟨gB, hgB⟩ : ∃ g, g = gb 12336 + 1 := ⟨_, rfl⟩
 refine WK_abs (fun sl ro gn => (sl 2 = .ptr 4096 gc [] 0 ∧ sl 3 = .ptr 4112 gl [] 0 ∧ sl 4 = .ptr 4128 g4 [] 0 ∧ sl 5 = .ref 8224 go [] 0 O.length ∧ sl 6 = .ptr 8320 gN [] 0 ∧ sl 7 = .ptr 8336 gw [] 0 ∧ sl 8 = .ptr 12368 g8 [] 0 ∧ sl 9 = .ptr 16416 g9 [] 0 ∧ sl 30 = .ref 8224 go [] 0 O.length ∧ sl 31 = i64 (O.length : Nat) ∧ sl 32 = i64 0) ∧
  (ro 4096 gc = some (.bx [immL O, i64 (m : Int), .imm cs]) ∧ ro 4112 gl = some (.bx [.ref 61488 gL [] 0 (O.length * O.length)]) ∧ ro 61488 gL = some (rowL (zl l)) ∧ ro 8224 go = some (.row (rws (fun i => i64 (gen O i : Nat)) O.length)) ∧ ro 8320 gN = some (.bx [i64 (szO O : Nat)]) ∧ ro 8336 gw = some (.bx [.imm cs]) ∧ ro 12368 g8 = some (.bx [immL O, i64 (m : Int), .imm cs, .ref 12336 gB [] 0 (szO O)]) ∧ ro 16416 g9 = some (.bx [i64 (O.length : Nat)]) ∧ ro 4128 g4 = some (.bx [nilA, i64 0, nilA, nilA]) ∧ ro 12336 gB = some (matA (fun _ _ => 0) (szO O) (szO O))) ∧
  (gc ≤ gn 4096 ∧ gl ≤ gn 4112 ∧ gL ≤ gn 61488 ∧ go ≤ gn 8224 ∧ gN ≤ gn 8320 ∧ gw ≤ gn 8336 ∧ g8 ≤ gn 12368 ∧ g9 ≤ gn 16416 ∧ g4 ≤ gn 4128 ∧ gB ≤ gn 12336) ∧ Fru W47 12336 gB rb gb ro gn) ?_ ?_
 ·simp only [↓za, ↓reduceIte, Nat.reduceEqDiff, zb, reduceCtorEq, ← hgc, ← hgl, ← hg4, ← hgo, ← hgN, ← hgw, ← hg8, ← hg9, ← hgB]
  refine ⟨rL, ⟨Nat.le_refl _, Nat.le_refl _, hgL, Nat.le_refl _, Nat.le_refl _, Nat.le_refl _, Nat.le_refl _, Nat.le_refl _, Nat.le_refl _, Nat.le_refl _⟩, ?_⟩
  subst hgc hgl hg4 hgo hgN hgw hg8 hg9 hgB
  exact (by (repeat' first | assumption | exact Fru.refl _ _ _ _ _ | refine Fru.al ?_ _ _ _ (by decide) rfl | refine Fru.wr ?_ _ _ _ (by decide) (by omega)))
 rintro sl rI gI ⟨⟨s2, s3, s4, s5, s6, s7, s8, s9, s30, s31, s32⟩, ⟨q1, q2, q3, q4, q5, q6, q7, q8, q9, q10⟩, ⟨p1, p2, p3, p4, p5, p6, p7, p8, p9, p10⟩, frI⟩
 have eT : (plI O).take (szO O - 1) = plI O := by rw [← plI_len, List.take_length]
 refine WK_for (fun i st => st.sl 2 = .ptr 4096 gc [] 0 ∧ st.sl 3 = .ptr 4112 gl [] 0 ∧ st.sl 4 = .ptr 4128 g4 [] 0 ∧ st.sl 5 = .ref 8224 go [] 0 O.length ∧ st.sl 6 = .ptr 8320 gN [] 0 ∧ st.sl 7 = .ptr 8336 gw [] 0 ∧ st.sl 8 = .ptr 12368 g8 [] 0 ∧ st.sl 9 = .ptr 16416 g9 [] 0 ∧ st.sl 30 = .ref 8224 go [] 0 O.length ∧ st.sl 31 = i64 (O.length : Nat) ∧ st.sl 32 = i64 (i : Int) ∧ (Fru W47 12336 gB rI gI st.ro st.gn) ∧ st.ro 12336 gB = some (matA (gsI O m F (LI O.length l) (plI O) i) (szO O) (szO O))) O.length ?_ ?_ ?_
 ·refine Yan ?_
  exact ⟨s2, s3, s4, s5, s6, s7, s8, s9, s30, s31, s32, Fru.refl _ _ _ _ _, q10⟩
 ·rintro i sl ro gn hi ⟨s2, s3, s4, s5, s6, s7, s8, s9, s30, s31, s32, fr, r12336⟩
  dsimp only at s2 s3 s4 s5 s6 s7 s8 s9 s30 s31 s32 r12336
  have hi' : (i : Int) < (O.length : Nat) := by omega
  dsimp only at fr
  have hgn := sm.gn hi
  have k1 := (fr.kp 4096 gc p1 (by omega)).trans q1
  have k2 := (fr.kp 4112 gl p2 (by omega)).trans q2
  have k3 := (fr.kp 61488 gL p3 (by omega)).trans q3
  have k4 := (fr.kp 8224 go p4 (by omega)).trans q4
  have k5 := (fr.kp 8320 gN p5 (by omega)).trans q5
  have k6 := (fr.kp 8336 gw p6 (by omega)).trans q6
  have k7 := (fr.kp 12368 g8 p7 (by omega)).trans q7
  have k8 := (fr.kp 16416 g9 p8 (by omega)).trans q8
  have w1 := Nat.le_trans p1 (fr.up 4096)
  have w2 := Nat.le_trans p2 (fr.up 4112)
  have w3 := Nat.le_trans p3 (fr.up 61488)
  have w4 := Nat.le_trans p4 (fr.up 8224)
  have w6 := Nat.le_trans p6 (fr.up 8336)
  have w7 := Nat.le_trans p7 (fr.up 12368)
  have w8 := Nat.le_trans p8 (fr.up 16416)
  have w10 := Nat.le_trans p10 (fr.up 12336)
  have w11 := fr.up 32784
  have w12 := fr.up 28720
  have w13 := fr.up 28736
  have w14 := fr.up 32800
  simp (maxSteps := 10000000) (disch := first | assumption | omega) only [go_sem, ↓reduceIte, Nat.reduceEqDiff, reduceCtorEq, Nat.reduceAdd, Nat.reduceMul, Nat.reduceLeDiff, zc, Int.reduceToNat, s2, s3, s4, s5, s6, s7, s8, s9, s30, s31, s32, r12336, hi', hi, k4, k5, rws_get _ _ _ hi, kMake, hge, hm', Int.le_refl, List.getD_cons_zero, rep_rws, k1, tiC]
  refine CLL_inS rfl (sEach1 (go := go) (u := gn 32784 + 1) (g := 82) (caps := [AV.ptr 4096 gc [] 0, AV.ptr 32800 (gn 32800 + 1) [] 0, AV.ptr 4112 gl [] 0, AV.ptr 28720 (gn 28720 + 1) [] 0, AV.ptr 16416 g9 [] 0, AV.ptr 8336 gw [] 0, AV.ptr 28736 (gn 28736 + 1) [] 0]) (X := fun j => .row (rws (fun z => i64 (rwB O m F (LI O.length l) i (fun _ => 0) ((plI O).take j) z)) (szO O))) hW sm hc (Ue k4) (by simp only [↓za, ↓reduceIte, Nat.reduceEqDiff, zb, reduceCtorEq]; rfl) Ur rfl (fun j s ro1 gn1 hs hp hR hx => ?_)) ?_
  ·refine (inL1 (i := i) (R := rwB O m F (LI O.length l) i (fun _ => 0) ((plI O).take j)) (gr := gn 32800 + 1) (gi := gn 28720 + 1) (gg := gn 28736 + 1) (gL := gL) hW sm hr hc hl hlm hi hp (rwI_rg hm.1) ?_ ?_ ?_ ?_ ?_ ?_ ?_ ?_ hx).mono fun _ _ _ h => ⟨h.1, ?_⟩
   ·exact (hR 4096 (by decide) gc (Ue w1)).trans (Ue k1)
   ·exact (hR 32800 (by decide) (gn 32800 + 1) Ur).trans Ur
   ·exact (hR 4112 (by decide) gl (Ue w2)).trans (Ue k2)
   ·exact (hR 61488 (by decide) gL (Ue w3)).trans (Ue k3)
   ·exact (hR 28720 (by decide) (gn 28720 + 1) Ur).trans Ur
   ·exact (hR 16416 (by decide) g9 (Ue w8)).trans (Ue k8)
   ·exact (hR 8336 (by decide) gw (Ue w6)).trans (Ue k6)
   ·exact (hR 28736 (by decide) (gn 28736 + 1) Ur).trans Ur
   ·rw [h.2, take_succ_get hs]
    unfold rwB
    rw [List.foldl_append]
    rfl
  rintro r ro' gn' ⟨fr', hx'⟩
  rw [eT] at hx'
  have frA : Fru W47 12336 gB rI gI _ _ := Fru.trans (t := 12336) (u := gB) (ro := rI) (gn := gI) (by (repeat' first | assumption | exact Fru.refl _ _ _ _ _ | refine Fru.al ?_ _ _ _ (by decide) rfl | refine Fru.wr ?_ _ _ _ (by decide) (by omega))) (fr'.mono (W' := W47) (by decide)) (.inl (by omega))
  have j7 := (fr'.kp 12368 g8 (Ue w7) (by omega)).trans (Ue k7)
  have j11 := (fr'.kp 28736 (gn 28736 + 1) Ur (by omega)).trans (by simp only [↓za, ↓reduceIte, Nat.reduceEqDiff, zb, reduceCtorEq]; rfl)
  have j12 := (fr'.kp 32800 (gn 32800 + 1) Ur (by omega)).trans (by simp only [↓za, ↓reduceIte, Nat.reduceEqDiff, zb, reduceCtorEq]; rfl)
  have jB := (fr'.kp 12336 gB (Ue w10) (by omega)).trans (Ue r12336)
  have hgn' : ((gen O i : Nat) : Int) < (szO O : Nat) := Int.ofNat_lt.2 hgn
  have hcp : ∀ e : Nat, kCpy (some e) ro' (.ref 12336 gB [gen O i] 0 (szO O)) (.ref 32784 (gn 32784 + 1) [] 0 (szO O)) = some ⟨.sc (.int .i64 (szO O : Nat)), some ⟨12336, gB, [gen O i], 0, rws (fun z => i64 (rwB O m F (LI O.length l) i (fun _ => 0) (plI O) z)) (szO O)⟩, [], []⟩ := fun e => by
   have h1 := mat_cells jB hgn
   have h2 : ro'.cells 32784 (gn 32784 + 1) [] = some (rws (fun z => i64 (rwB O m F (LI O.length l) i (fun _ => 0) (plI O) z)) (szO O)) := by
    unfold Ro.cells
    rw [hx']
    rfl
   have h3 : ((rws (fun z => i64 (rwB O m F (LI O.length l) i (fun _ => 0) (plI O) z)) (szO O)).drop 0).take (szO O) = rws (fun z => i64 (rwB O m F (LI O.length l) i (fun _ => 0) (plI O) z)) (szO O) := by rw [List.drop_zero, zff]
   have := kCpy_ref (e := e) (off := 0) (n := szO O) (off' := 0) (n' := szO O) h1 h2 (by
    rw [h3, isL_rws]
    exact List.all_eq_true.2 fun x hx => by obtain ⟨y, -, rfl⟩ := List.mem_map.1 hx; rfl) (by rw [h3, zfe]) hn0 (by rw [zfe]; omega)
   rw [h3] at this
   exact this
  simp (maxSteps := 10000000) (disch := first | assumption | omega) only [go_sem, ↓reduceIte, Nat.reduceEqDiff, reduceCtorEq, Nat.reduceAdd, Nat.reduceMul, Nat.reduceLeDiff, zc, Int.reduceToNat, s2, s3, s4, s5, s6, s7, s8, s9, s30, s31, s32, r12336, hi', hi, tiD, j7, j11, j12, jB, hgn', mat_cells jB hgn, kCall_copy, hcp, mat_wrR jB hgn]
  refine FIN_of (by kernel_rfl) ?_
  simp (maxSteps := 10000000) (disch := first | assumption | omega) only [go_sem, ↓reduceIte, Nat.reduceEqDiff, reduceCtorEq, Nat.reduceAdd, Nat.reduceMul, Nat.reduceLeDiff, zc, Int.reduceToNat, s2, s3, s4, s5, s6, s7, s8, s9, s30, s31, s32, r12336, hi', hi]
  refine ⟨i64c (by omega), frA.wr _ _ _ (by decide) (.inr ⟨rfl, rfl⟩), ?_⟩
  have e : gsI O m F (LI O.length l) (plI O) (i + 1) = updR (gsI O m F (LI O.length l) (plI O) i) (gen O i) (rwB O m F (LI O.length l) i (fun _ => 0) (plI O)) := by
   unfold gsI
   rw [List.range_succ, List.foldl_append]
   rfl
  rw [e]
 ·rintro sl ro gn ⟨s2, s3, s4, s5, s6, s7, s8, s9, s30, s31, s32, fr, r12336⟩
  dsimp only at s2 s3 s4 s5 s6 s7 s8 s9 s30 s31 s32 r12336
  have hi' : ¬ ((O.length : Nat) : Int) < (O.length : Nat) := by omega
  dsimp only at fr
  have k1 := (fr.kp 4096 gc p1 (by omega)).trans q1
  have k4 := (fr.kp 8224 go p4 (by omega)).trans q4
  have k5 := (fr.kp 8320 gN p5 (by omega)).trans q5
  have k6 := (fr.kp 8336 gw p6 (by omega)).trans q6
  have k7 := (fr.kp 12368 g8 p7 (by omega)).trans q7
  have k9 := (fr.kp 4128 g4 p9 (by omega)).trans q9
  have w1 := Nat.le_trans p1 (fr.up 4096)
  have w4 := Nat.le_trans p4 (fr.up 8224)
  have w5 := Nat.le_trans p5 (fr.up 8320)
  have w6 := Nat.le_trans p6 (fr.up 8336)
  have w7 := Nat.le_trans p7 (fr.up 12368)
  have w9 := Nat.le_trans p9 (fr.up 4128)
  have w10 := Nat.le_trans p10 (fr.up 12336)
  have w11 := fr.up 53280
  have w12 := fr.up 49184
  have w13 := fr.up 53296
  simp (maxSteps := 10000000) (disch := first | assumption | omega) only [go_sem, ↓reduceIte, Nat.reduceEqDiff, reduceCtorEq, Nat.reduceAdd, Nat.reduceMul, Nat.reduceLeDiff, zc, Int.reduceToNat, s2, s3, s4, s5, s6, s7, s8, s9, s30, s31, s32, r12336, hi', tiD, k7, k5]
  refine CLL_pure _ cz PUt rfl rfl ?_
  simp (maxSteps := 10000000) (disch := first | assumption | omega) only [go_sem, ↓reduceIte, Nat.reduceEqDiff, reduceCtorEq, Nat.reduceAdd, Nat.reduceMul, Nat.reduceLeDiff, zc, Int.reduceToNat, s2, s3, s4, s5, s6, s7, s8, s9, s30, s31, s32, r12336, hi', tiC, tiD, impE_row, zfe, k1]
  have hBg : ∀ x, RgF m (gsI O m F (LI O.length l) (plI O) O.length x) := fun x => gsI_rg hm.1 _ x
  refine CLL_inS rfl (sEach2 (go := go) (u := gn 53280 + 1) (g := 83) (caps := [AV.ptr 8320 gN [] 0, AV.ptr 4096 gc [] 0, AV.ptr 53296 (gn 53296 + 1) [] 0, AV.ptr 49184 (gn 49184 + 1) [] 0, AV.ptr 8336 gw [] 0]) (X := fun j => matA (((plI O).take j).foldl (mtI O m F (gsI O m F (LI O.length l) (plI O) O.length)) fun _ _ => 0) (szO O) (szO O)) hW sm hc (Ue k4) (by simp only [↓za, ↓reduceIte, Nat.reduceEqDiff, zb, reduceCtorEq]; rfl) Ur rfl (fun j s ro1 gn1 hs hp hR hx => ?_)) ?_
  ·refine (inL2 (A := ((plI O).take j).foldl (mtI O m F (gsI O m F (LI O.length l) (plI O) O.length)) fun _ _ => 0) (B := gsI O m F (LI O.length l) (plI O) O.length) (g3 := gn 53296 + 1) (g4 := gn 49184 + 1) (gB := gB) hW sm hc hp (mtI_rg hm.1 fun _ _ => ⟨Int.le_refl _, by show (0 : Int) < m; omega⟩) hBg ?_ ?_ ?_ ?_ ?_ hx ?_).mono fun _ _ _ h => ⟨h.1, ?_⟩
   ·exact (hR 8320 (by decide) gN (Ue w5)).trans (Ue k5)
   ·exact (hR 4096 (by decide) gc (Ue w1)).trans (Ue k1)
   ·exact (hR 53296 (by decide) (gn 53296 + 1) Ur).trans Ur
   ·exact (hR 49184 (by decide) (gn 49184 + 1) Ur).trans Ur
   ·exact (hR 8336 (by decide) gw (Ue w6)).trans (Ue k6)
   ·exact (hR 12336 (by decide) gB (Ue w10)).trans (Ue r12336)
   ·rw [h.2, take_succ_get hs, List.foldl_append]
    rfl
  rintro r ro' gn' ⟨fr', hx'⟩
  rw [eT] at hx'
  have frA : Fru W47 12336 gB rI gI _ _ := Fru.trans (t := 12336) (u := gB) (ro := rI) (gn := gI) (by (repeat' first | assumption | exact Fru.refl _ _ _ _ _ | refine Fru.al ?_ _ _ _ (by decide) rfl | refine Fru.wr ?_ _ _ _ (by decide) (by omega))) (fr'.mono (W' := W47) (by decide)) (.inl (by omega))
  have j7 := (fr'.kp 12368 g8 (Ue w7) (by omega)).trans (Ue k7)
  have j9 := (fr'.kp 4128 g4 (Ue w9) (by omega)).trans (Ue k9)
  have j11 := (fr'.kp 53296 (gn 53296 + 1) Ur (by omega)).trans (by simp only [↓za, ↓reduceIte, Nat.reduceEqDiff, zb, reduceCtorEq]; rfl)
  have jB := (fr'.kp 12336 gB (Ue w10) (by omega)).trans (Ue r12336)
  have v1 := fr'.up 53280
  simp only [↓za, ↓reduceIte, Nat.reduceEqDiff, zb, reduceCtorEq] at v1
  have v2 := frI.up 53280
  have v3 := frI.up 12368
  have v4 := frI.up 4128
  simp (maxSteps := 10000000) (disch := first | assumption | omega) only [go_sem, ↓reduceIte, Nat.reduceEqDiff, reduceCtorEq, Nat.reduceAdd, Nat.reduceMul, Nat.reduceLeDiff, zc, Int.reduceToNat, s2, s3, s4, s5, s6, s7, s8, s9, s30, s31, s32, r12336, hi', tiD, j7, j9, j11, jB, hx']
  rw [← hgB]
  refine RETS_D (Ue s4) (upr_same _ _ _ _) rfl ⟨((frI.trans frA (.inr ⟨rfl, rfl⟩)).wr _ _ _ (by decide) (by omega)).wr _ _ _ (by decide) (by omega), gn 53280 + 1, rfl, by omega, v1, ?_⟩
  refine Yax ?_
  exact hx'
end
end Go.Proofs.YtmchdjiigfiabaaGreat
/- The program's test of leading numbers is right. -/
namespace Go.Proofs.YtmchdjiigfiabaaGreat
open Go.RowKit
set_option maxRecDepth 1000000
section
variable {O : List Int} {m : Nat} {F : Nat → Nat → Nat → Int} {M : Int} {L : Nat → Nat → Int}
theorem plI_tgt {j : Nat} {s : Stp} (hs : (plI O)[j]? = some s) : j < szO O - 1 ∧ s.1 = j + 1 := by
 have hj := (List.getElem?_eq_some_iff.1 hs).1
 rw [plI_len] at hj
 have := plI_get (O := O) hj
 rw [hs] at this
 exact ⟨hj, by rw [Option.some.inj this]⟩
theorem rwB_at {g : Nat} {R : Nat → Int} {j : Nat} {s : Stp} (hs : (plI O)[j]? = some s) : ∀ k, j + 1 ≤ k → k ≤ szO O - 1 → rwB O M F L g R ((plI O).take k) s.1 = rwV O M F L g (rwB O M F L g R ((plI O).take j)) s
 | k + 1, h1, h2 => by
  obtain ⟨t, ht⟩ : ∃ t, (plI O)[k]? = some t := ⟨_, List.getElem?_eq_getElem (by rw [plI_len]; omega)⟩
  obtain ⟨hj, e1⟩ := plI_tgt hs
  obtain ⟨_, e2⟩ := plI_tgt ht
  rw [take_succ_get ht]
  unfold rwB
  rw [List.foldl_append]
  show (if s.1 = t.1 then _ else _ : Int) = _
  rcases Nat.lt_or_eq_of_le h1 with h3 | h3
  ·rw [if_neg (by omega)]
   exact rwB_at hs k (by omega) (by omega)
  ·have : j = k := by omega
   subst this
   rw [hs] at ht
   obtain rfl := Option.some.inj ht
   rw [if_pos rfl]
theorem rwB_0 {g : Nat} {R : Nat → Int} : ∀ k, k ≤ szO O - 1 → rwB O M F L g R ((plI O).take k) 0 = R 0
 | 0, _ => rfl
 | k + 1, h => by
  obtain ⟨t, ht⟩ : ∃ t, (plI O)[k]? = some t := ⟨_, List.getElem?_eq_getElem (by rw [plI_len]; omega)⟩
  obtain ⟨_, e2⟩ := plI_tgt ht
  have ih := rwB_0 (g := g) (R := R) k (by omega)
  rw [take_succ_get ht]
  unfold rwB at ih ⊢
  rw [List.foldl_append]
  show (if 0 = t.1 then _ else _ : Int) = _
  rw [if_neg (by omega)]
  exact ih
theorem mtI_at {B A : Nat → Nat → Int} {j : Nat} {s : Stp} (hs : (plI O)[j]? = some s) (z : Nat) : ∀ k, j + 1 ≤ k → k ≤ szO O - 1 → ((plI O).take k).foldl (mtI O M F B) A s.1 z = mtV O M F (((plI O).take j).foldl (mtI O M F B) A) B s z
 | k + 1, h1, h2 => by
  obtain ⟨t, ht⟩ : ∃ t, (plI O)[k]? = some t := ⟨_, List.getElem?_eq_getElem (by rw [plI_len]; omega)⟩
  obtain ⟨hj, e1⟩ := plI_tgt hs
  obtain ⟨_, e2⟩ := plI_tgt ht
  rw [take_succ_get ht, List.foldl_append]
  show (if s.1 = t.1 then _ else _ : Nat → Int) z = _
  rcases Nat.lt_or_eq_of_le h1 with h3 | h3
  ·rw [if_neg (by omega)]
   exact mtI_at hs z k (by omega) (by omega)
  ·have : j = k := by omega
   subst this
   rw [hs] at ht
   obtain rfl := Option.some.inj ht
   rw [if_pos rfl]
theorem mtI_0 {B A : Nat → Nat → Int} (z : Nat) : ∀ k, k ≤ szO O - 1 → ((plI O).take k).foldl (mtI O M F B) A 0 z = A 0 z
 | 0, _ => rfl
 | k + 1, h => by
  obtain ⟨t, ht⟩ : ∃ t, (plI O)[k]? = some t := ⟨_, List.getElem?_eq_getElem (by rw [plI_len]; omega)⟩
  obtain ⟨_, e2⟩ := plI_tgt ht
  have ih := mtI_0 (B := B) (A := A) z k (by omega)
  rw [take_succ_get ht, List.foldl_append]
  show (if 0 = t.1 then _ else _ : Nat → Int) z = _
  rw [if_neg (by omega)]
  exact ih
theorem gsI_at (sm : SmO O) {P : List Stp} {i : Nat} (hi : i < O.length) (h1 : atI O i ≠ 1) : ∀ k, i < k → k ≤ O.length → gsI O M F L P k (gen O i) = rwB O M F L i (fun _ => 0) P
 | k + 1, h2, h3 => by
  unfold gsI
  rw [List.range_succ, List.foldl_append]
  show (if gen O i = gen O k then _ else _ : Nat → Int) = _
  rcases Nat.lt_or_eq_of_le h2 with h4 | h4
  ·rw [if_neg fun e => ?_]
   ·exact gsI_at sm hi h1 k (by omega) (by omega)
   ·by_cases hk : atI O k = 1
    ·have : gen O k = 0 := by unfold gen genI; rw [if_pos hk]; rfl
     rw [this] at e
     exact (sm.gl i hi h1).2 e
    ·have e1 := (sm.gl i hi h1).1
     have e2 := (sm.gl k (by omega) hk).1
     rw [e] at e1
     omega
  ·have : i = k := by omega
   subst this
   rw [if_pos rfl]
theorem plI_gen (sm : SmO O) (hG : GrpP O) (hn : (szO O : Int) = pfx O O.length) {i : Nat} (hi : i < O.length) (h1 : atI O i ≠ 1) : (plI O)[gen O i - 1]? = some (gen O i, 0, i) := by
 obtain ⟨e1, e2⟩ := sm.gl i hi h1
 have hg := sm.gn hi
 have h := plI_get (O := O) (j := gen O i - 1) (by omega)
 rw [show gen O i - 1 + 1 = gen O i by omega, e1, Nat.sub_self] at h
 exact h
theorem bdI_lead (hW : CoP O M F (szO O)) (sm : SmO O) (hL : ∀ i k, i < O.length → k < O.length → 0 ≤ L i k ∧ L i k < M) {i k : Nat} (hi : i < O.length) (hk : k < O.length) (h1 : atI O i ≠ 1) (h2 : atI O k ≠ 1) : bdI O M F L (plI O) (gen O i) (gen O k) = L i k := by
 have hG := hW.s.g sm.l6
 have gi := sm.gn hi
 have gk := sm.gn hk
 have s1 := plI_gen sm hG hW.s.e hi h1
 have s2 := plI_gen sm hG hW.s.e hk h2
 have hn0 := hW.s.pos
 obtain ⟨j1, t1⟩ := plI_tgt s1
 obtain ⟨j2, t2⟩ := plI_tgt s2
 have eT : (plI O).take (szO O - 1) = plI O := by rw [← plI_len, List.take_length]
 obtain ⟨l1, l2⟩ := hL i k hi hk
 unfold bdI
 have a1 := mtI_at (M := M) (F := F) (B := gsI O M F L (plI O) O.length) (A := fun _ _ => 0) s1 (gen O k) (szO O - 1) (by omega) (Nat.le_refl _)
 rw [eT] at a1
 refine a1.trans ?_
 unfold mtV
 dsimp only
 rw [mtI_0 _ _ (by omega), gsI_at sm hi h1 O.length hi (Nat.le_refl _), (hW.nm _ gk _ gi).1, (hW.nm _ gk _ gi).2.1, (hW.nm _ gi _ gk).1]
 have a2 := rwB_at (M := M) (F := F) (L := L) (g := i) (R := fun _ => 0) s2 (szO O - 1) (by omega) (Nat.le_refl _)
 rw [eT] at a2
 dsimp only at a2
 rw [a2]
 unfold rwV
 dsimp only
 rw [rwB_0 _ (by omega), (hW.nm _ gi _ gk).1, (hW.nm _ gk _ gi).1, (hW.nm _ gi _ gk).2.1]
 simp only [Int.add_zero, Int.sub_zero, Int.zero_add, Int.sub_self]
 rw [Int.emod_emod, Int.emod_eq_of_lt l1 l2]
def FnO (O : List Int) (l : List Nat) : Prop := ∀ j, j < O.length * O.length → l.getD j 0 = 0 ∨ (gen O (j / O.length) ≠ 0 ∧ gen O (j % O.length) ≠ 0)
theorem gen_ne {i : Nat} (h : gen O i ≠ 0) : atI O i ≠ 1 := fun e => h (by unfold gen genI; rw [if_pos e]; rfl)
theorem PL_I {l : List Nat} (hW : CoP O m F (szO O)) (sm : SmO O) (hl : l.length = O.length * O.length) (hlm : ∀ x, x ∈ l → x < m) : PL O m F l ↔ FnO O l ∧ BrP O m F (szO O) (bdI O m F (LI O.length l) (plI O)) (szO O) (szO O) := by
 have hm := hW.s.m
 have hn0 := hW.s.pos
 constructor
 ·rintro ⟨G, hG⟩
  have e : ∀ x, x < szO O → ∀ z, z < szO O → bdI O m F (LI O.length l) (plI O) x z = G x z := fun x hx z hz => hG.bI sm sm.pI hx hz
  refine ⟨fun j hj => ?_, hG.b.congr sm rfl e⟩
  have hr : 0 < O.length := by
   rcases Nat.eq_zero_or_pos O.length with h | h
   ·rw [h] at hj; omega
   ·exact h
  have h1 : j / O.length < O.length := Nat.div_lt_of_lt_mul hj
  have h2 : j % O.length < O.length := Nat.mod_lt _ hr
  have h3 : j / O.length * O.length + j % O.length = j := Nat.div_add_mod' j O.length
  have hG2 := hG.l _ _ h1 h2
  unfold LI at hG2
  rw [h3] at hG2
  by_cases a1 : gen O (j / O.length) = 0
  ·left
   rw [hG.z (sm.gn h1) (sm.gn h2) (.inl a1)] at hG2
   omega
  ·by_cases a2 : gen O (j % O.length) = 0
   ·left
    rw [hG.z (sm.gn h1) (sm.gn h2) (.inr a2)] at hG2
    omega
   ·exact .inr ⟨a1, a2⟩
 ·rintro ⟨h1, h2⟩
  refine ⟨_, ⟨h2, fun i k hi hk => ?_⟩⟩
  have hr : 0 < O.length := by omega
  have hj : i * O.length + k < O.length * O.length := by
   have := Nat.mul_le_mul_right O.length (show i + 1 ≤ O.length from hi)
   rw [Nat.succ_mul] at this
   omega
  have e1 : (i * O.length + k) / O.length = i := by rw [Nat.mul_comm, Nat.mul_add_div hr, Nat.div_eq_of_lt hk, Nat.add_zero]
  have e2 : (i * O.length + k) % O.length = k := by rw [Nat.mul_comm, Nat.mul_add_mod, Nat.mod_eq_of_lt hk]
  have h3 := h1 _ hj
  rw [e1, e2] at h3
  by_cases a : gen O i ≠ 0 ∧ gen O k ≠ 0
  ·exact bdI_lead hW sm (fun i k hi hk => by
    have := getD_lt (j := i * O.length + k) hlm (by omega)
    show (0 : Int) ≤ (l.getD (i * O.length + k) 0 : Nat) ∧ ((l.getD (i * O.length + k) 0 : Nat) : Int) < m
    omega) hi hk (gen_ne a.1) (gen_ne a.2)
  ·have h4 := h3.resolve_right a
   have h5 : LI O.length l i k = 0 := by unfold LI; rw [h4]; rfl
   rw [h5]
   exact h2.s.z (sm.gn hi) (sm.gn hk) (by omega)
theorem dgs_rws (m c : Nat) : ∀ d, dgs m d c = rws (fun i => c / m ^ (d - 1 - i) % m) d
 | 0 => rfl
 | d + 1 => by
  show c / m ^ d % m :: dgs m d c = _
  rw [dgs_rws m c d]
  unfold rws
  rw [List.range_succ_eq_map, List.map_cons, List.map_map]
  refine congr (congrArg List.cons ?_) (List.map_congr_left fun i hi => ?_)
  ·simp
  ·have := List.mem_range.1 hi
   show c / m ^ (d - 1 - i) % m = c / m ^ (d + 1 - 1 - (i + 1)) % m
   rw [show d + 1 - 1 - (i + 1) = d - 1 - i by omega]
def okD1 (O : List Int) (v i : Nat) : Bool := v == 0 || (gen O (i / O.length) != 0 && gen O (i % O.length) != 0)
def lgF (O : List Int) (m k : Nat) (pre : List Nat) : List Int × Nat × Bool := pre.foldl (fun s i => (s.1.set i ((s.2.1 % m : Nat) : Int), s.2.1 / m, s.2.2 && okD1 O (s.2.1 % m) i)) (List.replicate (O.length * O.length) 0, k, true)
theorem lgF_app (k : Nat) (pre : List Nat) (i : Nat) : lgF O m k (pre ++ [i]) = ((lgF O m k pre).1.set i (((lgF O m k pre).2.1 % m : Nat) : Int), (lgF O m k pre).2.1 / m, (lgF O m k pre).2.2 && okD1 O ((lgF O m k pre).2.1 % m) i) := by
 unfold lgF
 rw [List.foldl_append]
 rfl
theorem lgF_len (k : Nat) : ∀ pre : List Nat, (lgF O m k pre).1.length = O.length * O.length := by
 intro pre
 rcases List.eq_nil_or_concat pre with e | ⟨p, i, e⟩
 ·subst e; simp [lgF]
 ·subst e
  rw [List.concat_eq_append, lgF_app, List.length_set]
  exact lgF_len k p
termination_by pre => pre.length
decreasing_by rw [e]; simp
theorem lgF_le (k : Nat) : ∀ pre : List Nat, (lgF O m k pre).2.1 ≤ k := by
 intro pre
 rcases List.eq_nil_or_concat pre with e | ⟨p, i, e⟩
 ·subst e; exact Nat.le_refl _
 ·subst e
  rw [List.concat_eq_append, lgF_app]
  exact Nat.le_trans (Nat.div_le_self _ _) (lgF_le k p)
termination_by pre => pre.length
decreasing_by rw [e]; simp
theorem lgF_dwn (k : Nat) : ∀ w, w ≤ O.length * O.length → (lgF O m k (dwn (O.length * O.length) w)).1 = rws (fun j => if O.length * O.length ≤ j + w then ((k / m ^ (O.length * O.length - 1 - j) % m : Nat) : Int) else 0) (O.length * O.length) ∧
  (lgF O m k (dwn (O.length * O.length) w)).2.1 = k / m ^ w ∧ ((lgF O m k (dwn (O.length * O.length) w)).2.2 = true ↔ ∀ j, j < O.length * O.length → O.length * O.length ≤ j + w → okD1 O (k / m ^ (O.length * O.length - 1 - j) % m) j = true)
 | 0, _ => by
  refine ⟨?_, by rw [Nat.pow_zero, Nat.div_one]; rfl, ⟨fun _ j h1 h2 => by omega, fun _ => rfl⟩⟩
  show List.replicate (O.length * O.length) (0 : Int) = _
  rw [rws_repl]
  exact rws_congr fun j hj => by rw [if_neg (by omega)]
 | w + 1, hw => by
  obtain ⟨h1, h2, h3⟩ := lgF_dwn k w (by omega)
  rw [dwn_succ, lgF_app]
  refine ⟨?_, ?_, ?_⟩
  ·show (lgF O m k _).1.set _ _ = _
   rw [h1, h2, rws_set]
   refine rws_congr fun j hj => ?_
   by_cases e : j = O.length * O.length - 1 - w
   ·rw [if_pos e, if_pos (by omega), e, show O.length * O.length - 1 - (O.length * O.length - 1 - w) = w by omega]
   ·rw [if_neg e]
    have : (O.length * O.length ≤ j + w) ↔ (O.length * O.length ≤ j + (w + 1)) := by omega
    simp only [this]
  ·show (lgF O m k _).2.1 / m = _
   rw [h2, Nat.div_div_eq_div_mul, Nat.pow_succ]
  ·show ((lgF O m k _).2.2 && okD1 O ((lgF O m k _).2.1 % m) _) = true ↔ _
   rw [Bool.and_eq_true, h3, h2]
   constructor
   ·rintro ⟨q1, q2⟩ j hj h4
    by_cases e : j = O.length * O.length - 1 - w
    ·rw [e, show O.length * O.length - 1 - (O.length * O.length - 1 - w) = w by omega]
     exact q2
    ·exact q1 j hj (by omega)
   ·intro q
    refine ⟨fun j hj h4 => q j hj (by omega), ?_⟩
    have := q (O.length * O.length - 1 - w) (by omega) (by omega)
    rw [show O.length * O.length - 1 - (O.length * O.length - 1 - w) = w by omega] at this
    exact this
theorem zl_dgs (m k d : Nat) : zl (dgs m d k) = rws (fun j => ((k / m ^ (d - 1 - j) % m : Nat) : Int)) d := by
 unfold zl
 rw [dgs_rws, rws_map]
theorem FnO_iff {k : Nat} : FnO O (dgs m (O.length * O.length) k) ↔ ∀ j, j < O.length * O.length → okD1 O (k / m ^ (O.length * O.length - 1 - j) % m) j = true := by
 unfold FnO okD1
 refine forall_congr' fun j => forall_congr' fun hj => ?_
 have e : (dgs m (O.length * O.length) k).getD j 0 = k / m ^ (O.length * O.length - 1 - j) % m := by
  rw [dgs_rws, List.getD_eq_getElem?_getD, rws_get _ _ _ hj]
  rfl
 rw [e]
 simp
end
end Go.Proofs.YtmchdjiigfiabaaGreat
/- All braidings are visited (program), in the caller's memory. -/
namespace Go.Proofs.YtmchdjiigfiabaaGreat
open Go.RowKit
set_option maxRecDepth 1000000
structure Kx (t u : Nat) (ro : Ro) (gn : Nat → Nat) (ro' : Ro) (gn' : Nat → Nat) : Prop where
 up : ∀ x, gn x ≤ gn' x
 kp : ∀ x y, y ≤ gn x → ¬ (x = t ∧ y = u) → ro' x y = ro x y
section
variable {t u : Nat} {ro ro' ro'' : Ro} {gn gn' gn'' : Nat → Nat}
theorem Kx.refl (t u : Nat) (ro : Ro) (gn : Nat → Nat) : Kx t u ro gn ro gn := ⟨fun _ => Nat.le_refl _, fun _ _ _ _ => rfl⟩
theorem Kx.al (h : Kx t u ro gn ro' gn') (s g : Nat) (v : AV) (hu : g = gn' s + 1) : Kx t u ro gn (upr ro' s g v) (upg gn' s g) := by
 subst hu
 refine ⟨fun x => ?_, fun x y h1 h2 => ?_⟩
 ·have := h.up x
  rw [zda]
  split
  ·rename_i e; subst e; omega
  ·exact this
 ·rw [zdb, if_neg]
  ·exact h.kp x y h1 h2
  ·rintro ⟨rfl, rfl⟩
   have := h.up x
   omega
theorem Kx.wr (h : Kx t u ro gn ro' gn') (s g : Nat) (v : AV) (hs : gn s < g ∨ (s = t ∧ g = u)) : Kx t u ro gn (upr ro' s g v) gn' :=
 ⟨h.up, fun x y h1 h2 => by
  rw [zdb, if_neg]
  ·exact h.kp x y h1 h2
  ·rintro ⟨rfl, rfl⟩
   rcases hs with hs | hs
   ·omega
   ·exact h2 hs⟩
theorem Kx.trans {t' u' : Nat} (h : Kx t u ro gn ro' gn') (h' : Kx t' u' ro' gn' ro'' gn'') (ht : gn t' < u' ∨ (t' = t ∧ u' = u)) : Kx t u ro gn ro'' gn'' :=
 ⟨fun x => Nat.le_trans (h.up x) (h'.up x), fun x y h1 h2 => (h'.kp x y (Nat.le_trans h1 (h.up x)) (by
  rintro ⟨rfl, rfl⟩
  rcases ht with ht | ht
  ·omega
  ·exact h2 ht)).trans (h.kp x y h1 h2)⟩
theorem Fru.kx {W : List Nat} (h : Fru W t u ro gn ro' gn') : Kx t u ro gn ro' gn' := ⟨h.up, h.kp⟩
end
section
variable {O : List Int} {m : Nat} {F : Nat → Nat → Nat → Int} {c : AV}
set_option maxHeartbeats 4000000 in
theorem sEBn {rb : Ro} {gb : Nat → Nat} {gV sv gv : Nat} {n : Nat} (hW : CoP O m F n) (hO6 : O.length ≤ 6) (hc : isLLL c (cubeL F n)) (hy : Mny O m) :
  InS Tryz.prog 19 [.agg [immL O, i64 (m : Int), c], .fn gV [.ptr sv gv [] 0]] rb gb (fun r ro' gn' => r = bo false ∧ Kx sv (gb sv + 1) rb gb ro' gn') := by
 have hO := hW.s.g hO6
 have ho := isL_imm O
 have hm := hW.s.m
 have co := cOwnG hO
 have hll : ((O.length : Nat) : Int) * O.length = ((O.length * O.length : Nat) : Int) := (Int.natCast_mul _ _).symm
 refine in_ofS (fn := Tryz.f19) (code := bodyOf Tryz.f19) Tryz.func19 rfl (by kernel_rfl) ?_
 intro sl hs
 have s0 : sl 0 = .agg [immL O, i64 (m : Int), c] := hs 0
 have s1 : sl 1 = .fn gV [.ptr sv gv [] 0] := hs 1
 dsimp only [Tryz.f19, bodyOf, Option.getD]
 refine Yby ?_
 refine CLL_pure _ co PUt rfl rfl ?_
 simp (maxSteps := 10000000) (disch := first | assumption | omega) only [go_sem, ↓reduceIte, Nat.reduceEqDiff, reduceCtorEq, Nat.reduceAdd, Nat.reduceMul, Nat.reduceLeDiff, zc, Int.reduceToNat, s0, s1, impE_row, zfe, tiC]
 by_cases h3 : (3 : Int) < O.length
 ·simp (maxSteps := 10000000) (disch := first | assumption | omega) only [go_sem, ↓reduceIte, Nat.reduceEqDiff, reduceCtorEq, Nat.reduceAdd, Nat.reduceMul, Nat.reduceLeDiff, zc, Int.reduceToNat, s0, s1, eq_true h3]
  exact ⟨RETS_1 (bo false) Ur ⟨rfl, by (repeat' first | assumption | exact Kx.refl _ _ _ _ | refine Kx.al ?_ _ _ _ rfl | refine Kx.wr ?_ _ _ _ (by omega))⟩, fun h => absurd trivial h⟩
 ·have hr3 : O.length ≤ 3 := by omega
  have hrr : O.length * O.length ≤ 9 := Nat.mul_le_mul hr3 hr3
  have hp : 20000 < m ^ (O.length * O.length) := by unfold Mny at hy; omega
  simp (maxSteps := 10000000) (disch := first | assumption | omega) only [go_sem, ↓reduceIte, Nat.reduceEqDiff, reduceCtorEq, Nat.reduceAdd, Nat.reduceMul, Nat.reduceLeDiff, zc, Int.reduceToNat, s0, s1, eq_false h3, hll]
  obtain ⟨gc, hgc⟩ : ∃ g, g = gb 4096 + 1 := ⟨_, rfl⟩
  obtain ⟨go, hgo⟩ : ∃ g, g = gb 8224 + 1 := ⟨_, rfl⟩
  obtain ⟨g5, hg5⟩ : ∃ g, g = gb 8240 + 1 := ⟨_, rfl⟩
  obtain ⟨g6, hg6⟩ : ∃ g, g = gb 12320 + 1 := ⟨_, rfl⟩
  refine WK_abs (fun sl ro gn => (sl 1 = .fn gV [.ptr sv gv [] 0] ∧ sl 2 = .ptr 4096 gc [] 0 ∧ sl 5 = .ptr 8240 g5 [] 0 ∧ sl 6 = .ptr 12320 g6 [] 0 ∧ sl 7 = i64 1 ∧ sl 22 = i64 ((O.length * O.length : Nat) : Int) ∧ sl 23 = i64 0) ∧ (ro 4096 gc = some (.bx [immL O, i64 (m : Int), c]) ∧ ro 8240 g5 = some (.bx [.ref 8224 go [] 0 O.length]) ∧ ro 8224 go = some (.row (rws (fun i => i64 (genI O i)) O.length)) ∧ ro 12320 g6 = some (.bx [i64 (O.length : Nat)])) ∧
   (gc ≤ gn 4096 ∧ g5 ≤ gn 8240 ∧ go ≤ gn 8224 ∧ g6 ≤ gn 12320) ∧ ∀ t u, Kx t u rb gb ro gn) ?_ ?_
  ·simp only [↓za, ↓reduceIte, Nat.reduceEqDiff, zb, reduceCtorEq, s1, ← hgc, ← hgo, ← hg5, ← hg6]
   refine ⟨⟨Nat.le_refl _, Nat.le_refl _, Nat.le_refl _, Nat.le_refl _⟩, fun t u => ?_⟩
   subst hgc hgo hg5 hg6
   exact (by (repeat' first | assumption | exact Kx.refl _ _ _ _ | refine Kx.al ?_ _ _ _ rfl | refine Kx.wr ?_ _ _ _ (by omega)))
  rintro sl rI gI ⟨⟨s1, s2, s5, s6, s7, s22, s23⟩, ⟨q1, q2, q3, q4⟩, ⟨p1, p2, p3, p4⟩, frI⟩
  refine WK_for (fun w st => st.sl 1 = .fn gV [.ptr sv gv [] 0] ∧ st.sl 2 = .ptr 4096 gc [] 0 ∧ st.sl 22 = i64 ((O.length * O.length : Nat) : Int) ∧ st.sl 23 = i64 (w : Int) ∧ st.sl 7 = i64 ((m ^ w : Nat) : Int) ∧ (m ^ w ≤ 20000) ∧ (st.ro = rI) ∧ (st.gn = gI)) ((O.length * O.length)) ?_ ?_ ?_
  ·refine Yan ?_
   refine ⟨s2, s22, s23, ?_, by rw [Nat.pow_zero]; omega⟩
   rw [Nat.pow_zero]
   exact s7
  ·rintro w sl ro gn hw ⟨s1, s2, s22, s23, s7, q, er, eg⟩
   dsimp only at s1 s2 s22 s23 s7
   have hw' : (w : Int) < ((O.length * O.length) : Nat) := by omega
   dsimp only at er eg
   subst er eg
   have e1 : ((m ^ w : Nat) : Int) * (m : Int) = ((m ^ (w + 1) : Nat) : Int) := by rw [Nat.pow_succ, Int.natCast_mul]
   have e2 : m ^ w * m ≤ 20000 * 1000 := Nat.mul_le_mul q (by omega)
   have e2 : m ^ (w + 1) ≤ 20000 * 1000 := by rw [Nat.pow_succ]; exact e2
   have e3 : wrF ((m ^ (w + 1) : Nat) : Int) = ((m ^ (w + 1) : Nat) : Int) := zfu (by omega) (by omega)
   by_cases hb : (20000 : Int) < ((m ^ (w + 1) : Nat) : Int)
   ·simp (maxSteps := 10000000) (disch := first | assumption | omega) only [go_sem, ↓reduceIte, Nat.reduceEqDiff, reduceCtorEq, Nat.reduceAdd, Nat.reduceMul, Nat.reduceLeDiff, zc, Int.reduceToNat, s1, s2, s22, s23, s7, hw', hw, tiC, q1, e1, e3, eq_true hb]
    exact RETS_1 (bo false) Ur ⟨rfl, frI _ _⟩
   ·simp (maxSteps := 10000000) (disch := first | assumption | omega) only [go_sem, ↓reduceIte, Nat.reduceEqDiff, reduceCtorEq, Nat.reduceAdd, Nat.reduceMul, Nat.reduceLeDiff, zc, Int.reduceToNat, s1, s2, s22, s23, s7, hw', hw, tiC, q1, e1, e3, eq_false hb]
    exact ⟨i64c (by omega), by omega⟩
  ·rintro sl ro gn ⟨s1, s2, s22, s23, s7, q, er, eg⟩
   dsimp only at s1 s2 s22 s23 s7
   have hw' : ¬ (((O.length * O.length) : Nat) : Int) < ((O.length * O.length) : Nat) := by omega
   exact absurd hp (by omega)
end
end Go.Proofs.YtmchdjiigfiabaaGreat
