/- Texts joined: QP QQ QR. -/
import Derived.Test.YthpmddoakefbmaaGreatOg
import Derived.Test.YthpmddoakefbmaaGreatOh
set_option linter.all false
/- Cocycles and braidings by functions (program). -/
namespace Go.Proofs.YthpmddoakefbmaaGreat
open Go.RowKit
set_option maxRecDepth 1000000
theorem cClo {xs : List Int} (hx : xs.length ≤ maxN) : CallOK Tryz.prog 114 [immL xs] (rowL xs) := by
 have hx' : 0 + xs.length ≤ 4294967296 := by have : xs.length ≤ 4294967296 := hx; omega
 have hall : (xs.map i64).all zez = true := List.all_eq_true.2 fun x hx => by obtain ⟨y, -, rfl⟩ := List.mem_map.1 hx; rfl
 refine call_of (fn := Tryz.f114) (code := bodyOf Tryz.f114) Tryz.func114 rfl (by kernel_rfl) (noRef_rowL _) ?_
 intro sl hs
 have s0 : sl 0 = immL xs := hs 0
 dsimp only [Tryz.f114, bodyOf, Option.getD]
 simp (maxSteps := 10000000) (disch := first | assumption | omega) only [go_sem, ↓reduceIte, Nat.reduceEqDiff, reduceCtorEq, Nat.reduceAdd, Nat.reduceMul, Nat.reduceLeDiff, zc, Int.reduceToNat, s0, hall, List.length_map, hx']
 simp only [zr, zb, retR, resL, outT, outL, zes, zez, oneV, zcp, zed, zfi, Ro.dl, St.ev, zhk, ↓za, ↓reduceIte, Nat.reduceEqDiff, Nat.reduceAdd, Nat.reduceLeDiff]
abbrev cubeX (F : Nat → Nat → Nat → Int) (k n : Nat) : AV := .row (rws (fun i => .row (rws (fun j => .row (rws (fun z => i64 (F i j z)) n)) n)) k)
abbrev immCX (F : Nat → Nat → Nat → Int) (k n : Nat) : AV := .imm (rws (fun i => .imm (rws (fun j => .imm (rws (fun z => i64 (F i j z)) n)) n)) k)
theorem isLLL_immCX (F : Nat → Nat → Nat → Int) (k n : Nat) : isLLL (immCX F k n) (rws (fun i => rws (fun j => rws (fun z => F i j z) n) n) k) := by
 refine .inl ⟨_, rfl, isLLs_rws (fun i => .inl ⟨_, rfl, isLs_rws (fun j => .inl ?_) _⟩) _⟩
 simp only [rws, List.map_map]; rfl
theorem exq_cubeX {N : Nat} {ro : Ro} {s g k n : Nat} {F : Nat → Nat → Nat → Int} (h : ro s g = some (cubeX F k n)) (hn : 4 ≤ N) : exq N ro (.ref s g [] 0 k) (immCX F k n) := by
 refine ⟨fun j hj => ?_, fun hp => by simp [pureA] at hp⟩
 obtain ⟨j, rfl⟩ : ∃ i, j = i + 4 := ⟨j - 4, by omega⟩
 show (match ro.cells s g [] with | some cs => AV.imm (((cs.drop 0).take k).map (ex ro (j + 3))) | none => .dead) = _
 rw [zef, h]
 simp only [zeh, List.drop_zero, zff, rws_map, immCX]
 refine congrArg AV.imm (rws_congr fun x _ => ?_)
 show AV.imm ((rws (fun j => AV.row (rws (fun k => i64 (F x j k)) n)) n).map (ex ro (j + 2))) = _
 rw [rws_map]
 refine congrArg AV.imm (rws_congr fun y _ => ?_)
 show AV.imm ((rws (fun k => i64 (F x y k)) n).map (ex ro (j + 1))) = _
 rw [rws_map]
 rfl
def pg2 (K : Nat → Nat → Int) (y z : Nat) (i j : Nat) : Int := if i < y ∨ (i = y ∧ j < z) then K i j else 0
theorem pg2_0 {K : Nat → Nat → Int} {n : Nat} : matA (fun _ _ => 0) n n = matA (pg2 K 0 0) n n := mat_congr fun i j _ _ => by simp [pg2]
theorem pg2_z {K : Nat → Nat → Int} {y n : Nat} : matA (pg2 K y n) n n = matA (pg2 K (y + 1) 0) n n := mat_congr fun i j _ hj => by
 have e : (i < y ∨ (i = y ∧ j < n)) ↔ (i < y + 1 ∨ (i = y + 1 ∧ j < 0)) := by omega
 simp only [pg2, e]
theorem pg2_n {K : Nat → Nat → Int} {n : Nat} : matA (pg2 K n 0) n n = matA K n n := mat_congr fun i j hi _ => by simp [pg2, hi]
theorem pg2_step {K : Nat → Nat → Int} {y z n : Nat} : matA (upd2 (pg2 K y z) y z (K y z)) n n = matA (pg2 K y (z + 1)) n n := mat_congr fun i j _ _ => by
 by_cases h : i = y ∧ j = z
 ·obtain ⟨rfl, rfl⟩ := h
  simp [upd2, pg2]
 ·have e : (i < y ∨ (i = y ∧ j < z)) ↔ (i < y ∨ (i = y ∧ j < z + 1)) := by omega
  simp only [upd2, if_neg h, pg2, e]
theorem nrL_cubX (F : Nat → Nat → Nat → Int) (k n : Nat) : noRefL (rws (fun i => .row (rws (fun j => .row (rws (fun z => i64 (F i j z)) n)) n)) k) = true := noRefL_rws _ _ fun _ => noRef_row _ (noRefL_rws _ _ fun _ => noRef_row _ (noRefL_rws _ _ fun _ => rfl))
attribute [go_sem] nrL_cubX
section
variable {o c v : AV} {O : List Int} {M : Int} {n : Nat}
set_option maxHeartbeats 8000000 in
theorem cCocBy {g : Nat} {caps : List AV} {H : Nat → Nat → Nat → Int} (ho : isL o O) (hO : O.length ≤ maxN) (hn : gs5 O = (n : Int)) (h1 : 1 ≤ n) (h16 : n ≤ 16) (hm : 1 ≤ M ∧ M ≤ 1048576) (hi : XX.isIn g = false) (hcp : pureL caps = true)
  (hc : ∀ x, x < n → ∀ y, y < n → ∀ z, z < n → CallOK Tryz.prog g (i64 (x : Int) :: i64 (y : Int) :: i64 (z : Int) :: caps) (i64 (H x y z))) (hb : ∀ x, x < n → ∀ y, y < n → ∀ z, z < n → -4611686018427387904 < H x y z ∧ H x y z < 4611686018427387904) :
  CallOK Tryz.prog 68 [o, i64 M, .fn g caps] (.agg [rowL O, i64 M, cubeA (fun x y z => H x y z % M) n]) := by
 have hmx : n ≤ maxN := Nat.le_trans h16 (by decide)
 have hP := (gs5_of (O := O) (by omega) (by omega)).1
 have cg := cGs ho hO
 rw [hn] at cg
 obtain rfl := isL_ne ho hP.1
 refine call_of (fn := Tryz.f68) (code := bodyOf Tryz.f68) Tryz.func68 rfl (by kernel_rfl) (noRef_cc _ _ _ _) ?_
 intro sl hs
 have s0 : sl 0 = immL O := hs 0
 have s1 : sl 1 = i64 M := hs 1
 have s2 : sl 2 = .fn g caps := hs 2
 dsimp only [Tryz.f68, bodyOf, Option.getD]
 simp (maxSteps := 10000000) (disch := first | assumption | omega) only [go_sem, ↓reduceIte, Nat.reduceEqDiff, reduceCtorEq, Nat.reduceAdd, Nat.reduceMul, Nat.reduceLeDiff, zc, Int.reduceToNat, s0, s1, s2]
 refine CLL_pure _ (cClo hO) PUt rfl rfl ?_
 simp (maxSteps := 10000000) (disch := first | assumption | omega) only [go_sem, ↓reduceIte, Nat.reduceEqDiff, reduceCtorEq, Nat.reduceAdd, Nat.reduceMul, Nat.reduceLeDiff, zc, Int.reduceToNat, s0, s1, s2]
 refine CLL_pure _ cg PUt rfl rfl ?_
 simp (maxSteps := 10000000) (disch := first | assumption | omega) only [go_sem, ↓reduceIte, Nat.reduceEqDiff, reduceCtorEq, Nat.reduceAdd, Nat.reduceMul, Nat.reduceLeDiff, zc, Int.reduceToNat, s0, s1, s2]
 refine WK_for (fun x st => st.sl 2 = .fn g caps ∧ st.sl 8 = i64 (n : Int) ∧ st.sl 7 = .ptr 8288 1 [] 0 ∧ st.ro 8208 1 = some (rowL O) ∧ st.sl 19 = i64 (n : Int) ∧ st.sl 20 = i64 (x : Int) ∧ st.sl 6 = .ptr 4096 1 [] 0 ∧ st.ro 4096 1 = some (.bx [nilA, i64 0, nilA]) ∧ ((x = 0 ∧ st.ro 8288 1 = some (.bx [.ref 8208 1 [] 0 O.length, i64 M, nilA])) ∨ (0 < x ∧ st.ro 8288 1 = some (.bx [.ref 8208 1 [] 0 O.length, i64 M, .ref 65600 (st.gn 65600) [] 0 x]) ∧ st.ro 65600 (st.gn 65600) = some (cubeX (fun x y z => H x y z % M) x n)))) n ?_ ?_ ?_
 ·simp only [↓za, ↓reduceIte, Nat.reduceEqDiff, zb, reduceCtorEq, rws_zero, s0, s1, s2]
  exact ⟨rfl, .inl trivial⟩
 ·rintro x sl ro gn hx ⟨s2, s8, s7, r8208, s19, s20, s6, r4096, q⟩
  dsimp only at s2 s8 s7 r8208 s19 s20 s6 r4096
  have hx' : (x : Int) < (n : Nat) := by omega
  try dsimp only at q
  simp (maxSteps := 10000000) (disch := first | assumption | omega) only [go_sem, ↓reduceIte, Nat.reduceEqDiff, reduceCtorEq, Nat.reduceAdd, Nat.reduceMul, Nat.reduceLeDiff, zc, Int.reduceToNat, s2, s8, s7, r8208, s19, s20, s6, r4096, hx', hx]
  refine CLL_pure _ (c126m hmx hmx) rfl rfl rfl ?_
  simp (maxSteps := 10000000) (disch := first | assumption | omega) only [go_sem, ↓reduceIte, Nat.reduceEqDiff, reduceCtorEq, Nat.reduceAdd, Nat.reduceMul, Nat.reduceLeDiff, zc, Int.reduceToNat, s2, s8, s7, r8208, s19, s20, s6, r4096, hx', hx]
  refine WK_for (fun y st => st.sl 2 = .fn g caps ∧ st.sl 8 = i64 (n : Int) ∧ st.sl 7 = .ptr 8288 1 [] 0 ∧ st.ro 8208 1 = some (rowL O) ∧ st.sl 19 = i64 (n : Int) ∧ st.sl 20 = i64 (x : Int) ∧ st.sl 6 = .ptr 4096 1 [] 0 ∧ st.ro 4096 1 = some (.bx [nilA, i64 0, nilA]) ∧ st.sl 9 = i64 (x : Int) ∧ st.sl 10 = .ref 24608 (st.gn 24608) [] 0 n ∧ st.ro 24608 (st.gn 24608) = some (matA (pg2 (fun y z => H x y z % M) y 0) n n) ∧ st.sl 26 = i64 (n : Int) ∧ st.sl 27 = i64 (y : Int) ∧ ((x = 0 ∧ st.ro 8288 1 = some (.bx [.ref 8208 1 [] 0 O.length, i64 M, nilA])) ∨ (0 < x ∧ st.ro 8288 1 = some (.bx [.ref 8208 1 [] 0 O.length, i64 M, .ref 65600 (st.gn 65600) [] 0 x]) ∧ st.ro 65600 (st.gn 65600) = some (cubeX (fun x y z => H x y z % M) x n)))) n ?_ ?_ ?_
  ·simp only [↓za, ↓reduceIte, Nat.reduceEqDiff, zb, reduceCtorEq, rws_zero, s2, s8, s7, r8208, s19, s20, s6, r4096, hx', hx]
   exact ⟨congrArg some pg2_0, rfl, q⟩
  ·rintro y sl ro gn hy ⟨s2, s8, s7, r8208, s19, s20, s6, r4096, s9, s10, r24608, s26, s27, q⟩
   dsimp only at s2 s8 s7 r8208 s19 s20 s6 r4096 s9 s10 r24608 s26 s27
   have hy' : (y : Int) < (n : Nat) := by omega
   try dsimp only at q
   simp (maxSteps := 10000000) (disch := first | assumption | omega) only [go_sem, ↓reduceIte, Nat.reduceEqDiff, reduceCtorEq, Nat.reduceAdd, Nat.reduceMul, Nat.reduceLeDiff, zc, Int.reduceToNat, s2, s8, s7, r8208, s19, s20, s6, r4096, s9, s10, r24608, s26, s27, hy', hy]
   refine WK_for (fun z st => st.sl 2 = .fn g caps ∧ st.sl 8 = i64 (n : Int) ∧ st.sl 7 = .ptr 8288 1 [] 0 ∧ st.ro 8208 1 = some (rowL O) ∧ st.sl 19 = i64 (n : Int) ∧ st.sl 20 = i64 (x : Int) ∧ st.sl 6 = .ptr 4096 1 [] 0 ∧ st.ro 4096 1 = some (.bx [nilA, i64 0, nilA]) ∧ st.sl 9 = i64 (x : Int) ∧ st.sl 10 = .ref 24608 (st.gn 24608) [] 0 n ∧ st.sl 26 = i64 (n : Int) ∧ st.sl 27 = i64 (y : Int) ∧ st.sl 11 = i64 (y : Int) ∧ st.ro 24608 (st.gn 24608) = some (matA (pg2 (fun y z => H x y z % M) y z) n n) ∧ st.sl 30 = i64 (n : Int) ∧ st.sl 31 = i64 (z : Int) ∧ ((x = 0 ∧ st.ro 8288 1 = some (.bx [.ref 8208 1 [] 0 O.length, i64 M, nilA])) ∨ (0 < x ∧ st.ro 8288 1 = some (.bx [.ref 8208 1 [] 0 O.length, i64 M, .ref 65600 (st.gn 65600) [] 0 x]) ∧ st.ro 65600 (st.gn 65600) = some (cubeX (fun x y z => H x y z % M) x n)))) n ?_ ?_ ?_
   ·simp only [↓za, ↓reduceIte, Nat.reduceEqDiff, zb, reduceCtorEq, rws_zero, s2, s8, s7, r8208, s19, s20, s6, r4096, s9, s10, r24608, s26, s27, hy', hy]
    exact ⟨rfl, q⟩
   ·rintro z sl ro gn hz ⟨s2, s8, s7, r8208, s19, s20, s6, r4096, s9, s10, s26, s27, s11, r24608, s30, s31, q⟩
    dsimp only at s2 s8 s7 r8208 s19 s20 s6 r4096 s9 s10 s26 s27 s11 r24608 s30 s31
    have hz' : (z : Int) < (n : Nat) := by omega
    try dsimp only at q
    have hb' := hb x hx y hy z hz
    have hh := hc x hx y hy z hz
    rcases q with ⟨hx0, q2⟩ | ⟨hx0, q2, q3⟩
    ·have cr := cRest (o := immL O) (c := nilA) (T := []) (M := M) (z := H x y z) (isL_imm O) (.inr ⟨rfl, rfl⟩) hm hb'
     simp (maxSteps := 10000000) (disch := first | assumption | omega) only [go_sem, ↓reduceIte, Nat.reduceEqDiff, reduceCtorEq, Nat.reduceAdd, Nat.reduceMul, Nat.reduceLeDiff, zc, Int.reduceToNat, s2, s8, s7, r8208, s19, s20, s6, r4096, s9, s10, s26, s27, s11, r24608, s30, s31, hz', hz, q2, mat_cells r24608 hy]
     refine CLLD_pure _ hh (by simp only [List.cons_append, List.nil_append, pureL, pureA, hcp, Bool.and_self]) rfl ?_
     simp (maxSteps := 10000000) (disch := first | assumption | omega) only [go_sem, ↓reduceIte, Nat.reduceEqDiff, reduceCtorEq, Nat.reduceAdd, Nat.reduceMul, Nat.reduceLeDiff, zc, Int.reduceToNat, s2, s8, s7, r8208, s19, s20, s6, r4096, s9, s10, s26, s27, s11, r24608, s30, s31, hz', hz, q2, mat_cells r24608 hy]
     refine CLLD_q _ cr (.cons (exq_agg (.cons (exq_refL r8208 rfl (by decide)) (.cons (exq_sc _ _ _ (by decide)) (.cons (exq_sc _ _ _ (by decide)) .nil)))) (.cons (exq_sc _ _ _ (by decide)) .nil)) rfl rfl ?_
     simp (maxSteps := 10000000) (disch := first | assumption | omega) only [go_sem, ↓reduceIte, Nat.reduceEqDiff, reduceCtorEq, Nat.reduceAdd, Nat.reduceMul, Nat.reduceLeDiff, zc, Int.reduceToNat, s2, s8, s7, r8208, s19, s20, s6, r4096, s9, s10, s26, s27, s11, r24608, s30, s31, hz', hz, q2, mat_cells r24608 hy, mat_bx r24608 hy, mat_wr r24608 hy hz]
     refine FIN_of (by kernel_rfl) ?_
     simp (maxSteps := 10000000) (disch := first | assumption | omega) only [go_sem, ↓reduceIte, Nat.reduceEqDiff, reduceCtorEq, Nat.reduceAdd, Nat.reduceMul, Nat.reduceLeDiff, zc, Int.reduceToNat, s2, s8, s7, r8208, s19, s20, s6, r4096, s9, s10, s26, s27, s11, r24608, s30, s31, hz', hz]
     exact ⟨congrArg some pg2_step, i64c (by omega), .inl ⟨hx0, q2⟩⟩
    ·have cr := cRest (o := immL O) (c := immCX (fun x y z => H x y z % M) x n) (M := M) (z := H x y z) (isL_imm O) (isLLL_immCX _ _ _) hm hb'
     simp (maxSteps := 10000000) (disch := first | assumption | omega) only [go_sem, ↓reduceIte, Nat.reduceEqDiff, reduceCtorEq, Nat.reduceAdd, Nat.reduceMul, Nat.reduceLeDiff, zc, Int.reduceToNat, s2, s8, s7, r8208, s19, s20, s6, r4096, s9, s10, s26, s27, s11, r24608, s30, s31, hz', hz, q2, q3, mat_cells r24608 hy]
     refine CLLD_pure _ hh (by simp only [List.cons_append, List.nil_append, pureL, pureA, hcp, Bool.and_self]) rfl ?_
     simp (maxSteps := 10000000) (disch := first | assumption | omega) only [go_sem, ↓reduceIte, Nat.reduceEqDiff, reduceCtorEq, Nat.reduceAdd, Nat.reduceMul, Nat.reduceLeDiff, zc, Int.reduceToNat, s2, s8, s7, r8208, s19, s20, s6, r4096, s9, s10, s26, s27, s11, r24608, s30, s31, hz', hz, q2, q3, mat_cells r24608 hy]
     refine CLLD_q _ cr (.cons (exq_agg (.cons (exq_refL r8208 rfl (by decide)) (.cons (exq_sc _ _ _ (by decide)) (.cons (exq_cubeX q3 (by decide)) .nil)))) (.cons (exq_sc _ _ _ (by decide)) .nil)) rfl rfl ?_
     simp (maxSteps := 10000000) (disch := first | assumption | omega) only [go_sem, ↓reduceIte, Nat.reduceEqDiff, reduceCtorEq, Nat.reduceAdd, Nat.reduceMul, Nat.reduceLeDiff, zc, Int.reduceToNat, s2, s8, s7, r8208, s19, s20, s6, r4096, s9, s10, s26, s27, s11, r24608, s30, s31, hz', hz, q2, q3, mat_cells r24608 hy, mat_bx r24608 hy, mat_wr r24608 hy hz]
     refine FIN_of (by kernel_rfl) ?_
     simp (maxSteps := 10000000) (disch := first | assumption | omega) only [go_sem, ↓reduceIte, Nat.reduceEqDiff, reduceCtorEq, Nat.reduceAdd, Nat.reduceMul, Nat.reduceLeDiff, zc, Int.reduceToNat, s2, s8, s7, r8208, s19, s20, s6, r4096, s9, s10, s26, s27, s11, r24608, s30, s31, hz', hz]
     exact ⟨congrArg some pg2_step, i64c (by omega), .inr ⟨hx0, q2, q3⟩⟩
   ·rintro sl ro gn ⟨s2, s8, s7, r8208, s19, s20, s6, r4096, s9, s10, s26, s27, s11, r24608, s30, s31, q⟩
    dsimp only at s2 s8 s7 r8208 s19 s20 s6 r4096 s9 s10 s26 s27 s11 r24608 s30 s31
    have hz' : ¬ ((n : Nat) : Int) < (n : Nat) := by omega
    try dsimp only at q
    simp (maxSteps := 10000000) (disch := first | assumption | omega) only [go_sem, ↓reduceIte, Nat.reduceEqDiff, reduceCtorEq, Nat.reduceAdd, Nat.reduceMul, Nat.reduceLeDiff, zc, Int.reduceToNat, s2, s8, s7, r8208, s19, s20, s6, r4096, s9, s10, s26, s27, s11, r24608, s30, s31, hz']
    exact ⟨congrArg some pg2_z, i64c (by omega), q⟩
  ·rintro sl ro gn ⟨s2, s8, s7, r8208, s19, s20, s6, r4096, s9, s10, r24608, s26, s27, q⟩
   dsimp only at s2 s8 s7 r8208 s19 s20 s6 r4096 s9 s10 r24608 s26 s27
   have hy' : ¬ ((n : Nat) : Int) < (n : Nat) := by omega
   try dsimp only at q
   rw [pg2_n] at r24608
   have hx2 : x + 1 ≤ 4294967296 := by omega
   rcases q with ⟨hx0, q2⟩ | ⟨hx0, q2, q3⟩
   ·subst hx0
    simp (maxSteps := 10000000) (disch := first | assumption | omega) only [go_sem, ↓reduceIte, Nat.reduceEqDiff, reduceCtorEq, Nat.reduceAdd, Nat.reduceMul, Nat.reduceLeDiff, zc, Int.reduceToNat, s2, s8, s7, r8208, s19, s20, s6, r4096, s9, s10, r24608, s26, s27, hy', q2, hx2]
    exact ⟨i64c (by omega), .inr rfl⟩
   ·simp (maxSteps := 10000000) (disch := first | assumption | omega) only [go_sem, ↓reduceIte, Nat.reduceEqDiff, reduceCtorEq, Nat.reduceAdd, Nat.reduceMul, Nat.reduceLeDiff, zc, Int.reduceToNat, s2, s8, s7, r8208, s19, s20, s6, r4096, s9, s10, r24608, s26, s27, hy', q2, q3, hx2]
    exact ⟨i64c (by omega), .inr trivial⟩
 ·rintro sl ro gn ⟨s2, s8, s7, r8208, s19, s20, s6, r4096, q⟩
  dsimp only at s2 s8 s7 r8208 s19 s20 s6 r4096
  have hx' : ¬ ((n : Nat) : Int) < (n : Nat) := by omega
  try dsimp only at q
  rcases q with ⟨hx0, q2⟩ | ⟨hx0, q2, q3⟩
  ·omega
  ·simp (maxSteps := 10000000) (disch := first | assumption | omega) only [go_sem, ↓reduceIte, Nat.reduceEqDiff, reduceCtorEq, Nat.reduceAdd, Nat.reduceMul, Nat.reduceLeDiff, zc, Int.reduceToNat, s2, s8, s7, r8208, s19, s20, s6, r4096, hx', q2, q3]
   simp only [zr, zb, retR, resL, outT, outL, zes, zez, oneV, zcp, zed, zfi, Ro.dl, St.ev, zhk, ↓za, ↓reduceIte, Nat.reduceEqDiff, Nat.reduceAdd, Nat.reduceLeDiff, tiC, s6, q2, q3, r8208]
end
end Go.Proofs.YthpmddoakefbmaaGreat
/- Copies, sums and coboundaries of cocycles (program). -/
namespace Go.Proofs.YthpmddoakefbmaaGreat
open Go.RowKit
set_option maxRecDepth 1000000
theorem isLL_ne {v : AV} {S : List (List Int)} (h : isLL v S) (h0 : 0 < S.length) : ∃ cs, v = .imm cs := by
 rcases h with ⟨cs, rfl, _⟩ | ⟨h', _⟩
 ·exact ⟨cs, rfl⟩
 ·rw [h'] at h0; exact absurd h0 (Nat.lt_irrefl 0)
section
variable {o c v o' c' v' : AV} {O O' : List Int} {M M' : Int} {F F' : Nat → Nat → Nat → Int} {n : Nat} {G G' : Nat → Nat → Int}
theorem ShC.gs (h : ShC O M F n) : gs5 O = (n : Int) := by
 have e := h.e
 have := h.n8
 rw [gs5_eq h.o (by omega)]; omega
theorem cl107 (ho : isL o O) (hc : isLLL c (cubeL F n)) {x y z : Nat} (hx : x < n) (hy : y < n) (hz : z < n) : CallOK Tryz.prog 107 [i64 (x : Int), i64 (y : Int), i64 (z : Int), .iptr [o, i64 M, c]] (i64 (F x y z)) := by
 have lX : (cubeL F n).length = n := zfe _ _
 have ix := isLLL_mat hc (k := x) (by omega)
 have mx := cube_row F hx
 have ixy := isLL_row ix (k := y) (by omega)
 have mxy := cube_rr F hx hy
 have v1 : atI (row (mat (cubeL F n) x) y) z = F x y z := at3_cube hx hy hz
 refine call_of (fn := Tryz.f107) (code := bodyOf Tryz.f107) Tryz.func107 rfl (by kernel_rfl) (rfl) ?_
 intro sl hs
 have s0 : sl 0 = i64 (x : Int) := hs 0
 have s1 : sl 1 = i64 (y : Int) := hs 1
 have s2 : sl 2 = i64 (z : Int) := hs 2
 have s3 : sl 3 = .iptr [o, i64 M, c] := hs 3
 dsimp only [Tryz.f107, bodyOf, Option.getD]
 simp (maxSteps := 10000000) (disch := first | assumption | omega) only [go_sem, ↓reduceIte, Nat.reduceEqDiff, reduceCtorEq, Nat.reduceAdd, Nat.reduceMul, Nat.reduceLeDiff, zc, Int.reduceToNat, s0, s1, s2, s3, lX, mx, mxy, v1]
 simp only [zr, zb, retR, resL, outT, outL, zes, zez, oneV, zcp, zed, zfi, Ro.dl, St.ev, zhk, ↓za, ↓reduceIte, Nat.reduceEqDiff, Nat.reduceAdd, Nat.reduceLeDiff]
theorem cl106 (ho : isL o O) (hc : isLLL c (cubeL F n)) (ho' : isL o' O') (hc' : isLLL c' (cubeL F' n)) {x y z : Nat} (hx : x < n) (hy : y < n) (hz : z < n) (hb : -1048576 ≤ F x y z ∧ F x y z ≤ 1048576) (hb' : -1048576 ≤ F' x y z ∧ F' x y z ≤ 1048576) : CallOK Tryz.prog 106 [i64 (x : Int), i64 (y : Int), i64 (z : Int), .iptr [o, i64 M, c], .iptr [o', i64 M', c']] (i64 (F x y z + F' x y z)) := by
 have lX : (cubeL F n).length = n := zfe _ _
 have ix := isLLL_mat hc (k := x) (by omega)
 have mx := cube_row F hx
 have ixy := isLL_row ix (k := y) (by omega)
 have mxy := cube_rr F hx hy
 have v1 : atI (row (mat (cubeL F n) x) y) z = F x y z := at3_cube hx hy hz
 have lX' : (cubeL F' n).length = n := zfe _ _
 have ix' := isLLL_mat hc' (k := x) (by omega)
 have mx' := cube_row F' hx
 have ixy' := isLL_row ix' (k := y) (by omega)
 have mxy' := cube_rr F' hx hy
 have v1' : atI (row (mat (cubeL F' n) x) y) z = F' x y z := at3_cube hx hy hz
 refine call_of (fn := Tryz.f106) (code := bodyOf Tryz.f106) Tryz.func106 rfl (by kernel_rfl) (rfl) ?_
 intro sl hs
 have s0 : sl 0 = i64 (x : Int) := hs 0
 have s1 : sl 1 = i64 (y : Int) := hs 1
 have s2 : sl 2 = i64 (z : Int) := hs 2
 have s3 : sl 3 = .iptr [o, i64 M, c] := hs 3
 have s4 : sl 4 = .iptr [o', i64 M', c'] := hs 4
 dsimp only [Tryz.f106, bodyOf, Option.getD]
 simp (maxSteps := 10000000) (disch := first | assumption | omega) only [go_sem, ↓reduceIte, Nat.reduceEqDiff, reduceCtorEq, Nat.reduceAdd, Nat.reduceMul, Nat.reduceLeDiff, zc, Int.reduceToNat, s0, s1, s2, s3, s4, lX, mx, mxy, v1, lX', mx', mxy', v1']
 refine FIN_of (by kernel_rfl) ?_
 simp (maxSteps := 10000000) (disch := first | assumption | omega) only [go_sem, ↓reduceIte, Nat.reduceEqDiff, reduceCtorEq, Nat.reduceAdd, Nat.reduceMul, Nat.reduceLeDiff, zc, Int.reduceToNat, s0, s1, s2, s3, s4]
 simp only [zr, zb, retR, resL, outT, outL, zes, zez, oneV, zcp, zed, zfi, Ro.dl, St.ev, zhk, ↓za, ↓reduceIte, Nat.reduceEqDiff, Nat.reduceAdd, Nat.reduceLeDiff]
theorem cCopyC (ho : isL o O) (hO : O.length ≤ 6) (hc : isLLL c (cubeL F n)) (hs : ShC O M F n) : CallOK Tryz.prog 57 [.agg [o, i64 M, c]] (.agg [rowL O, i64 M, cubeA F n]) := by
 have hm := hs.m
 have hb := hs.b
 have n8 := hs.n8
 have hp := hs.pos
 have cc := cCocBy (g := 107) (caps := [.iptr [o, i64 M, c]]) (H := F) (M := M) ho (Nat.le_trans hO (by decide)) hs.gs hp (by omega) (by omega) rfl (by simp only [pureL, pureA, isL_pure ho, isLLL_pure hc, Bool.and_self]) (fun x hx y hy z hz => cl107 (M := M) ho hc hx hy hz) (fun x hx y hy z hz => by have := hb x hx y hy z hz; omega)
 rw [show cubeA (fun x y z => F x y z % M) n = cubeA F n from cube_congr fun x y z hx hy hz => Int.emod_eq_of_lt (hb x hx y hy z hz).1 (by have := hb x hx y hy z hz; omega)] at cc
 refine call_of (fn := Tryz.f57) (code := bodyOf Tryz.f57) Tryz.func57 rfl (by kernel_rfl) (noRef_cc _ _ _ _) ?_
 intro sl hs
 have s0 : sl 0 = .agg [o, i64 M, c] := hs 0
 dsimp only [Tryz.f57, bodyOf, Option.getD]
 simp (maxSteps := 10000000) (disch := first | assumption | omega) only [go_sem, ↓reduceIte, Nat.reduceEqDiff, reduceCtorEq, Nat.reduceAdd, Nat.reduceMul, Nat.reduceLeDiff, zc, Int.reduceToNat, s0]
 refine CLL_q _ cc (.cons (exq_L ho (by decide)) (.cons (exq_sc _ _ _ (by decide)) (.cons (exq_fn (.cons (exq_ptrs (n := 6) Ur (.cons (exq_L ho (by decide)) (.cons (exq_sc _ _ _ (by decide)) (.cons (exq_LLL hc (by decide)) .nil)))) .nil)) .nil))) rfl rfl (noI_cc _ _ _ _) ?_
 simp (maxSteps := 10000000) (disch := first | assumption | omega) only [go_sem, ↓reduceIte, Nat.reduceEqDiff, reduceCtorEq, Nat.reduceAdd, Nat.reduceMul, Nat.reduceLeDiff, zc, Int.reduceToNat, s0]
 simp only [zr, zb, retR, resL, outT, outL, zes, zez, oneV, zcp, zed, zfi, Ro.dl, St.ev, zhk, ↓za, ↓reduceIte, Nat.reduceEqDiff, Nat.reduceAdd, Nat.reduceLeDiff, tiC]
theorem cAddC (ho : isL o O) (hO : O.length ≤ 6) (hc : isLLL c (cubeL F n)) (hs : ShC O M F n) (ho' : isL o' O') (hc' : isLLL c' (cubeL F' n)) (hb' : ∀ x, x < n → ∀ y, y < n → ∀ z, z < n → 0 ≤ F' x y z ∧ F' x y z ≤ M - 1) : CallOK Tryz.prog 53 [.agg [o, i64 M, c], .agg [o', i64 M', c']] (.agg [rowL O, i64 M, cubeA (smF F F' M) n]) := by
 have hm := hs.m
 have hb := hs.b
 have n8 := hs.n8
 have hp := hs.pos
 have cc := cCocBy (g := 106) (caps := [.iptr [o, i64 M, c], .iptr [o', i64 M', c']]) (H := fun x y z => F x y z + F' x y z) (M := M) ho (Nat.le_trans hO (by decide)) hs.gs hp (by omega) (by omega) rfl (by simp only [pureL, pureA, isL_pure ho, isLLL_pure hc, isL_pure ho', isLLL_pure hc', Bool.and_self]) (fun x hx y hy z hz => cl106 (M := M) (M' := M') ho hc ho' hc' hx hy hz (by have := hb x hx y hy z hz; omega) (by have := hb' x hx y hy z hz; omega)) (fun x hx y hy z hz => by have := hb x hx y hy z hz; have := hb' x hx y hy z hz; omega)
 change CallOK Tryz.prog _ _ (.agg [rowL O, i64 M, cubeA (smF F F' M) n]) at cc
 refine call_of (fn := Tryz.f53) (code := bodyOf Tryz.f53) Tryz.func53 rfl (by kernel_rfl) (noRef_cc _ _ _ _) ?_
 intro sl hs
 have s0 : sl 0 = .agg [o, i64 M, c] := hs 0
 have s1 : sl 1 = .agg [o', i64 M', c'] := hs 1
 dsimp only [Tryz.f53, bodyOf, Option.getD]
 simp (maxSteps := 10000000) (disch := first | assumption | omega) only [go_sem, ↓reduceIte, Nat.reduceEqDiff, reduceCtorEq, Nat.reduceAdd, Nat.reduceMul, Nat.reduceLeDiff, zc, Int.reduceToNat, s0, s1]
 refine CLL_q _ cc (.cons (exq_L ho (by decide)) (.cons (exq_sc _ _ _ (by decide)) (.cons (exq_fn (.cons (exq_ptrs (n := 6) Ur (.cons (exq_L ho (by decide)) (.cons (exq_sc _ _ _ (by decide)) (.cons (exq_LLL hc (by decide)) .nil)))) (.cons (exq_ptrs (n := 6) Ur (.cons (exq_L ho' (by decide)) (.cons (exq_sc _ _ _ (by decide)) (.cons (exq_LLL hc' (by decide)) .nil)))) .nil))) .nil))) rfl rfl (noI_cc _ _ _ _) ?_
 simp (maxSteps := 10000000) (disch := first | assumption | omega) only [go_sem, ↓reduceIte, Nat.reduceEqDiff, reduceCtorEq, Nat.reduceAdd, Nat.reduceMul, Nat.reduceLeDiff, zc, Int.reduceToNat, s0, s1]
 simp only [zr, zb, retR, resL, outT, outL, zes, zez, oneV, zcp, zed, zfi, Ro.dl, St.ev, zhk, ↓za, ↓reduceIte, Nat.reduceEqDiff, Nat.reduceAdd, Nat.reduceLeDiff, tiC]
theorem cl110 (hv : isLL v (matL G n n)) (hG : GrpP O) (hn : (n : Int) = pfx O O.length) (hb : ∀ x, x < n → ∀ y, y < n → 0 ≤ G x y ∧ G x y ≤ 1048576) {x y z : Nat} (hx : x < n) (hy : y < n) (hz : z < n) : CallOK Tryz.prog 110 [i64 (x : Int), i64 (y : Int), i64 (z : Int), .iptr [v], .iptr [immL O, i64 M, nilA]] (i64 (G y z - G (adN O x y) z + G x (adN O y z) - G x y)) := by
 have lV := matL_len2 G n n
 have ho := isL_imm O
 have hsz := hG.sz
 have a1 := cPlus (c := nilA) (T := []) (M := M) (.inr ⟨rfl, rfl⟩) hG (x := x) (y := y) (by omega) (by omega)
 have a2 := cPlus (c := nilA) (T := []) (M := M) (.inr ⟨rfl, rfl⟩) hG (x := y) (y := z) (by omega) (by omega)
 have hxy : adN O x y < n := by have := (hG.adN x y).2; omega
 have hyz : adN O y z < n := by have := (hG.adN y z).2; omega
 have jx := isLL_row hv (k := x) (by omega)
 have jy := isLL_row hv (k := y) (by omega)
 have jX := isLL_row hv (k := adN O x y) (by omega)
 have r1 := matL_row2 (G := G) (l := n) hx
 have r2 := matL_row2 (G := G) (l := n) hy
 have r3 := matL_row2 (G := G) (l := n) hxy
 have v1 : atI (row (matL G n n) y) z = G y z := matL_at hy hz
 have v2 : atI (row (matL G n n) (adN O x y)) z = G (adN O x y) z := matL_at hxy hz
 have v3 : atI (row (matL G n n) x) (adN O y z) = G x (adN O y z) := matL_at hx hyz
 have v4 : atI (row (matL G n n) x) y = G x y := matL_at hx hy
 have b1 := hb y hy z hz
 have b2 := hb _ hxy z hz
 have b3 := hb x hx _ hyz
 have b4 := hb x hx y hy
 refine call_of (fn := Tryz.f110) (code := bodyOf Tryz.f110) Tryz.func110 rfl (by kernel_rfl) (rfl) ?_
 intro sl hs
 have s0 : sl 0 = i64 (x : Int) := hs 0
 have s1 : sl 1 = i64 (y : Int) := hs 1
 have s2 : sl 2 = i64 (z : Int) := hs 2
 have s3 : sl 3 = .iptr [v] := hs 3
 have s4 : sl 4 = .iptr [immL O, i64 M, nilA] := hs 4
 dsimp only [Tryz.f110, bodyOf, Option.getD]
 simp (maxSteps := 10000000) (disch := first | assumption | omega) only [go_sem, ↓reduceIte, Nat.reduceEqDiff, reduceCtorEq, Nat.reduceAdd, Nat.reduceMul, Nat.reduceLeDiff, zc, Int.reduceToNat, s0, s1, s2, s3, s4, lV, r1, r2, r3, v1, v2, v3, v4]
 refine CLLD_pure _ a1 PUt rfl ?_
 simp (maxSteps := 10000000) (disch := first | assumption | omega) only [go_sem, ↓reduceIte, Nat.reduceEqDiff, reduceCtorEq, Nat.reduceAdd, Nat.reduceMul, Nat.reduceLeDiff, zc, Int.reduceToNat, s0, s1, s2, s3, s4, lV, r1, r2, r3, v1, v2, v3, v4]
 refine CLLD_pure _ a2 PUt rfl ?_
 simp (maxSteps := 10000000) (disch := first | assumption | omega) only [go_sem, ↓reduceIte, Nat.reduceEqDiff, reduceCtorEq, Nat.reduceAdd, Nat.reduceMul, Nat.reduceLeDiff, zc, Int.reduceToNat, s0, s1, s2, s3, s4, lV, r1, r2, r3, v1, v2, v3, v4]
 refine FIN_of (by kernel_rfl) ?_
 simp (maxSteps := 10000000) (disch := first | assumption | omega) only [go_sem, ↓reduceIte, Nat.reduceEqDiff, reduceCtorEq, Nat.reduceAdd, Nat.reduceMul, Nat.reduceLeDiff, zc, Int.reduceToNat, s0, s1, s2, s3, s4]
 simp only [zr, zb, retR, resL, outT, outL, zes, zez, oneV, zcp, zed, zfi, Ro.dl, St.ev, zhk, ↓za, ↓reduceIte, Nat.reduceEqDiff, Nat.reduceAdd, Nat.reduceLeDiff]
theorem cCobI (ho : isL o O) (hO : O.length ≤ 6) (hP : OrdP O) (hn : (n : Int) = pfx O O.length) (n8 : n ≤ 8) (hv : isLL v (matL G n n)) (hm : 1 ≤ M ∧ M ≤ 1000) (hb : ∀ x, x < n → ∀ y, y < n → 0 ≤ G x y ∧ G x y ≤ M - 1) : CallOK Tryz.prog 65 [o, i64 M, v] (.agg [rowL O, i64 M, cubeA (cobF O M (matL G n n)) n]) := by
 have hG : GrpP O := hP.grp hO (by omega)
 have hgs : gs5 O = (n : Int) := by rw [gs5_eq hP (by omega)]; omega
 have hp : 1 ≤ n := by have := pfx_pos1 hP.2; omega
 obtain rfl := isL_ne ho hP.1
 have hlt : ∀ x y, adN O x y < n := fun x y => by have := (hG.adN x y).2; omega
 have cc := cCocBy (g := 110) (caps := [.iptr [v], .iptr [immL O, i64 M, nilA]]) (H := fun x y z => G y z - G (adN O x y) z + G x (adN O y z) - G x y) (M := M) ho (Nat.le_trans hO (by decide)) hgs hp (by omega) (by omega) rfl (by simp only [pureL, pureA, pureL_map, isLL_pure hv, Bool.and_self]) (fun x hx y hy z hz => cl110 (M := M) hv hG hn (fun x hx y hy => by have := hb x hx y hy; omega) hx hy hz) (fun x hx y hy z hz => by have := hb y hy z hz; have := hb _ (hlt x y) z hz; have := hb x hx _ (hlt y z); have := hb x hx y hy; omega)
 rw [show cubeA (fun x y z => (G y z - G (adN O x y) z + G x (adN O y z) - G x y) % M) n = cubeA (cobF O M (matL G n n)) n from cube_congr fun x y z hx hy hz => by
  unfold cobF
  rw [matL_at hy hz, matL_at (hlt x y) hz, matL_at hx (hlt y z), matL_at hx hy]] at cc
 obtain ⟨cs, rfl⟩ := isLL_ne hv (by rw [matL_len2]; omega)
 refine call_of (fn := Tryz.f65) (code := bodyOf Tryz.f65) Tryz.func65 rfl (by kernel_rfl) (noRef_cc _ _ _ _) ?_
 intro sl hs
 have s0 : sl 0 = immL O := hs 0
 have s1 : sl 1 = i64 M := hs 1
 have s2 : sl 2 = .imm cs := hs 2
 dsimp only [Tryz.f65, bodyOf, Option.getD]
 simp (maxSteps := 10000000) (disch := first | assumption | omega) only [go_sem, ↓reduceIte, Nat.reduceEqDiff, reduceCtorEq, Nat.reduceAdd, Nat.reduceMul, Nat.reduceLeDiff, zc, Int.reduceToNat, s0, s1, s2]
 refine CLL_q _ cc (.cons (exq_L ho (by decide)) (.cons (exq_sc _ _ _ (by decide)) (.cons (exq_fn (.cons (exq_ptrs (n := 6) Ur (.cons (exq_LL hv (by decide)) .nil)) (.cons (exq_ptrs (n := 6) Ur (.cons (exq_L ho (by decide)) (.cons (exq_sc _ _ _ (by decide)) (.cons (exq_sc _ _ _ (by decide)) .nil)))) .nil))) .nil))) rfl rfl (noI_cc _ _ _ _) ?_
 simp (maxSteps := 10000000) (disch := first | assumption | omega) only [go_sem, ↓reduceIte, Nat.reduceEqDiff, reduceCtorEq, Nat.reduceAdd, Nat.reduceMul, Nat.reduceLeDiff, zc, Int.reduceToNat, s0, s1, s2]
 simp only [zr, zb, retR, resL, outT, outL, zes, zez, oneV, zcp, zed, zfi, Ro.dl, St.ev, zhk, ↓za, ↓reduceIte, Nat.reduceEqDiff, Nat.reduceAdd, Nat.reduceLeDiff, tiC]
end
end Go.Proofs.YthpmddoakefbmaaGreat
/- Braidings by functions (program), in the caller's memory. -/
namespace Go.Proofs.YthpmddoakefbmaaGreat
open Go.RowKit
set_option maxRecDepth 1000000
def WBy : List Nat := [4096, 4112, 8304, 8336]
def RBy (so uo sp up : Nat) (lo : Nat) (M : Int) (n : Nat) (K : Nat → Nat → Int) (gb : Nat → Nat) (r : AV) (ro : Ro) (gn : Nat → Nat) : Prop := gn 8304 = gb 8304 + 1 ∧ r = .agg [.ref so uo [] 0 lo, i64 M, .ref sp up [] 0 n, .ref 8304 (gb 8304 + 1) [] 0 n] ∧ ro 8304 (gb 8304 + 1) = some (matA (fun x y => K x y % M) n n)
section
variable {O : List Int} {M : Int} {F : Nat → Nat → Nat → Int} {n : Nat} {rb : Ro} {gb : Nat → Nat} {uo up ua ub : Nat} {csa csb : List AV} {K : Nat → Nat → Int} {g : Nat}
set_option maxHeartbeats 8000000 in
theorem sByRev (ho : rb 16416 uo = some (rowL O)) (ho2 : uo ≤ gb 16416) (hv : rb 16417 up = some (cubeA F n)) (hv2 : up ≤ gb 16417) (ha : rb 4096 ua = some (.bx csa)) (ha2 : ua ≤ gb 4096) (ha3 : ∀ ro, exqL 5 ro csa csa) (ha4 : noRefL csa = true) (h16 : n ≤ 16) (hm : 1 ≤ M ∧ M ≤ 1048576)
  (hc : ∀ x, x < n → ∀ y, y < n → CallOK Tryz.prog g [i64 (x : Int), i64 (y : Int), .iptr csa] (i64 (K x y))) (hk : ∀ x, x < n → ∀ y, y < n → -4611686018427387904 < K x y ∧ K x y < 4611686018427387904) :
  InS Tryz.prog 52 [.agg [.ref 16416 uo [] 0 O.length, i64 M, .ref 16417 up [] 0 n], .fn g [.ptr 4096 ua [] 0]] rb gb (fun r ro' gn' => Frm WBy 0 rb gb ro' gn' ∧ RBy 16416 uo 16417 up O.length M n K gb r ro' gn') := by
 have hmx : n ≤ maxN := Nat.le_trans h16 (by decide)
 have n0 : ¬ (8288 = 8304 ∧ (0 : Nat) = 1) := by decide
 refine in_ofS (fn := Tryz.f52) (code := bodyOf Tryz.f52) Tryz.func52 rfl (by kernel_rfl) ?_
 intro sl hs
 have s0 : sl 0 = .agg [.ref 16416 uo [] 0 O.length, i64 M, .ref 16417 up [] 0 n] := hs 0
 have s1 : sl 1 = .fn g [.ptr 4096 ua [] 0] := hs 1
 dsimp only [Tryz.f52, bodyOf, Option.getD]
 simp (maxSteps := 10000000) (disch := first | assumption | omega) only [go_sem, ↓reduceIte, Nat.reduceEqDiff, reduceCtorEq, Nat.reduceAdd, Nat.reduceMul, Nat.reduceLeDiff, zc, Int.reduceToNat, s0, s1, ho, hv]
 refine CLLD_pure _ (c126m hmx hmx) rfl rfl ?_
 simp (maxSteps := 10000000) (disch := first | assumption | omega) only [go_sem, ↓reduceIte, Nat.reduceEqDiff, reduceCtorEq, Nat.reduceAdd, Nat.reduceMul, Nat.reduceLeDiff, zc, Int.reduceToNat, s0, s1, ho, hv]
 refine FIN_of (by kernel_rfl) ?_
 simp (maxSteps := 10000000) (disch := first | assumption | omega) only [go_sem, ↓reduceIte, Nat.reduceEqDiff, reduceCtorEq, Nat.reduceAdd, Nat.reduceMul, Nat.reduceLeDiff, zc, Int.reduceToNat, s0, s1, ho, hv]
 refine WK_for (fun x st => st.sl 2 = .ptr 4096 (gb 4096 + 1) [] 0 ∧ st.sl 1 = .fn g [.ptr 4096 ua [] 0] ∧ st.sl 4 = .ptr 4112 (gb 4112 + 1) [] 0 ∧ st.sl 5 = .ptr 8336 (gb 8336 + 1) [] 0 ∧ (st.ro 4096 (gb 4096 + 1) = some (.bx [.ref 16416 uo [] 0 O.length, i64 M, .ref 16417 up [] 0 n])) ∧ (st.ro 4112 (gb 4112 + 1) = some (.bx [nilA, i64 0, nilA, nilA])) ∧ (st.ro 8336 (gb 8336 + 1) = some (.bx [.ref 16416 uo [] 0 O.length, i64 M, .ref 16417 up [] 0 n, .ref 8304 (gb 8304 + 1) [] 0 n])) ∧ (st.ro 16416 uo = some (rowL O)) ∧ (st.ro 16417 up = some (cubeA F n)) ∧ (st.ro 4096 ua = some (.bx csa)) ∧ st.sl 19 = i64 (n : Int) ∧ st.sl 20 = i64 (x : Int) ∧ (st.ro 8304 (gb 8304 + 1) = some (matA (pg2 (fun x y => K x y % M) x 0) n n)) ∧ (Frm WBy 0 rb gb st.ro st.gn) ∧ (st.gn 8304 = gb 8304 + 1)) n ?_ ?_ ?_
 ·simp only [↓za, ↓reduceIte, Nat.reduceEqDiff, zb, reduceCtorEq, rws_zero, s0, s1]
  refine ⟨ho, hv, ?_, rfl, congrArg some pg2_0, KQt⟩
  first | exact ha | (rw [if_neg (by omega)]; exact ha)
 ·rintro x sl ro gn hx ⟨s2, s1, s4, s5, fa, fb, fc, fo, fv, fk, s19, s20, fm, fr, fg⟩
  dsimp only at s2 s1 s4 s5 s19 s20
  have hx' : (x : Int) < (n : Nat) := by omega
  dsimp only at fa fb fc fo fv fk fm fr fg
  simp (maxSteps := 10000000) (disch := first | assumption | omega) only [go_sem, ↓reduceIte, Nat.reduceEqDiff, reduceCtorEq, Nat.reduceAdd, Nat.reduceMul, Nat.reduceLeDiff, zc, Int.reduceToNat, s2, s1, s4, s5, s19, s20, hx', hx, fa, fb, fc, fo, fv, fm]
  refine WK_for (fun y st => st.sl 2 = .ptr 4096 (gb 4096 + 1) [] 0 ∧ st.sl 1 = .fn g [.ptr 4096 ua [] 0] ∧ st.sl 4 = .ptr 4112 (gb 4112 + 1) [] 0 ∧ st.sl 5 = .ptr 8336 (gb 8336 + 1) [] 0 ∧ st.sl 19 = i64 (n : Int) ∧ st.sl 20 = i64 (x : Int) ∧ (st.ro 4096 (gb 4096 + 1) = some (.bx [.ref 16416 uo [] 0 O.length, i64 M, .ref 16417 up [] 0 n])) ∧ (st.ro 4112 (gb 4112 + 1) = some (.bx [nilA, i64 0, nilA, nilA])) ∧ (st.ro 8336 (gb 8336 + 1) = some (.bx [.ref 16416 uo [] 0 O.length, i64 M, .ref 16417 up [] 0 n, .ref 8304 (gb 8304 + 1) [] 0 n])) ∧ (st.ro 16416 uo = some (rowL O)) ∧ (st.ro 16417 up = some (cubeA F n)) ∧ (st.ro 4096 ua = some (.bx csa)) ∧ st.sl 6 = i64 (x : Int) ∧ st.sl 25 = i64 (n : Int) ∧ st.sl 26 = i64 (y : Int) ∧ (st.ro 8304 (gb 8304 + 1) = some (matA (pg2 (fun x y => K x y % M) x y) n n)) ∧ (Frm WBy 0 rb gb st.ro st.gn) ∧ (st.gn 8304 = gb 8304 + 1)) n ?_ ?_ ?_
  ·simp only [↓za, ↓reduceIte, Nat.reduceEqDiff, zb, reduceCtorEq, rws_zero, s2, s1, s4, s5, s19, s20, hx', hx]
   exact ⟨fa, fb, fc, fo, fv, fk, rfl, fm, fr, fg⟩
  ·rintro y sl ro gn hy ⟨s2, s1, s4, s5, s19, s20, fa, fb, fc, fo, fv, fk, s6, s25, s26, fm, fr, fg⟩
   dsimp only at s2 s1 s4 s5 s19 s20 s6 s25 s26
   have hy' : (y : Int) < (n : Nat) := by omega
   dsimp only at fa fb fc fo fv fk fm fr fg
   have cr := cRest (o := immL O) (c := immC F n) (T := cubeL F n) (M := M) (z := K x y) (isL_imm O) (isLLL_immC F n) hm (hk x hx y hy)
   simp (maxSteps := 10000000) (disch := first | assumption | omega) only [go_sem, ↓reduceIte, Nat.reduceEqDiff, reduceCtorEq, Nat.reduceAdd, Nat.reduceMul, Nat.reduceLeDiff, zc, Int.reduceToNat, s2, s1, s4, s5, s19, s20, s6, s25, s26, hy', hy, fa, fc, fo, fv, fm, mat_cells fm hx]
   refine CLLD_q _ (hc x hx y hy) (.cons (exq_sc _ _ _ (by decide)) (.cons (exq_sc _ _ _ (by decide)) (exqL_mono (.cons (exq_ptrs (n := 5) fk (ha3 _)) .nil) (by decide)))) rfl rfl ?_
   simp (maxSteps := 10000000) (disch := first | assumption | omega) only [go_sem, ↓reduceIte, Nat.reduceEqDiff, reduceCtorEq, Nat.reduceAdd, Nat.reduceMul, Nat.reduceLeDiff, zc, Int.reduceToNat, s2, s1, s4, s5, s19, s20, s6, s25, s26, hy', hy, fa, fc, fo, fv, fm, fk, ha4, mat_cells fm hx]
   refine CLLD_q _ cr (.cons (exq_agg (.cons (exq_refL fo rfl (by decide)) (.cons (exq_sc _ _ _ (by decide)) (.cons (exq_cube fv (by decide)) .nil)))) (.cons (exq_sc _ _ _ (by decide)) .nil)) rfl rfl ?_
   simp (maxSteps := 10000000) (disch := first | assumption | omega) only [go_sem, ↓reduceIte, Nat.reduceEqDiff, reduceCtorEq, Nat.reduceAdd, Nat.reduceMul, Nat.reduceLeDiff, zc, Int.reduceToNat, s2, s1, s4, s5, s19, s20, s6, s25, s26, hy', hy, fa, fc, fo, fv, fm, fk, ha4, mat_cells fm hx, mat_bx fm hx, mat_wr fm hx hy]
   refine FIN_of (by kernel_rfl) ?_
   simp (maxSteps := 10000000) (disch := first | assumption | omega) only [go_sem, ↓reduceIte, Nat.reduceEqDiff, reduceCtorEq, Nat.reduceAdd, Nat.reduceMul, Nat.reduceLeDiff, zc, Int.reduceToNat, s2, s1, s4, s5, s19, s20, s6, s25, s26, hy', hy]
   exact ⟨fa, fb, fc, fo, fv, fk, i64c (by omega), congrArg some pg2_step, KQt, fg⟩
  ·rintro sl ro gn ⟨s2, s1, s4, s5, s19, s20, fa, fb, fc, fo, fv, fk, s6, s25, s26, fm, fr, fg⟩
   dsimp only at s2 s1 s4 s5 s19 s20 s6 s25 s26
   have hy' : ¬ ((n : Nat) : Int) < (n : Nat) := by omega
   dsimp only at fa fb fc fo fv fk fm fr fg
   simp (maxSteps := 10000000) (disch := first | assumption | omega) only [go_sem, ↓reduceIte, Nat.reduceEqDiff, reduceCtorEq, Nat.reduceAdd, Nat.reduceMul, Nat.reduceLeDiff, zc, Int.reduceToNat, s2, s1, s4, s5, s19, s20, s6, s25, s26, hy', fa, fb, fc, fo, fv, fm]
   exact ⟨fk, i64c (by omega), congrArg some pg2_z, fr, fg⟩
 ·rintro sl ro gn ⟨s2, s1, s4, s5, fa, fb, fc, fo, fv, fk, s19, s20, fm, fr, fg⟩
  dsimp only at s2 s1 s4 s5 s19 s20
  have hx' : ¬ ((n : Nat) : Int) < (n : Nat) := by omega
  dsimp only at fa fb fc fo fv fk fm fr fg
  rw [pg2_n] at fm
  simp (maxSteps := 10000000) (disch := first | assumption | omega) only [go_sem, ↓reduceIte, Nat.reduceEqDiff, reduceCtorEq, Nat.reduceAdd, Nat.reduceMul, Nat.reduceLeDiff, zc, Int.reduceToNat, s2, s1, s4, s5, s19, s20, hx', fa, fb, fc, fo, fv, fm]
  exact RETS_D (Ue s4) (upr_same _ _ _ _) rfl ⟨fr.wr 4112 _ _ (by decide) (by omega), fg, rfl, by simp only [↓za, ↓reduceIte, Nat.reduceEqDiff, zb, reduceCtorEq]; exact fm⟩
set_option maxHeartbeats 8000000 in
theorem sByStd (ho : rb 24656 uo = some (rowL O)) (ho2 : uo ≤ gb 24656) (hv : rb 24657 up = some (cubeA F n)) (hv2 : up ≤ gb 24657) (ha : rb 4112 ua = some (.bx csa)) (ha2 : ua ≤ gb 4112) (ha3 : ∀ ro, exqL 5 ro csa csa) (ha4 : noRefL csa = true) (h16 : n ≤ 16) (hm : 1 ≤ M ∧ M ≤ 1048576)
  (hc : ∀ x, x < n → ∀ y, y < n → CallOK Tryz.prog g [i64 (x : Int), i64 (y : Int), .iptr csa] (i64 (K x y))) (hk : ∀ x, x < n → ∀ y, y < n → -4611686018427387904 < K x y ∧ K x y < 4611686018427387904) :
  InS Tryz.prog 52 [.agg [.ref 24656 uo [] 0 O.length, i64 M, .ref 24657 up [] 0 n], .fn g [.ptr 4112 ua [] 0]] rb gb (fun r ro' gn' => Frm WBy 0 rb gb ro' gn' ∧ RBy 24656 uo 24657 up O.length M n K gb r ro' gn') := by
 have hmx : n ≤ maxN := Nat.le_trans h16 (by decide)
 have n0 : ¬ (8288 = 8304 ∧ (0 : Nat) = 1) := by decide
 refine in_ofS (fn := Tryz.f52) (code := bodyOf Tryz.f52) Tryz.func52 rfl (by kernel_rfl) ?_
 intro sl hs
 have s0 : sl 0 = .agg [.ref 24656 uo [] 0 O.length, i64 M, .ref 24657 up [] 0 n] := hs 0
 have s1 : sl 1 = .fn g [.ptr 4112 ua [] 0] := hs 1
 dsimp only [Tryz.f52, bodyOf, Option.getD]
 simp (maxSteps := 10000000) (disch := first | assumption | omega) only [go_sem, ↓reduceIte, Nat.reduceEqDiff, reduceCtorEq, Nat.reduceAdd, Nat.reduceMul, Nat.reduceLeDiff, zc, Int.reduceToNat, s0, s1, ho, hv]
 refine CLLD_pure _ (c126m hmx hmx) rfl rfl ?_
 simp (maxSteps := 10000000) (disch := first | assumption | omega) only [go_sem, ↓reduceIte, Nat.reduceEqDiff, reduceCtorEq, Nat.reduceAdd, Nat.reduceMul, Nat.reduceLeDiff, zc, Int.reduceToNat, s0, s1, ho, hv]
 refine FIN_of (by kernel_rfl) ?_
 simp (maxSteps := 10000000) (disch := first | assumption | omega) only [go_sem, ↓reduceIte, Nat.reduceEqDiff, reduceCtorEq, Nat.reduceAdd, Nat.reduceMul, Nat.reduceLeDiff, zc, Int.reduceToNat, s0, s1, ho, hv]
 refine WK_for (fun x st => st.sl 2 = .ptr 4096 (gb 4096 + 1) [] 0 ∧ st.sl 1 = .fn g [.ptr 4112 ua [] 0] ∧ st.sl 4 = .ptr 4112 (gb 4112 + 1) [] 0 ∧ st.sl 5 = .ptr 8336 (gb 8336 + 1) [] 0 ∧ (st.ro 4096 (gb 4096 + 1) = some (.bx [.ref 24656 uo [] 0 O.length, i64 M, .ref 24657 up [] 0 n])) ∧ (st.ro 4112 (gb 4112 + 1) = some (.bx [nilA, i64 0, nilA, nilA])) ∧ (st.ro 8336 (gb 8336 + 1) = some (.bx [.ref 24656 uo [] 0 O.length, i64 M, .ref 24657 up [] 0 n, .ref 8304 (gb 8304 + 1) [] 0 n])) ∧ (st.ro 24656 uo = some (rowL O)) ∧ (st.ro 24657 up = some (cubeA F n)) ∧ (st.ro 4112 ua = some (.bx csa)) ∧ st.sl 19 = i64 (n : Int) ∧ st.sl 20 = i64 (x : Int) ∧ (st.ro 8304 (gb 8304 + 1) = some (matA (pg2 (fun x y => K x y % M) x 0) n n)) ∧ (Frm WBy 0 rb gb st.ro st.gn) ∧ (st.gn 8304 = gb 8304 + 1)) n ?_ ?_ ?_
 ·simp only [↓za, ↓reduceIte, Nat.reduceEqDiff, zb, reduceCtorEq, rws_zero, s0, s1]
  refine ⟨ho, hv, ?_, rfl, congrArg some pg2_0, KQt⟩
  first | exact ha | (rw [if_neg (by omega)]; exact ha)
 ·rintro x sl ro gn hx ⟨s2, s1, s4, s5, fa, fb, fc, fo, fv, fk, s19, s20, fm, fr, fg⟩
  dsimp only at s2 s1 s4 s5 s19 s20
  have hx' : (x : Int) < (n : Nat) := by omega
  dsimp only at fa fb fc fo fv fk fm fr fg
  simp (maxSteps := 10000000) (disch := first | assumption | omega) only [go_sem, ↓reduceIte, Nat.reduceEqDiff, reduceCtorEq, Nat.reduceAdd, Nat.reduceMul, Nat.reduceLeDiff, zc, Int.reduceToNat, s2, s1, s4, s5, s19, s20, hx', hx, fa, fb, fc, fo, fv, fm]
  refine WK_for (fun y st => st.sl 2 = .ptr 4096 (gb 4096 + 1) [] 0 ∧ st.sl 1 = .fn g [.ptr 4112 ua [] 0] ∧ st.sl 4 = .ptr 4112 (gb 4112 + 1) [] 0 ∧ st.sl 5 = .ptr 8336 (gb 8336 + 1) [] 0 ∧ st.sl 19 = i64 (n : Int) ∧ st.sl 20 = i64 (x : Int) ∧ (st.ro 4096 (gb 4096 + 1) = some (.bx [.ref 24656 uo [] 0 O.length, i64 M, .ref 24657 up [] 0 n])) ∧ (st.ro 4112 (gb 4112 + 1) = some (.bx [nilA, i64 0, nilA, nilA])) ∧ (st.ro 8336 (gb 8336 + 1) = some (.bx [.ref 24656 uo [] 0 O.length, i64 M, .ref 24657 up [] 0 n, .ref 8304 (gb 8304 + 1) [] 0 n])) ∧ (st.ro 24656 uo = some (rowL O)) ∧ (st.ro 24657 up = some (cubeA F n)) ∧ (st.ro 4112 ua = some (.bx csa)) ∧ st.sl 6 = i64 (x : Int) ∧ st.sl 25 = i64 (n : Int) ∧ st.sl 26 = i64 (y : Int) ∧ (st.ro 8304 (gb 8304 + 1) = some (matA (pg2 (fun x y => K x y % M) x y) n n)) ∧ (Frm WBy 0 rb gb st.ro st.gn) ∧ (st.gn 8304 = gb 8304 + 1)) n ?_ ?_ ?_
  ·simp only [↓za, ↓reduceIte, Nat.reduceEqDiff, zb, reduceCtorEq, rws_zero, s2, s1, s4, s5, s19, s20, hx', hx]
   exact ⟨fa, fb, fc, fo, fv, fk, rfl, fm, fr, fg⟩
  ·rintro y sl ro gn hy ⟨s2, s1, s4, s5, s19, s20, fa, fb, fc, fo, fv, fk, s6, s25, s26, fm, fr, fg⟩
   dsimp only at s2 s1 s4 s5 s19 s20 s6 s25 s26
   have hy' : (y : Int) < (n : Nat) := by omega
   dsimp only at fa fb fc fo fv fk fm fr fg
   have cr := cRest (o := immL O) (c := immC F n) (T := cubeL F n) (M := M) (z := K x y) (isL_imm O) (isLLL_immC F n) hm (hk x hx y hy)
   simp (maxSteps := 10000000) (disch := first | assumption | omega) only [go_sem, ↓reduceIte, Nat.reduceEqDiff, reduceCtorEq, Nat.reduceAdd, Nat.reduceMul, Nat.reduceLeDiff, zc, Int.reduceToNat, s2, s1, s4, s5, s19, s20, s6, s25, s26, hy', hy, fa, fc, fo, fv, fm, mat_cells fm hx]
   refine CLLD_q _ (hc x hx y hy) (.cons (exq_sc _ _ _ (by decide)) (.cons (exq_sc _ _ _ (by decide)) (exqL_mono (.cons (exq_ptrs (n := 5) fk (ha3 _)) .nil) (by decide)))) rfl rfl ?_
   simp (maxSteps := 10000000) (disch := first | assumption | omega) only [go_sem, ↓reduceIte, Nat.reduceEqDiff, reduceCtorEq, Nat.reduceAdd, Nat.reduceMul, Nat.reduceLeDiff, zc, Int.reduceToNat, s2, s1, s4, s5, s19, s20, s6, s25, s26, hy', hy, fa, fc, fo, fv, fm, fk, ha4, mat_cells fm hx]
   refine CLLD_q _ cr (.cons (exq_agg (.cons (exq_refL fo rfl (by decide)) (.cons (exq_sc _ _ _ (by decide)) (.cons (exq_cube fv (by decide)) .nil)))) (.cons (exq_sc _ _ _ (by decide)) .nil)) rfl rfl ?_
   simp (maxSteps := 10000000) (disch := first | assumption | omega) only [go_sem, ↓reduceIte, Nat.reduceEqDiff, reduceCtorEq, Nat.reduceAdd, Nat.reduceMul, Nat.reduceLeDiff, zc, Int.reduceToNat, s2, s1, s4, s5, s19, s20, s6, s25, s26, hy', hy, fa, fc, fo, fv, fm, fk, ha4, mat_cells fm hx, mat_bx fm hx, mat_wr fm hx hy]
   refine FIN_of (by kernel_rfl) ?_
   simp (maxSteps := 10000000) (disch := first | assumption | omega) only [go_sem, ↓reduceIte, Nat.reduceEqDiff, reduceCtorEq, Nat.reduceAdd, Nat.reduceMul, Nat.reduceLeDiff, zc, Int.reduceToNat, s2, s1, s4, s5, s19, s20, s6, s25, s26, hy', hy]
   exact ⟨fa, fb, fc, fo, fv, fk, i64c (by omega), congrArg some pg2_step, KQt, fg⟩
  ·rintro sl ro gn ⟨s2, s1, s4, s5, s19, s20, fa, fb, fc, fo, fv, fk, s6, s25, s26, fm, fr, fg⟩
   dsimp only at s2 s1 s4 s5 s19 s20 s6 s25 s26
   have hy' : ¬ ((n : Nat) : Int) < (n : Nat) := by omega
   dsimp only at fa fb fc fo fv fk fm fr fg
   simp (maxSteps := 10000000) (disch := first | assumption | omega) only [go_sem, ↓reduceIte, Nat.reduceEqDiff, reduceCtorEq, Nat.reduceAdd, Nat.reduceMul, Nat.reduceLeDiff, zc, Int.reduceToNat, s2, s1, s4, s5, s19, s20, s6, s25, s26, hy', fa, fb, fc, fo, fv, fm]
   exact ⟨fk, i64c (by omega), congrArg some pg2_z, fr, fg⟩
 ·rintro sl ro gn ⟨s2, s1, s4, s5, fa, fb, fc, fo, fv, fk, s19, s20, fm, fr, fg⟩
  dsimp only at s2 s1 s4 s5 s19 s20
  have hx' : ¬ ((n : Nat) : Int) < (n : Nat) := by omega
  dsimp only at fa fb fc fo fv fk fm fr fg
  rw [pg2_n] at fm
  simp (maxSteps := 10000000) (disch := first | assumption | omega) only [go_sem, ↓reduceIte, Nat.reduceEqDiff, reduceCtorEq, Nat.reduceAdd, Nat.reduceMul, Nat.reduceLeDiff, zc, Int.reduceToNat, s2, s1, s4, s5, s19, s20, hx', fa, fb, fc, fo, fv, fm]
  exact RETS_D (Ue s4) (upr_same _ _ _ _) rfl ⟨fr.wr 4112 _ _ (by decide) (by omega), fg, rfl, by simp only [↓za, ↓reduceIte, Nat.reduceEqDiff, zb, reduceCtorEq]; exact fm⟩
set_option maxHeartbeats 8000000 in
theorem sByBic (ho : rb 20512 uo = some (rowL O)) (ho2 : uo ≤ gb 20512) (hv : rb 20513 up = some (cubeA F n)) (hv2 : up ≤ gb 20513) (ha : rb 4096 ua = some (.bx csa)) (ha2 : ua ≤ gb 4096) (ha3 : ∀ ro, exqL 5 ro csa csa) (ha4 : noRefL csa = true) (h16 : n ≤ 16) (hm : 1 ≤ M ∧ M ≤ 1048576)
  (hc : ∀ x, x < n → ∀ y, y < n → CallOK Tryz.prog g [i64 (x : Int), i64 (y : Int), .iptr csa] (i64 (K x y))) (hk : ∀ x, x < n → ∀ y, y < n → -4611686018427387904 < K x y ∧ K x y < 4611686018427387904) :
  InS Tryz.prog 52 [.agg [.ref 20512 uo [] 0 O.length, i64 M, .ref 20513 up [] 0 n], .fn g [.ptr 4096 ua [] 0]] rb gb (fun r ro' gn' => Frm WBy 0 rb gb ro' gn' ∧ RBy 20512 uo 20513 up O.length M n K gb r ro' gn') := by
 have hmx : n ≤ maxN := Nat.le_trans h16 (by decide)
 have n0 : ¬ (8288 = 8304 ∧ (0 : Nat) = 1) := by decide
 refine in_ofS (fn := Tryz.f52) (code := bodyOf Tryz.f52) Tryz.func52 rfl (by kernel_rfl) ?_
 intro sl hs
 have s0 : sl 0 = .agg [.ref 20512 uo [] 0 O.length, i64 M, .ref 20513 up [] 0 n] := hs 0
 have s1 : sl 1 = .fn g [.ptr 4096 ua [] 0] := hs 1
 dsimp only [Tryz.f52, bodyOf, Option.getD]
 simp (maxSteps := 10000000) (disch := first | assumption | omega) only [go_sem, ↓reduceIte, Nat.reduceEqDiff, reduceCtorEq, Nat.reduceAdd, Nat.reduceMul, Nat.reduceLeDiff, zc, Int.reduceToNat, s0, s1, ho, hv]
 refine CLLD_pure _ (c126m hmx hmx) rfl rfl ?_
 simp (maxSteps := 10000000) (disch := first | assumption | omega) only [go_sem, ↓reduceIte, Nat.reduceEqDiff, reduceCtorEq, Nat.reduceAdd, Nat.reduceMul, Nat.reduceLeDiff, zc, Int.reduceToNat, s0, s1, ho, hv]
 refine FIN_of (by kernel_rfl) ?_
 simp (maxSteps := 10000000) (disch := first | assumption | omega) only [go_sem, ↓reduceIte, Nat.reduceEqDiff, reduceCtorEq, Nat.reduceAdd, Nat.reduceMul, Nat.reduceLeDiff, zc, Int.reduceToNat, s0, s1, ho, hv]
 refine WK_for (fun x st => st.sl 2 = .ptr 4096 (gb 4096 + 1) [] 0 ∧ st.sl 1 = .fn g [.ptr 4096 ua [] 0] ∧ st.sl 4 = .ptr 4112 (gb 4112 + 1) [] 0 ∧ st.sl 5 = .ptr 8336 (gb 8336 + 1) [] 0 ∧ (st.ro 4096 (gb 4096 + 1) = some (.bx [.ref 20512 uo [] 0 O.length, i64 M, .ref 20513 up [] 0 n])) ∧ (st.ro 4112 (gb 4112 + 1) = some (.bx [nilA, i64 0, nilA, nilA])) ∧ (st.ro 8336 (gb 8336 + 1) = some (.bx [.ref 20512 uo [] 0 O.length, i64 M, .ref 20513 up [] 0 n, .ref 8304 (gb 8304 + 1) [] 0 n])) ∧ (st.ro 20512 uo = some (rowL O)) ∧ (st.ro 20513 up = some (cubeA F n)) ∧ (st.ro 4096 ua = some (.bx csa)) ∧ st.sl 19 = i64 (n : Int) ∧ st.sl 20 = i64 (x : Int) ∧ (st.ro 8304 (gb 8304 + 1) = some (matA (pg2 (fun x y => K x y % M) x 0) n n)) ∧ (Frm WBy 0 rb gb st.ro st.gn) ∧ (st.gn 8304 = gb 8304 + 1)) n ?_ ?_ ?_
 ·simp only [↓za, ↓reduceIte, Nat.reduceEqDiff, zb, reduceCtorEq, rws_zero, s0, s1]
  refine ⟨ho, hv, ?_, rfl, congrArg some pg2_0, KQt⟩
  first | exact ha | (rw [if_neg (by omega)]; exact ha)
 ·rintro x sl ro gn hx ⟨s2, s1, s4, s5, fa, fb, fc, fo, fv, fk, s19, s20, fm, fr, fg⟩
  dsimp only at s2 s1 s4 s5 s19 s20
  have hx' : (x : Int) < (n : Nat) := by omega
  dsimp only at fa fb fc fo fv fk fm fr fg
  simp (maxSteps := 10000000) (disch := first | assumption | omega) only [go_sem, ↓reduceIte, Nat.reduceEqDiff, reduceCtorEq, Nat.reduceAdd, Nat.reduceMul, Nat.reduceLeDiff, zc, Int.reduceToNat, s2, s1, s4, s5, s19, s20, hx', hx, fa, fb, fc, fo, fv, fm]
  refine WK_for (fun y st => st.sl 2 = .ptr 4096 (gb 4096 + 1) [] 0 ∧ st.sl 1 = .fn g [.ptr 4096 ua [] 0] ∧ st.sl 4 = .ptr 4112 (gb 4112 + 1) [] 0 ∧ st.sl 5 = .ptr 8336 (gb 8336 + 1) [] 0 ∧ st.sl 19 = i64 (n : Int) ∧ st.sl 20 = i64 (x : Int) ∧ (st.ro 4096 (gb 4096 + 1) = some (.bx [.ref 20512 uo [] 0 O.length, i64 M, .ref 20513 up [] 0 n])) ∧ (st.ro 4112 (gb 4112 + 1) = some (.bx [nilA, i64 0, nilA, nilA])) ∧ (st.ro 8336 (gb 8336 + 1) = some (.bx [.ref 20512 uo [] 0 O.length, i64 M, .ref 20513 up [] 0 n, .ref 8304 (gb 8304 + 1) [] 0 n])) ∧ (st.ro 20512 uo = some (rowL O)) ∧ (st.ro 20513 up = some (cubeA F n)) ∧ (st.ro 4096 ua = some (.bx csa)) ∧ st.sl 6 = i64 (x : Int) ∧ st.sl 25 = i64 (n : Int) ∧ st.sl 26 = i64 (y : Int) ∧ (st.ro 8304 (gb 8304 + 1) = some (matA (pg2 (fun x y => K x y % M) x y) n n)) ∧ (Frm WBy 0 rb gb st.ro st.gn) ∧ (st.gn 8304 = gb 8304 + 1)) n ?_ ?_ ?_
  ·simp only [↓za, ↓reduceIte, Nat.reduceEqDiff, zb, reduceCtorEq, rws_zero, s2, s1, s4, s5, s19, s20, hx', hx]
   exact ⟨fa, fb, fc, fo, fv, fk, rfl, fm, fr, fg⟩
  ·rintro y sl ro gn hy ⟨s2, s1, s4, s5, s19, s20, fa, fb, fc, fo, fv, fk, s6, s25, s26, fm, fr, fg⟩
   dsimp only at s2 s1 s4 s5 s19 s20 s6 s25 s26
   have hy' : (y : Int) < (n : Nat) := by omega
   dsimp only at fa fb fc fo fv fk fm fr fg
   have cr := cRest (o := immL O) (c := immC F n) (T := cubeL F n) (M := M) (z := K x y) (isL_imm O) (isLLL_immC F n) hm (hk x hx y hy)
   simp (maxSteps := 10000000) (disch := first | assumption | omega) only [go_sem, ↓reduceIte, Nat.reduceEqDiff, reduceCtorEq, Nat.reduceAdd, Nat.reduceMul, Nat.reduceLeDiff, zc, Int.reduceToNat, s2, s1, s4, s5, s19, s20, s6, s25, s26, hy', hy, fa, fc, fo, fv, fm, mat_cells fm hx]
   refine CLLD_q _ (hc x hx y hy) (.cons (exq_sc _ _ _ (by decide)) (.cons (exq_sc _ _ _ (by decide)) (exqL_mono (.cons (exq_ptrs (n := 5) fk (ha3 _)) .nil) (by decide)))) rfl rfl ?_
   simp (maxSteps := 10000000) (disch := first | assumption | omega) only [go_sem, ↓reduceIte, Nat.reduceEqDiff, reduceCtorEq, Nat.reduceAdd, Nat.reduceMul, Nat.reduceLeDiff, zc, Int.reduceToNat, s2, s1, s4, s5, s19, s20, s6, s25, s26, hy', hy, fa, fc, fo, fv, fm, fk, ha4, mat_cells fm hx]
   refine CLLD_q _ cr (.cons (exq_agg (.cons (exq_refL fo rfl (by decide)) (.cons (exq_sc _ _ _ (by decide)) (.cons (exq_cube fv (by decide)) .nil)))) (.cons (exq_sc _ _ _ (by decide)) .nil)) rfl rfl ?_
   simp (maxSteps := 10000000) (disch := first | assumption | omega) only [go_sem, ↓reduceIte, Nat.reduceEqDiff, reduceCtorEq, Nat.reduceAdd, Nat.reduceMul, Nat.reduceLeDiff, zc, Int.reduceToNat, s2, s1, s4, s5, s19, s20, s6, s25, s26, hy', hy, fa, fc, fo, fv, fm, fk, ha4, mat_cells fm hx, mat_bx fm hx, mat_wr fm hx hy]
   refine FIN_of (by kernel_rfl) ?_
   simp (maxSteps := 10000000) (disch := first | assumption | omega) only [go_sem, ↓reduceIte, Nat.reduceEqDiff, reduceCtorEq, Nat.reduceAdd, Nat.reduceMul, Nat.reduceLeDiff, zc, Int.reduceToNat, s2, s1, s4, s5, s19, s20, s6, s25, s26, hy', hy]
   exact ⟨fa, fb, fc, fo, fv, fk, i64c (by omega), congrArg some pg2_step, KQt, fg⟩
  ·rintro sl ro gn ⟨s2, s1, s4, s5, s19, s20, fa, fb, fc, fo, fv, fk, s6, s25, s26, fm, fr, fg⟩
   dsimp only at s2 s1 s4 s5 s19 s20 s6 s25 s26
   have hy' : ¬ ((n : Nat) : Int) < (n : Nat) := by omega
   dsimp only at fa fb fc fo fv fk fm fr fg
   simp (maxSteps := 10000000) (disch := first | assumption | omega) only [go_sem, ↓reduceIte, Nat.reduceEqDiff, reduceCtorEq, Nat.reduceAdd, Nat.reduceMul, Nat.reduceLeDiff, zc, Int.reduceToNat, s2, s1, s4, s5, s19, s20, s6, s25, s26, hy', fa, fb, fc, fo, fv, fm]
   exact ⟨fk, i64c (by omega), congrArg some pg2_z, fr, fg⟩
 ·rintro sl ro gn ⟨s2, s1, s4, s5, fa, fb, fc, fo, fv, fk, s19, s20, fm, fr, fg⟩
  dsimp only at s2 s1 s4 s5 s19 s20
  have hx' : ¬ ((n : Nat) : Int) < (n : Nat) := by omega
  dsimp only at fa fb fc fo fv fk fm fr fg
  rw [pg2_n] at fm
  simp (maxSteps := 10000000) (disch := first | assumption | omega) only [go_sem, ↓reduceIte, Nat.reduceEqDiff, reduceCtorEq, Nat.reduceAdd, Nat.reduceMul, Nat.reduceLeDiff, zc, Int.reduceToNat, s2, s1, s4, s5, s19, s20, hx', fa, fb, fc, fo, fv, fm]
  exact RETS_D (Ue s4) (upr_same _ _ _ _) rfl ⟨fr.wr 4112 _ _ (by decide) (by omega), fg, rfl, by simp only [↓za, ↓reduceIte, Nat.reduceEqDiff, zb, reduceCtorEq]; exact fm⟩
set_option maxHeartbeats 8000000 in
theorem sByCob (ho : rb 20528 uo = some (rowL O)) (ho2 : uo ≤ gb 20528) (hv : rb 20529 up = some (cubeA F n)) (hv2 : up ≤ gb 20529) (ha : rb 4096 ua = some (.bx csa)) (ha2 : ua ≤ gb 4096) (ha3 : ∀ ro, exqL 5 ro csa csa) (ha4 : noRefL csa = true) (h16 : n ≤ 16) (hm : 1 ≤ M ∧ M ≤ 1048576)
  (hc : ∀ x, x < n → ∀ y, y < n → CallOK Tryz.prog g [i64 (x : Int), i64 (y : Int), .iptr csa] (i64 (K x y))) (hk : ∀ x, x < n → ∀ y, y < n → -4611686018427387904 < K x y ∧ K x y < 4611686018427387904) :
  InS Tryz.prog 52 [.agg [.ref 20528 uo [] 0 O.length, i64 M, .ref 20529 up [] 0 n], .fn g [.ptr 4096 ua [] 0]] rb gb (fun r ro' gn' => Frm WBy 0 rb gb ro' gn' ∧ RBy 20528 uo 20529 up O.length M n K gb r ro' gn') := by
 have hmx : n ≤ maxN := Nat.le_trans h16 (by decide)
 have n0 : ¬ (8288 = 8304 ∧ (0 : Nat) = 1) := by decide
 refine in_ofS (fn := Tryz.f52) (code := bodyOf Tryz.f52) Tryz.func52 rfl (by kernel_rfl) ?_
 intro sl hs
 have s0 : sl 0 = .agg [.ref 20528 uo [] 0 O.length, i64 M, .ref 20529 up [] 0 n] := hs 0
 have s1 : sl 1 = .fn g [.ptr 4096 ua [] 0] := hs 1
 dsimp only [Tryz.f52, bodyOf, Option.getD]
 simp (maxSteps := 10000000) (disch := first | assumption | omega) only [go_sem, ↓reduceIte, Nat.reduceEqDiff, reduceCtorEq, Nat.reduceAdd, Nat.reduceMul, Nat.reduceLeDiff, zc, Int.reduceToNat, s0, s1, ho, hv]
 refine CLLD_pure _ (c126m hmx hmx) rfl rfl ?_
 simp (maxSteps := 10000000) (disch := first | assumption | omega) only [go_sem, ↓reduceIte, Nat.reduceEqDiff, reduceCtorEq, Nat.reduceAdd, Nat.reduceMul, Nat.reduceLeDiff, zc, Int.reduceToNat, s0, s1, ho, hv]
 refine FIN_of (by kernel_rfl) ?_
 simp (maxSteps := 10000000) (disch := first | assumption | omega) only [go_sem, ↓reduceIte, Nat.reduceEqDiff, reduceCtorEq, Nat.reduceAdd, Nat.reduceMul, Nat.reduceLeDiff, zc, Int.reduceToNat, s0, s1, ho, hv]
 refine WK_for (fun x st => st.sl 2 = .ptr 4096 (gb 4096 + 1) [] 0 ∧ st.sl 1 = .fn g [.ptr 4096 ua [] 0] ∧ st.sl 4 = .ptr 4112 (gb 4112 + 1) [] 0 ∧ st.sl 5 = .ptr 8336 (gb 8336 + 1) [] 0 ∧ (st.ro 4096 (gb 4096 + 1) = some (.bx [.ref 20528 uo [] 0 O.length, i64 M, .ref 20529 up [] 0 n])) ∧ (st.ro 4112 (gb 4112 + 1) = some (.bx [nilA, i64 0, nilA, nilA])) ∧ (st.ro 8336 (gb 8336 + 1) = some (.bx [.ref 20528 uo [] 0 O.length, i64 M, .ref 20529 up [] 0 n, .ref 8304 (gb 8304 + 1) [] 0 n])) ∧ (st.ro 20528 uo = some (rowL O)) ∧ (st.ro 20529 up = some (cubeA F n)) ∧ (st.ro 4096 ua = some (.bx csa)) ∧ st.sl 19 = i64 (n : Int) ∧ st.sl 20 = i64 (x : Int) ∧ (st.ro 8304 (gb 8304 + 1) = some (matA (pg2 (fun x y => K x y % M) x 0) n n)) ∧ (Frm WBy 0 rb gb st.ro st.gn) ∧ (st.gn 8304 = gb 8304 + 1)) n ?_ ?_ ?_
 ·simp only [↓za, ↓reduceIte, Nat.reduceEqDiff, zb, reduceCtorEq, rws_zero, s0, s1]
  refine ⟨ho, hv, ?_, rfl, congrArg some pg2_0, KQt⟩
  first | exact ha | (rw [if_neg (by omega)]; exact ha)
 ·rintro x sl ro gn hx ⟨s2, s1, s4, s5, fa, fb, fc, fo, fv, fk, s19, s20, fm, fr, fg⟩
  dsimp only at s2 s1 s4 s5 s19 s20
  have hx' : (x : Int) < (n : Nat) := by omega
  dsimp only at fa fb fc fo fv fk fm fr fg
  simp (maxSteps := 10000000) (disch := first | assumption | omega) only [go_sem, ↓reduceIte, Nat.reduceEqDiff, reduceCtorEq, Nat.reduceAdd, Nat.reduceMul, Nat.reduceLeDiff, zc, Int.reduceToNat, s2, s1, s4, s5, s19, s20, hx', hx, fa, fb, fc, fo, fv, fm]
  refine WK_for (fun y st => st.sl 2 = .ptr 4096 (gb 4096 + 1) [] 0 ∧ st.sl 1 = .fn g [.ptr 4096 ua [] 0] ∧ st.sl 4 = .ptr 4112 (gb 4112 + 1) [] 0 ∧ st.sl 5 = .ptr 8336 (gb 8336 + 1) [] 0 ∧ st.sl 19 = i64 (n : Int) ∧ st.sl 20 = i64 (x : Int) ∧ (st.ro 4096 (gb 4096 + 1) = some (.bx [.ref 20528 uo [] 0 O.length, i64 M, .ref 20529 up [] 0 n])) ∧ (st.ro 4112 (gb 4112 + 1) = some (.bx [nilA, i64 0, nilA, nilA])) ∧ (st.ro 8336 (gb 8336 + 1) = some (.bx [.ref 20528 uo [] 0 O.length, i64 M, .ref 20529 up [] 0 n, .ref 8304 (gb 8304 + 1) [] 0 n])) ∧ (st.ro 20528 uo = some (rowL O)) ∧ (st.ro 20529 up = some (cubeA F n)) ∧ (st.ro 4096 ua = some (.bx csa)) ∧ st.sl 6 = i64 (x : Int) ∧ st.sl 25 = i64 (n : Int) ∧ st.sl 26 = i64 (y : Int) ∧ (st.ro 8304 (gb 8304 + 1) = some (matA (pg2 (fun x y => K x y % M) x y) n n)) ∧ (Frm WBy 0 rb gb st.ro st.gn) ∧ (st.gn 8304 = gb 8304 + 1)) n ?_ ?_ ?_
  ·simp only [↓za, ↓reduceIte, Nat.reduceEqDiff, zb, reduceCtorEq, rws_zero, s2, s1, s4, s5, s19, s20, hx', hx]
   exact ⟨fa, fb, fc, fo, fv, fk, rfl, fm, fr, fg⟩
  ·rintro y sl ro gn hy ⟨s2, s1, s4, s5, s19, s20, fa, fb, fc, fo, fv, fk, s6, s25, s26, fm, fr, fg⟩
   dsimp only at s2 s1 s4 s5 s19 s20 s6 s25 s26
   have hy' : (y : Int) < (n : Nat) := by omega
   dsimp only at fa fb fc fo fv fk fm fr fg
   have cr := cRest (o := immL O) (c := immC F n) (T := cubeL F n) (M := M) (z := K x y) (isL_imm O) (isLLL_immC F n) hm (hk x hx y hy)
   simp (maxSteps := 10000000) (disch := first | assumption | omega) only [go_sem, ↓reduceIte, Nat.reduceEqDiff, reduceCtorEq, Nat.reduceAdd, Nat.reduceMul, Nat.reduceLeDiff, zc, Int.reduceToNat, s2, s1, s4, s5, s19, s20, s6, s25, s26, hy', hy, fa, fc, fo, fv, fm, mat_cells fm hx]
   refine CLLD_q _ (hc x hx y hy) (.cons (exq_sc _ _ _ (by decide)) (.cons (exq_sc _ _ _ (by decide)) (exqL_mono (.cons (exq_ptrs (n := 5) fk (ha3 _)) .nil) (by decide)))) rfl rfl ?_
   simp (maxSteps := 10000000) (disch := first | assumption | omega) only [go_sem, ↓reduceIte, Nat.reduceEqDiff, reduceCtorEq, Nat.reduceAdd, Nat.reduceMul, Nat.reduceLeDiff, zc, Int.reduceToNat, s2, s1, s4, s5, s19, s20, s6, s25, s26, hy', hy, fa, fc, fo, fv, fm, fk, ha4, mat_cells fm hx]
   refine CLLD_q _ cr (.cons (exq_agg (.cons (exq_refL fo rfl (by decide)) (.cons (exq_sc _ _ _ (by decide)) (.cons (exq_cube fv (by decide)) .nil)))) (.cons (exq_sc _ _ _ (by decide)) .nil)) rfl rfl ?_
   simp (maxSteps := 10000000) (disch := first | assumption | omega) only [go_sem, ↓reduceIte, Nat.reduceEqDiff, reduceCtorEq, Nat.reduceAdd, Nat.reduceMul, Nat.reduceLeDiff, zc, Int.reduceToNat, s2, s1, s4, s5, s19, s20, s6, s25, s26, hy', hy, fa, fc, fo, fv, fm, fk, ha4, mat_cells fm hx, mat_bx fm hx, mat_wr fm hx hy]
   refine FIN_of (by kernel_rfl) ?_
   simp (maxSteps := 10000000) (disch := first | assumption | omega) only [go_sem, ↓reduceIte, Nat.reduceEqDiff, reduceCtorEq, Nat.reduceAdd, Nat.reduceMul, Nat.reduceLeDiff, zc, Int.reduceToNat, s2, s1, s4, s5, s19, s20, s6, s25, s26, hy', hy]
   exact ⟨fa, fb, fc, fo, fv, fk, i64c (by omega), congrArg some pg2_step, KQt, fg⟩
  ·rintro sl ro gn ⟨s2, s1, s4, s5, s19, s20, fa, fb, fc, fo, fv, fk, s6, s25, s26, fm, fr, fg⟩
   dsimp only at s2 s1 s4 s5 s19 s20 s6 s25 s26
   have hy' : ¬ ((n : Nat) : Int) < (n : Nat) := by omega
   dsimp only at fa fb fc fo fv fk fm fr fg
   simp (maxSteps := 10000000) (disch := first | assumption | omega) only [go_sem, ↓reduceIte, Nat.reduceEqDiff, reduceCtorEq, Nat.reduceAdd, Nat.reduceMul, Nat.reduceLeDiff, zc, Int.reduceToNat, s2, s1, s4, s5, s19, s20, s6, s25, s26, hy', fa, fb, fc, fo, fv, fm]
   exact ⟨fk, i64c (by omega), congrArg some pg2_z, fr, fg⟩
 ·rintro sl ro gn ⟨s2, s1, s4, s5, fa, fb, fc, fo, fv, fk, s19, s20, fm, fr, fg⟩
  dsimp only at s2 s1 s4 s5 s19 s20
  have hx' : ¬ ((n : Nat) : Int) < (n : Nat) := by omega
  dsimp only at fa fb fc fo fv fk fm fr fg
  rw [pg2_n] at fm
  simp (maxSteps := 10000000) (disch := first | assumption | omega) only [go_sem, ↓reduceIte, Nat.reduceEqDiff, reduceCtorEq, Nat.reduceAdd, Nat.reduceMul, Nat.reduceLeDiff, zc, Int.reduceToNat, s2, s1, s4, s5, s19, s20, hx', fa, fb, fc, fo, fv, fm]
  exact RETS_D (Ue s4) (upr_same _ _ _ _) rfl ⟨fr.wr 4112 _ _ (by decide) (by omega), fg, rfl, by simp only [↓za, ↓reduceIte, Nat.reduceEqDiff, zb, reduceCtorEq]; exact fm⟩
set_option maxHeartbeats 8000000 in
theorem sByAdd (ho : rb 24640 uo = some (rowL O)) (ho2 : uo ≤ gb 24640) (hv : rb 24641 up = some (cubeA F n)) (hv2 : up ≤ gb 24641) (ha : rb 4096 ua = some (.bx csa)) (ha2 : ua ≤ gb 4096) (ha3 : ∀ ro, exqL 5 ro csa csa) (ha4 : noRefL csa = true) (hb : rb 4112 ub = some (.bx csb)) (hb2 : ub ≤ gb 4112) (hb3 : ∀ ro, exqL 5 ro csb csb) (hb4 : noRefL csb = true) (h16 : n ≤ 16) (hm : 1 ≤ M ∧ M ≤ 1048576)
  (hc : ∀ x, x < n → ∀ y, y < n → CallOK Tryz.prog g [i64 (x : Int), i64 (y : Int), .iptr csa, .iptr csb] (i64 (K x y))) (hk : ∀ x, x < n → ∀ y, y < n → -4611686018427387904 < K x y ∧ K x y < 4611686018427387904) :
  InS Tryz.prog 52 [.agg [.ref 24640 uo [] 0 O.length, i64 M, .ref 24641 up [] 0 n], .fn g [.ptr 4096 ua [] 0, .ptr 4112 ub [] 0]] rb gb (fun r ro' gn' => Frm WBy 0 rb gb ro' gn' ∧ RBy 24640 uo 24641 up O.length M n K gb r ro' gn') := by
 have hmx : n ≤ maxN := Nat.le_trans h16 (by decide)
 have n0 : ¬ (8288 = 8304 ∧ (0 : Nat) = 1) := by decide
 refine in_ofS (fn := Tryz.f52) (code := bodyOf Tryz.f52) Tryz.func52 rfl (by kernel_rfl) ?_
 intro sl hs
 have s0 : sl 0 = .agg [.ref 24640 uo [] 0 O.length, i64 M, .ref 24641 up [] 0 n] := hs 0
 have s1 : sl 1 = .fn g [.ptr 4096 ua [] 0, .ptr 4112 ub [] 0] := hs 1
 dsimp only [Tryz.f52, bodyOf, Option.getD]
 simp (maxSteps := 10000000) (disch := first | assumption | omega) only [go_sem, ↓reduceIte, Nat.reduceEqDiff, reduceCtorEq, Nat.reduceAdd, Nat.reduceMul, Nat.reduceLeDiff, zc, Int.reduceToNat, s0, s1, ho, hv]
 refine CLLD_pure _ (c126m hmx hmx) rfl rfl ?_
 simp (maxSteps := 10000000) (disch := first | assumption | omega) only [go_sem, ↓reduceIte, Nat.reduceEqDiff, reduceCtorEq, Nat.reduceAdd, Nat.reduceMul, Nat.reduceLeDiff, zc, Int.reduceToNat, s0, s1, ho, hv]
 refine FIN_of (by kernel_rfl) ?_
 simp (maxSteps := 10000000) (disch := first | assumption | omega) only [go_sem, ↓reduceIte, Nat.reduceEqDiff, reduceCtorEq, Nat.reduceAdd, Nat.reduceMul, Nat.reduceLeDiff, zc, Int.reduceToNat, s0, s1, ho, hv]
 refine WK_for (fun x st => st.sl 2 = .ptr 4096 (gb 4096 + 1) [] 0 ∧ st.sl 1 = .fn g [.ptr 4096 ua [] 0, .ptr 4112 ub [] 0] ∧ st.sl 4 = .ptr 4112 (gb 4112 + 1) [] 0 ∧ st.sl 5 = .ptr 8336 (gb 8336 + 1) [] 0 ∧ (st.ro 4096 (gb 4096 + 1) = some (.bx [.ref 24640 uo [] 0 O.length, i64 M, .ref 24641 up [] 0 n])) ∧ (st.ro 4112 (gb 4112 + 1) = some (.bx [nilA, i64 0, nilA, nilA])) ∧ (st.ro 8336 (gb 8336 + 1) = some (.bx [.ref 24640 uo [] 0 O.length, i64 M, .ref 24641 up [] 0 n, .ref 8304 (gb 8304 + 1) [] 0 n])) ∧ (st.ro 24640 uo = some (rowL O)) ∧ (st.ro 24641 up = some (cubeA F n)) ∧ (st.ro 4096 ua = some (.bx csa)) ∧ (st.ro 4112 ub = some (.bx csb)) ∧ st.sl 19 = i64 (n : Int) ∧ st.sl 20 = i64 (x : Int) ∧ (st.ro 8304 (gb 8304 + 1) = some (matA (pg2 (fun x y => K x y % M) x 0) n n)) ∧ (Frm WBy 0 rb gb st.ro st.gn) ∧ (st.gn 8304 = gb 8304 + 1)) n ?_ ?_ ?_
 ·simp only [↓za, ↓reduceIte, Nat.reduceEqDiff, zb, reduceCtorEq, rws_zero, s0, s1]
  refine ⟨ho, hv, ?_, ?_, rfl, congrArg some pg2_0, KQt⟩
  ·first | exact ha | (rw [if_neg (by omega)]; exact ha)
  ·first | exact hb | (rw [if_neg (by omega)]; exact hb)
 ·rintro x sl ro gn hx ⟨s2, s1, s4, s5, fa, fb, fc, fo, fv, fk, fk2, s19, s20, fm, fr, fg⟩
  dsimp only at s2 s1 s4 s5 s19 s20
  have hx' : (x : Int) < (n : Nat) := by omega
  dsimp only at fa fb fc fo fv fk fk2 fm fr fg
  simp (maxSteps := 10000000) (disch := first | assumption | omega) only [go_sem, ↓reduceIte, Nat.reduceEqDiff, reduceCtorEq, Nat.reduceAdd, Nat.reduceMul, Nat.reduceLeDiff, zc, Int.reduceToNat, s2, s1, s4, s5, s19, s20, hx', hx, fa, fb, fc, fo, fv, fm]
  refine WK_for (fun y st => st.sl 2 = .ptr 4096 (gb 4096 + 1) [] 0 ∧ st.sl 1 = .fn g [.ptr 4096 ua [] 0, .ptr 4112 ub [] 0] ∧ st.sl 4 = .ptr 4112 (gb 4112 + 1) [] 0 ∧ st.sl 5 = .ptr 8336 (gb 8336 + 1) [] 0 ∧ st.sl 19 = i64 (n : Int) ∧ st.sl 20 = i64 (x : Int) ∧ (st.ro 4096 (gb 4096 + 1) = some (.bx [.ref 24640 uo [] 0 O.length, i64 M, .ref 24641 up [] 0 n])) ∧ (st.ro 4112 (gb 4112 + 1) = some (.bx [nilA, i64 0, nilA, nilA])) ∧ (st.ro 8336 (gb 8336 + 1) = some (.bx [.ref 24640 uo [] 0 O.length, i64 M, .ref 24641 up [] 0 n, .ref 8304 (gb 8304 + 1) [] 0 n])) ∧ (st.ro 24640 uo = some (rowL O)) ∧ (st.ro 24641 up = some (cubeA F n)) ∧ (st.ro 4096 ua = some (.bx csa)) ∧ (st.ro 4112 ub = some (.bx csb)) ∧ st.sl 6 = i64 (x : Int) ∧ st.sl 25 = i64 (n : Int) ∧ st.sl 26 = i64 (y : Int) ∧ (st.ro 8304 (gb 8304 + 1) = some (matA (pg2 (fun x y => K x y % M) x y) n n)) ∧ (Frm WBy 0 rb gb st.ro st.gn) ∧ (st.gn 8304 = gb 8304 + 1)) n ?_ ?_ ?_
  ·simp only [↓za, ↓reduceIte, Nat.reduceEqDiff, zb, reduceCtorEq, rws_zero, s2, s1, s4, s5, s19, s20, hx', hx]
   exact ⟨fa, fb, fc, fo, fv, fk, fk2, rfl, fm, fr, fg⟩
  ·rintro y sl ro gn hy ⟨s2, s1, s4, s5, s19, s20, fa, fb, fc, fo, fv, fk, fk2, s6, s25, s26, fm, fr, fg⟩
   dsimp only at s2 s1 s4 s5 s19 s20 s6 s25 s26
   have hy' : (y : Int) < (n : Nat) := by omega
   dsimp only at fa fb fc fo fv fk fk2 fm fr fg
   have cr := cRest (o := immL O) (c := immC F n) (T := cubeL F n) (M := M) (z := K x y) (isL_imm O) (isLLL_immC F n) hm (hk x hx y hy)
   simp (maxSteps := 10000000) (disch := first | assumption | omega) only [go_sem, ↓reduceIte, Nat.reduceEqDiff, reduceCtorEq, Nat.reduceAdd, Nat.reduceMul, Nat.reduceLeDiff, zc, Int.reduceToNat, s2, s1, s4, s5, s19, s20, s6, s25, s26, hy', hy, fa, fc, fo, fv, fm, mat_cells fm hx]
   refine CLLD_q _ (hc x hx y hy) (.cons (exq_sc _ _ _ (by decide)) (.cons (exq_sc _ _ _ (by decide)) (exqL_mono (.cons (exq_ptrs (n := 5) fk (ha3 _)) (.cons (exq_ptrs (n := 5) fk2 (hb3 _)) .nil)) (by decide)))) rfl rfl ?_
   simp (maxSteps := 10000000) (disch := first | assumption | omega) only [go_sem, ↓reduceIte, Nat.reduceEqDiff, reduceCtorEq, Nat.reduceAdd, Nat.reduceMul, Nat.reduceLeDiff, zc, Int.reduceToNat, s2, s1, s4, s5, s19, s20, s6, s25, s26, hy', hy, fa, fc, fo, fv, fm, fk, fk2, ha4, hb4, mat_cells fm hx]
   refine CLLD_q _ cr (.cons (exq_agg (.cons (exq_refL fo rfl (by decide)) (.cons (exq_sc _ _ _ (by decide)) (.cons (exq_cube fv (by decide)) .nil)))) (.cons (exq_sc _ _ _ (by decide)) .nil)) rfl rfl ?_
   simp (maxSteps := 10000000) (disch := first | assumption | omega) only [go_sem, ↓reduceIte, Nat.reduceEqDiff, reduceCtorEq, Nat.reduceAdd, Nat.reduceMul, Nat.reduceLeDiff, zc, Int.reduceToNat, s2, s1, s4, s5, s19, s20, s6, s25, s26, hy', hy, fa, fc, fo, fv, fm, fk, fk2, ha4, hb4, mat_cells fm hx, mat_bx fm hx, mat_wr fm hx hy]
   refine FIN_of (by kernel_rfl) ?_
   simp (maxSteps := 10000000) (disch := first | assumption | omega) only [go_sem, ↓reduceIte, Nat.reduceEqDiff, reduceCtorEq, Nat.reduceAdd, Nat.reduceMul, Nat.reduceLeDiff, zc, Int.reduceToNat, s2, s1, s4, s5, s19, s20, s6, s25, s26, hy', hy]
   exact ⟨fa, fb, fc, fo, fv, fk, fk2, i64c (by omega), congrArg some pg2_step, KQt, fg⟩
  ·rintro sl ro gn ⟨s2, s1, s4, s5, s19, s20, fa, fb, fc, fo, fv, fk, fk2, s6, s25, s26, fm, fr, fg⟩
   dsimp only at s2 s1 s4 s5 s19 s20 s6 s25 s26
   have hy' : ¬ ((n : Nat) : Int) < (n : Nat) := by omega
   dsimp only at fa fb fc fo fv fk fk2 fm fr fg
   simp (maxSteps := 10000000) (disch := first | assumption | omega) only [go_sem, ↓reduceIte, Nat.reduceEqDiff, reduceCtorEq, Nat.reduceAdd, Nat.reduceMul, Nat.reduceLeDiff, zc, Int.reduceToNat, s2, s1, s4, s5, s19, s20, s6, s25, s26, hy', fa, fb, fc, fo, fv, fm]
   exact ⟨fk, fk2, i64c (by omega), congrArg some pg2_z, fr, fg⟩
 ·rintro sl ro gn ⟨s2, s1, s4, s5, fa, fb, fc, fo, fv, fk, fk2, s19, s20, fm, fr, fg⟩
  dsimp only at s2 s1 s4 s5 s19 s20
  have hx' : ¬ ((n : Nat) : Int) < (n : Nat) := by omega
  dsimp only at fa fb fc fo fv fk fk2 fm fr fg
  rw [pg2_n] at fm
  simp (maxSteps := 10000000) (disch := first | assumption | omega) only [go_sem, ↓reduceIte, Nat.reduceEqDiff, reduceCtorEq, Nat.reduceAdd, Nat.reduceMul, Nat.reduceLeDiff, zc, Int.reduceToNat, s2, s1, s4, s5, s19, s20, hx', fa, fb, fc, fo, fv, fm]
  exact RETS_D (Ue s4) (upr_same _ _ _ _) rfl ⟨fr.wr 4112 _ _ (by decide) (by omega), fg, rfl, by simp only [↓za, ↓reduceIte, Nat.reduceEqDiff, zb, reduceCtorEq]; exact fm⟩
end
end Go.Proofs.YthpmddoakefbmaaGreat
