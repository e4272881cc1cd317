/- Texts joined: QP QQ QS QT. -/
import Derived.Test.YtmchdjiigfiabaaGreatOe
import Derived.Test.YtmchdjiigfiabaaGreatOg
set_option linter.all false
/- Cocycles and braidings by functions (program). -/
namespace Go.Proofs.YtmchdjiigfiabaaGreat
open Go.RowKit
set_option maxRecDepth 1000000
theorem cClo {xs : List Int} (hx : xs.length ≤ maxN) : CallOK Tryz.prog 89 [immL xs] (rowL xs) := by
 have hx' : 0 + xs.length ≤ 4294967296 := by have : xs.length ≤ 4294967296 := hx; omega
 have hall : (xs.map i64).all zez = true := List.all_eq_true.2 fun x hx => by obtain ⟨y, -, rfl⟩ := List.mem_map.1 hx; rfl
 refine call_of (fn := Tryz.f89) (code := bodyOf Tryz.f89) Tryz.func89 rfl (by kernel_rfl) (noRef_rowL _) ?_
 intro sl hs
 have s0 : sl 0 = immL xs := hs 0
 dsimp only [Tryz.f89, bodyOf, Option.getD]
 simp (maxSteps := 10000000) (disch := first | assumption | omega) only [go_sem, ↓reduceIte, Nat.reduceEqDiff, reduceCtorEq, Nat.reduceAdd, Nat.reduceMul, Nat.reduceLeDiff, zc, Int.reduceToNat, s0, hall, List.length_map, hx']
 exact Yad
abbrev cubeX (F : Nat → Nat → Nat → Int) (k n : Nat) : AV := .row (rws (fun i => .row (rws (fun j => .row (rws (fun z => i64 (F i j z)) n)) n)) k)
abbrev immCX (F : Nat → Nat → Nat → Int) (k n : Nat) : AV := .imm (rws (fun i => .imm (rws (fun j => .imm (rws (fun z => i64 (F i j z)) n)) n)) k)
theorem isLLL_immCX (F : Nat → Nat → Nat → Int) (k n : Nat) : isLLL (immCX F k n) (rws (fun i => rws (fun j => rws (fun z => F i j z) n) n) k) := by
 refine .inl ⟨_, rfl, isLLs_rws (fun i => .inl ⟨_, rfl, isLs_rws (fun j => .inl ?_) _⟩) _⟩
 simp only [rws, List.map_map]; rfl
theorem exq_cubeX {N : Nat} {ro : Ro} {s g k n : Nat} {F : Nat → Nat → Nat → Int} (h : ro s g = some (cubeX F k n)) (hn : 4 ≤ N) : exq N ro (.ref s g [] 0 k) (immCX F k n) := by
 refine ⟨fun j hj => ?_, fun hp => by simp [pureA] at hp⟩
 obtain ⟨j, rfl⟩ : ∃ i, j = i + 4 := ⟨j - 4, by omega⟩
 show (match ro.cells s g [] with | some cs => AV.imm (((cs.drop 0).take k).map (ex ro (j + 3))) | none => .dead) = _
 rw [zef, h]
 simp only [zeh, List.drop_zero, zff, rws_map, immCX]
 refine congrArg AV.imm (rws_congr fun x _ => ?_)
 show AV.imm ((rws (fun j => AV.row (rws (fun k => i64 (F x j k)) n)) n).map (ex ro (j + 2))) = _
 rw [rws_map]
 refine congrArg AV.imm (rws_congr fun y _ => ?_)
 show AV.imm ((rws (fun k => i64 (F x y k)) n).map (ex ro (j + 1))) = _
 rw [rws_map]
 rfl
def pg2 (K : Nat → Nat → Int) (y z : Nat) (i j : Nat) : Int := if i < y ∨ (i = y ∧ j < z) then K i j else 0
theorem pg2_0 {K : Nat → Nat → Int} {n : Nat} : matA (fun _ _ => 0) n n = matA (pg2 K 0 0) n n := mat_congr fun i j _ _ => by simp [pg2]
theorem pg2_z {K : Nat → Nat → Int} {y n : Nat} : matA (pg2 K y n) n n = matA (pg2 K (y + 1) 0) n n := mat_congr fun i j _ hj => by
 have e : (i < y ∨ (i = y ∧ j < n)) ↔ (i < y + 1 ∨ (i = y + 1 ∧ j < 0)) := by omega
 simp only [pg2, e]
theorem pg2_n {K : Nat → Nat → Int} {n : Nat} : matA (pg2 K n 0) n n = matA K n n := mat_congr fun i j hi _ => by simp [pg2, hi]
theorem pg2_step {K : Nat → Nat → Int} {y z n : Nat} : matA (upd2 (pg2 K y z) y z (K y z)) n n = matA (pg2 K y (z + 1)) n n := mat_congr fun i j _ _ => by
 by_cases h : i = y ∧ j = z
 ·obtain ⟨rfl, rfl⟩ := h
  simp [upd2, pg2]
 ·have e : (i < y ∨ (i = y ∧ j < z)) ↔ (i < y ∨ (i = y ∧ j < z + 1)) := by omega
  simp only [upd2, if_neg h, pg2, e]
theorem nrL_cubX (F : Nat → Nat → Nat → Int) (k n : Nat) : noRefL (rws (fun i => .row (rws (fun j => .row (rws (fun z => i64 (F i j z)) n)) n)) k) = true := noRefL_rws _ _ fun _ => noRef_row _ (noRefL_rws _ _ fun _ => noRef_row _ (noRefL_rws _ _ fun _ => rfl))
attribute [go_sem] nrL_cubX
section
variable {o c v : AV} {O : List Int} {M : Int} {n : Nat}
set_option maxHeartbeats 8000000 in
theorem cCocBy {g : Nat} {caps : List AV} {H : Nat → Nat → Nat → Int} (ho : isL o O) (hO : O.length ≤ maxN) (hn : gs5 O = (n : Int)) (h1 : 1 ≤ n) (h16 : n ≤ 16) (hm : 1 ≤ M ∧ M ≤ 1048576) (hi : XX.isIn g = false) (hcp : pureL caps = true)
  (hc : ∀ x, x < n → ∀ y, y < n → ∀ z, z < n → CallOK Tryz.prog g (i64 (x : Int) :: i64 (y : Int) :: i64 (z : Int) :: caps) (i64 (H x y z))) (hb : ∀ x, x < n → ∀ y, y < n → ∀ z, z < n → -4611686018427387904 < H x y z ∧ H x y z < 4611686018427387904) :
  CallOK Tryz.prog 56 [o, i64 M, .fn g caps] (.agg [rowL O, i64 M, cubeA (fun x y z => H x y z % M) n]) := by
 have hmx : n ≤ maxN := Nat.le_trans h16 (by decide)
 have hP := (gs5_of (O := O) (by omega) (by omega)).1
 have cg := cGs ho hO
 rw [hn] at cg
 obtain rfl := isL_ne ho hP.1
 refine call_of (fn := Tryz.f56) (code := bodyOf Tryz.f56) Tryz.func56 rfl (by kernel_rfl) (noRef_cc _ _ _ _) ?_
 intro sl hs
 have s0 : sl 0 = immL O := hs 0
 have s1 : sl 1 = i64 M := hs 1
 have s2 : sl 2 = .fn g caps := hs 2
 dsimp only [Tryz.f56, bodyOf, Option.getD]
 refine Yae ?_
 refine CLL_pure _ (cClo hO) PUt rfl rfl ?_
 refine Yae ?_
 refine CLL_pure _ cg PUt rfl rfl ?_
 refine Yae ?_
 refine WK_for (fun x st => st.sl 2 = .fn g caps ∧ st.sl 8 = i64 (n : Int) ∧ st.sl 7 = .ptr 8288 1 [] 0 ∧ st.ro 8208 1 = some (rowL O) ∧ st.sl 19 = i64 (n : Int) ∧ st.sl 20 = i64 (x : Int) ∧ st.sl 6 = .ptr 4096 1 [] 0 ∧ st.ro 4096 1 = some (.bx [nilA, i64 0, nilA]) ∧ ((x = 0 ∧ st.ro 8288 1 = some (.bx [.ref 8208 1 [] 0 O.length, i64 M, nilA])) ∨ (0 < x ∧ st.ro 8288 1 = some (.bx [.ref 8208 1 [] 0 O.length, i64 M, .ref 65600 (st.gn 65600) [] 0 x]) ∧ st.ro 65600 (st.gn 65600) = some (cubeX (fun x y z => H x y z % M) x n)))) n ?_ ?_ ?_
 ·refine Ybv ?_
  exact ⟨rfl, .inl trivial⟩
 ·rintro x sl ro gn hx ⟨s2, s8, s7, r8208, s19, s20, s6, r4096, q⟩
  dsimp only at s2 s8 s7 r8208 s19 s20 s6 r4096
  have hx' : (x : Int) < (n : Nat) := by omega
  try dsimp only at q
  simp (maxSteps := 10000000) (disch := first | assumption | omega) only [go_sem, ↓reduceIte, Nat.reduceEqDiff, reduceCtorEq, Nat.reduceAdd, Nat.reduceMul, Nat.reduceLeDiff, zc, Int.reduceToNat, s2, s8, s7, r8208, s19, s20, s6, r4096, hx', hx]
  refine CLL_pure _ (c126m hmx hmx) rfl rfl rfl ?_
  simp (maxSteps := 10000000) (disch := first | assumption | omega) only [go_sem, ↓reduceIte, Nat.reduceEqDiff, reduceCtorEq, Nat.reduceAdd, Nat.reduceMul, Nat.reduceLeDiff, zc, Int.reduceToNat, s2, s8, s7, r8208, s19, s20, s6, r4096, hx', hx]
  refine WK_for (fun y st => st.sl 2 = .fn g caps ∧ st.sl 8 = i64 (n : Int) ∧ st.sl 7 = .ptr 8288 1 [] 0 ∧ st.ro 8208 1 = some (rowL O) ∧ st.sl 19 = i64 (n : Int) ∧ st.sl 20 = i64 (x : Int) ∧ st.sl 6 = .ptr 4096 1 [] 0 ∧ st.ro 4096 1 = some (.bx [nilA, i64 0, nilA]) ∧ st.sl 9 = i64 (x : Int) ∧ st.sl 10 = .ref 24608 (st.gn 24608) [] 0 n ∧ st.ro 24608 (st.gn 24608) = some (matA (pg2 (fun y z => H x y z % M) y 0) n n) ∧ st.sl 26 = i64 (n : Int) ∧ st.sl 27 = i64 (y : Int) ∧ ((x = 0 ∧ st.ro 8288 1 = some (.bx [.ref 8208 1 [] 0 O.length, i64 M, nilA])) ∨ (0 < x ∧ st.ro 8288 1 = some (.bx [.ref 8208 1 [] 0 O.length, i64 M, .ref 65600 (st.gn 65600) [] 0 x]) ∧ st.ro 65600 (st.gn 65600) = some (cubeX (fun x y z => H x y z % M) x n)))) n ?_ ?_ ?_
  ·simp only [↓za, ↓reduceIte, Nat.reduceEqDiff, zb, reduceCtorEq, rws_zero, s2, s8, s7, r8208, s19, s20, s6, r4096, hx', hx]
   exact ⟨congrArg some pg2_0, rfl, q⟩
  ·rintro y sl ro gn hy ⟨s2, s8, s7, r8208, s19, s20, s6, r4096, s9, s10, r24608, s26, s27, q⟩
   dsimp only at s2 s8 s7 r8208 s19 s20 s6 r4096 s9 s10 r24608 s26 s27
   have hy' : (y : Int) < (n : Nat) := by omega
   try dsimp only at q
   simp (maxSteps := 10000000) (disch := first | assumption | omega) only [go_sem, ↓reduceIte, Nat.reduceEqDiff, reduceCtorEq, Nat.reduceAdd, Nat.reduceMul, Nat.reduceLeDiff, zc, Int.reduceToNat, s2, s8, s7, r8208, s19, s20, s6, r4096, s9, s10, r24608, s26, s27, hy', hy]
   refine WK_for (fun z st => st.sl 2 = .fn g caps ∧ st.sl 8 = i64 (n : Int) ∧ st.sl 7 = .ptr 8288 1 [] 0 ∧ st.ro 8208 1 = some (rowL O) ∧ st.sl 19 = i64 (n : Int) ∧ st.sl 20 = i64 (x : Int) ∧ st.sl 6 = .ptr 4096 1 [] 0 ∧ st.ro 4096 1 = some (.bx [nilA, i64 0, nilA]) ∧ st.sl 9 = i64 (x : Int) ∧ st.sl 10 = .ref 24608 (st.gn 24608) [] 0 n ∧ st.sl 26 = i64 (n : Int) ∧ st.sl 27 = i64 (y : Int) ∧ st.sl 11 = i64 (y : Int) ∧ st.ro 24608 (st.gn 24608) = some (matA (pg2 (fun y z => H x y z % M) y z) n n) ∧ st.sl 30 = i64 (n : Int) ∧ st.sl 31 = i64 (z : Int) ∧ ((x = 0 ∧ st.ro 8288 1 = some (.bx [.ref 8208 1 [] 0 O.length, i64 M, nilA])) ∨ (0 < x ∧ st.ro 8288 1 = some (.bx [.ref 8208 1 [] 0 O.length, i64 M, .ref 65600 (st.gn 65600) [] 0 x]) ∧ st.ro 65600 (st.gn 65600) = some (cubeX (fun x y z => H x y z % M) x n)))) n ?_ ?_ ?_
   ·simp only [↓za, ↓reduceIte, Nat.reduceEqDiff, zb, reduceCtorEq, rws_zero, s2, s8, s7, r8208, s19, s20, s6, r4096, s9, s10, r24608, s26, s27, hy', hy]
    exact ⟨rfl, q⟩
   ·rintro z sl ro gn hz ⟨s2, s8, s7, r8208, s19, s20, s6, r4096, s9, s10, s26, s27, s11, r24608, s30, s31, q⟩
    dsimp only at s2 s8 s7 r8208 s19 s20 s6 r4096 s9 s10 s26 s27 s11 r24608 s30 s31
    have hz' : (z : Int) < (n : Nat) := by omega
    try dsimp only at q
    have hb' := hb x hx y hy z hz
    have hh := hc x hx y hy z hz
    rcases q with ⟨hx0, q2⟩ | ⟨hx0, q2, q3⟩
    ·have cr := cRest (o := immL O) (c := nilA) (T := []) (M := M) (z := H x y z) (isL_imm O) (.inr ⟨rfl, rfl⟩) hm hb'
     refine Ycq ?_
     refine CLLD_pure _ hh (by simp only [List.cons_append, List.nil_append, pureL, pureA, hcp, Bool.and_self]) rfl ?_
     refine Ycq ?_
     refine CLLD_q _ cr (.cons (exq_agg (.cons (exq_refL r8208 rfl (by decide)) (.cons (exq_sc _ _ _ (by decide)) (.cons (exq_sc _ _ _ (by decide)) .nil)))) (.cons (exq_sc _ _ _ (by decide)) .nil)) rfl rfl ?_
     simp (maxSteps := 10000000) (disch := first | assumption | omega) only [go_sem, ↓reduceIte, Nat.reduceEqDiff, reduceCtorEq, Nat.reduceAdd, Nat.reduceMul, Nat.reduceLeDiff, zc, Int.reduceToNat, s2, s8, s7, r8208, s19, s20, s6, r4096, s9, s10, s26, s27, s11, r24608, s30, s31, hz', hz, q2, mat_cells r24608 hy, mat_bx r24608 hy, mat_wr r24608 hy hz]
     refine FIN_of (by kernel_rfl) ?_
     refine Yda ?_
     exact ⟨congrArg some pg2_step, i64c (by omega), .inl ⟨hx0, q2⟩⟩
    ·have cr := cRest (o := immL O) (c := immCX (fun x y z => H x y z % M) x n) (M := M) (z := H x y z) (isL_imm O) (isLLL_immCX _ _ _) hm hb'
     refine Ycp ?_
     refine CLLD_pure _ hh (by simp only [List.cons_append, List.nil_append, pureL, pureA, hcp, Bool.and_self]) rfl ?_
     refine Ycp ?_
     refine CLLD_q _ cr (.cons (exq_agg (.cons (exq_refL r8208 rfl (by decide)) (.cons (exq_sc _ _ _ (by decide)) (.cons (exq_cubeX q3 (by decide)) .nil)))) (.cons (exq_sc _ _ _ (by decide)) .nil)) rfl rfl ?_
     simp (maxSteps := 10000000) (disch := first | assumption | omega) only [go_sem, ↓reduceIte, Nat.reduceEqDiff, reduceCtorEq, Nat.reduceAdd, Nat.reduceMul, Nat.reduceLeDiff, zc, Int.reduceToNat, s2, s8, s7, r8208, s19, s20, s6, r4096, s9, s10, s26, s27, s11, r24608, s30, s31, hz', hz, q2, q3, mat_cells r24608 hy, mat_bx r24608 hy, mat_wr r24608 hy hz]
     refine FIN_of (by kernel_rfl) ?_
     refine Yda ?_
     exact ⟨congrArg some pg2_step, i64c (by omega), .inr ⟨hx0, q2, q3⟩⟩
   ·rintro sl ro gn ⟨s2, s8, s7, r8208, s19, s20, s6, r4096, s9, s10, s26, s27, s11, r24608, s30, s31, q⟩
    dsimp only at s2 s8 s7 r8208 s19 s20 s6 r4096 s9 s10 s26 s27 s11 r24608 s30 s31
    have hz' : ¬ ((n : Nat) : Int) < (n : Nat) := by omega
    try dsimp only at q
    simp (maxSteps := 10000000) (disch := first | assumption | omega) only [go_sem, ↓reduceIte, Nat.reduceEqDiff, reduceCtorEq, Nat.reduceAdd, Nat.reduceMul, Nat.reduceLeDiff, zc, Int.reduceToNat, s2, s8, s7, r8208, s19, s20, s6, r4096, s9, s10, s26, s27, s11, r24608, s30, s31, hz']
    exact ⟨congrArg some pg2_z, i64c (by omega), q⟩
  ·rintro sl ro gn ⟨s2, s8, s7, r8208, s19, s20, s6, r4096, s9, s10, r24608, s26, s27, q⟩
   dsimp only at s2 s8 s7 r8208 s19 s20 s6 r4096 s9 s10 r24608 s26 s27
   have hy' : ¬ ((n : Nat) : Int) < (n : Nat) := by omega
   try dsimp only at q
   rw [pg2_n] at r24608
   have hx2 : x + 1 ≤ 4294967296 := by omega
   rcases q with ⟨hx0, q2⟩ | ⟨hx0, q2, q3⟩
   ·subst hx0
    simp (maxSteps := 10000000) (disch := first | assumption | omega) only [go_sem, ↓reduceIte, Nat.reduceEqDiff, reduceCtorEq, Nat.reduceAdd, Nat.reduceMul, Nat.reduceLeDiff, zc, Int.reduceToNat, s2, s8, s7, r8208, s19, s20, s6, r4096, s9, s10, r24608, s26, s27, hy', q2, hx2]
    exact ⟨i64c (by omega), .inr rfl⟩
   ·simp (maxSteps := 10000000) (disch := first | assumption | omega) only [go_sem, ↓reduceIte, Nat.reduceEqDiff, reduceCtorEq, Nat.reduceAdd, Nat.reduceMul, Nat.reduceLeDiff, zc, Int.reduceToNat, s2, s8, s7, r8208, s19, s20, s6, r4096, s9, s10, r24608, s26, s27, hy', q2, q3, hx2]
    exact ⟨i64c (by omega), .inr trivial⟩
 ·rintro sl ro gn ⟨s2, s8, s7, r8208, s19, s20, s6, r4096, q⟩
  dsimp only at s2 s8 s7 r8208 s19 s20 s6 r4096
  have hx' : ¬ ((n : Nat) : Int) < (n : Nat) := by omega
  try dsimp only at q
  rcases q with ⟨hx0, q2⟩ | ⟨hx0, q2, q3⟩
  ·omega
  ·simp (maxSteps := 10000000) (disch := first | assumption | omega) only [go_sem, ↓reduceIte, Nat.reduceEqDiff, reduceCtorEq, Nat.reduceAdd, Nat.reduceMul, Nat.reduceLeDiff, zc, Int.reduceToNat, s2, s8, s7, r8208, s19, s20, s6, r4096, hx', q2, q3]
   simp only [zr, zb, retR, resL, outT, outL, zes, zez, oneV, zcp, zed, zfi, Ro.dl, St.ev, zhk, ↓za, ↓reduceIte, Nat.reduceEqDiff, Nat.reduceAdd, Nat.reduceLeDiff, tiC, s6, q2, q3, r8208]
end
end Go.Proofs.YtmchdjiigfiabaaGreat
/- Copies, sums and coboundaries of cocycles (program). -/
namespace Go.Proofs.YtmchdjiigfiabaaGreat
open Go.RowKit
set_option maxRecDepth 1000000
section
variable {o c v o' c' v' : AV} {O O' : List Int} {M M' : Int} {F F' : Nat → Nat → Nat → Int} {n : Nat} {G G' : Nat → Nat → Int}
theorem ShC.gs (h : ShC O M F n) : gs5 O = (n : Int) := by
 have e := h.e
 have := h.n8
 rw [gs5_eq h.o (by omega)]; omega
theorem cl107 (ho : isL o O) (hc : isLLL c (cubeL F n)) {x y z : Nat} (hx : x < n) (hy : y < n) (hz : z < n) : CallOK Tryz.prog 57 [i64 (x : Int), i64 (y : Int), i64 (z : Int), .iptr [o, i64 M, c]] (i64 (F x y z)) := by
 have lX : (cubeL F n).length = n := zfe _ _
 have ix := isLLL_mat hc (k := x) (by omega)
 have mx := cube_row F hx
 have ixy := isLL_row ix (k := y) (by omega)
 have mxy := cube_rr F hx hy
 have v1 : atI (row (mat (cubeL F n) x) y) z = F x y z := at3_cube hx hy hz
 refine call_of (fn := Tryz.f57) (code := bodyOf Tryz.f57) Tryz.func57 rfl (by kernel_rfl) (rfl) ?_
 intro sl hs
 have s0 : sl 0 = i64 (x : Int) := hs 0
 have s1 : sl 1 = i64 (y : Int) := hs 1
 have s2 : sl 2 = i64 (z : Int) := hs 2
 have s3 : sl 3 = .iptr [o, i64 M, c] := hs 3
 dsimp only [Tryz.f57, bodyOf, Option.getD]
 simp (maxSteps := 10000000) (disch := first | assumption | omega) only [go_sem, ↓reduceIte, Nat.reduceEqDiff, reduceCtorEq, Nat.reduceAdd, Nat.reduceMul, Nat.reduceLeDiff, zc, Int.reduceToNat, s0, s1, s2, s3, lX, mx, mxy, v1]
 exact Yad
theorem cCopyC (ho : isL o O) (hO : O.length ≤ 6) (hc : isLLL c (cubeL F n)) (hs : ShC O M F n) : CallOK Tryz.prog 25 [.agg [o, i64 M, c]] (.agg [rowL O, i64 M, cubeA F n]) := by
 have hm := hs.m
 have hb := hs.b
 have n8 := hs.n8
 have hp := hs.pos
 have cc := cCocBy (g := 57) (caps := [.iptr [o, i64 M, c]]) (H := F) (M := M) ho (Nat.le_trans hO (by decide)) hs.gs hp (by omega) (by omega) rfl (by simp only [pureL, pureA, isL_pure ho, isLLL_pure hc, Bool.and_self]) (fun x hx y hy z hz => cl107 (M := M) ho hc hx hy hz) (fun x hx y hy z hz => by have := hb x hx y hy z hz; omega)
 rw [show cubeA (fun x y z => F x y z % M) n = cubeA F n from cube_congr fun x y z hx hy hz => Int.emod_eq_of_lt (hb x hx y hy z hz).1 (by have := hb x hx y hy z hz; omega)] at cc
 refine call_of (fn := Tryz.f25) (code := bodyOf Tryz.f25) Tryz.func25 rfl (by kernel_rfl) (noRef_cc _ _ _ _) ?_
 intro sl hs
 have s0 : sl 0 = .agg [o, i64 M, c] := hs 0
 dsimp only [Tryz.f25, bodyOf, Option.getD]
 refine Yaa ?_
 refine CLL_q _ cc (.cons (exq_L ho (by decide)) (.cons (exq_sc _ _ _ (by decide)) (.cons (exq_fn (.cons (exq_ptrs (n := 6) Ur (.cons (exq_L ho (by decide)) (.cons (exq_sc _ _ _ (by decide)) (.cons (exq_LLL hc (by decide)) .nil)))) .nil)) .nil))) rfl rfl (noI_cc _ _ _ _) ?_
 refine Yaa ?_
 simp only [zr, zb, retR, resL, outT, outL, zes, zez, oneV, zcp, zed, zfi, Ro.dl, St.ev, zhk, ↓za, ↓reduceIte, Nat.reduceEqDiff, Nat.reduceAdd, Nat.reduceLeDiff, tiC]
end
end Go.Proofs.YtmchdjiigfiabaaGreat
/- Braidings that the reference makes. -/
namespace Go.Proofs.YtmchdjiigfiabaaGreat
open Go.RowKit
set_option maxRecDepth 1000000
theorem impE_tupBr (b : Nat) (gn : Nat → Nat) (xs ys zs : List AV) (m v : Value) : impE b gn (.tup [.agg [.row xs, .sc m, .row ys, .row zs], .sc v]) = ⟨.tup [.agg [.ref b (gn b + 1) [] 0 xs.length, .sc m, .ref (b + 1) (gn (b + 1) + 1) [] 0 ys.length, .ref (b + 2) (gn (b + 2) + 1) [] 0 zs.length], .sc v], none, [], [(b, .row xs), (b + 1, .row ys), (b + 2, .row zs)]⟩ := nr _
theorem impE_tupNB (b : Nat) (gn : Nat → Nat) (x y z w v : Value) : impE b gn (.tup [.agg [.sc x, .sc y, .sc z, .sc w], .sc v]) = ⟨.tup [.agg [.sc x, .sc y, .sc z, .sc w], .sc v], none, [], []⟩ := nr _
attribute [go_sem] impE_tupBr impE_tupNB
abbrev okB (O : List Int) (M : Int) (F : Nat → Nat → Nat → Int) (G : Nat → Nat → Int) (n : Nat) : AV := .tup [.agg [rowL O, i64 M, cubeA F n, matA G n n], i64 0]
abbrev noB (e : Int) : AV := .tup [.agg [nilA, i64 0, nilA, nilA], i64 e]
theorem noRef_okB (O : List Int) (M : Int) (F : Nat → Nat → Nat → Int) (G : Nat → Nat → Int) (n : Nat) : noRef (okB O M F G n) = true := by
 show (noRef (.agg [rowL O, i64 M, cubeA F n, matA G n n]) && (true && true)) = true
 rw [noRef_bb]; rfl
theorem noI_okB (O : List Int) (M : Int) (F : Nat → Nat → Nat → Int) (G : Nat → Nat → Int) (n : Nat) : noI (okB O M F G n) = true := by
 show (noI (.agg [rowL O, i64 M, cubeA F n, matA G n n]) && (true && true)) = true
 rw [noI_bb]; rfl
noncomputable def pcode (O : List Int) (M : Int) (G : Nat → Nat → Int) (k l : Nat) : Int :=
 open Classical in if ¬ OrdP O then 1 else if 8 < pfx O O.length then 3 else if (1 ≤ M ∧ M ≤ 1000) ∧ PrP (pfx O O.length).toNat M G k l then 0 else 2
section
variable {o c v o' c' v' : AV} {O O' : List Int} {M M' : Int} {F F' : Nat → Nat → Nat → Int} {n n' : Nat} {G G' : Nat → Nat → Int} {k l k' l' : Nat}
def stdR (n a : Int) : AV := if ¬ (1 ≤ n ∧ n ≤ 8) ∨ ¬ (0 ≤ a ∧ a ≤ 2 * n - 1) then noB 2 else if (a * n).tmod 2 = 1 then noB 5 else okB [n] (2 * n) (stW n.toNat a) (stC n.toNat a) n.toNat
noncomputable def cobR (O : List Int) (M : Int) (G : Nat → Nat → Int) (k l : Nat) : AV := open Classical in if pcode O M G k l = 0 then okB O M (cobF O M (matL G k k)) (tuF M (matL G k k)) k else noB (pcode O M G k l)
noncomputable def cobC (O : List Int) (M : Int) (G : Nat → Nat → Int) (k l : Nat) : AV := open Classical in if pcode O M G k l = 0 then .tup [.agg [rowL O, i64 M, cubeA (cobF O M (matL G k k)) k], i64 0] else .tup [.agg [nilA, i64 0, nilA], i64 (pcode O M G k l)]
noncomputable def bicR (O : List Int) (M : Int) (G : Nat → Nat → Int) (k l : Nat) : AV := open Classical in if pcode O M G k l = 0 then (if ft18 O M (fun _ _ _ => 0) G k = none then okB O M (fun _ _ _ => 0) G k else noB 5) else noB (pcode O M G k l)
set_option maxHeartbeats 4000000 in
theorem cGroup (ho : isL o O) (hO : O.length ≤ 6) {e : Int} (he1 : ¬ OrdP O → e = 1) (he3 : OrdP O → 8 < pfx O O.length → e = 3) (he2 : OrdP O → ¬ 8 < pfx O O.length → ¬ (1 ≤ M ∧ M ≤ 1000) → e = 2) (he0 : OrdP O → ¬ 8 < pfx O O.length → (1 ≤ M ∧ M ≤ 1000) → e = 0) : CallOK Tryz.prog 37 [o, i64 M] (i64 e) := by
 have hxO : O.length ≤ maxN := Nat.le_trans hO (by decide)
 by_cases h1 : OrdP O
 ·have c1 := cL6o (t := true) ho hxO (by simp [h1])
  have c2 := cL7s ho hxO h1.2
  have hp := pfx_pos1 h1.2
  by_cases h2 : 8 < pfx O O.length
  ·have e2 : l6s O = 9 := by unfold l6s; rw [if_neg (by omega)]
   rw [e2] at c2
   have := he3 h1 h2
   subst this
   refine call_of (fn := Tryz.f37) (code := bodyOf Tryz.f37) Tryz.func37 rfl (by kernel_rfl) (rfl) ?_
   intro sl hs
   have s0 : sl 0 = o := hs 0
   have s1 : sl 1 = i64 M := hs 1
   dsimp only [Tryz.f37, bodyOf, Option.getD]
   refine Yac ?_
   refine CLL_pure _ c1 PUt rfl rfl ?_
   refine Yac ?_
   refine CLL_pure _ c2 PUt rfl rfl ?_
   refine Yac ?_
   exact Yad
  ·obtain ⟨N, hN⟩ := Int.eq_ofNat_of_zero_le (show 0 ≤ pfx O O.length by omega)
   have e2 : l6s O = N := by unfold l6s; rw [if_pos (by omega)]; exact hN
   have hN8 : ¬ (8 : Int) < (N : Int) := by omega
   rw [e2] at c2
   have c3 : CallOK Tryz.prog _ [i64 M, i64 1, i64 1000] (bo (decide (1 ≤ M ∧ M ≤ 1000))) := c38
   by_cases h3 : 1 ≤ M ∧ M ≤ 1000
   ·rw [decide_eq_true h3] at c3
    have := he0 h1 h2 h3
    subst this
    refine call_of (fn := Tryz.f37) (code := bodyOf Tryz.f37) Tryz.func37 rfl (by kernel_rfl) (rfl) ?_
    intro sl hs
    have s0 : sl 0 = o := hs 0
    have s1 : sl 1 = i64 M := hs 1
    dsimp only [Tryz.f37, bodyOf, Option.getD]
    refine Yac ?_
    refine CLL_pure _ c1 PUt rfl rfl ?_
    refine Yac ?_
    refine CLL_pure _ c2 PUt rfl rfl ?_
    simp (maxSteps := 10000000) (disch := first | assumption | omega) only [go_sem, ↓reduceIte, Nat.reduceEqDiff, reduceCtorEq, Nat.reduceAdd, Nat.reduceMul, Nat.reduceLeDiff, zc, Int.reduceToNat, s0, s1, eq_false hN8]
    refine CLL_pure _ c3 rfl rfl rfl ?_
    refine Yac ?_
    exact Yad
   ·rw [decide_eq_false h3] at c3
    have := he2 h1 h2 h3
    subst this
    refine call_of (fn := Tryz.f37) (code := bodyOf Tryz.f37) Tryz.func37 rfl (by kernel_rfl) (rfl) ?_
    intro sl hs
    have s0 : sl 0 = o := hs 0
    have s1 : sl 1 = i64 M := hs 1
    dsimp only [Tryz.f37, bodyOf, Option.getD]
    refine Yac ?_
    refine CLL_pure _ c1 PUt rfl rfl ?_
    refine Yac ?_
    refine CLL_pure _ c2 PUt rfl rfl ?_
    simp (maxSteps := 10000000) (disch := first | assumption | omega) only [go_sem, ↓reduceIte, Nat.reduceEqDiff, reduceCtorEq, Nat.reduceAdd, Nat.reduceMul, Nat.reduceLeDiff, zc, Int.reduceToNat, s0, s1, eq_false hN8]
    refine CLL_pure _ c3 rfl rfl rfl ?_
    refine Yac ?_
    exact Yad
 ·have c1 := cL6o (t := false) ho hxO (by simp [h1])
  have := he1 h1
  subst this
  refine call_of (fn := Tryz.f37) (code := bodyOf Tryz.f37) Tryz.func37 rfl (by kernel_rfl) (rfl) ?_
  intro sl hs
  have s0 : sl 0 = o := hs 0
  have s1 : sl 1 = i64 M := hs 1
  dsimp only [Tryz.f37, bodyOf, Option.getD]
  refine Yac ?_
  refine CLL_pure _ c1 PUt rfl rfl ?_
  refine Yac ?_
  exact Yad
end
end Go.Proofs.YtmchdjiigfiabaaGreat
/- Sums and reverses of braidings (reference). -/
namespace Go.Proofs.YtmchdjiigfiabaaGreat
open Go.RowKit
set_option maxRecDepth 1000000
theorem list_ext {xs ys : List Int} (h : xs.length = ys.length) (h2 : ∀ k, k < xs.length → atI xs k = atI ys k) : xs = ys := by
 apply List.ext_getElem?
 intro k
 by_cases hk : k < xs.length
 ·have := h2 k hk
  unfold atI at this
  have hk' : k < ys.length := by omega
  simpa [hk, hk'] using this
 ·have hk' : ¬ k < ys.length := by omega
  simp [List.getElem?_eq_none (Nat.le_of_not_lt hk), List.getElem?_eq_none (Nat.le_of_not_lt hk')]
section
variable {o c v o' c' v' : AV} {O O' : List Int} {M M' : Int} {F F' : Nat → Nat → Nat → Int} {n n' : Nat} {G G' : Nat → Nat → Int} {k l k' l' : Nat}
theorem cSame (ho : isL o O) (ho' : isL o' O') (hO : O.length ≤ maxN) (hO' : O'.length ≤ maxN) {t : Bool} (ht : t = true ↔ O = O') : CallOK Tryz.prog 53 [o, o'] (bo t) := by
 have hx2 : O.length ≤ 4294967296 := hO
 by_cases h1 : O.length = O'.length
 ·have h1' : (O.length : Int) = O'.length := by omega
  refine call_of (fn := Tryz.f53) (code := bodyOf Tryz.f53) Tryz.func53 rfl (by kernel_rfl) (rfl) ?_
  intro sl hs
  have s0 : sl 0 = o := hs 0
  have s1 : sl 1 = o' := hs 1
  dsimp only [Tryz.f53, bodyOf, Option.getD]
  simp (maxSteps := 10000000) (disch := first | assumption | omega) only [go_sem, ↓reduceIte, Nat.reduceEqDiff, reduceCtorEq, Nat.reduceAdd, Nat.reduceMul, Nat.reduceLeDiff, zc, Int.reduceToNat, s0, s1, eq_true h1']
  refine WK_for (fun x st => st.sl 0 = o ∧ st.sl 1 = o' ∧ st.sl 5 = i64 (x : Int) ∧ (∀ j, j < x → atI O j = atI O' j)) O.length ?_ ?_ ?_
  ·refine Yan ?_
   exact ⟨rfl, fun x' h => absurd h (Nat.not_lt_zero _)⟩
  ·rintro x sl ro gn hx ⟨s0, s1, s5, q⟩
   dsimp only at s0 s1 s5
   have hx' : (x : Int) < (O.length : Nat) := by omega
   have hx2 : x < O'.length := by omega
   by_cases h2 : atI O x = atI O' x
   ·simp (maxSteps := 10000000) (disch := first | assumption | omega) only [go_sem, ↓reduceIte, Nat.reduceEqDiff, reduceCtorEq, Nat.reduceAdd, Nat.reduceMul, Nat.reduceLeDiff, zc, Int.reduceToNat, s0, s1, s5, hx', hx]
    refine FIN_of (by kernel_rfl) ?_
    simp (maxSteps := 10000000) (disch := first | assumption | omega) only [go_sem, ↓reduceIte, Nat.reduceEqDiff, reduceCtorEq, Nat.reduceAdd, Nat.reduceMul, Nat.reduceLeDiff, zc, Int.reduceToNat, s0, s1, s5, hx', hx, eq_true h2]
    refine ⟨i64c (by omega), fun y' h => ?_⟩
    rcases Nat.lt_or_ge y' x with h' | h'
    ·exact q y' h'
    ·rw [show y' = x by omega]; exact h2
   ·simp (maxSteps := 10000000) (disch := first | assumption | omega) only [go_sem, ↓reduceIte, Nat.reduceEqDiff, reduceCtorEq, Nat.reduceAdd, Nat.reduceMul, Nat.reduceLeDiff, zc, Int.reduceToNat, s0, s1, s5, hx', hx]
    refine FIN_of (by kernel_rfl) ?_
    simp (maxSteps := 10000000) (disch := first | assumption | omega) only [go_sem, ↓reduceIte, Nat.reduceEqDiff, reduceCtorEq, Nat.reduceAdd, Nat.reduceMul, Nat.reduceLeDiff, zc, Int.reduceToNat, s0, s1, s5, hx', hx, eq_false h2]
    refine Yab ?_
    exact bool_false ht fun h => h2 (by rw [h])
  ·rintro sl ro gn ⟨s0, s1, s5, q⟩
   dsimp only at s0 s1 s5
   have hx' : ¬ ((O.length : Nat) : Int) < (O.length : Nat) := by omega
   simp (maxSteps := 10000000) (disch := first | assumption | omega) only [go_sem, ↓reduceIte, Nat.reduceEqDiff, reduceCtorEq, Nat.reduceAdd, Nat.reduceMul, Nat.reduceLeDiff, zc, Int.reduceToNat, s0, s1, s5, hx']
   refine Yab ?_
   exact (ht.2 (list_ext h1 q)).symm
 ·have h1' : ¬ (O.length : Int) = O'.length := by omega
  refine call_of (fn := Tryz.f53) (code := bodyOf Tryz.f53) Tryz.func53 rfl (by kernel_rfl) (rfl) ?_
  intro sl hs
  have s0 : sl 0 = o := hs 0
  have s1 : sl 1 = o' := hs 1
  dsimp only [Tryz.f53, bodyOf, Option.getD]
  simp (maxSteps := 10000000) (disch := first | assumption | omega) only [go_sem, ↓reduceIte, Nat.reduceEqDiff, reduceCtorEq, Nat.reduceAdd, Nat.reduceMul, Nat.reduceLeDiff, zc, Int.reduceToNat, s0, s1, eq_false h1']
  refine Yab ?_
  exact bool_false ht fun h => h1 (by rw [h])
noncomputable def addR (O : List Int) (M : Int) (F : Nat → Nat → Nat → Int) (n : Nat) (G : Nat → Nat → Int) (k l : Nat) (O' : List Int) (M' : Int) (F' : Nat → Nat → Nat → Int) (n' : Nat) (G' : Nat → Nat → Int) (k' l' : Nat) : AV :=
 open Classical in if ¬ (BrP O M F n G k l ∧ BrP O' M' F' n' G' k' l') then noB 1 else if ¬ (O = O' ∧ M = M') then noB 2 else okB O M (smF F F' M) (sm2 G G' M) n
theorem rowLL_plane {x : Nat} (hx : x < n) : AV.row (rws (fun y => rowL (row (mat (cubeL F n) x) y)) (mat (cubeL F n) x).length) = .row (rws (fun j => .row (rws (fun z => i64 (F x j z)) n)) n) := by
 rw [cube_row F hx]
 refine congrArg AV.row (rws_congr fun y hy => ?_)
 rw [mat_cube hx, row_rws _ hy]
 simp only [rowL, rws_map]
set_option maxHeartbeats 4000000 in
theorem cOwn18 (ho : isL o O) (hO : O.length ≤ maxN) (hc : isLLL c (cubeL F n)) (h0 : 0 < n) (h16 : n ≤ 16) : CallOK Tryz.prog 26 [.agg [o, i64 M, c]] (.agg [rowL O, i64 M, cubeA F n]) := by
 have lX : (cubeL F n).length = n := zfe _ _
 have h16m : (16 : Nat) ≤ maxN := by decide
 refine call_of (fn := Tryz.f26) (code := bodyOf Tryz.f26) Tryz.func26 rfl (by kernel_rfl) (noRef_cc _ _ _ _) ?_
 intro sl hs
 have s0 : sl 0 = .agg [o, i64 M, c] := hs 0
 dsimp only [Tryz.f26, bodyOf, Option.getD]
 refine Yaa ?_
 refine CLLD_pure _ (cOwn ho hO) PUt rfl ?_
 refine Yaa ?_
 refine FIN_of (by kernel_rfl) ?_
 refine Yaa ?_
 refine WK_for (fun x st => st.sl 1 = .ptr 4096 1 [] 0 ∧ st.ro 4096 1 = some (.bx [o, i64 M, c]) ∧ st.sl 2 = .ptr 4112 1 [] 0 ∧ st.ro 4112 1 = some (.bx [nilA, i64 0, nilA]) ∧ st.sl 3 = .ptr 8288 1 [] 0 ∧ st.ro 8224 1 = some (rowL O) ∧ st.sl 4 = i64 (x : Int) ∧ ((x = 0 ∧ st.ro 8288 1 = some (.bx [.ref 8224 1 [] 0 O.length, i64 M, nilA])) ∨ (0 < x ∧ st.ro 8288 1 = some (.bx [.ref 8224 1 [] 0 O.length, i64 M, .ref 24720 (st.gn 24720) [] 0 x]) ∧ st.ro 24720 (st.gn 24720) = some (.row (rws (fun i => .row (rws (fun j => .row (rws (fun z => i64 (F i j z)) n)) n)) x))))) n ?_ ?_ ?_
 ·refine Yaz ?_
  exact ⟨rfl, .inl trivial⟩
 ·rintro x sl ro gn hx ⟨s1, r4096, s2, r4112, s3, r8224, s4, q⟩
  dsimp only at s1 r4096 s2 r4112 s3 r8224 s4
  have hx' : (x : Int) < (n : Nat) := by omega
  dsimp only at q
  have hm := isLLL_mat hc (k := x) (by omega)
  have lm := cube_row F hx
  have co := cOwn2 hm (by omega) (fun i hi => by rw [lm] at hi; rw [cube_rr F hx hi]; omega)
  rw [rowLL_plane hx] at co
  have hx2 : x + 1 ≤ 4294967296 := by omega
  rcases q with ⟨hx0, q2⟩ | ⟨hx0, q2, q3⟩
  ·subst hx0
   simp (maxSteps := 10000000) (disch := first | assumption | omega) only [go_sem, ↓reduceIte, Nat.reduceEqDiff, reduceCtorEq, Nat.reduceAdd, Nat.reduceMul, Nat.reduceLeDiff, zc, Int.reduceToNat, s1, r4096, s2, r4112, s3, r8224, s4, hx', hx, q2, lX]
   refine CLLD_pure _ co PUt rfl ?_
   simp (maxSteps := 10000000) (disch := first | assumption | omega) only [go_sem, ↓reduceIte, Nat.reduceEqDiff, reduceCtorEq, Nat.reduceAdd, Nat.reduceMul, Nat.reduceLeDiff, zc, Int.reduceToNat, s1, r4096, s2, r4112, s3, r8224, s4, hx', hx, q2, lX, hx2]
   refine FIN_of (by kernel_rfl) ?_
   simp (maxSteps := 10000000) (disch := first | assumption | omega) only [go_sem, ↓reduceIte, Nat.reduceEqDiff, reduceCtorEq, Nat.reduceAdd, Nat.reduceMul, Nat.reduceLeDiff, zc, Int.reduceToNat, s1, r4096, s2, r4112, s3, r8224, s4, hx', hx]
   exact ⟨i64c (by omega), .inr rfl⟩
  ·simp (maxSteps := 10000000) (disch := first | assumption | omega) only [go_sem, ↓reduceIte, Nat.reduceEqDiff, reduceCtorEq, Nat.reduceAdd, Nat.reduceMul, Nat.reduceLeDiff, zc, Int.reduceToNat, s1, r4096, s2, r4112, s3, r8224, s4, hx', hx, q2, q3, lX]
   refine CLLD_pure _ co PUt rfl ?_
   simp (maxSteps := 10000000) (disch := first | assumption | omega) only [go_sem, ↓reduceIte, Nat.reduceEqDiff, reduceCtorEq, Nat.reduceAdd, Nat.reduceMul, Nat.reduceLeDiff, zc, Int.reduceToNat, s1, r4096, s2, r4112, s3, r8224, s4, hx', hx, q2, q3, lX, hx2]
   refine FIN_of (by kernel_rfl) ?_
   simp (maxSteps := 10000000) (disch := first | assumption | omega) only [go_sem, ↓reduceIte, Nat.reduceEqDiff, reduceCtorEq, Nat.reduceAdd, Nat.reduceMul, Nat.reduceLeDiff, zc, Int.reduceToNat, s1, r4096, s2, r4112, s3, r8224, s4, hx', hx]
   exact ⟨i64c (by omega), .inr trivial⟩
 ·rintro sl ro gn ⟨s1, r4096, s2, r4112, s3, r8224, s4, q⟩
  dsimp only at s1 r4096 s2 r4112 s3 r8224 s4
  have hx' : ¬ ((n : Nat) : Int) < (n : Nat) := by omega
  dsimp only at q
  rcases q with ⟨hx0, q2⟩ | ⟨hx0, q2, q3⟩
  ·omega
  ·simp (maxSteps := 10000000) (disch := first | assumption | omega) only [go_sem, ↓reduceIte, Nat.reduceEqDiff, reduceCtorEq, Nat.reduceAdd, Nat.reduceMul, Nat.reduceLeDiff, zc, Int.reduceToNat, s1, r4096, s2, r4112, s3, r8224, s4, hx', q2, q3, lX]
   simp only [zr, zb, retR, resL, outT, outL, zes, zez, oneV, zcp, zed, zfi, Ro.dl, St.ev, zhk, ↓za, ↓reduceIte, Nat.reduceEqDiff, Nat.reduceAdd, Nat.reduceLeDiff, tiC, s2, q2, q3, r8224]
def rvG (M : Int) (G : Nat → Nat → Int) (x y : Nat) : Int := -G y x % M
noncomputable def revR (O : List Int) (M : Int) (F : Nat → Nat → Nat → Int) (n : Nat) (G : Nat → Nat → Int) (k l : Nat) : AV := open Classical in if BrP O M F n G k l then okB O M F (rvG M G) n else noB 1
end
end Go.Proofs.YtmchdjiigfiabaaGreat
