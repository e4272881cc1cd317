/- Texts joined: J1 J2 J3 J4 J5. -/
import Derived.Test.YtbopenehooiekaaGreatMq
set_option linter.all false
/- The product of data by the reference and by the program. -/
namespace Go.Proofs.YtbopenehooiekaaGreat
open Go.RowKit
set_option maxRecDepth 1000000

section
variable {a b a' b' : AV} {S S' : List (List Int)} {T T' : List Int}
theorem PS_row : rowLL (PS S S' T T') = .row (rws (fun x => .row (rws (fun y => i64 (pS S S' T' x y)) (T.length * T'.length))) (T.length * T'.length)) := by simp only [PS, matL, rowLL, rowL, rws_map]
theorem PT_row : rowL (PT T T') = .row (rws (fun x => i64 (pT T T' x)) (T.length * T'.length)) := by simp only [PT, rowL, rws_map]
theorem tdv (x m : Nat) : Int.tdiv (x : Int) (m : Int) = ((x / m : Nat) : Int) := by rw [Int.tdiv_eq_ediv_of_nonneg (Int.natCast_nonneg _)]; rfl
theorem tmd (x m : Nat) : Int.tmod (x : Int) (m : Int) = ((x % m : Nat) : Int) := by rw [Int.tmod_eq_emod_of_nonneg (Int.natCast_nonneg _)]; rfl
theorem wrfN {k : Nat} (h : k ≤ 1000) : wrF (k : Int) = k := zfu (by omega) (by omega)
theorem tm55 {A B : Int} (h : 0 ≤ A * B) : Int.tmod (A * B) 55441 = A * B % 55441 := Int.tmod_eq_emod_of_nonneg h
theorem cLP (ha : isLL a S) (hb : isL b T) (ha' : isLL a' S') (hb' : isL b' T') (sp : Shp S T) (sp' : Shp S' T') (h16 : T.length * T'.length ≤ 16) : CallOK Tryz.prog 99 [.agg [a, b], .agg [a', b']] (.agg [rowLL (PS S S' T T'), rowL (PT T T')]) := by
  rw [PS_row, PT_row]
  have hl := sp.lS
  have hl' := sp'.lS
  have hp := sp.pos
  have hp' := sp'.pos
  have e1 : (T.length : Int) * T'.length = (T.length * T'.length : Nat) := by omega
  have hpp : 0 < T.length * T'.length := Nat.mul_pos hp hp'
  have hT1 : T.length ≤ 16 := Nat.le_trans (Nat.le_mul_of_pos_right _ hp') h16
  have hT2 : T'.length ≤ 16 := Nat.le_trans (Nat.le_mul_of_pos_left _ hp) h16
  refine call_of (fn := Tryz.f99) (code := bodyOf Tryz.f99) Tryz.func99 rfl (by kernel_rfl) (noRef_dbl _ _ _ _) ?_
  intro sl hs
  have s0 : sl 0 = .agg [a, b] := hs 0
  have s1 : sl 1 = .agg [a', b'] := hs 1
  dsimp only [Tryz.f99, bodyOf, Option.getD]
  simp (config := { maxSteps := 10000000 }) (disch := first | assumption | omega) only [go_sem, ↓reduceIte, Nat.reduceEqDiff, reduceCtorEq, Nat.reduceAdd, Nat.reduceMul, Nat.reduceLeDiff, zfu, Int.mul_def, Int.add_def, zfv, cond_false, cond_true, isub, Int.reduceToNat, s0, s1]
  refine FIN_of (by kernel_rfl) ?_
  simp (config := { maxSteps := 10000000 }) (disch := first | assumption | omega) only [go_sem, ↓reduceIte, Nat.reduceEqDiff, reduceCtorEq, Nat.reduceAdd, Nat.reduceMul, Nat.reduceLeDiff, zfu, Int.mul_def, Int.add_def, zfv, cond_false, cond_true, isub, Int.reduceToNat, s0, s1]
  refine WK_for (fun x st => st.sl 2 = .ptr 4096 1 [] 0 ∧ st.ro 4096 1 = some (.bx [a, b]) ∧ st.sl 3 = .ptr 4112 1 [] 0 ∧ st.ro 4112 1 = some (.bx [a', b']) ∧ st.sl 4 = .ptr 4128 1 [] 0 ∧ st.ro 4128 1 = some (.bx [nilA, nilA]) ∧ st.sl 5 = i64 (T.length : Int) ∧ st.sl 6 = i64 (T'.length : Int) ∧ st.sl 7 = .ptr 12304 1 [] 0 ∧ st.sl 8 = i64 (x : Int) ∧ ((x = 0 ∧ st.ro 12304 1 = some (.bx [nilA, nilA])) ∨ (0 < x ∧ st.ro 12304 1 = some (.bx [.ref 49216 (st.gn 49216) [] 0 x, .ref 53552 (st.gn 53552) [] 0 x]) ∧ st.ro 49216 (st.gn 49216) = some (.row (rws (fun x => .row (rws (fun y => i64 (pS S S' T' x y)) (T.length * T'.length))) x)) ∧ st.ro 53552 (st.gn 53552) = some (.row (rws (fun x => i64 (pT T T' x)) x))))) ((T.length * T'.length)) ?_ ?_ ?_
  · simp only [↓zcy, ↓zcz, ↓zda, ↓zdb, ↓reduceIte, Nat.reduceEqDiff, and_true, true_and, and_self, ne_eq, not_false_eq_true, eq_self, false_and, and_false, reduceCtorEq, rws_zero, s0, s1]
    exact ⟨rfl, .inl trivial⟩
  · rintro x sl ro gn hx ⟨s2, r4096, s3, r4112, s4, r4128, s5, s6, s7, s8, q⟩
    dsimp only at s2 r4096 s3 r4112 s4 r4128 s5 s6 s7 s8
    have hx' : (x : Int) < ((T.length * T'.length) : Nat) := by omega
    dsimp only at q
    obtain ⟨x1, x2⟩ := pr_lt hx
    have hr := sp.lR _ x1
    have hr' := sp'.lR _ x2
    have w1 : wrF ((x / T'.length : Nat) : Int) = (x / T'.length : Nat) := wrfN (by omega)
    have w2 : wrF ((x % T'.length : Nat) : Int) = (x % T'.length : Nat) := wrfN (by omega)
    have hi := isLL_row ha (k := x / T'.length) (by omega)
    have hi' := isLL_row ha' (k := x % T'.length) (by omega)
    simp (config := { maxSteps := 10000000 }) (disch := first | assumption | omega) only [go_sem, ↓reduceIte, Nat.reduceEqDiff, reduceCtorEq, Nat.reduceAdd, Nat.reduceMul, Nat.reduceLeDiff, zfu, Int.mul_def, Int.add_def, zfv, cond_false, cond_true, isub, Int.reduceToNat, s2, r4096, s3, r4112, s4, r4128, s5, s6, s7, s8, hx', hx, e1]
    refine WK_for (fun y st => st.sl 2 = .ptr 4096 1 [] 0 ∧ st.ro 4096 1 = some (.bx [a, b]) ∧ st.sl 3 = .ptr 4112 1 [] 0 ∧ st.ro 4112 1 = some (.bx [a', b']) ∧ st.sl 4 = .ptr 4128 1 [] 0 ∧ st.ro 4128 1 = some (.bx [nilA, nilA]) ∧ st.sl 5 = i64 (T.length : Int) ∧ st.sl 6 = i64 (T'.length : Int) ∧ st.sl 7 = .ptr 12304 1 [] 0 ∧ st.sl 8 = i64 (x : Int) ∧ st.sl 9 = .ref 28672 (st.gn 28672) [] 0 y ∧ st.ro 28672 (st.gn 28672) = some (.row (rws (fun y => i64 (pS S S' T' x y)) y)) ∧ st.sl 10 = i64 (y : Int) ∧ ((x = 0 ∧ st.ro 12304 1 = some (.bx [nilA, nilA])) ∨ (0 < x ∧ st.ro 12304 1 = some (.bx [.ref 49216 (st.gn 49216) [] 0 x, .ref 53552 (st.gn 53552) [] 0 x]) ∧ st.ro 49216 (st.gn 49216) = some (.row (rws (fun x => .row (rws (fun y => i64 (pS S S' T' x y)) (T.length * T'.length))) x)) ∧ st.ro 53552 (st.gn 53552) = some (.row (rws (fun x => i64 (pT T T' x)) x))))) ((T.length * T'.length)) ?_ ?_ ?_
    · simp only [↓zcy, ↓zcz, ↓zda, ↓zdb, ↓reduceIte, Nat.reduceEqDiff, and_true, true_and, and_self, ne_eq, not_false_eq_true, eq_self, false_and, and_false, reduceCtorEq, rws_zero, s2, r4096, s3, r4112, s4, r4128, s5, s6, s7, s8, hx', hx]
      exact ⟨rfl, q⟩
    · rintro y sl ro gn hy ⟨s2, r4096, s3, r4112, s4, r4128, s5, s6, s7, s8, s9, r28672, s10, q⟩
      dsimp only at s2 r4096 s3 r4112 s4 r4128 s5 s6 s7 s8 s9 r28672 s10
      have hy' : (y : Int) < ((T.length * T'.length) : Nat) := by omega
      dsimp only at q
      obtain ⟨y1, y2⟩ := pr_lt hy
      have p := mulB (sp.nS (x / T'.length) (y / T'.length)).1 (Int.le_of_lt (sp.nS (x / T'.length) (y / T'.length)).2) (sp'.nS (x % T'.length) (y % T'.length)).1 (Int.le_of_lt (sp'.nS (x % T'.length) (y % T'.length)).2)
      have w3 : wrF ((y / T'.length : Nat) : Int) = (y / T'.length : Nat) := wrfN (by omega)
      have w4 : wrF ((y % T'.length : Nat) : Int) = (y % T'.length : Nat) := wrfN (by omega)
      have hy2 : y + 1 ≤ 4294967296 := by omega
      simp (config := { maxSteps := 10000000 }) (disch := first | assumption | omega) only [go_sem, ↓reduceIte, Nat.reduceEqDiff, reduceCtorEq, Nat.reduceAdd, Nat.reduceMul, Nat.reduceLeDiff, zfu, Int.mul_def, Int.add_def, zfv, cond_false, cond_true, isub, Int.reduceToNat, s2, r4096, s3, r4112, s4, r4128, s5, s6, s7, s8, s9, r28672, s10, hy', hy, e1, tdv, tmd, w1, w2, w3, w4, hy2, tm55 p.1]
      refine FIN_of (by kernel_rfl) ?_
      simp (config := { maxSteps := 10000000 }) (disch := first | assumption | omega) only [go_sem, ↓reduceIte, Nat.reduceEqDiff, reduceCtorEq, Nat.reduceAdd, Nat.reduceMul, Nat.reduceLeDiff, zfu, Int.mul_def, Int.add_def, zfv, cond_false, cond_true, isub, Int.reduceToNat, s2, r4096, s3, r4112, s4, r4128, s5, s6, s7, s8, s9, r28672, s10, hy', hy]
      exact ⟨congrArg (fun z => some (AV.row z)) (zfm _ _), i64c (by omega), q⟩
    · rintro sl ro gn ⟨s2, r4096, s3, r4112, s4, r4128, s5, s6, s7, s8, s9, r28672, s10, q⟩
      dsimp only at s2 r4096 s3 r4112 s4 r4128 s5 s6 s7 s8 s9 r28672 s10
      have hy' : ¬ (((T.length * T'.length) : Nat) : Int) < ((T.length * T'.length) : Nat) := by omega
      dsimp only at q
      have hx2 : x + 1 ≤ 4294967296 := by omega
      have p := mulB (sp.nT (x / T'.length)).1 (Int.le_of_lt (sp.nT (x / T'.length)).2) (sp'.nT (x % T'.length)).1 (Int.le_of_lt (sp'.nT (x % T'.length)).2)
      rcases q with ⟨hx0, q2⟩ | ⟨hx0, q2, q3, q4⟩
      · skip
        simp (config := { maxSteps := 10000000 }) (disch := first | assumption | omega) only [go_sem, ↓reduceIte, Nat.reduceEqDiff, reduceCtorEq, Nat.reduceAdd, Nat.reduceMul, Nat.reduceLeDiff, zfu, Int.mul_def, Int.add_def, zfv, cond_false, cond_true, isub, Int.reduceToNat, s2, r4096, s3, r4112, s4, r4128, s5, s6, s7, s8, s9, r28672, s10, hy', e1, q2, tdv, tmd, w1, w2, tm55 p.1]
        refine FIN_of (by kernel_rfl) ?_
        simp (config := { maxSteps := 10000000 }) (disch := first | assumption | omega) only [go_sem, ↓reduceIte, Nat.reduceEqDiff, reduceCtorEq, Nat.reduceAdd, Nat.reduceMul, Nat.reduceLeDiff, zfu, Int.mul_def, Int.add_def, zfv, cond_false, cond_true, isub, Int.reduceToNat, s2, r4096, s3, r4112, s4, r4128, s5, s6, s7, s8, s9, r28672, s10, hy', q2]
        refine ⟨i64c (by omega), .inr ⟨by omega, ?_⟩⟩
        subst hx0
        exact ⟨rfl, rfl, rfl⟩
      · skip
        simp (config := { maxSteps := 10000000 }) (disch := first | assumption | omega) only [go_sem, ↓reduceIte, Nat.reduceEqDiff, reduceCtorEq, Nat.reduceAdd, Nat.reduceMul, Nat.reduceLeDiff, zfu, Int.mul_def, Int.add_def, zfv, cond_false, cond_true, isub, Int.reduceToNat, s2, r4096, s3, r4112, s4, r4128, s5, s6, s7, s8, s9, r28672, s10, hy', e1, q2, q3, q4, hx2, tdv, tmd, w1, w2, tm55 p.1]
        refine FIN_of (by kernel_rfl) ?_
        simp (config := { maxSteps := 10000000 }) (disch := first | assumption | omega) only [go_sem, ↓reduceIte, Nat.reduceEqDiff, reduceCtorEq, Nat.reduceAdd, Nat.reduceMul, Nat.reduceLeDiff, zfu, Int.mul_def, Int.add_def, zfv, cond_false, cond_true, isub, Int.reduceToNat, s2, r4096, s3, r4112, s4, r4128, s5, s6, s7, s8, s9, r28672, s10, hy', q2, q3, q4]
        exact ⟨i64c (by omega), .inr (congrArg (fun z => some (AV.row z)) (zfm _ _))⟩
  · rintro sl ro gn ⟨s2, r4096, s3, r4112, s4, r4128, s5, s6, s7, s8, q⟩
    dsimp only at s2 r4096 s3 r4112 s4 r4128 s5 s6 s7 s8
    have hx' : ¬ (((T.length * T'.length) : Nat) : Int) < ((T.length * T'.length) : Nat) := by omega
    dsimp only at q
    rcases q with ⟨hx0, q2⟩ | ⟨-, q2, q3, q4⟩
    · omega
    · skip
      simp (config := { maxSteps := 10000000 }) (disch := first | assumption | omega) only [go_sem, ↓reduceIte, Nat.reduceEqDiff, reduceCtorEq, Nat.reduceAdd, Nat.reduceMul, Nat.reduceLeDiff, zfu, Int.mul_def, Int.add_def, zfv, cond_false, cond_true, isub, Int.reduceToNat, s2, r4096, s3, r4112, s4, r4128, s5, s6, s7, s8, hx', e1, q2, q3, q4]
      simp only [zbj, zbk, retR, resL, outT, zes, zez, oneV, ↓zcy, ↓zcz, ↓reduceIte, Nat.reduceEqDiff, Option.some.injEq, AV.sc.injEq, Value.bool.injEq, Value.int.injEq, outL, outT, zft, zcp, zed, zef, zei, zeh, List.length_cons, List.length_nil, Nat.reduceAdd, Nat.zero_add, Nat.reduceLeDiff, List.drop_zero, List.take_succ_cons, List.take_zero, zfi, zfh, Ro.dl, zdb, zda, zfe, and_self, and_true, true_and, eq_self, List.append_nil, List.nil_append, List.cons_append, ne_eq, not_false_eq_true, and_false, false_and, Bool.false_eq_true, St.ev, zes, zfn, zhk, List.length_map, ti25, s4, q2, q3, q4]
end
end Go.Proofs.YtbopenehooiekaaGreat

/- The product of data by the program; the product of rings. -/
namespace Go.Proofs.YtbopenehooiekaaGreat
open Go.RowKit
set_option maxRecDepth 1000000

section
variable {a b a' b' : AV} {S S' : List (List Int)} {T T' : List Int}
theorem cIP (ha : isLL a S) (hb : isL b T) (ha' : isLL a' S') (hb' : isL b' T') (sp : Shp S T) (sp' : Shp S' T') (h16 : T.length * T'.length ≤ 16) : CallOK Tryz.prog 106 [.agg [a, b], .agg [a', b']] (.agg [rowLL (PS S S' T T'), rowL (PT T T')]) := by
  rw [PS, PT, rowLL_mat, rowL, rws_map]
  have hl := sp.lS
  have hl' := sp'.lS
  have hp := sp.pos
  have hp' := sp'.pos
  have e1 : (T.length : Int) * T'.length = (T.length * T'.length : Nat) := by omega
  have hpp : 0 < T.length * T'.length := Nat.mul_pos hp hp'
  have hT1 : T.length ≤ 16 := Nat.le_trans (Nat.le_mul_of_pos_right _ hp') h16
  have hT2 : T'.length ≤ 16 := Nat.le_trans (Nat.le_mul_of_pos_left _ hp) h16
  have hm : T.length * T'.length ≤ maxN := by unfold maxN; omega
  have hm' : ((T.length * T'.length : Nat) : Int) ≤ ((4294967296 : Nat) : Int) := by omega
  refine call_of (fn := Tryz.f106) (code := bodyOf Tryz.f106) Tryz.func106 rfl (by kernel_rfl) (noRef_dbl _ _ _ _) ?_
  intro sl hs
  have s0 : sl 0 = .agg [a, b] := hs 0
  have s1 : sl 1 = .agg [a', b'] := hs 1
  dsimp only [Tryz.f106, bodyOf, Option.getD]
  simp (config := { maxSteps := 10000000 }) (disch := first | assumption | omega) only [go_sem, ↓reduceIte, Nat.reduceEqDiff, reduceCtorEq, Nat.reduceAdd, Nat.reduceMul, Nat.reduceLeDiff, zfu, Int.mul_def, Int.add_def, zfv, cond_false, cond_true, isub, Int.reduceToNat, s0, s1, hl, hl', e1]
  refine CLLD_pure _ (c126m hm hm) rfl rfl ?_
  simp (config := { maxSteps := 10000000 }) (disch := first | assumption | omega) only [go_sem, ↓reduceIte, Nat.reduceEqDiff, reduceCtorEq, Nat.reduceAdd, Nat.reduceMul, Nat.reduceLeDiff, zfu, Int.mul_def, Int.add_def, zfv, cond_false, cond_true, isub, Int.reduceToNat, s0, s1, kMake, Int.natCast_nonneg, Int.le_refl, hm', List.getD_cons_zero, rep_rws]
  refine FIN_of (by kernel_rfl) ?_
  simp (config := { maxSteps := 10000000 }) (disch := first | assumption | omega) only [go_sem, ↓reduceIte, Nat.reduceEqDiff, reduceCtorEq, Nat.reduceAdd, Nat.reduceMul, Nat.reduceLeDiff, zfu, Int.mul_def, Int.add_def, zfv, cond_false, cond_true, isub, Int.reduceToNat, s0, s1]
  refine WK_for (fun x st => st.sl 2 = .ptr 4096 1 [] 0 ∧ st.ro 4096 1 = some (.bx [a, b]) ∧ st.sl 3 = .ptr 4112 1 [] 0 ∧ st.ro 4112 1 = some (.bx [a', b']) ∧ st.sl 4 = .ptr 4128 1 [] 0 ∧ st.ro 4128 1 = some (.bx [nilA, nilA]) ∧ st.sl 5 = i64 (T'.length : Int) ∧ st.sl 6 = i64 (T.length * T'.length : Nat) ∧ st.sl 7 = .ptr 16480 1 [] 0 ∧ st.ro 16480 1 = some (.bx [.ref 16416 1 [] 0 (T.length * T'.length), .ref 16448 1 [] 0 (T.length * T'.length)]) ∧ st.ro 16416 1 = some (matA (fun i j => if i < x then pS S S' T' i j else 0) (T.length * T'.length) (T.length * T'.length)) ∧ st.ro 16448 1 = some (.row (rws (fun i => i64 (if i < x then pT T T' i else 0)) (T.length * T'.length))) ∧ st.sl 24 = i64 (T.length * T'.length : Nat) ∧ st.sl 25 = i64 (x : Int)) ((T.length * T'.length)) ?_ ?_ ?_
  · simp only [↓zcy, ↓zcz, ↓zda, ↓zdb, ↓reduceIte, Nat.reduceEqDiff, and_true, true_and, and_self, ne_eq, not_false_eq_true, eq_self, false_and, and_false, reduceCtorEq, rws_zero, s0, s1]
    refine ⟨congrArg some (mat_congr fun i j _ _ => ?_), congrArg (fun z => some (AV.row z)) (rws_congr fun i _ => ?_), rfl⟩ <;> simp
  · rintro x sl ro gn hx ⟨s2, r4096, s3, r4112, s4, r4128, s5, s6, s7, r16480, r16416, r16448, s24, s25⟩
    dsimp only at s2 r4096 s3 r4112 s4 r4128 s5 s6 s7 r16480 r16416 r16448 s24 s25
    have hx' : (x : Int) < ((T.length * T'.length) : Nat) := by omega
    obtain ⟨x1, x2⟩ := pr_lt hx
    have hr := sp.lR _ x1
    have hr' := sp'.lR _ x2
    have w1 : wrF ((x / T'.length : Nat) : Int) = (x / T'.length : Nat) := wrfN (by omega)
    have w2 : wrF ((x % T'.length : Nat) : Int) = (x % T'.length : Nat) := wrfN (by omega)
    have hi := isLL_row ha (k := x / T'.length) (by omega)
    have hi' := isLL_row ha' (k := x % T'.length) (by omega)
    have p := mulB (sp.nT (x / T'.length)).1 (Int.le_of_lt (sp.nT (x / T'.length)).2) (sp'.nT (x % T'.length)).1 (Int.le_of_lt (sp'.nT (x % T'.length)).2)
    simp (config := { maxSteps := 10000000 }) (disch := first | assumption | omega) only [go_sem, ↓reduceIte, Nat.reduceEqDiff, reduceCtorEq, Nat.reduceAdd, Nat.reduceMul, Nat.reduceLeDiff, zfu, Int.mul_def, Int.add_def, zfv, cond_false, cond_true, isub, Int.reduceToNat, s2, r4096, s3, r4112, s4, r4128, s5, s6, s7, r16480, r16416, r16448, s24, s25, hx', hx, tdv, tmd, w1, w2, tm55 p.1]
    refine FIN_of (by kernel_rfl) ?_
    simp (config := { maxSteps := 10000000 }) (disch := first | assumption | omega) only [go_sem, ↓reduceIte, Nat.reduceEqDiff, reduceCtorEq, Nat.reduceAdd, Nat.reduceMul, Nat.reduceLeDiff, zfu, Int.mul_def, Int.add_def, zfv, cond_false, cond_true, isub, Int.reduceToNat, s2, r4096, s3, r4112, s4, r4128, s5, s6, s7, r16480, r16416, r16448, s24, s25, hx', hx]
    refine WK_for (fun y st => st.sl 2 = .ptr 4096 1 [] 0 ∧ st.ro 4096 1 = some (.bx [a, b]) ∧ st.sl 3 = .ptr 4112 1 [] 0 ∧ st.ro 4112 1 = some (.bx [a', b']) ∧ st.sl 4 = .ptr 4128 1 [] 0 ∧ st.ro 4128 1 = some (.bx [nilA, nilA]) ∧ st.sl 5 = i64 (T'.length : Int) ∧ st.sl 6 = i64 (T.length * T'.length : Nat) ∧ st.sl 7 = .ptr 16480 1 [] 0 ∧ st.ro 16480 1 = some (.bx [.ref 16416 1 [] 0 (T.length * T'.length), .ref 16448 1 [] 0 (T.length * T'.length)]) ∧ st.sl 24 = i64 (T.length * T'.length : Nat) ∧ st.sl 25 = i64 (x : Int) ∧ st.ro 16416 1 = some (matA (fun i j => if i < x ∨ (i = x ∧ j < y) then pS S S' T' i j else 0) (T.length * T'.length) (T.length * T'.length)) ∧ st.ro 16448 1 = some (.row (rws (fun i => i64 (if i < x + 1 then pT T T' i else 0)) (T.length * T'.length))) ∧ st.sl 8 = i64 (x : Int) ∧ st.sl 48 = i64 (T.length * T'.length : Nat) ∧ st.sl 49 = i64 (y : Int)) ((T.length * T'.length)) ?_ ?_ ?_
    · simp only [↓zcy, ↓zcz, ↓zda, ↓zdb, ↓reduceIte, Nat.reduceEqDiff, and_true, true_and, and_self, ne_eq, not_false_eq_true, eq_self, false_and, and_false, reduceCtorEq, rws_zero, s2, r4096, s3, r4112, s4, r4128, s5, s6, s7, r16480, r16416, r16448, s24, s25, hx', hx]
      refine ⟨congrArg some (mat_congr fun i j _ _ => ?_), ?_, rfl⟩
      · have e : (i < x ∨ i = x ∧ j < 0) ↔ i < x := by omega
        simp only [e]
      · rw [rws_set]
        refine congrArg (fun z => some (AV.row z)) (rws_congr fun i _ => ?_)
        by_cases h : i = x
        · subst h; rw [if_pos rfl, if_pos (by omega)]; rfl
        · rw [if_neg h]
          have e : i < x ↔ i < x + 1 := by omega
          simp only [e]
    · rintro y sl ro gn hy ⟨s2, r4096, s3, r4112, s4, r4128, s5, s6, s7, r16480, s24, s25, r16416, r16448, s8, s48, s49⟩
      dsimp only at s2 r4096 s3 r4112 s4 r4128 s5 s6 s7 r16480 s24 s25 r16416 r16448 s8 s48 s49
      have hy' : (y : Int) < ((T.length * T'.length) : Nat) := by omega
      obtain ⟨y1, y2⟩ := pr_lt hy
      have p := mulB (sp.nS (x / T'.length) (y / T'.length)).1 (Int.le_of_lt (sp.nS (x / T'.length) (y / T'.length)).2) (sp'.nS (x % T'.length) (y % T'.length)).1 (Int.le_of_lt (sp'.nS (x % T'.length) (y % T'.length)).2)
      have w3 : wrF ((y / T'.length : Nat) : Int) = (y / T'.length : Nat) := wrfN (by omega)
      have w4 : wrF ((y % T'.length : Nat) : Int) = (y % T'.length : Nat) := wrfN (by omega)
      simp (config := { maxSteps := 10000000 }) (disch := first | assumption | omega) only [go_sem, ↓reduceIte, Nat.reduceEqDiff, reduceCtorEq, Nat.reduceAdd, Nat.reduceMul, Nat.reduceLeDiff, zfu, Int.mul_def, Int.add_def, zfv, cond_false, cond_true, isub, Int.reduceToNat, s2, r4096, s3, r4112, s4, r4128, s5, s6, s7, r16480, s24, s25, r16416, r16448, s8, s48, s49, hy', hy, tdv, tmd, w1, w2, w3, w4, tm55 p.1]
      refine FIN_of (by kernel_rfl) ?_
      simp (config := { maxSteps := 10000000 }) (disch := first | assumption | omega) only [go_sem, ↓reduceIte, Nat.reduceEqDiff, reduceCtorEq, Nat.reduceAdd, Nat.reduceMul, Nat.reduceLeDiff, zfu, Int.mul_def, Int.add_def, zfv, cond_false, cond_true, isub, Int.reduceToNat, s2, r4096, s3, r4112, s4, r4128, s5, s6, s7, r16480, s24, s25, r16416, r16448, s8, s48, s49, hy', hy]
      refine ⟨congrArg some (mat_congr fun i j _ _ => ?_), i64c (by omega)⟩
      unfold upd2
      by_cases h : i = x ∧ j = y
      · rw [if_pos h, if_pos (by omega), h.1, h.2]; rfl
      · rw [if_neg h]
        have e : (i < x ∨ i = x ∧ j < y) ↔ (i < x ∨ i = x ∧ j < y + 1) := by omega
        simp only [e]
    · rintro sl ro gn ⟨s2, r4096, s3, r4112, s4, r4128, s5, s6, s7, r16480, s24, s25, r16416, r16448, s8, s48, s49⟩
      dsimp only at s2 r4096 s3 r4112 s4 r4128 s5 s6 s7 r16480 s24 s25 r16416 r16448 s8 s48 s49
      have hy' : ¬ (((T.length * T'.length) : Nat) : Int) < ((T.length * T'.length) : Nat) := by omega
      simp (config := { maxSteps := 10000000 }) (disch := first | assumption | omega) only [go_sem, ↓reduceIte, Nat.reduceEqDiff, reduceCtorEq, Nat.reduceAdd, Nat.reduceMul, Nat.reduceLeDiff, zfu, Int.mul_def, Int.add_def, zfv, cond_false, cond_true, isub, Int.reduceToNat, s2, r4096, s3, r4112, s4, r4128, s5, s6, s7, r16480, s24, s25, r16416, r16448, s8, s48, s49, hy']
      refine ⟨congrArg some (mat_congr fun i j _ hj => ?_), i64c (by omega)⟩
      have e : (i < x ∨ i = x ∧ j < T.length * T'.length) ↔ i < x + 1 := by omega
      simp only [e]
  · rintro sl ro gn ⟨s2, r4096, s3, r4112, s4, r4128, s5, s6, s7, r16480, r16416, r16448, s24, s25⟩
    dsimp only at s2 r4096 s3 r4112 s4 r4128 s5 s6 s7 r16480 r16416 r16448 s24 s25
    have hx' : ¬ (((T.length * T'.length) : Nat) : Int) < ((T.length * T'.length) : Nat) := by omega
    have q1 : matA (fun i j => if i < T.length * T'.length then pS S S' T' i j else 0) (T.length * T'.length) (T.length * T'.length) = matA (pS S S' T') (T.length * T'.length) (T.length * T'.length) := mat_congr fun i j hi _ => if_pos hi
    have q2 : rws (fun i => i64 (if i < T.length * T'.length then pT T T' i else 0)) (T.length * T'.length) = rws (fun i => i64 (pT T T' i)) (T.length * T'.length) := rws_congr fun i hi => by rw [if_pos hi]
    rw [q1] at r16416
    rw [q2] at r16448
    simp (config := { maxSteps := 10000000 }) (disch := first | assumption | omega) only [go_sem, ↓reduceIte, Nat.reduceEqDiff, reduceCtorEq, Nat.reduceAdd, Nat.reduceMul, Nat.reduceLeDiff, zfu, Int.mul_def, Int.add_def, zfv, cond_false, cond_true, isub, Int.reduceToNat, s2, r4096, s3, r4112, s4, r4128, s5, s6, s7, r16480, r16416, r16448, s24, s25, hx']
    simp only [zbj, zbk, retR, resL, outT, zes, zez, oneV, ↓zcy, ↓zcz, ↓reduceIte, Nat.reduceEqDiff, Option.some.injEq, AV.sc.injEq, Value.bool.injEq, Value.int.injEq, outL, outT, zft, zcp, zed, zef, zei, zeh, List.length_cons, List.length_nil, Nat.reduceAdd, Nat.zero_add, Nat.reduceLeDiff, List.drop_zero, List.take_succ_cons, List.take_zero, zfi, zfh, Ro.dl, zdb, zda, zfe, and_self, and_true, true_and, eq_self, List.append_nil, List.nil_append, List.cons_append, ne_eq, not_false_eq_true, and_false, false_and, Bool.false_eq_true, St.ev, zes, zfn, zhk, List.length_map, ti25, s4, r16480, r16416, r16448]
end
end Go.Proofs.YtbopenehooiekaaGreat

/- ProductData by the reference. -/
namespace Go.Proofs.YtbopenehooiekaaGreat
open Go.RowKit
set_option maxRecDepth 1000000

theorem noRef_tupD (S : List (List Int)) (T : List Int) (v : Value) : noRef (.tup [.agg [rowLL S, rowL T], .sc v]) = true := by
  have h1 := noRef_rowLL S
  have h2 := noRef_rowL T
  simp only [noRef, noRefL, Bool.and_true] at h1 h2 ⊢
  rw [h1, h2]; rfl
theorem noI_dat (S : List (List Int)) (T : List Int) (v : Value) : noI (.tup [.agg [rowLL S, rowL T], .sc v]) = true := by
  simp only [noI, noIL, Bool.and_true, Bool.and_eq_true]
  exact ⟨noI_rowLL _, noI_rowL _⟩
section
variable {a b a' b' : AV} {S S' : List (List Int)} {T T' : List Int}
theorem PS_max (h16 : T.length * T'.length ≤ 16) : (PS S S' T T').length ≤ maxN ∧ (PT T T').length ≤ maxN ∧ ∀ i, i < (PS S S' T T').length → (row (PS S S' T T') i).length ≤ maxN := by
  have h : T.length * T'.length ≤ maxN := by unfold maxN; omega
  refine ⟨by rw [PS_len]; exact h, by rw [PT_len]; exact h, fun i hi => ?_⟩
  rw [PS_len] at hi
  have : row (PS S S' T T') i = rws (fun j => pS S S' T' i j) (T.length * T'.length) := matL_row hi
  rw [this, zfe]; exact h
theorem cLDt (ha : isLL a S) (hb : isL b T) (ha' : isLL a' S') (hb' : isL b' T') (hS : S.length ≤ maxN) (hT : T.length ≤ maxN) (hR : ∀ i, i < S.length → (row S i).length ≤ maxN)
    (hS' : S'.length ≤ maxN) (hT' : T'.length ≤ maxN) (hR' : ∀ i, i < S'.length → (row S' i).length ≤ maxN) (hd : DataP S T) (hd' : DataP S' T') (h16 : T.length * T'.length ≤ 16) (hC : PCub S S' T T') :
    CallOK Tryz.prog 54 [.agg [a, b], .agg [a', b']] (.tup [.agg [rowLL (PS S S' T T'), rowL (PT T T')], i64 0]) := by
  have D := hd.dat
  have D' := hd'.dat
  have e1 : (T.length : Int) * T'.length = (T.length * T'.length : Nat) := by omega
  have hg : ¬ ((16 : Int) < (T.length * T'.length : Nat)) := by omega
  obtain ⟨m1, m2, m3⟩ := PS_max (S := S) (S' := S') h16
  have hdp := (P_data D D' h16).2 hC
  refine call_of (fn := Tryz.f54) (code := bodyOf Tryz.f54) Tryz.func54 rfl (by kernel_rfl) (noRef_tupD _ _ _) ?_
  intro sl hs
  have s0 : sl 0 = .agg [a, b] := hs 0
  have s1 : sl 1 = .agg [a', b'] := hs 1
  dsimp only [Tryz.f54, bodyOf, Option.getD]
  simp (config := { maxSteps := 10000000 }) (disch := first | assumption | omega) only [go_sem, ↓reduceIte, Nat.reduceEqDiff, reduceCtorEq, Nat.reduceAdd, Nat.reduceMul, Nat.reduceLeDiff, zfu, Int.mul_def, Int.add_def, zfv, cond_false, cond_true, isub, Int.reduceToNat, s0, s1]
  refine CLL_pure _ (c66t ha hb hS hT hR hd) (by simp (disch := assumption) only [pureL, pureA, isL_pure, isLL_pure, isLLL_pure, pureL_map, Bool.and_self, Bool.and_true]) rfl rfl ?_
  simp (config := { maxSteps := 10000000 }) (disch := first | assumption | omega) only [go_sem, ↓reduceIte, Nat.reduceEqDiff, reduceCtorEq, Nat.reduceAdd, Nat.reduceMul, Nat.reduceLeDiff, zfu, Int.mul_def, Int.add_def, zfv, cond_false, cond_true, isub, Int.reduceToNat, s0, s1]
  refine CLL_pure _ (c66t ha' hb' hS' hT' hR' hd') (by simp (disch := assumption) only [pureL, pureA, isL_pure, isLL_pure, isLLL_pure, pureL_map, Bool.and_self, Bool.and_true]) rfl rfl ?_
  simp (config := { maxSteps := 10000000 }) (disch := first | assumption | omega) only [go_sem, ↓reduceIte, Nat.reduceEqDiff, reduceCtorEq, Nat.reduceAdd, Nat.reduceMul, Nat.reduceLeDiff, zfu, Int.mul_def, Int.add_def, zfv, cond_false, cond_true, isub, Int.reduceToNat, s0, s1, e1, hg]
  refine CLL_pure _ (cLP ha hb ha' hb' D.shp D'.shp h16) (by simp (disch := assumption) only [pureL, pureA, isL_pure, isLL_pure, isLLL_pure, pureL_map, Bool.and_self, Bool.and_true]) rfl rfl ?_
  simp (config := { maxSteps := 10000000 }) (disch := first | assumption | omega) only [go_sem, ↓reduceIte, Nat.reduceEqDiff, reduceCtorEq, Nat.reduceAdd, Nat.reduceMul, Nat.reduceLeDiff, zfu, Int.mul_def, Int.add_def, zfv, cond_false, cond_true, isub, Int.reduceToNat, s0, s1]
  refine CLL_q _ (c66t (isLL_imm _) (isL_imm _) m1 m2 m3 hdp) (by repeat' first | exact exqL.nil | refine exqL.cons ?_ ?_ | exact exq_sc _ _ _ (by decide) | exact exq_L (by first | assumption | exact isL_imm _) (by decide) | exact exq_LL (by assumption) (by decide) | exact exq_LLL (by assumption) (by decide) | exact exq_refL (by first | assumption | (simp only [↓zcy, ↓zcz, ↓zda, ↓zdb, ↓reduceIte, Nat.reduceEqDiff, and_true, true_and, and_self, ne_eq, not_false_eq_true, eq_self, false_and, and_false, reduceCtorEq]; done) | (simp only [↓zcy, ↓zcz, ↓zda, ↓zdb, ↓reduceIte, Nat.reduceEqDiff, and_true, true_and, and_self, ne_eq, not_false_eq_true, eq_self, false_and, and_false, reduceCtorEq]; first | rfl | assumption)) (by first | rfl | (simp only [zfe, List.length_map, tms_len]; done)) (by decide) | exact exq_refLL (by first | assumption | (simp only [↓zcy, ↓zcz, ↓zda, ↓zdb, ↓reduceIte, Nat.reduceEqDiff, and_true, true_and, and_self, ne_eq, not_false_eq_true, eq_self, false_and, and_false, reduceCtorEq]; done) | (simp only [↓zcy, ↓zcz, ↓zda, ↓zdb, ↓reduceIte, Nat.reduceEqDiff, and_true, true_and, and_self, ne_eq, not_false_eq_true, eq_self, false_and, and_false, reduceCtorEq]; first | rfl | assumption)) (by first | rfl | (simp only [zfe, List.length_map, tms_len]; done)) (by decide) | exact exq_cube (by first | assumption | (simp only [↓zcy, ↓zcz, ↓zda, ↓zdb, ↓reduceIte, Nat.reduceEqDiff, and_true, true_and, and_self, ne_eq, not_false_eq_true, eq_self, false_and, and_false, reduceCtorEq]; done) | (simp only [↓zcy, ↓zcz, ↓zda, ↓zdb, ↓reduceIte, Nat.reduceEqDiff, and_true, true_and, and_self, ne_eq, not_false_eq_true, eq_self, false_and, and_false, reduceCtorEq]; first | rfl | assumption)) (by decide) | exact exq_mat (by first | assumption | (simp only [↓zcy, ↓zcz, ↓zda, ↓zdb, ↓reduceIte, Nat.reduceEqDiff, and_true, true_and, and_self, ne_eq, not_false_eq_true, eq_self, false_and, and_false, reduceCtorEq]; done) | (simp only [↓zcy, ↓zcz, ↓zda, ↓zdb, ↓reduceIte, Nat.reduceEqDiff, and_true, true_and, and_self, ne_eq, not_false_eq_true, eq_self, false_and, and_false, reduceCtorEq]; first | rfl | assumption)) (by decide) | refine exq_agg ?_) rfl rfl rfl ?_
  simp (config := { maxSteps := 10000000 }) (disch := first | assumption | omega) only [go_sem, ↓reduceIte, Nat.reduceEqDiff, reduceCtorEq, Nat.reduceAdd, Nat.reduceMul, Nat.reduceLeDiff, zfu, Int.mul_def, Int.add_def, zfv, cond_false, cond_true, isub, Int.reduceToNat, s0, s1]
  simp only [zbj, zbk, retR, resL, outT, zes, zez, oneV, ↓zcy, ↓zcz, ↓reduceIte, Nat.reduceEqDiff, Option.some.injEq, AV.sc.injEq, Value.bool.injEq, Value.int.injEq, outL, outT, zft, zcp, zed, zef, zei, zeh, List.length_cons, List.length_nil, Nat.reduceAdd, Nat.zero_add, Nat.reduceLeDiff, List.drop_zero, List.take_succ_cons, List.take_zero, zfi, zfh, Ro.dl, zdb, zda, zfe, and_self, and_true, true_and, eq_self, List.append_nil, List.nil_append, List.cons_append, ne_eq, not_false_eq_true, and_false, false_and, Bool.false_eq_true, St.ev, zes, zfn, zhk, List.length_map, ti25]
theorem cLDn1 (ha : isLL a S) (hb : isL b T) (ha' : isLL a' S') (hb' : isL b' T') (hS : S.length ≤ maxN) (hT : T.length ≤ maxN) (hR : ∀ i, i < S.length → (row S i).length ≤ maxN)
    (hS' : S'.length ≤ maxN) (hT' : T'.length ≤ maxN) (hR' : ∀ i, i < S'.length → (row S' i).length ≤ maxN) (h : ¬ (DataP S T ∧ DataP S' T')) :
    CallOK Tryz.prog 54 [.agg [a, b], .agg [a', b']] (.tup [.agg [nilA, nilA], i64 1]) := by
  refine call_of (fn := Tryz.f54) (code := bodyOf Tryz.f54) Tryz.func54 rfl (by kernel_rfl) (rfl) ?_
  intro sl hs
  have s0 : sl 0 = .agg [a, b] := hs 0
  have s1 : sl 1 = .agg [a', b'] := hs 1
  by_cases hd : DataP S T
  · have hd' : ¬ DataP S' T' := fun x => h ⟨hd, x⟩
    dsimp only [Tryz.f54, bodyOf, Option.getD]
    simp (config := { maxSteps := 10000000 }) (disch := first | assumption | omega) only [go_sem, ↓reduceIte, Nat.reduceEqDiff, reduceCtorEq, Nat.reduceAdd, Nat.reduceMul, Nat.reduceLeDiff, zfu, Int.mul_def, Int.add_def, zfv, cond_false, cond_true, isub, Int.reduceToNat, s0, s1]
    refine CLL_pure _ (c66t ha hb hS hT hR hd) (by simp (disch := assumption) only [pureL, pureA, isL_pure, isLL_pure, isLLL_pure, pureL_map, Bool.and_self, Bool.and_true]) rfl rfl ?_
    simp (config := { maxSteps := 10000000 }) (disch := first | assumption | omega) only [go_sem, ↓reduceIte, Nat.reduceEqDiff, reduceCtorEq, Nat.reduceAdd, Nat.reduceMul, Nat.reduceLeDiff, zfu, Int.mul_def, Int.add_def, zfv, cond_false, cond_true, isub, Int.reduceToNat, s0, s1]
    refine CLL_pure _ (c66f ha' hb' hS' hT' hR' hd') (by simp (disch := assumption) only [pureL, pureA, isL_pure, isLL_pure, isLLL_pure, pureL_map, Bool.and_self, Bool.and_true]) rfl rfl ?_
    simp (config := { maxSteps := 10000000 }) (disch := first | assumption | omega) only [go_sem, ↓reduceIte, Nat.reduceEqDiff, reduceCtorEq, Nat.reduceAdd, Nat.reduceMul, Nat.reduceLeDiff, zfu, Int.mul_def, Int.add_def, zfv, cond_false, cond_true, isub, Int.reduceToNat, s0, s1]
    simp only [zbj, zbk, retR, resL, outT, zes, zez, oneV, ↓zcy, ↓zcz, ↓reduceIte, Nat.reduceEqDiff, Option.some.injEq, AV.sc.injEq, Value.bool.injEq, Value.int.injEq, outL, outT, zft, zcp, zed, zef, zei, zeh, List.length_cons, List.length_nil, Nat.reduceAdd, Nat.zero_add, Nat.reduceLeDiff, List.drop_zero, List.take_succ_cons, List.take_zero, zfi, zfh, Ro.dl, zdb, zda, zfe, and_self, and_true, true_and, eq_self, List.append_nil, List.nil_append, List.cons_append, ne_eq, not_false_eq_true, and_false, false_and, Bool.false_eq_true, St.ev, zes, zfn, zhk, List.length_map, ti25]
  · skip
    dsimp only [Tryz.f54, bodyOf, Option.getD]
    simp (config := { maxSteps := 10000000 }) (disch := first | assumption | omega) only [go_sem, ↓reduceIte, Nat.reduceEqDiff, reduceCtorEq, Nat.reduceAdd, Nat.reduceMul, Nat.reduceLeDiff, zfu, Int.mul_def, Int.add_def, zfv, cond_false, cond_true, isub, Int.reduceToNat, s0, s1]
    refine CLL_pure _ (c66f ha hb hS hT hR hd) (by simp (disch := assumption) only [pureL, pureA, isL_pure, isLL_pure, isLLL_pure, pureL_map, Bool.and_self, Bool.and_true]) rfl rfl ?_
    simp (config := { maxSteps := 10000000 }) (disch := first | assumption | omega) only [go_sem, ↓reduceIte, Nat.reduceEqDiff, reduceCtorEq, Nat.reduceAdd, Nat.reduceMul, Nat.reduceLeDiff, zfu, Int.mul_def, Int.add_def, zfv, cond_false, cond_true, isub, Int.reduceToNat, s0, s1]
    simp only [zbj, zbk, retR, resL, outT, zes, zez, oneV, ↓zcy, ↓zcz, ↓reduceIte, Nat.reduceEqDiff, Option.some.injEq, AV.sc.injEq, Value.bool.injEq, Value.int.injEq, outL, outT, zft, zcp, zed, zef, zei, zeh, List.length_cons, List.length_nil, Nat.reduceAdd, Nat.zero_add, Nat.reduceLeDiff, List.drop_zero, List.take_succ_cons, List.take_zero, zfi, zfh, Ro.dl, zdb, zda, zfe, and_self, and_true, true_and, eq_self, List.append_nil, List.nil_append, List.cons_append, ne_eq, not_false_eq_true, and_false, false_and, Bool.false_eq_true, St.ev, zes, zfn, zhk, List.length_map, ti25]
theorem cLDn3 (ha : isLL a S) (hb : isL b T) (ha' : isLL a' S') (hb' : isL b' T') (hS : S.length ≤ maxN) (hT : T.length ≤ maxN) (hR : ∀ i, i < S.length → (row S i).length ≤ maxN)
    (hS' : S'.length ≤ maxN) (hT' : T'.length ≤ maxN) (hR' : ∀ i, i < S'.length → (row S' i).length ≤ maxN) (hd : DataP S T) (hd' : DataP S' T') (h : ¬ (T.length * T'.length ≤ 16 ∧ PCub S S' T T')) :
    CallOK Tryz.prog 54 [.agg [a, b], .agg [a', b']] (.tup [.agg [nilA, nilA], i64 3]) := by
  have D := hd.dat
  have D' := hd'.dat
  have e1 : (T.length : Int) * T'.length = (T.length * T'.length : Nat) := by omega
  have q1 := D.m16
  have q2 := D'.m16
  have q3 := Nat.mul_le_mul q1 q2
  refine call_of (fn := Tryz.f54) (code := bodyOf Tryz.f54) Tryz.func54 rfl (by kernel_rfl) (rfl) ?_
  intro sl hs
  have s0 : sl 0 = .agg [a, b] := hs 0
  have s1 : sl 1 = .agg [a', b'] := hs 1
  by_cases h16 : T.length * T'.length ≤ 16
  · have hg : ¬ ((16 : Int) < (T.length * T'.length : Nat)) := by omega
    obtain ⟨m1, m2, m3⟩ := PS_max (S := S) (S' := S') h16
    have hdp : ¬ DataP (PS S S' T T') (PT T T') := fun x => h ⟨h16, (P_data D D' h16).1 x⟩
    dsimp only [Tryz.f54, bodyOf, Option.getD]
    simp (config := { maxSteps := 10000000 }) (disch := first | assumption | omega) only [go_sem, ↓reduceIte, Nat.reduceEqDiff, reduceCtorEq, Nat.reduceAdd, Nat.reduceMul, Nat.reduceLeDiff, zfu, Int.mul_def, Int.add_def, zfv, cond_false, cond_true, isub, Int.reduceToNat, s0, s1]
    refine CLL_pure _ (c66t ha hb hS hT hR hd) (by simp (disch := assumption) only [pureL, pureA, isL_pure, isLL_pure, isLLL_pure, pureL_map, Bool.and_self, Bool.and_true]) rfl rfl ?_
    simp (config := { maxSteps := 10000000 }) (disch := first | assumption | omega) only [go_sem, ↓reduceIte, Nat.reduceEqDiff, reduceCtorEq, Nat.reduceAdd, Nat.reduceMul, Nat.reduceLeDiff, zfu, Int.mul_def, Int.add_def, zfv, cond_false, cond_true, isub, Int.reduceToNat, s0, s1]
    refine CLL_pure _ (c66t ha' hb' hS' hT' hR' hd') (by simp (disch := assumption) only [pureL, pureA, isL_pure, isLL_pure, isLLL_pure, pureL_map, Bool.and_self, Bool.and_true]) rfl rfl ?_
    simp (config := { maxSteps := 10000000 }) (disch := first | assumption | omega) only [go_sem, ↓reduceIte, Nat.reduceEqDiff, reduceCtorEq, Nat.reduceAdd, Nat.reduceMul, Nat.reduceLeDiff, zfu, Int.mul_def, Int.add_def, zfv, cond_false, cond_true, isub, Int.reduceToNat, s0, s1, e1, hg]
    refine CLL_pure _ (cLP ha hb ha' hb' D.shp D'.shp h16) (by simp (disch := assumption) only [pureL, pureA, isL_pure, isLL_pure, isLLL_pure, pureL_map, Bool.and_self, Bool.and_true]) rfl rfl ?_
    simp (config := { maxSteps := 10000000 }) (disch := first | assumption | omega) only [go_sem, ↓reduceIte, Nat.reduceEqDiff, reduceCtorEq, Nat.reduceAdd, Nat.reduceMul, Nat.reduceLeDiff, zfu, Int.mul_def, Int.add_def, zfv, cond_false, cond_true, isub, Int.reduceToNat, s0, s1]
    refine CLL_q _ (c66f (isLL_imm _) (isL_imm _) m1 m2 m3 hdp) (by repeat' first | exact exqL.nil | refine exqL.cons ?_ ?_ | exact exq_sc _ _ _ (by decide) | exact exq_L (by first | assumption | exact isL_imm _) (by decide) | exact exq_LL (by assumption) (by decide) | exact exq_LLL (by assumption) (by decide) | exact exq_refL (by first | assumption | (simp only [↓zcy, ↓zcz, ↓zda, ↓zdb, ↓reduceIte, Nat.reduceEqDiff, and_true, true_and, and_self, ne_eq, not_false_eq_true, eq_self, false_and, and_false, reduceCtorEq]; done) | (simp only [↓zcy, ↓zcz, ↓zda, ↓zdb, ↓reduceIte, Nat.reduceEqDiff, and_true, true_and, and_self, ne_eq, not_false_eq_true, eq_self, false_and, and_false, reduceCtorEq]; first | rfl | assumption)) (by first | rfl | (simp only [zfe, List.length_map, tms_len]; done)) (by decide) | exact exq_refLL (by first | assumption | (simp only [↓zcy, ↓zcz, ↓zda, ↓zdb, ↓reduceIte, Nat.reduceEqDiff, and_true, true_and, and_self, ne_eq, not_false_eq_true, eq_self, false_and, and_false, reduceCtorEq]; done) | (simp only [↓zcy, ↓zcz, ↓zda, ↓zdb, ↓reduceIte, Nat.reduceEqDiff, and_true, true_and, and_self, ne_eq, not_false_eq_true, eq_self, false_and, and_false, reduceCtorEq]; first | rfl | assumption)) (by first | rfl | (simp only [zfe, List.length_map, tms_len]; done)) (by decide) | exact exq_cube (by first | assumption | (simp only [↓zcy, ↓zcz, ↓zda, ↓zdb, ↓reduceIte, Nat.reduceEqDiff, and_true, true_and, and_self, ne_eq, not_false_eq_true, eq_self, false_and, and_false, reduceCtorEq]; done) | (simp only [↓zcy, ↓zcz, ↓zda, ↓zdb, ↓reduceIte, Nat.reduceEqDiff, and_true, true_and, and_self, ne_eq, not_false_eq_true, eq_self, false_and, and_false, reduceCtorEq]; first | rfl | assumption)) (by decide) | exact exq_mat (by first | assumption | (simp only [↓zcy, ↓zcz, ↓zda, ↓zdb, ↓reduceIte, Nat.reduceEqDiff, and_true, true_and, and_self, ne_eq, not_false_eq_true, eq_self, false_and, and_false, reduceCtorEq]; done) | (simp only [↓zcy, ↓zcz, ↓zda, ↓zdb, ↓reduceIte, Nat.reduceEqDiff, and_true, true_and, and_self, ne_eq, not_false_eq_true, eq_self, false_and, and_false, reduceCtorEq]; first | rfl | assumption)) (by decide) | refine exq_agg ?_) rfl rfl rfl ?_
    simp (config := { maxSteps := 10000000 }) (disch := first | assumption | omega) only [go_sem, ↓reduceIte, Nat.reduceEqDiff, reduceCtorEq, Nat.reduceAdd, Nat.reduceMul, Nat.reduceLeDiff, zfu, Int.mul_def, Int.add_def, zfv, cond_false, cond_true, isub, Int.reduceToNat, s0, s1]
    simp only [zbj, zbk, retR, resL, outT, zes, zez, oneV, ↓zcy, ↓zcz, ↓reduceIte, Nat.reduceEqDiff, Option.some.injEq, AV.sc.injEq, Value.bool.injEq, Value.int.injEq, outL, outT, zft, zcp, zed, zef, zei, zeh, List.length_cons, List.length_nil, Nat.reduceAdd, Nat.zero_add, Nat.reduceLeDiff, List.drop_zero, List.take_succ_cons, List.take_zero, zfi, zfh, Ro.dl, zdb, zda, zfe, and_self, and_true, true_and, eq_self, List.append_nil, List.nil_append, List.cons_append, ne_eq, not_false_eq_true, and_false, false_and, Bool.false_eq_true, St.ev, zes, zfn, zhk, List.length_map, ti25]
  · have hg : (16 : Int) < (T.length * T'.length : Nat) := by omega
    dsimp only [Tryz.f54, bodyOf, Option.getD]
    simp (config := { maxSteps := 10000000 }) (disch := first | assumption | omega) only [go_sem, ↓reduceIte, Nat.reduceEqDiff, reduceCtorEq, Nat.reduceAdd, Nat.reduceMul, Nat.reduceLeDiff, zfu, Int.mul_def, Int.add_def, zfv, cond_false, cond_true, isub, Int.reduceToNat, s0, s1]
    refine CLL_pure _ (c66t ha hb hS hT hR hd) (by simp (disch := assumption) only [pureL, pureA, isL_pure, isLL_pure, isLLL_pure, pureL_map, Bool.and_self, Bool.and_true]) rfl rfl ?_
    simp (config := { maxSteps := 10000000 }) (disch := first | assumption | omega) only [go_sem, ↓reduceIte, Nat.reduceEqDiff, reduceCtorEq, Nat.reduceAdd, Nat.reduceMul, Nat.reduceLeDiff, zfu, Int.mul_def, Int.add_def, zfv, cond_false, cond_true, isub, Int.reduceToNat, s0, s1]
    refine CLL_pure _ (c66t ha' hb' hS' hT' hR' hd') (by simp (disch := assumption) only [pureL, pureA, isL_pure, isLL_pure, isLLL_pure, pureL_map, Bool.and_self, Bool.and_true]) rfl rfl ?_
    simp (config := { maxSteps := 10000000 }) (disch := first | assumption | omega) only [go_sem, ↓reduceIte, Nat.reduceEqDiff, reduceCtorEq, Nat.reduceAdd, Nat.reduceMul, Nat.reduceLeDiff, zfu, Int.mul_def, Int.add_def, zfv, cond_false, cond_true, isub, Int.reduceToNat, s0, s1, e1, hg]
    simp only [zbj, zbk, retR, resL, outT, zes, zez, oneV, ↓zcy, ↓zcz, ↓reduceIte, Nat.reduceEqDiff, Option.some.injEq, AV.sc.injEq, Value.bool.injEq, Value.int.injEq, outL, outT, zft, zcp, zed, zef, zei, zeh, List.length_cons, List.length_nil, Nat.reduceAdd, Nat.zero_add, Nat.reduceLeDiff, List.drop_zero, List.take_succ_cons, List.take_zero, zfi, zfh, Ro.dl, zdb, zda, zfe, and_self, and_true, true_and, eq_self, List.append_nil, List.nil_append, List.cons_append, ne_eq, not_false_eq_true, and_false, false_and, Bool.false_eq_true, St.ev, zes, zfn, zhk, List.length_map, ti25]
end
end Go.Proofs.YtbopenehooiekaaGreat

/- The product of rings; ProductData by the program. -/
namespace Go.Proofs.YtbopenehooiekaaGreat
open Go.RowKit
set_option maxRecDepth 1000000

section
variable {c c' : AV} {F F' : Nat → Nat → Nat → Int} {n m : Nat}
/-- The numbers of a product of rings. -/
def prF (F F' : Nat → Nat → Nat → Int) (m : Nat) (x y z : Nat) : Int := F (x / m) (y / m) (z / m) * F' (x % m) (y % m) (z % m)
theorem cPR (hc : isLLL c (cubeL F n)) (hc' : isLLL c' (cubeL F' m)) (hn : 0 < n) (hm : 0 < m) (h16 : n * m ≤ 16) (hF : cubeOk F n) (hF' : cubeOk F' m) : CallOK Tryz.prog 105 [.agg [c], .agg [c']] (.agg [cubeA (prF F F' m) (n * m)]) := by
  have e1 : (n : Int) * m = (n * m : Nat) := by omega
  have hpp : 0 < n * m := Nat.mul_pos hn hm
  have lX : (cubeL F n).length = n := zfe _ _
  have lX' : (cubeL F' m).length = m := zfe _ _
  have hn1 : n ≤ 16 := Nat.le_trans (Nat.le_mul_of_pos_right _ hm) h16
  have hm1 : m ≤ 16 := Nat.le_trans (Nat.le_mul_of_pos_left _ hn) h16
  refine call_of (fn := Tryz.f105) (code := bodyOf Tryz.f105) Tryz.func105 rfl (by kernel_rfl) (noRef_agg1 _ (noRef_cube _ _)) ?_
  intro sl hs
  have s0 : sl 0 = .agg [c] := hs 0
  have s1 : sl 1 = .agg [c'] := hs 1
  dsimp only [Tryz.f105, bodyOf, Option.getD]
  simp (config := { maxSteps := 10000000 }) (disch := first | assumption | omega) only [go_sem, ↓reduceIte, Nat.reduceEqDiff, reduceCtorEq, Nat.reduceAdd, Nat.reduceMul, Nat.reduceLeDiff, zfu, Int.mul_def, Int.add_def, zfv, cond_false, cond_true, isub, Int.reduceToNat, s0, s1, lX, lX', e1]
  refine CLL_pure _ (c103 hpp (by unfold maxN; omega)) rfl rfl rfl ?_
  simp (config := { maxSteps := 10000000 }) (disch := first | assumption | omega) only [go_sem, ↓reduceIte, Nat.reduceEqDiff, reduceCtorEq, Nat.reduceAdd, Nat.reduceMul, Nat.reduceLeDiff, zfu, Int.mul_def, Int.add_def, zfv, cond_false, cond_true, isub, Int.reduceToNat, s0, s1]
  refine WK_for (fun x st => st.sl 2 = .ptr 4096 1 [] 0 ∧ st.ro 4096 1 = some (.bx [c]) ∧ st.sl 3 = .ptr 4112 1 [] 0 ∧ st.ro 4112 1 = some (.bx [c']) ∧ st.sl 4 = .ptr 4128 1 [] 0 ∧ st.ro 4128 1 = some (.bx [nilA]) ∧ st.sl 5 = i64 (m : Int) ∧ st.sl 6 = .ptr 12384 1 [] 0 ∧ st.ro 12384 1 = some (.bx [.ref 12368 1 [] 0 (n * m)]) ∧ st.sl 21 = i64 (n * m : Nat) ∧ st.sl 22 = i64 (x : Int) ∧ st.ro 12368 1 = some (cubeA (pgF (prF F F' m) x 0 0) (n * m))) ((n * m)) ?_ ?_ ?_
  · simp only [↓zcy, ↓zcz, ↓zda, ↓zdb, ↓reduceIte, Nat.reduceEqDiff, and_true, true_and, and_self, ne_eq, not_false_eq_true, eq_self, false_and, and_false, reduceCtorEq, rws_zero, s0, s1]
    refine ⟨rfl, congrArg some (cube_congr fun i j k _ _ _ => ?_)⟩
    simp [pgF]
  · rintro x sl ro gn hx ⟨s2, r4096, s3, r4112, s4, r4128, s5, s6, r12384, s21, s22, r12368⟩
    dsimp only at s2 r4096 s3 r4112 s4 r4128 s5 s6 r12384 s21 s22 r12368
    have hx' : (x : Int) < ((n * m) : Nat) := by omega
    obtain ⟨x1, x2⟩ := pr_lt hx
    have w1 : wrF ((x / m : Nat) : Int) = (x / m : Nat) := wrfN (by omega)
    have w2 : wrF ((x % m : Nat) : Int) = (x % m : Nat) := wrfN (by omega)
    have hi := isLLL_mat hc (k := x / m) (by omega)
    have hi' := isLLL_mat hc' (k := x % m) (by omega)
    have lm : (mat (cubeL F n) (x / m)).length = n := by rw [mat_cube x1, zfe]
    have lm' : (mat (cubeL F' m) (x % m)).length = m := by rw [mat_cube x2, zfe]
    simp (config := { maxSteps := 10000000 }) (disch := first | assumption | omega) only [go_sem, ↓reduceIte, Nat.reduceEqDiff, reduceCtorEq, Nat.reduceAdd, Nat.reduceMul, Nat.reduceLeDiff, zfu, Int.mul_def, Int.add_def, zfv, cond_false, cond_true, isub, Int.reduceToNat, s2, r4096, s3, r4112, s4, r4128, s5, s6, r12384, s21, s22, r12368, hx', hx]
    refine WK_for (fun y st => st.sl 2 = .ptr 4096 1 [] 0 ∧ st.ro 4096 1 = some (.bx [c]) ∧ st.sl 3 = .ptr 4112 1 [] 0 ∧ st.ro 4112 1 = some (.bx [c']) ∧ st.sl 4 = .ptr 4128 1 [] 0 ∧ st.ro 4128 1 = some (.bx [nilA]) ∧ st.sl 5 = i64 (m : Int) ∧ st.sl 6 = .ptr 12384 1 [] 0 ∧ st.ro 12384 1 = some (.bx [.ref 12368 1 [] 0 (n * m)]) ∧ st.sl 21 = i64 (n * m : Nat) ∧ st.sl 22 = i64 (x : Int) ∧ st.ro 12368 1 = some (cubeA (pgF (prF F F' m) x y 0) (n * m)) ∧ st.sl 7 = i64 (x : Int) ∧ st.sl 27 = i64 (n * m : Nat) ∧ st.sl 28 = i64 (y : Int)) ((n * m)) ?_ ?_ ?_
    · simp only [↓zcy, ↓zcz, ↓zda, ↓zdb, ↓reduceIte, Nat.reduceEqDiff, and_true, true_and, and_self, ne_eq, not_false_eq_true, eq_self, false_and, and_false, reduceCtorEq, rws_zero, s2, r4096, s3, r4112, s4, r4128, s5, s6, r12384, s21, s22, r12368, hx', hx]
      exact rfl
    · rintro y sl ro gn hy ⟨s2, r4096, s3, r4112, s4, r4128, s5, s6, r12384, s21, s22, r12368, s7, s27, s28⟩
      dsimp only at s2 r4096 s3 r4112 s4 r4128 s5 s6 r12384 s21 s22 r12368 s7 s27 s28
      have hy' : (y : Int) < ((n * m) : Nat) := by omega
      obtain ⟨y1, y2⟩ := pr_lt hy
      have w3 : wrF ((y / m : Nat) : Int) = (y / m : Nat) := wrfN (by omega)
      have w4 : wrF ((y % m : Nat) : Int) = (y % m : Nat) := wrfN (by omega)
      have hj := isLL_row hi (k := y / m) (by omega)
      have hj' := isLL_row hi' (k := y % m) (by omega)
      have lr : (row (mat (cubeL F n) (x / m)) (y / m)).length = n := by rw [mat_cube x1, row_rws _ y1, zfe]
      have lr' : (row (mat (cubeL F' m) (x % m)) (y % m)).length = m := by rw [mat_cube x2, row_rws _ y2, zfe]
      simp (config := { maxSteps := 10000000 }) (disch := first | assumption | omega) only [go_sem, ↓reduceIte, Nat.reduceEqDiff, reduceCtorEq, Nat.reduceAdd, Nat.reduceMul, Nat.reduceLeDiff, zfu, Int.mul_def, Int.add_def, zfv, cond_false, cond_true, isub, Int.reduceToNat, s2, r4096, s3, r4112, s4, r4128, s5, s6, r12384, s21, s22, r12368, s7, s27, s28, hy', hy]
      refine WK_for (fun z st => st.sl 2 = .ptr 4096 1 [] 0 ∧ st.ro 4096 1 = some (.bx [c]) ∧ st.sl 3 = .ptr 4112 1 [] 0 ∧ st.ro 4112 1 = some (.bx [c']) ∧ st.sl 4 = .ptr 4128 1 [] 0 ∧ st.ro 4128 1 = some (.bx [nilA]) ∧ st.sl 5 = i64 (m : Int) ∧ st.sl 6 = .ptr 12384 1 [] 0 ∧ st.ro 12384 1 = some (.bx [.ref 12368 1 [] 0 (n * m)]) ∧ st.sl 21 = i64 (n * m : Nat) ∧ st.sl 22 = i64 (x : Int) ∧ st.sl 7 = i64 (x : Int) ∧ st.sl 27 = i64 (n * m : Nat) ∧ st.sl 28 = i64 (y : Int) ∧ st.ro 12368 1 = some (cubeA (pgF (prF F F' m) x y z) (n * m)) ∧ st.sl 8 = i64 (y : Int) ∧ st.sl 33 = i64 (n * m : Nat) ∧ st.sl 34 = i64 (z : Int)) ((n * m)) ?_ ?_ ?_
      · simp only [↓zcy, ↓zcz, ↓zda, ↓zdb, ↓reduceIte, Nat.reduceEqDiff, and_true, true_and, and_self, ne_eq, not_false_eq_true, eq_self, false_and, and_false, reduceCtorEq, rws_zero, s2, r4096, s3, r4112, s4, r4128, s5, s6, r12384, s21, s22, r12368, s7, s27, s28, hy', hy]
        exact rfl
      · rintro z sl ro gn hz ⟨s2, r4096, s3, r4112, s4, r4128, s5, s6, r12384, s21, s22, s7, s27, s28, r12368, s8, s33, s34⟩
        dsimp only at s2 r4096 s3 r4112 s4 r4128 s5 s6 r12384 s21 s22 s7 s27 s28 r12368 s8 s33 s34
        have hz' : (z : Int) < ((n * m) : Nat) := by omega
        obtain ⟨z1, z2⟩ := pr_lt hz
        have w5 : wrF ((z / m : Nat) : Int) = (z / m : Nat) := wrfN (by omega)
        have w6 : wrF ((z % m : Nat) : Int) = (z % m : Nat) := wrfN (by omega)
        have v1 : atI (row (mat (cubeL F n) (x / m)) (y / m)) (z / m) = F (x / m) (y / m) (z / m) := at3_cube x1 y1 z1
        have v2 : atI (row (mat (cubeL F' m) (x % m)) (y % m)) (z % m) = F' (x % m) (y % m) (z % m) := at3_cube x2 y2 z2
        have b1 := hF _ x1 _ y1 _ z1
        have b2 := hF' _ x2 _ y2 _ z2
        have p := mulB b1.1 b1.2 b2.1 b2.2
        simp (config := { maxSteps := 10000000 }) (disch := first | assumption | omega) only [go_sem, ↓reduceIte, Nat.reduceEqDiff, reduceCtorEq, Nat.reduceAdd, Nat.reduceMul, Nat.reduceLeDiff, zfu, Int.mul_def, Int.add_def, zfv, cond_false, cond_true, isub, Int.reduceToNat, s2, r4096, s3, r4112, s4, r4128, s5, s6, r12384, s21, s22, s7, s27, s28, r12368, s8, s33, s34, hz', hz, tdv, tmd, w1, w2, w3, w4, w5, w6, v1, v2, cube_cells r12368 hx hy, cube_bx r12368 hx hy, cube_wr r12368 hx hy hz]
        refine FIN_of (by kernel_rfl) ?_
        simp (config := { maxSteps := 10000000 }) (disch := first | assumption | omega) only [go_sem, ↓reduceIte, Nat.reduceEqDiff, reduceCtorEq, Nat.reduceAdd, Nat.reduceMul, Nat.reduceLeDiff, zfu, Int.mul_def, Int.add_def, zfv, cond_false, cond_true, isub, Int.reduceToNat, s2, r4096, s3, r4112, s4, r4128, s5, s6, r12384, s21, s22, s7, s27, s28, r12368, s8, s33, s34, hz', hz]
        exact ⟨congrArg some (pg_step _ _ _ _ _), i64c (by omega)⟩
      · rintro sl ro gn ⟨s2, r4096, s3, r4112, s4, r4128, s5, s6, r12384, s21, s22, s7, s27, s28, r12368, s8, s33, s34⟩
        dsimp only at s2 r4096 s3 r4112 s4 r4128 s5 s6 r12384 s21 s22 s7 s27 s28 r12368 s8 s33 s34
        have hz' : ¬ (((n * m) : Nat) : Int) < ((n * m) : Nat) := by omega
        simp (config := { maxSteps := 10000000 }) (disch := first | assumption | omega) only [go_sem, ↓reduceIte, Nat.reduceEqDiff, reduceCtorEq, Nat.reduceAdd, Nat.reduceMul, Nat.reduceLeDiff, zfu, Int.mul_def, Int.add_def, zfv, cond_false, cond_true, isub, Int.reduceToNat, s2, r4096, s3, r4112, s4, r4128, s5, s6, r12384, s21, s22, s7, s27, s28, r12368, s8, s33, s34, hz']
        refine ⟨congrArg some (cube_congr fun i j k _ _ hk => ?_), i64c (by omega)⟩
        have e : (i < x ∨ (i = x ∧ (j < y ∨ (j = y ∧ k < n * m)))) ↔ (i < x ∨ (i = x ∧ (j < y + 1 ∨ (j = y + 1 ∧ k < 0)))) := by omega
        simp only [pgF, e]
    · rintro sl ro gn ⟨s2, r4096, s3, r4112, s4, r4128, s5, s6, r12384, s21, s22, r12368, s7, s27, s28⟩
      dsimp only at s2 r4096 s3 r4112 s4 r4128 s5 s6 r12384 s21 s22 r12368 s7 s27 s28
      have hy' : ¬ (((n * m) : Nat) : Int) < ((n * m) : Nat) := by omega
      simp (config := { maxSteps := 10000000 }) (disch := first | assumption | omega) only [go_sem, ↓reduceIte, Nat.reduceEqDiff, reduceCtorEq, Nat.reduceAdd, Nat.reduceMul, Nat.reduceLeDiff, zfu, Int.mul_def, Int.add_def, zfv, cond_false, cond_true, isub, Int.reduceToNat, s2, r4096, s3, r4112, s4, r4128, s5, s6, r12384, s21, s22, r12368, s7, s27, s28, hy']
      refine ⟨i64c (by omega), congrArg some (cube_congr fun i j k _ hj _ => ?_)⟩
      have e : (i < x ∨ (i = x ∧ (j < n * m ∨ (j = n * m ∧ k < 0)))) ↔ (i < x + 1 ∨ (i = x + 1 ∧ (j < 0 ∨ (j = 0 ∧ k < 0)))) := by omega
      simp only [pgF, e]
  · rintro sl ro gn ⟨s2, r4096, s3, r4112, s4, r4128, s5, s6, r12384, s21, s22, r12368⟩
    dsimp only at s2 r4096 s3 r4112 s4 r4128 s5 s6 r12384 s21 s22 r12368
    have hx' : ¬ (((n * m) : Nat) : Int) < ((n * m) : Nat) := by omega
    have q1 : cubeA (pgF (prF F F' m) (n * m) 0 0) (n * m) = cubeA (prF F F' m) (n * m) := cube_congr fun i j k hi _ _ => by simp [pgF, hi]
    rw [q1] at r12368
    simp (config := { maxSteps := 10000000 }) (disch := first | assumption | omega) only [go_sem, ↓reduceIte, Nat.reduceEqDiff, reduceCtorEq, Nat.reduceAdd, Nat.reduceMul, Nat.reduceLeDiff, zfu, Int.mul_def, Int.add_def, zfv, cond_false, cond_true, isub, Int.reduceToNat, s2, r4096, s3, r4112, s4, r4128, s5, s6, r12384, s21, s22, r12368, hx']
    simp only [zbj, zbk, retR, resL, outT, zes, zez, oneV, ↓zcy, ↓zcz, ↓reduceIte, Nat.reduceEqDiff, Option.some.injEq, AV.sc.injEq, Value.bool.injEq, Value.int.injEq, outL, outT, zft, zcp, zed, zef, zei, zeh, List.length_cons, List.length_nil, Nat.reduceAdd, Nat.zero_add, Nat.reduceLeDiff, List.drop_zero, List.take_succ_cons, List.take_zero, zfi, zfh, Ro.dl, zdb, zda, zfe, and_self, and_true, true_and, eq_self, List.append_nil, List.nil_append, List.cons_append, ne_eq, not_false_eq_true, and_false, false_and, Bool.false_eq_true, St.ev, zes, zfn, zhk, List.length_map, ti31, ti33, s4, r12384, r12368]
end
end Go.Proofs.YtbopenehooiekaaGreat

/- ProductData by the program. -/
namespace Go.Proofs.YtbopenehooiekaaGreat
open Go.RowKit
set_option maxRecDepth 1000000

theorem noI_ag1 (x : AV) (h : noI x = true) : noI (.agg [x]) = true := by simp only [noI, noIL, h, Bool.and_true]
theorem nrL_cubJ (F : Nat → Nat → Nat → Int) (n : Nat) : noRefL (rws (fun i => .row (rws (fun j => .row (rws (fun k => i64 (F i j k)) n)) n)) n) = true := noRefL_rws _ _ fun _ => noRef_row _ (noRefL_rws _ _ fun _ => noRef_row _ (noRefL_rws _ _ fun _ => rfl))
attribute [go_sem] nrL_cubJ
section
variable {a b a' b' : AV} {S S' : List (List Int)} {T T' : List Int}
theorem PCub_iff (D : Dat S T) (D' : Dat S' T') : cubeOk (prF (nmC S T) (nmC S' T') T'.length) (T.length * T'.length) ↔ PCub S S' T T' :=
  ⟨fun h x hx y hy z hz => (h x hx y hy z hz).2, fun h x hx y hy z hz => ⟨nn_nonneg D D' hx hy hz, h x hx y hy z hz⟩⟩
theorem cCub {F : Nat → Nat → Nat → Int} {n : Nat} (h0 : 0 < n) (h16 : n ≤ 16) {t : Bool} (ht : t = true ↔ cubeOk F n) : CallOK Tryz.prog 104 [.agg [immC F n]] (bo t) := by
  have hn : n ≤ maxN := by unfold maxN; omega
  have hl : (cubeL F n).length = n := zfe _ _
  refine c105g (isLLL_immC F n) (by rw [hl]; exact hn) (fun i hi => ?_) ?_
  · rw [hl] at hi
    rw [mat_cube hi, zfe]
    refine ⟨hn, fun j hj => ?_⟩
    rw [row_rws _ hj, zfe]; exact hn
  · rw [CubeP_iff h0, ht]
    exact ⟨fun h => ⟨h, h16⟩, fun h => h.1⟩
theorem cIDt (ha : isLL a S) (hb : isL b T) (ha' : isLL a' S') (hb' : isL b' T') (hS : S.length ≤ maxN) (hT : T.length ≤ maxN) (hR : ∀ i, i < S.length → (row S i).length ≤ maxN)
    (hS' : S'.length ≤ maxN) (hT' : T'.length ≤ maxN) (hR' : ∀ i, i < S'.length → (row S' i).length ≤ maxN) (hd : DataP S T) (hd' : DataP S' T') (h16 : T.length * T'.length ≤ 16) (hC : PCub S S' T T') :
    CallOK Tryz.prog 58 [.agg [a, b], .agg [a', b']] (.tup [.agg [rowLL (PS S S' T T'), rowL (PT T T')], i64 0]) := by
  have D := hd.dat
  have D' := hd'.dat
  have hl := D.shp.lS
  have hl' := D'.shp.lS
  have e1 : (T.length : Int) * T'.length = (T.length * T'.length : Nat) := by omega
  have hg : ¬ ((16 : Int) < (T.length * T'.length : Nat)) := by omega
  have hpp : 0 < T.length * T'.length := Nat.mul_pos D.shp.pos D'.shp.pos
  have cQ := cCub (F := prF (nmC S T) (nmC S' T') T'.length) (t := true) hpp h16 (by simp [PCub_iff D D', hC])
  refine call_of (fn := Tryz.f58) (code := bodyOf Tryz.f58) Tryz.func58 rfl (by kernel_rfl) (noRef_tupD _ _ _) ?_
  intro sl hs
  have s0 : sl 0 = .agg [a, b] := hs 0
  have s1 : sl 1 = .agg [a', b'] := hs 1
  dsimp only [Tryz.f58, bodyOf, Option.getD]
  simp (config := { maxSteps := 10000000 }) (disch := first | assumption | omega) only [go_sem, ↓reduceIte, Nat.reduceEqDiff, reduceCtorEq, Nat.reduceAdd, Nat.reduceMul, Nat.reduceLeDiff, zfu, Int.mul_def, Int.add_def, zfv, cond_false, cond_true, isub, Int.reduceToNat, s0, s1]
  refine CLL_pure _ (c62t ha hb hS hT hR hd) (by simp (disch := assumption) only [pureL, pureA, isL_pure, isLL_pure, isLLL_pure, pureL_map, Bool.and_self, Bool.and_true]) rfl rfl ?_
  simp (config := { maxSteps := 10000000 }) (disch := first | assumption | omega) only [go_sem, ↓reduceIte, Nat.reduceEqDiff, reduceCtorEq, Nat.reduceAdd, Nat.reduceMul, Nat.reduceLeDiff, zfu, Int.mul_def, Int.add_def, zfv, cond_false, cond_true, isub, Int.reduceToNat, s0, s1]
  refine CLL_pure _ (c62t ha' hb' hS' hT' hR' hd') (by simp (disch := assumption) only [pureL, pureA, isL_pure, isLL_pure, isLLL_pure, pureL_map, Bool.and_self, Bool.and_true]) rfl rfl ?_
  simp (config := { maxSteps := 10000000 }) (disch := first | assumption | omega) only [go_sem, ↓reduceIte, Nat.reduceEqDiff, reduceCtorEq, Nat.reduceAdd, Nat.reduceMul, Nat.reduceLeDiff, zfu, Int.mul_def, Int.add_def, zfv, cond_false, cond_true, isub, Int.reduceToNat, s0, s1, hl, hl', e1, hg]
  refine CLLD_pure _ (c46 hb ha D.shp D.whl D.cj) (by simp (disch := assumption) only [pureL, pureA, isL_pure, isLL_pure, isLLL_pure, pureL_map, Bool.and_self, Bool.and_true]) rfl ?_
  simp (config := { maxSteps := 10000000 }) (disch := first | assumption | omega) only [go_sem, ↓reduceIte, Nat.reduceEqDiff, reduceCtorEq, Nat.reduceAdd, Nat.reduceMul, Nat.reduceLeDiff, zfu, Int.mul_def, Int.add_def, zfv, cond_false, cond_true, isub, Int.reduceToNat, s0, s1]
  refine CLLD_pure _ (c46 hb' ha' D'.shp D'.whl D'.cj) (by simp (disch := assumption) only [pureL, pureA, isL_pure, isLL_pure, isLLL_pure, pureL_map, Bool.and_self, Bool.and_true]) rfl ?_
  simp (config := { maxSteps := 10000000 }) (disch := first | assumption | omega) only [go_sem, ↓reduceIte, Nat.reduceEqDiff, reduceCtorEq, Nat.reduceAdd, Nat.reduceMul, Nat.reduceLeDiff, zfu, Int.mul_def, Int.add_def, zfv, cond_false, cond_true, isub, Int.reduceToNat, s0, s1]
  refine CLLD_q _ (cPR (isLLL_immC (nmC S T) T.length) (isLLL_immC (nmC S' T') T'.length) D.shp.pos D'.shp.pos h16 D.cube D'.cube) (.cons (exq_agg (.cons (exq_cube (F := nmC S T) (by first | (simp only [↓zcy, ↓zcz, ↓zda, ↓zdb, ↓reduceIte, Nat.reduceEqDiff, and_true, true_and, and_self, ne_eq, not_false_eq_true, eq_self, false_and, and_false, reduceCtorEq]; done) | (simp only [↓zcy, ↓zcz, ↓zda, ↓zdb, ↓reduceIte, Nat.reduceEqDiff, and_true, true_and, and_self, ne_eq, not_false_eq_true, eq_self, false_and, and_false, reduceCtorEq]; rfl)) (by decide)) .nil)) (.cons (exq_agg (.cons (exq_cube (F := nmC S' T') (by first | (simp only [↓zcy, ↓zcz, ↓zda, ↓zdb, ↓reduceIte, Nat.reduceEqDiff, and_true, true_and, and_self, ne_eq, not_false_eq_true, eq_self, false_and, and_false, reduceCtorEq]; done) | (simp only [↓zcy, ↓zcz, ↓zda, ↓zdb, ↓reduceIte, Nat.reduceEqDiff, and_true, true_and, and_self, ne_eq, not_false_eq_true, eq_self, false_and, and_false, reduceCtorEq]; rfl)) (by decide)) .nil)) .nil)) rfl (noI_ag1 _ (noI_cube _ _)) ?_
  simp (config := { maxSteps := 10000000 }) (disch := first | assumption | omega) only [go_sem, ↓reduceIte, Nat.reduceEqDiff, reduceCtorEq, Nat.reduceAdd, Nat.reduceMul, Nat.reduceLeDiff, zfu, Int.mul_def, Int.add_def, zfv, cond_false, cond_true, isub, Int.reduceToNat, s0, s1]
  refine CLLD_q _ cQ (.cons (exq_agg (.cons (exq_cube (F := prF (nmC S T) (nmC S' T') T'.length) (by first | (simp only [↓zcy, ↓zcz, ↓zda, ↓zdb, ↓reduceIte, Nat.reduceEqDiff, and_true, true_and, and_self, ne_eq, not_false_eq_true, eq_self, false_and, and_false, reduceCtorEq]; done) | (simp only [↓zcy, ↓zcz, ↓zda, ↓zdb, ↓reduceIte, Nat.reduceEqDiff, and_true, true_and, and_self, ne_eq, not_false_eq_true, eq_self, false_and, and_false, reduceCtorEq]; rfl)) (by decide)) .nil)) .nil) rfl rfl ?_
  simp (config := { maxSteps := 10000000 }) (disch := first | assumption | omega) only [go_sem, ↓reduceIte, Nat.reduceEqDiff, reduceCtorEq, Nat.reduceAdd, Nat.reduceMul, Nat.reduceLeDiff, zfu, Int.mul_def, Int.add_def, zfv, cond_false, cond_true, isub, Int.reduceToNat, s0, s1]
  refine FIN_of (by kernel_rfl) ?_
  simp (config := { maxSteps := 10000000 }) (disch := first | assumption | omega) only [go_sem, ↓reduceIte, Nat.reduceEqDiff, reduceCtorEq, Nat.reduceAdd, Nat.reduceMul, Nat.reduceLeDiff, zfu, Int.mul_def, Int.add_def, zfv, cond_false, cond_true, isub, Int.reduceToNat, s0, s1]
  refine CLL_pure _ (cIP ha hb ha' hb' D.shp D'.shp h16) (by simp (disch := assumption) only [pureL, pureA, isL_pure, isLL_pure, isLLL_pure, pureL_map, Bool.and_self, Bool.and_true]) rfl rfl ?_
  simp (config := { maxSteps := 10000000 }) (disch := first | assumption | omega) only [go_sem, ↓reduceIte, Nat.reduceEqDiff, reduceCtorEq, Nat.reduceAdd, Nat.reduceMul, Nat.reduceLeDiff, zfu, Int.mul_def, Int.add_def, zfv, cond_false, cond_true, isub, Int.reduceToNat, s0, s1]
  simp only [zbj, zbk, retR, resL, outT, zes, zez, oneV, ↓zcy, ↓zcz, ↓reduceIte, Nat.reduceEqDiff, Option.some.injEq, AV.sc.injEq, Value.bool.injEq, Value.int.injEq, outL, outT, zft, zcp, zed, zef, zei, zeh, List.length_cons, List.length_nil, Nat.reduceAdd, Nat.zero_add, Nat.reduceLeDiff, List.drop_zero, List.take_succ_cons, List.take_zero, zfi, zfh, Ro.dl, zdb, zda, zfe, and_self, and_true, true_and, eq_self, List.append_nil, List.nil_append, List.cons_append, ne_eq, not_false_eq_true, and_false, false_and, Bool.false_eq_true, St.ev, zes, zfn, zhk, List.length_map, ti25]
theorem cIDn1 (ha : isLL a S) (hb : isL b T) (ha' : isLL a' S') (hb' : isL b' T') (hS : S.length ≤ maxN) (hT : T.length ≤ maxN) (hR : ∀ i, i < S.length → (row S i).length ≤ maxN)
    (hS' : S'.length ≤ maxN) (hT' : T'.length ≤ maxN) (hR' : ∀ i, i < S'.length → (row S' i).length ≤ maxN) (h : ¬ (DataP S T ∧ DataP S' T')) :
    CallOK Tryz.prog 58 [.agg [a, b], .agg [a', b']] (.tup [.agg [nilA, nilA], i64 1]) := by
  refine call_of (fn := Tryz.f58) (code := bodyOf Tryz.f58) Tryz.func58 rfl (by kernel_rfl) (rfl) ?_
  intro sl hs
  have s0 : sl 0 = .agg [a, b] := hs 0
  have s1 : sl 1 = .agg [a', b'] := hs 1
  by_cases hd : DataP S T
  · have hd' : ¬ DataP S' T' := fun x => h ⟨hd, x⟩
    dsimp only [Tryz.f58, bodyOf, Option.getD]
    simp (config := { maxSteps := 10000000 }) (disch := first | assumption | omega) only [go_sem, ↓reduceIte, Nat.reduceEqDiff, reduceCtorEq, Nat.reduceAdd, Nat.reduceMul, Nat.reduceLeDiff, zfu, Int.mul_def, Int.add_def, zfv, cond_false, cond_true, isub, Int.reduceToNat, s0, s1]
    refine CLL_pure _ (c62t ha hb hS hT hR hd) (by simp (disch := assumption) only [pureL, pureA, isL_pure, isLL_pure, isLLL_pure, pureL_map, Bool.and_self, Bool.and_true]) rfl rfl ?_
    simp (config := { maxSteps := 10000000 }) (disch := first | assumption | omega) only [go_sem, ↓reduceIte, Nat.reduceEqDiff, reduceCtorEq, Nat.reduceAdd, Nat.reduceMul, Nat.reduceLeDiff, zfu, Int.mul_def, Int.add_def, zfv, cond_false, cond_true, isub, Int.reduceToNat, s0, s1]
    refine CLL_pure _ (c62f ha' hb' hS' hT' hR' hd') (by simp (disch := assumption) only [pureL, pureA, isL_pure, isLL_pure, isLLL_pure, pureL_map, Bool.and_self, Bool.and_true]) rfl rfl ?_
    simp (config := { maxSteps := 10000000 }) (disch := first | assumption | omega) only [go_sem, ↓reduceIte, Nat.reduceEqDiff, reduceCtorEq, Nat.reduceAdd, Nat.reduceMul, Nat.reduceLeDiff, zfu, Int.mul_def, Int.add_def, zfv, cond_false, cond_true, isub, Int.reduceToNat, s0, s1]
    simp only [zbj, zbk, retR, resL, outT, zes, zez, oneV, ↓zcy, ↓zcz, ↓reduceIte, Nat.reduceEqDiff, Option.some.injEq, AV.sc.injEq, Value.bool.injEq, Value.int.injEq, outL, outT, zft, zcp, zed, zef, zei, zeh, List.length_cons, List.length_nil, Nat.reduceAdd, Nat.zero_add, Nat.reduceLeDiff, List.drop_zero, List.take_succ_cons, List.take_zero, zfi, zfh, Ro.dl, zdb, zda, zfe, and_self, and_true, true_and, eq_self, List.append_nil, List.nil_append, List.cons_append, ne_eq, not_false_eq_true, and_false, false_and, Bool.false_eq_true, St.ev, zes, zfn, zhk, List.length_map, ti25]
  · skip
    dsimp only [Tryz.f58, bodyOf, Option.getD]
    simp (config := { maxSteps := 10000000 }) (disch := first | assumption | omega) only [go_sem, ↓reduceIte, Nat.reduceEqDiff, reduceCtorEq, Nat.reduceAdd, Nat.reduceMul, Nat.reduceLeDiff, zfu, Int.mul_def, Int.add_def, zfv, cond_false, cond_true, isub, Int.reduceToNat, s0, s1]
    refine CLL_pure _ (c62f ha hb hS hT hR hd) (by simp (disch := assumption) only [pureL, pureA, isL_pure, isLL_pure, isLLL_pure, pureL_map, Bool.and_self, Bool.and_true]) rfl rfl ?_
    simp (config := { maxSteps := 10000000 }) (disch := first | assumption | omega) only [go_sem, ↓reduceIte, Nat.reduceEqDiff, reduceCtorEq, Nat.reduceAdd, Nat.reduceMul, Nat.reduceLeDiff, zfu, Int.mul_def, Int.add_def, zfv, cond_false, cond_true, isub, Int.reduceToNat, s0, s1]
    simp only [zbj, zbk, retR, resL, outT, zes, zez, oneV, ↓zcy, ↓zcz, ↓reduceIte, Nat.reduceEqDiff, Option.some.injEq, AV.sc.injEq, Value.bool.injEq, Value.int.injEq, outL, outT, zft, zcp, zed, zef, zei, zeh, List.length_cons, List.length_nil, Nat.reduceAdd, Nat.zero_add, Nat.reduceLeDiff, List.drop_zero, List.take_succ_cons, List.take_zero, zfi, zfh, Ro.dl, zdb, zda, zfe, and_self, and_true, true_and, eq_self, List.append_nil, List.nil_append, List.cons_append, ne_eq, not_false_eq_true, and_false, false_and, Bool.false_eq_true, St.ev, zes, zfn, zhk, List.length_map, ti25]
theorem cIDn3 (ha : isLL a S) (hb : isL b T) (ha' : isLL a' S') (hb' : isL b' T') (hS : S.length ≤ maxN) (hT : T.length ≤ maxN) (hR : ∀ i, i < S.length → (row S i).length ≤ maxN)
    (hS' : S'.length ≤ maxN) (hT' : T'.length ≤ maxN) (hR' : ∀ i, i < S'.length → (row S' i).length ≤ maxN) (hd : DataP S T) (hd' : DataP S' T') (h : ¬ (T.length * T'.length ≤ 16 ∧ PCub S S' T T')) :
    CallOK Tryz.prog 58 [.agg [a, b], .agg [a', b']] (.tup [.agg [nilA, nilA], i64 3]) := by
  have D := hd.dat
  have D' := hd'.dat
  have hl := D.shp.lS
  have hl' := D'.shp.lS
  have e1 : (T.length : Int) * T'.length = (T.length * T'.length : Nat) := by omega
  have q1 := D.m16
  have q2 := D'.m16
  have q3 := Nat.mul_le_mul q1 q2
  have hpp : 0 < T.length * T'.length := Nat.mul_pos D.shp.pos D'.shp.pos
  refine call_of (fn := Tryz.f58) (code := bodyOf Tryz.f58) Tryz.func58 rfl (by kernel_rfl) (rfl) ?_
  intro sl hs
  have s0 : sl 0 = .agg [a, b] := hs 0
  have s1 : sl 1 = .agg [a', b'] := hs 1
  by_cases h16 : T.length * T'.length ≤ 16
  · have hg : ¬ ((16 : Int) < (T.length * T'.length : Nat)) := by omega
    have hC : ¬ PCub S S' T T' := fun x => h ⟨h16, x⟩
    have cQ := cCub (F := prF (nmC S T) (nmC S' T') T'.length) (t := false) hpp h16 (by simp [PCub_iff D D', hC])
    dsimp only [Tryz.f58, bodyOf, Option.getD]
    simp (config := { maxSteps := 10000000 }) (disch := first | assumption | omega) only [go_sem, ↓reduceIte, Nat.reduceEqDiff, reduceCtorEq, Nat.reduceAdd, Nat.reduceMul, Nat.reduceLeDiff, zfu, Int.mul_def, Int.add_def, zfv, cond_false, cond_true, isub, Int.reduceToNat, s0, s1]
    refine CLL_pure _ (c62t ha hb hS hT hR hd) (by simp (disch := assumption) only [pureL, pureA, isL_pure, isLL_pure, isLLL_pure, pureL_map, Bool.and_self, Bool.and_true]) rfl rfl ?_
    simp (config := { maxSteps := 10000000 }) (disch := first | assumption | omega) only [go_sem, ↓reduceIte, Nat.reduceEqDiff, reduceCtorEq, Nat.reduceAdd, Nat.reduceMul, Nat.reduceLeDiff, zfu, Int.mul_def, Int.add_def, zfv, cond_false, cond_true, isub, Int.reduceToNat, s0, s1]
    refine CLL_pure _ (c62t ha' hb' hS' hT' hR' hd') (by simp (disch := assumption) only [pureL, pureA, isL_pure, isLL_pure, isLLL_pure, pureL_map, Bool.and_self, Bool.and_true]) rfl rfl ?_
    simp (config := { maxSteps := 10000000 }) (disch := first | assumption | omega) only [go_sem, ↓reduceIte, Nat.reduceEqDiff, reduceCtorEq, Nat.reduceAdd, Nat.reduceMul, Nat.reduceLeDiff, zfu, Int.mul_def, Int.add_def, zfv, cond_false, cond_true, isub, Int.reduceToNat, s0, s1, hl, hl', e1, hg]
    refine CLLD_pure _ (c46 hb ha D.shp D.whl D.cj) (by simp (disch := assumption) only [pureL, pureA, isL_pure, isLL_pure, isLLL_pure, pureL_map, Bool.and_self, Bool.and_true]) rfl ?_
    simp (config := { maxSteps := 10000000 }) (disch := first | assumption | omega) only [go_sem, ↓reduceIte, Nat.reduceEqDiff, reduceCtorEq, Nat.reduceAdd, Nat.reduceMul, Nat.reduceLeDiff, zfu, Int.mul_def, Int.add_def, zfv, cond_false, cond_true, isub, Int.reduceToNat, s0, s1]
    refine CLLD_pure _ (c46 hb' ha' D'.shp D'.whl D'.cj) (by simp (disch := assumption) only [pureL, pureA, isL_pure, isLL_pure, isLLL_pure, pureL_map, Bool.and_self, Bool.and_true]) rfl ?_
    simp (config := { maxSteps := 10000000 }) (disch := first | assumption | omega) only [go_sem, ↓reduceIte, Nat.reduceEqDiff, reduceCtorEq, Nat.reduceAdd, Nat.reduceMul, Nat.reduceLeDiff, zfu, Int.mul_def, Int.add_def, zfv, cond_false, cond_true, isub, Int.reduceToNat, s0, s1]
    refine CLLD_q _ (cPR (isLLL_immC (nmC S T) T.length) (isLLL_immC (nmC S' T') T'.length) D.shp.pos D'.shp.pos h16 D.cube D'.cube) (.cons (exq_agg (.cons (exq_cube (F := nmC S T) (by first | (simp only [↓zcy, ↓zcz, ↓zda, ↓zdb, ↓reduceIte, Nat.reduceEqDiff, and_true, true_and, and_self, ne_eq, not_false_eq_true, eq_self, false_and, and_false, reduceCtorEq]; done) | (simp only [↓zcy, ↓zcz, ↓zda, ↓zdb, ↓reduceIte, Nat.reduceEqDiff, and_true, true_and, and_self, ne_eq, not_false_eq_true, eq_self, false_and, and_false, reduceCtorEq]; rfl)) (by decide)) .nil)) (.cons (exq_agg (.cons (exq_cube (F := nmC S' T') (by first | (simp only [↓zcy, ↓zcz, ↓zda, ↓zdb, ↓reduceIte, Nat.reduceEqDiff, and_true, true_and, and_self, ne_eq, not_false_eq_true, eq_self, false_and, and_false, reduceCtorEq]; done) | (simp only [↓zcy, ↓zcz, ↓zda, ↓zdb, ↓reduceIte, Nat.reduceEqDiff, and_true, true_and, and_self, ne_eq, not_false_eq_true, eq_self, false_and, and_false, reduceCtorEq]; rfl)) (by decide)) .nil)) .nil)) rfl (noI_ag1 _ (noI_cube _ _)) ?_
    simp (config := { maxSteps := 10000000 }) (disch := first | assumption | omega) only [go_sem, ↓reduceIte, Nat.reduceEqDiff, reduceCtorEq, Nat.reduceAdd, Nat.reduceMul, Nat.reduceLeDiff, zfu, Int.mul_def, Int.add_def, zfv, cond_false, cond_true, isub, Int.reduceToNat, s0, s1]
    refine CLLD_q _ cQ (.cons (exq_agg (.cons (exq_cube (F := prF (nmC S T) (nmC S' T') T'.length) (by first | (simp only [↓zcy, ↓zcz, ↓zda, ↓zdb, ↓reduceIte, Nat.reduceEqDiff, and_true, true_and, and_self, ne_eq, not_false_eq_true, eq_self, false_and, and_false, reduceCtorEq]; done) | (simp only [↓zcy, ↓zcz, ↓zda, ↓zdb, ↓reduceIte, Nat.reduceEqDiff, and_true, true_and, and_self, ne_eq, not_false_eq_true, eq_self, false_and, and_false, reduceCtorEq]; rfl)) (by decide)) .nil)) .nil) rfl rfl ?_
    simp (config := { maxSteps := 10000000 }) (disch := first | assumption | omega) only [go_sem, ↓reduceIte, Nat.reduceEqDiff, reduceCtorEq, Nat.reduceAdd, Nat.reduceMul, Nat.reduceLeDiff, zfu, Int.mul_def, Int.add_def, zfv, cond_false, cond_true, isub, Int.reduceToNat, s0, s1]
    refine FIN_of (by kernel_rfl) ?_
    simp (config := { maxSteps := 10000000 }) (disch := first | assumption | omega) only [go_sem, ↓reduceIte, Nat.reduceEqDiff, reduceCtorEq, Nat.reduceAdd, Nat.reduceMul, Nat.reduceLeDiff, zfu, Int.mul_def, Int.add_def, zfv, cond_false, cond_true, isub, Int.reduceToNat, s0, s1]
    simp only [zbj, zbk, retR, resL, outT, zes, zez, oneV, ↓zcy, ↓zcz, ↓reduceIte, Nat.reduceEqDiff, Option.some.injEq, AV.sc.injEq, Value.bool.injEq, Value.int.injEq, outL, outT, zft, zcp, zed, zef, zei, zeh, List.length_cons, List.length_nil, Nat.reduceAdd, Nat.zero_add, Nat.reduceLeDiff, List.drop_zero, List.take_succ_cons, List.take_zero, zfi, zfh, Ro.dl, zdb, zda, zfe, and_self, and_true, true_and, eq_self, List.append_nil, List.nil_append, List.cons_append, ne_eq, not_false_eq_true, and_false, false_and, Bool.false_eq_true, St.ev, zes, zfn, zhk, List.length_map, ti25]
  · have hg : (16 : Int) < (T.length * T'.length : Nat) := by omega
    dsimp only [Tryz.f58, bodyOf, Option.getD]
    simp (config := { maxSteps := 10000000 }) (disch := first | assumption | omega) only [go_sem, ↓reduceIte, Nat.reduceEqDiff, reduceCtorEq, Nat.reduceAdd, Nat.reduceMul, Nat.reduceLeDiff, zfu, Int.mul_def, Int.add_def, zfv, cond_false, cond_true, isub, Int.reduceToNat, s0, s1]
    refine CLL_pure _ (c62t ha hb hS hT hR hd) (by simp (disch := assumption) only [pureL, pureA, isL_pure, isLL_pure, isLLL_pure, pureL_map, Bool.and_self, Bool.and_true]) rfl rfl ?_
    simp (config := { maxSteps := 10000000 }) (disch := first | assumption | omega) only [go_sem, ↓reduceIte, Nat.reduceEqDiff, reduceCtorEq, Nat.reduceAdd, Nat.reduceMul, Nat.reduceLeDiff, zfu, Int.mul_def, Int.add_def, zfv, cond_false, cond_true, isub, Int.reduceToNat, s0, s1]
    refine CLL_pure _ (c62t ha' hb' hS' hT' hR' hd') (by simp (disch := assumption) only [pureL, pureA, isL_pure, isLL_pure, isLLL_pure, pureL_map, Bool.and_self, Bool.and_true]) rfl rfl ?_
    simp (config := { maxSteps := 10000000 }) (disch := first | assumption | omega) only [go_sem, ↓reduceIte, Nat.reduceEqDiff, reduceCtorEq, Nat.reduceAdd, Nat.reduceMul, Nat.reduceLeDiff, zfu, Int.mul_def, Int.add_def, zfv, cond_false, cond_true, isub, Int.reduceToNat, s0, s1, hl, hl', e1, hg]
    refine FIN_of (by kernel_rfl) ?_
    simp (config := { maxSteps := 10000000 }) (disch := first | assumption | omega) only [go_sem, ↓reduceIte, Nat.reduceEqDiff, reduceCtorEq, Nat.reduceAdd, Nat.reduceMul, Nat.reduceLeDiff, zfu, Int.mul_def, Int.add_def, zfv, cond_false, cond_true, isub, Int.reduceToNat, s0, s1]
    simp only [zbj, zbk, retR, resL, outT, zes, zez, oneV, ↓zcy, ↓zcz, ↓reduceIte, Nat.reduceEqDiff, Option.some.injEq, AV.sc.injEq, Value.bool.injEq, Value.int.injEq, outL, outT, zft, zcp, zed, zef, zei, zeh, List.length_cons, List.length_nil, Nat.reduceAdd, Nat.zero_add, Nat.reduceLeDiff, List.drop_zero, List.take_succ_cons, List.take_zero, zfi, zfh, Ro.dl, zdb, zda, zfe, and_self, and_true, true_and, eq_self, List.append_nil, List.nil_append, List.cons_append, ne_eq, not_false_eq_true, and_false, false_and, Bool.false_eq_true, St.ev, zes, zfn, zhk, List.length_map, ti25]
end
end Go.Proofs.YtbopenehooiekaaGreat
