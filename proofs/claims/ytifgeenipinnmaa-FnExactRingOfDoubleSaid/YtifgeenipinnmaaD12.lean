/- Marking rings. -/
import Derived.Test.YtifgeenipinnmaaD11
import Derived.Test.YtifgeenipinnmaaK3b
set_option linter.all false
namespace Go.Proofs.Ytifgeenipinnmaa
open Go.RowKit

theorem pure_imm1 {a : AV} (h : pureA a = true) (z : Int) : pureL [a, i64 z] = true := by simp only [pureL, h, pureA, Bool.and_self]
theorem plc_two (s g i j : Nat) (rs ts : List AV) (hi : i < rs.length) (hj : j < ts.length) : Plc s g [i, j] (fun cs => .row (rs.set i (.row (ts.set j (.row cs))))) := by
  refine ⟨fun ro cs h => ?_, fun ro cs h => ?_, fun f cs => ?_⟩
  · simp [Ro.cells, Ro.at, h, ath, hi, hj]
  · simp [isBxAt, Ro.at, h, ath, hi, hj]
  · simp [putR, hi, hj]
abbrev rI (F : Nat → Nat → Nat → Int) (n : Nat) : List AV := rws (fun i => .row (rws (fun j => .row (rws (fun k => i64 (F i j k)) n)) n)) n
abbrev rJ (F : Nat → Nat → Nat → Int) (n i : Nat) : List AV := rws (fun j => .row (rws (fun k => i64 (F i j k)) n)) n
theorem cube_row (F : Nat → Nat → Nat → Int) (n i j : Nat) (G : Nat → Int) : AV.row ((rI F n).set i (.row ((rJ F n i).set j (.row (rws (fun z => i64 (G z)) n))))) = cubeA (fun x y z => if x = i ∧ y = j then G z else F x y z) n := by
  unfold rI rJ
  rw [rws_set, rws_set]
  refine congrArg AV.row (rws_congr fun x _ => ?_)
  by_cases hx : x = i
  · subst hx
    rw [if_pos rfl]
    refine congrArg AV.row (rws_congr fun y _ => ?_)
    by_cases hy : y = j
    · subst hy
      rw [if_pos rfl]
      simp
    · rw [if_neg hy]; simp [hy]
  · rw [if_neg hx]; simp [hx]
def labQ (F : Nat → Nat → Nat → Int) (i : Nat) (k : Int) (n j : Nat) : Nat → Nat → Nat → Int := fun x y z => if x = i ∧ y < j then k + (y * n + z : Nat) else F x y z

set_option maxRecDepth 1000000 in
theorem in43c {s g i n : Nat} {F : Nat → Nat → Nat → Int} {ro : Ro} {gn : Nat → Nat} {k : Int} (hro : ro s g = some (cubeA F n)) (hi : i < n) (hn : n ≤ 16) (hk : 0 ≤ k) (hk2 : k ≤ 100000) :
    InOK Try.prog 43 [.ref s g [i] 0 n, i64 k] ro gn (i64 (k + (n * n : Nat))) (upr ro s g (cubeA (labQ F i k n n) n)) gn := by
  refine in_of (fn := Try.f43) (code := bodyOf Try.f43) Try.func43 rfl (by kernel_rfl) ?_
  intro sl hs
  have s0 : sl 0 = .ref s g [i] 0 n := hs 0
  have s1 : sl 1 = i64 k := hs 1
  have hjn : ∀ j : Nat, j ≤ 16 → j * n ≤ 256 := fun j hj => Nat.mul_le_mul (n₂ := 16) (m₂ := 16) hj hn
  have hmN : n ≤ maxN := by unfold maxN; omega
  simp only [Try.f43, bodyOf, Option.getD, go_sem, ↓reduceIte, Nat.reduceEqDiff, reduceCtorEq, Nat.reduceAdd, Nat.reduceMul, Nat.reduceLeDiff, ti2, ti3, ti4, ti22, s0, s1]
  refine WK_for (fun j st => st.sl 0 = .ref s g [i] 0 n ∧ st.sl 1 = i64 (k + (j * n : Nat)) ∧ st.sl 5 = i64 (j : Int) ∧ st.ro = upr ro s g (cubeA (labQ F i k n j) n) ∧ st.gn = gn) n ?_ ?_ ?_
  · simp only [↓zcy, ↓zcz, ↓zda, ↓zdb, ↓reduceIte, Nat.reduceEqDiff, and_true, true_and, and_self, ne_eq, not_false_eq_true, eq_self, false_and, and_false, reduceCtorEq, s0, s1, Nat.zero_mul, Int.natCast_zero, Int.add_zero]
    have : cubeA (labQ F i k n 0) n = cubeA F n := cube_congr fun x y z _ _ _ => by simp [labQ]
    rw [this]
    exact (upr_id _ _ _ _ hro).symm
  · rintro j sl ro' gn' hj ⟨s0, s1, s5, rfl, rfl⟩
    dsimp only at s0 s1 s5
    have hj' : (j : Int) < n := by omega
    have hb := hjn j (by omega)
    have hb2 := hjn (j + 1) (by omega)
    have e1 : (j + 1) * n = j * n + n := by rw [Nat.add_mul, Nat.one_mul]
    have hgi := rws_get (fun x => AV.row (rws (fun y => .row (rws (fun z => i64 (labQ F i k n j x y z)) n)) n)) n i hi
    have hgj := rws_get (fun y => AV.row (rws (fun z => i64 (labQ F i k n j i y z)) n)) n j hj
    simp (config := { maxSteps := 10000000 }) (disch := first | omega | assumption) only [go_sem, ↓reduceIte, Nat.reduceEqDiff, reduceCtorEq, Nat.reduceAdd, Nat.reduceMul, Nat.reduceLeDiff, zfu, Int.mul_def, Int.add_def, zfv, cond_false, cond_true, isub, ti2, ti3, ti4, ti22, ti23, s0, s1, s5, kLen1, hj', hj, hi, hgi, hgj, inO_row, rowO_row, zfp]
    have h := in32 (plc_two s g i j (rI (labQ F i k n j) n) (rJ (labQ F i k n j) n i) (by rw [zfe]; exact hi) (by rw [zfe]; exact hj)) (cs := rws (fun z => i64 (labQ F i k n j i j z)) n) (ro := upr ro s g (cubeA (labQ F i k n j) n)) (gn := gn') (k := k + (j * n : Nat))
      (by rw [cube_row]; rw [upr_same]; exact congrArg some (cube_congr fun x y z _ _ _ => by
            split
            · rename_i hxy; rw [hxy.1, hxy.2]
            · rfl)) (by rw [zfe]; exact hmN) (by omega) (by rw [zfe]; omega)
    rw [zfe, iota_rws, rws_map, cube_row, upr_upr] at h
    have e2 : cubeA (fun x y z => if x = i ∧ y = j then k + (j * n : Nat) + (z : Int) else labQ F i k n j x y z) n = cubeA (labQ F i k n (j + 1)) n := cube_congr fun x y z _ _ _ => by
      unfold labQ
      by_cases hxy : x = i ∧ y = j
      · rw [if_pos hxy, if_pos ⟨hxy.1, by omega⟩, hxy.2]; omega
      · rw [if_neg hxy]
        have : (x = i ∧ y < j) ↔ (x = i ∧ y < j + 1) := by omega
        simp only [this]
    rw [e2] at h
    refine CLL_in rfl _ _ _ h ?_
    simp (config := { maxSteps := 10000000 }) (disch := first | omega | assumption) only [go_sem, ↓reduceIte, Nat.reduceEqDiff, reduceCtorEq, Nat.reduceAdd, Nat.reduceMul, Nat.reduceLeDiff, zfu, Int.mul_def, Int.add_def, zfv, cond_false, cond_true, isub, ti2, ti3, ti4, ti22, ti23, s0, s1, s5]
    exact ⟨i64c (by omega), i64c (by omega)⟩
  · rintro sl ro' gn' ⟨s0, s1, s5, rfl, rfl⟩
    dsimp only at s0 s1 s5
    have hj' : ¬ (n : Int) < n := by omega
    have hgi := rws_get (fun x => AV.row (rws (fun y => .row (rws (fun z => i64 (labQ F i k n n x y z)) n)) n)) n i hi
    simp (config := { maxSteps := 10000000 }) (disch := first | omega | assumption) only [go_sem, ↓reduceIte, Nat.reduceEqDiff, reduceCtorEq, Nat.reduceAdd, Nat.reduceMul, Nat.reduceLeDiff, zfu, Int.mul_def, Int.add_def, zfv, cond_false, cond_true, isub, ti2, ti3, ti4, ti22, ti23, s0, s1, s5, kLen1, hj', hgi, inO_row, rowO_row]
    refine ⟨.inr rfl, ⟨_, rfl, ?_⟩, rfl, rfl⟩
    simp only [↓zcy, ↓zcz, ↓zda, ↓zdb, ↓reduceIte, Nat.reduceEqDiff, and_true, true_and, and_self, ne_eq, not_false_eq_true, eq_self, false_and, and_false, reduceCtorEq, oneOrA]

/-- Planes below i are labelled. -/
def lbQ (F : Nat → Nat → Nat → Int) (k : Int) (n i : Nat) : Nat → Nat → Nat → Int := fun x y z => if x < i then lbl k n x y z else F x y z

set_option maxRecDepth 1000000 in
theorem in48 {s g n : Nat} {F : Nat → Nat → Nat → Int} {ro : Ro} {gn : Nat → Nat} {k : Int} (hro : ro s g = some (cubeA F n)) (hn : n ≤ 16) (hk : 0 ≤ k) (hk2 : k ≤ 1000) :
    InOK Try.prog 48 [.ref s g [] 0 n, i64 k] ro gn (i64 (k + (n * n * n : Nat))) (upr ro s g (cubeA (lbl k n) n)) gn := by
  refine in_of (fn := Try.f48) (code := bodyOf Try.f48) Try.func48 rfl (by kernel_rfl) ?_
  intro sl hs
  have s0 : sl 0 = .ref s g [] 0 n := hs 0
  have s1 : sl 1 = i64 k := hs 1
  have hnn : ∀ x : Nat, x ≤ 16 → x * n * n ≤ 4096 := fun x hx => by
    have h1 : x * n ≤ 16 * 16 := Nat.mul_le_mul hx hn
    have h2 : x * n * n ≤ 256 * 16 := Nat.mul_le_mul h1 hn
    omega
  simp only [Try.f48, bodyOf, Option.getD, go_sem, ↓reduceIte, Nat.reduceEqDiff, reduceCtorEq, Nat.reduceAdd, Nat.reduceMul, Nat.reduceLeDiff, ti2, ti3, ti4, ti31, s0, s1]
  refine WK_for (fun i st => st.sl 0 = .ref s g [] 0 n ∧ st.sl 1 = i64 (k + (i * n * n : Nat)) ∧ st.sl 5 = i64 (i : Int) ∧ st.ro = upr ro s g (cubeA (lbQ F k n i) n) ∧ st.gn = gn) n ?_ ?_ ?_
  · simp only [↓zcy, ↓zcz, ↓zda, ↓zdb, ↓reduceIte, Nat.reduceEqDiff, and_true, true_and, and_self, ne_eq, not_false_eq_true, eq_self, false_and, and_false, reduceCtorEq, s0, s1, Nat.zero_mul, Int.natCast_zero, Int.add_zero]
    have : cubeA (lbQ F k n 0) n = cubeA F n := cube_congr fun x y z _ _ _ => by simp [lbQ]
    rw [this]
    exact (upr_id _ _ _ _ hro).symm
  · rintro i sl ro' gn' hi ⟨s0, s1, s5, rfl, rfl⟩
    dsimp only at s0 s1 s5
    have hi' : (i : Int) < n := by omega
    have hb := hnn i (by omega)
    have hb2 := hnn (i + 1) (by omega)
    have e1 : (i + 1) * n * n = i * n * n + n * n := by rw [Nat.add_mul, Nat.add_mul, Nat.one_mul]
    have hgi := rws_get (fun x => AV.row (rws (fun y => .row (rws (fun z => i64 (lbQ F k n i x y z)) n)) n)) n i hi
    simp (config := { maxSteps := 10000000 }) (disch := first | omega | assumption) only [go_sem, ↓reduceIte, Nat.reduceEqDiff, reduceCtorEq, Nat.reduceAdd, Nat.reduceMul, Nat.reduceLeDiff, zfu, Int.mul_def, Int.add_def, zfv, cond_false, cond_true, isub, ti2, ti3, ti4, ti22, ti31, s0, s1, s5, kLen1, hi', hi, hgi, zfp]
    have h := in43c (ro := upr ro s g (cubeA (lbQ F k n i) n)) (gn := gn') (k := k + (i * n * n : Nat)) (upr_same _ _ _ _) hi hn (by omega) (by omega)
    rw [upr_upr] at h
    have e2 : cubeA (labQ (lbQ F k n i) i (k + (i * n * n : Nat)) n n) n = cubeA (lbQ F k n (i + 1)) n := cube_congr fun x y z _ hy _ => by
      unfold labQ lbQ lbl
      by_cases hx : x = i
      · subst hx
        rw [if_pos ⟨rfl, hy⟩, if_pos (by omega), Nat.add_mul]; omega
      · rw [if_neg (fun h => hx h.1)]
        have : x < i ↔ x < i + 1 := by omega
        simp only [this]
    rw [e2] at h
    refine CLL_in rfl _ _ _ h ?_
    simp (config := { maxSteps := 10000000 }) (disch := first | omega | assumption) only [go_sem, ↓reduceIte, Nat.reduceEqDiff, reduceCtorEq, Nat.reduceAdd, Nat.reduceMul, Nat.reduceLeDiff, zfu, Int.mul_def, Int.add_def, zfv, cond_false, cond_true, isub, ti2, ti3, ti4, ti22, ti31, s0, s1, s5]
    exact ⟨i64c (by omega), i64c (by omega)⟩
  · rintro sl ro' gn' ⟨s0, s1, s5, rfl, rfl⟩
    dsimp only at s0 s1 s5
    have hi' : ¬ (n : Int) < n := by omega
    simp (config := { maxSteps := 10000000 }) (disch := first | omega | assumption) only [go_sem, ↓reduceIte, Nat.reduceEqDiff, reduceCtorEq, Nat.reduceAdd, Nat.reduceMul, Nat.reduceLeDiff, zfu, Int.mul_def, Int.add_def, zfv, cond_false, cond_true, isub, ti2, ti3, ti4, ti22, ti31, s0, s1, s5, kLen1, hi']
    refine ⟨.inr rfl, ⟨_, rfl, ?_⟩, ?_, rfl⟩
    · simp only [↓zcy, ↓zcz, ↓zda, ↓zdb, ↓reduceIte, Nat.reduceEqDiff, and_true, true_and, and_self, ne_eq, not_false_eq_true, eq_self, false_and, and_false, reduceCtorEq, oneOrA]
    · exact congrArg (upr ro s g) (cube_congr fun x y z hx _ _ => by simp [lbQ, hx])

set_option maxRecDepth 1000000 in
theorem in18 {s g n : Nat} {F : Nat → Nat → Nat → Int} {ro : Ro} {gn : Nat → Nat} {k : Int} (hro : ro s g = some (cubeA F n)) (hf : ¬ (s = 4096 ∧ g = gn 4096 + 1)) (hn : n ≤ 16) (hk : 0 ≤ k) (hk2 : k ≤ 1000) :
    InOK Try.prog 18 [.agg [.ref s g [] 0 n], i64 k] ro gn (i64 (k + (n * n * n : Nat))) (upr (upr ro 4096 (gn 4096 + 1) (.bx [.ref s g [] 0 n])) s g (cubeA (lbl k n) n)) (upg gn 4096 (gn 4096 + 1)) := by
  refine in_of (fn := Try.f18) (code := bodyOf Try.f18) Try.func18 rfl (by kernel_rfl) ?_
  intro sl hs
  have s0 : sl 0 = .agg [.ref s g [] 0 n] := hs 0
  have s1 : sl 1 = i64 k := hs 1
  simp only [Try.f18, bodyOf, Option.getD, go_sem, ↓reduceIte, Nat.reduceEqDiff, reduceCtorEq, Nat.reduceAdd, Nat.reduceMul, Nat.reduceLeDiff, ti2, ti3, ti4, ti31, ti33, s0, s1, hro]
  refine CLL_in rfl _ _ _ (in48 (F := F) (by simp only [↓zcy, ↓zcz, ↓zda, ↓zdb, ↓reduceIte, Nat.reduceEqDiff, and_true, true_and, and_self, ne_eq, not_false_eq_true, eq_self, false_and, and_false, reduceCtorEq, hf, hro]) hn hk hk2) ?_
  simp (config := { maxSteps := 10000000 }) (disch := first | omega | assumption) only [go_sem, ↓reduceIte, Nat.reduceEqDiff, reduceCtorEq, Nat.reduceAdd, Nat.reduceMul, Nat.reduceLeDiff, zfu, Int.mul_def, Int.add_def, zfv, cond_false, cond_true, isub, ti2, ti3, ti4, ti31, ti33, s0, s1]
  refine ⟨.inr rfl, ⟨_, rfl, ?_⟩, rfl, rfl⟩
  simp only [↓zcy, ↓zcz, ↓zda, ↓zdb, ↓reduceIte, Nat.reduceEqDiff, and_true, true_and, and_self, ne_eq, not_false_eq_true, eq_self, false_and, and_false, reduceCtorEq, oneOrA]

set_option maxRecDepth 1000000 in
theorem c19 {n : Nat} {k : Int} (hn : n ≤ 16) (hk : 0 ≤ k) (hk2 : k ≤ 1000) : CallOK Try.prog 19 [.agg [immC (lbl k n) n], i64 k] (i64 (k + (n * n * n : Nat))) := by
  refine call_of (fn := Try.f19) (code := bodyOf Try.f19) Try.func19 rfl (by kernel_rfl) rfl ?_
  intro sl hs
  have s0 : sl 0 = .agg [immC (lbl k n) n] := hs 0
  have s1 : sl 1 = i64 k := hs 1
  simp only [Try.f19, bodyOf, Option.getD, go_sem, ↓reduceIte, Nat.reduceEqDiff, reduceCtorEq, Nat.reduceAdd, Nat.reduceMul, Nat.reduceLeDiff, ti2, ti3, ti4, ti31, ti33, s0, s1]
  refine CLL_pure _ (c49 hn hk hk2) (pure_imm1 (immC_sh (fun _ _ => none) (lbl k n) n) k) rfl rfl ?_
  have hge : ¬ (k + (n * n * n : Nat) < 0) := by omega
  simp (config := { maxSteps := 10000000 }) (disch := first | omega | assumption) only [go_sem, ↓reduceIte, Nat.reduceEqDiff, reduceCtorEq, Nat.reduceAdd, Nat.reduceMul, Nat.reduceLeDiff, zfu, Int.mul_def, Int.add_def, zfv, cond_false, cond_true, isub, ti2, ti3, ti4, ti31, ti33, s0, s1, hge]
  simp only [zbj, zbk, retR, resL, outT, zes, zez, oneV, ↓zcy, ↓zcz, ↓reduceIte, Nat.reduceEqDiff, Option.some.injEq, AV.sc.injEq, Value.bool.injEq, Value.int.injEq, outL, outT, zft, zcp, zed, zef, zei, zeh, List.length_cons, List.length_nil, Nat.reduceAdd, Nat.zero_add, Nat.reduceLeDiff, List.drop_zero, List.take_succ_cons, List.take_zero, zfi, zfh, Ro.dl, zdb, zda, zfe, and_self, and_true, true_and, eq_self, List.append_nil, List.nil_append, List.cons_append, ne_eq, not_false_eq_true, and_false, false_and, Bool.false_eq_true, St.ev, zes, zfn]
end Go.Proofs.Ytifgeenipinnmaa
