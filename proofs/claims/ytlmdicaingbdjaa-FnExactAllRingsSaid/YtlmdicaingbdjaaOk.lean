/- Texts joined: Ec1 Ec2 Ec3. -/
import Derived.Test.YtlmdicaingbdjaaMh
import Derived.Test.YtlmdicaingbdjaaOi
set_option linter.all false
/- Enumeration of rings, the law: marks in a list of rings. -/
namespace Go.Proofs.Ytlmdicaingbdjaa
open Go.RowKit
set_option maxRecDepth 1000000
theorem plc_three (s g a i j : Nat) (qs rs ts : List AV) (ha : a < qs.length) (hi : i < rs.length) (hj : j < ts.length) : Plc s g [a, i, j] (fun cs => .row (qs.set a (.row (rs.set i (.row (ts.set j (.row cs))))))) := by
 refine ⟨fun ro cs h => ?_, fun ro cs h => ?_, fun f cs => ?_⟩
 ·simp [Ro.cells, Ro.at, h, ath, ha, hi, hj]
 ·simp [isBxAt, Ro.at, h, ath, ha, hi, hj]
 ·simp [putR, ha, hi, hj]
abbrev rI (F : Nat → Nat → Nat → Int) (n : Nat) : List AV := rws (fun i => .row (rws (fun j => .row (rws (fun k => i64 (F i j k)) n)) n)) n
abbrev rJ (F : Nat → Nat → Nat → Int) (n i : Nat) : List AV := rws (fun j => .row (rws (fun k => i64 (F i j k)) n)) n
theorem cube_row (F : Nat → Nat → Nat → Int) (n i j : Nat) (G : Nat → Int) : AV.row ((rI F n).set i (.row ((rJ F n i).set j (.row (rws (fun z => i64 (G z)) n))))) = cubeA (fun x y z => if x = i ∧ y = j then G z else F x y z) n := by
 unfold rI rJ
 rw [rws_set, rws_set]
 refine congrArg AV.row (rws_congr fun x _ => ?_)
 by_cases hx : x = i
 ·subst hx
  rw [if_pos rfl]
  refine congrArg AV.row (rws_congr fun y _ => ?_)
  by_cases hy : y = j
  ·subst hy
   rw [if_pos rfl]
   simp
  ·rw [if_neg hy]; simp [hy]
 ·rw [if_neg hx]; simp [hx]
abbrev C4 := Nat → Nat → Nat → Nat → Int
abbrev qR (H : C4) (N n : Nat) : List AV := rws (fun w => cubeA (H w) n) N
def qA (H : C4) (N n : Nat) : AV := .row (qR H N n)
theorem q_congr {H K : C4} {N n : Nat} (h : ∀ w x y z, w < N → x < n → y < n → z < n → H w x y z = K w x y z) : qA H N n = qA K N n :=
 congrArg AV.row (rws_congr fun w hw => cube_congr fun x y z hx hy hz => h w x y z hw hx hy hz)
theorem q_set (H : C4) (N n a i j : Nat) (G : Nat → Int) : AV.row ((qR H N n).set a (.row ((rI (H a) n).set i (.row ((rJ (H a) n i).set j (.row (rws (fun z => i64 (G z)) n))))))) = qA (fun w x y z => if w = a ∧ x = i ∧ y = j then G z else H w x y z) N n := by
 rw [cube_row]
 unfold qR qA
 rw [rws_set]
 refine congrArg AV.row (rws_congr fun w _ => ?_)
 by_cases hw : w = a
 ·subst hw
  rw [if_pos rfl]
  exact cube_congr fun x y z _ _ _ => by simp
 ·rw [if_neg hw]
  exact cube_congr fun x y z _ _ _ => by simp [hw]
theorem q_cells2 {H : C4} {N n a i s g : Nat} {ro : Ro} (h : ro s g = some (qA H N n)) (ha : a < N) (hi : i < n) : ro.cells s g [a, i] = some (rJ (H a) n i) := by
 have h1 := rws_get (fun w => cubeA (H w) n) N a ha
 have h2 := rws_get (fun i => AV.row (rws (fun j => .row (rws (fun k => i64 (H a i j k)) n)) n)) n i hi
 simp only [Ro.cells, Ro.at, h, qA, qR, ath, h1, cubeA, h2]
theorem q_cells1 {H : C4} {N n a s g : Nat} {ro : Ro} (h : ro s g = some (qA H N n)) (ha : a < N) : ro.cells s g [a] = some (rI (H a) n) := by
 have h1 := rws_get (fun w => cubeA (H w) n) N a ha
 simp only [Ro.cells, Ro.at, h, qA, qR, ath, h1, cubeA]
theorem q_cells0 {H : C4} {N n s g : Nat} {ro : Ro} (h : ro s g = some (qA H N n)) : ro.cells s g [] = some (qR H N n) := by
 simp only [Ro.cells, h, qA, blk]
section
variable {s g a i j n N : Nat} {H : C4} {ro : Ro} {gn : Nat → Nat} {k : Int}
theorem mk1 (hro : ro s g = some (qA H N n)) (ha : a < N) (hi : i < n) (hj : j < n) (hn : n ≤ 16) (hk : 0 ≤ k) (hk2 : k ≤ 1000000000) :
  InOK Try.prog 47 [.ref s g [a, i, j] 0 n, i64 k] ro gn (i64 (k + n)) (upr ro s g (qA (fun w x y z => if w = a ∧ x = i ∧ y = j then k + (z : Int) else H w x y z) N n)) gn := by
 have h := in32 (plc_three s g a i j (qR H N n) (rI (H a) n) (rJ (H a) n i) (by rw [zfe]; exact ha) (by rw [zfe]; exact hi) (by rw [zfe]; exact hj)) (cs := rws (fun z => i64 (H a i j z)) n) (ro := ro) (gn := gn) (k := k)
  (by rw [q_set, hro]; exact congrArg some (q_congr fun w x y z _ _ _ _ => by
   split
   ·rename_i h; rw [h.1, h.2.1, h.2.2]
   ·rfl)) (by rw [zfe]; unfold maxN; omega) hk (by rw [zfe]; omega)
 rw [zfe, iota_rws, rws_map, q_set] at h
 exact h
def mkJ (H : C4) (a i : Nat) (k : Int) (n j : Nat) : C4 := fun w x y z => if w = a ∧ x = i ∧ y < j then k + (y * n + z : Nat) else H w x y z
set_option maxHeartbeats 4000000 in
theorem mk2 {ro0 : Ro} {gn0 : Nat → Nat} (hro : ro0 s g = some (qA H N n)) (ha : a < N) (hi : i < n) (hn : n ≤ 16) (hk : 0 ≤ k) (hk2 : k ≤ 900000000) :
  InS Try.prog 27 [.ref s g [a, i] 0 n, i64 k] ro0 gn0 (fun r ro' gn' => r = i64 (k + (n * n : Nat)) ∧ ro' = upr ro0 s g (qA (mkJ H a i k n n) N n) ∧ gn' = gn0) := by
 have hjn : ∀ j : Nat, j ≤ 16 → j * n ≤ 256 := fun j hj => Nat.mul_le_mul (n₂ := 16) (m₂ := 16) hj hn
 have hq0 : qA (mkJ H a i k n 0) N n = qA H N n := q_congr fun w x y z _ _ _ _ => by simp [mkJ]
 refine in_ofS (fn := Try.f27) (code := bodyOf Try.f27) Try.func27 rfl (by kernel_rfl) ?_
 intro sl hs
 have s0 : sl 0 = .ref s g [a, i] 0 n := hs 0
 have s1 : sl 1 = i64 k := hs 1
 dsimp only [Try.f27, bodyOf, Option.getD]
 refine Yad ?_
 refine WK_for (fun j st => st.sl 0 = .ref s g [a, i] 0 n ∧ st.sl 1 = i64 (k + (j * n : Nat)) ∧ st.sl 5 = i64 (j : Int) ∧ (st.ro = upr ro0 s g (qA (mkJ H a i k n j) N n)) ∧ (st.gn = gn0)) n ?_ ?_ ?_
 ·refine Yai ?_
  refine ⟨by simp, rfl, ?_⟩
  rw [hq0]
  exact (upr_id _ _ _ _ hro).symm
 ·rintro j sl ro gn hj ⟨s0, s1, s5, hr, hg⟩
  dsimp only at s0 s1 s5
  have hj' : (j : Int) < (n : Nat) := by omega
  dsimp only at hr hg
  subst hr hg
  have hb := hjn j (by omega)
  have hb2 := hjn (j + 1) (by omega)
  have e1 : (j + 1) * n = j * n + n := by rw [Nat.add_mul, Nat.one_mul]
  have hcell := q_cells2 (upr_same ro0 s g (qA (mkJ H a i k n j) N n)) ha hi
  have hgj := rws_get (fun y => AV.row (rws (fun z => i64 (mkJ H a i k n j a i y z)) n)) n j hj
  have h := mk1 (ro := upr ro0 s g (qA (mkJ H a i k n j) N n)) (gn := gn) (k := k + (j * n : Nat)) (upr_same _ _ _ _) ha hi hj hn (by omega) (by omega)
  rw [upr_upr] at h
  have e2 : qA (fun w x y z => if w = a ∧ x = i ∧ y = j then k + (j * n : Nat) + (z : Int) else mkJ H a i k n j w x y z) N n = qA (mkJ H a i k n (j + 1)) N n := q_congr fun w x y z _ _ _ _ => by
   unfold mkJ
   by_cases hxy : w = a ∧ x = i ∧ y = j
   ·rw [if_pos hxy, if_pos ⟨hxy.1, hxy.2.1, by omega⟩, hxy.2.2]; omega
   ·rw [if_neg hxy]
    have : (w = a ∧ x = i ∧ y < j) ↔ (w = a ∧ x = i ∧ y < j + 1) := by omega
    simp only [this]
  rw [e2] at h
  simp (maxSteps := 10000000) (disch := first | assumption | omega) only [go_sem, ↓reduceIte, Nat.reduceEqDiff, reduceCtorEq, Nat.reduceAdd, Nat.reduceMul, Nat.reduceLeDiff, zc, Int.reduceToNat, s0, s1, s5, hj', hj, ti3, hcell, hgj, zfe]
  refine CLL_in rfl _ _ _ h ?_
  simp (maxSteps := 10000000) (disch := first | assumption | omega) only [go_sem, ↓reduceIte, Nat.reduceEqDiff, reduceCtorEq, Nat.reduceAdd, Nat.reduceMul, Nat.reduceLeDiff, zc, Int.reduceToNat, s0, s1, s5, hj', hj, ti3]
  exact ⟨i64c (by omega), i64c (by omega)⟩
 ·rintro sl ro gn ⟨s0, s1, s5, hr, hg⟩
  dsimp only at s0 s1 s5
  have hj' : ¬ ((n : Nat) : Int) < (n : Nat) := by omega
  dsimp only at hr hg
  subst hr hg
  have hcell := q_cells2 (upr_same ro0 s g (qA (mkJ H a i k n n) N n)) ha hi
  simp (maxSteps := 10000000) (disch := first | assumption | omega) only [go_sem, ↓reduceIte, Nat.reduceEqDiff, reduceCtorEq, Nat.reduceAdd, Nat.reduceMul, Nat.reduceLeDiff, zc, Int.reduceToNat, s0, s1, s5, hj', ti3, hcell, zfe]
  exact RETS_1 _ Ur ⟨rfl, rfl, rfl⟩
def mkI (H : C4) (a : Nat) (k : Int) (n i : Nat) : C4 := fun w x y z => if w = a ∧ x < i then k + ((x * n + y) * n + z : Nat) else H w x y z
set_option maxHeartbeats 4000000 in
theorem mk3 {ro0 : Ro} {gn0 : Nat → Nat} (hro : ro0 s g = some (qA H N n)) (ha : a < N) (hn : n ≤ 16) (hk : 0 ≤ k) (hk2 : k ≤ 800000000) :
  InS Try.prog 14 [.ref s g [a] 0 n, i64 k] ro0 gn0 (fun r ro' gn' => r = i64 (k + (n * n * n : Nat)) ∧ ro' = upr ro0 s g (qA (mkI H a k n n) N n) ∧ gn' = gn0) := by
 have hnn : ∀ x : Nat, x ≤ 16 → x * n * n ≤ 4096 := fun x hx => by
  have h1 : x * n ≤ 16 * 16 := Nat.mul_le_mul hx hn
  have h2 : x * n * n ≤ 256 * 16 := Nat.mul_le_mul h1 hn
  omega
 have hq0 : qA (mkI H a k n 0) N n = qA H N n := q_congr fun w x y z _ _ _ _ => by simp [mkI]
 refine in_ofS (fn := Try.f14) (code := bodyOf Try.f14) Try.func14 rfl (by kernel_rfl) ?_
 intro sl hs
 have s0 : sl 0 = .ref s g [a] 0 n := hs 0
 have s1 : sl 1 = i64 k := hs 1
 dsimp only [Try.f14, bodyOf, Option.getD]
 refine Yad ?_
 refine WK_for (fun i st => st.sl 0 = .ref s g [a] 0 n ∧ st.sl 1 = i64 (k + (i * n * n : Nat)) ∧ st.sl 5 = i64 (i : Int) ∧ (st.ro = upr ro0 s g (qA (mkI H a k n i) N n)) ∧ (st.gn = gn0)) n ?_ ?_ ?_
 ·refine Yai ?_
  refine ⟨by simp, rfl, ?_⟩
  rw [hq0]
  exact (upr_id _ _ _ _ hro).symm
 ·rintro i sl ro gn hi ⟨s0, s1, s5, hr, hg⟩
  dsimp only at s0 s1 s5
  have hi' : (i : Int) < (n : Nat) := by omega
  dsimp only at hr hg
  subst hr hg
  have hb := hnn i (by omega)
  have hb2 := hnn (i + 1) (by omega)
  have e1 : (i + 1) * n * n = i * n * n + n * n := by rw [Nat.add_mul, Nat.add_mul, Nat.one_mul]
  have hcell := q_cells1 (upr_same ro0 s g (qA (mkI H a k n i) N n)) ha
  have hgi := rws_get (fun x => AV.row (rws (fun y => .row (rws (fun z => i64 (mkI H a k n i a x y z)) n)) n)) n i hi
  simp (maxSteps := 10000000) (disch := first | assumption | omega) only [go_sem, ↓reduceIte, Nat.reduceEqDiff, reduceCtorEq, Nat.reduceAdd, Nat.reduceMul, Nat.reduceLeDiff, zc, Int.reduceToNat, s0, s1, s5, hi', hi, ti3, hcell, hgi, zfe]
  refine CLL_inS rfl (mk2 (ro0 := upr ro0 s g (qA (mkI H a k n i) N n)) (gn0 := gn) (k := k + (i * n * n : Nat)) (upr_same _ _ _ _) ha hi hn (by omega) (by omega)) ?_
  rintro _ _ _ ⟨rfl, rfl, rfl⟩
  rw [upr_upr]
  have e2 : qA (mkJ (mkI H a k n i) a i (k + (i * n * n : Nat)) n n) N n = qA (mkI H a k n (i + 1)) N n := q_congr fun w x y z _ _ hy _ => by
   unfold mkJ mkI
   by_cases hx : w = a ∧ x = i
   ·rw [if_pos ⟨hx.1, hx.2, hy⟩, if_pos ⟨hx.1, by omega⟩, hx.2, Nat.add_mul]; omega
   ·rw [if_neg (fun h => hx ⟨h.1, h.2.1⟩)]
    have : (w = a ∧ x < i) ↔ (w = a ∧ x < i + 1) := by omega
    simp only [this]
  rw [e2]
  simp (maxSteps := 10000000) (disch := first | assumption | omega) only [go_sem, ↓reduceIte, Nat.reduceEqDiff, reduceCtorEq, Nat.reduceAdd, Nat.reduceMul, Nat.reduceLeDiff, zc, Int.reduceToNat, s0, s1, s5, hi', hi, ti3]
  exact ⟨i64c (by omega), i64c (by omega)⟩
 ·rintro sl ro gn ⟨s0, s1, s5, hr, hg⟩
  dsimp only at s0 s1 s5
  have hi' : ¬ ((n : Nat) : Int) < (n : Nat) := by omega
  dsimp only at hr hg
  subst hr hg
  have hcell := q_cells1 (upr_same ro0 s g (qA (mkI H a k n n) N n)) ha
  simp (maxSteps := 10000000) (disch := first | assumption | omega) only [go_sem, ↓reduceIte, Nat.reduceEqDiff, reduceCtorEq, Nat.reduceAdd, Nat.reduceMul, Nat.reduceLeDiff, zc, Int.reduceToNat, s0, s1, s5, hi', ti3, hcell, zfe]
  exact RETS_1 _ Ur ⟨rfl, rfl, rfl⟩
def mkW (H : C4) (k : Int) (n a : Nat) : C4 := fun w x y z => if w < a then k + (w * (n * n * n) + ((x * n + y) * n + z) : Nat) else H w x y z
set_option maxHeartbeats 4000000 in
theorem mk4 {ro0 : Ro} {gn0 : Nat → Nat} (hro : ro0 s g = some (qA H N n)) (hn : n ≤ 3) (hN : N ≤ 1000000) :
  InS Try.prog 7 [.ref s g [] 0 N, i64 1] ro0 gn0 (fun r ro' gn' => r = i64 (1 + (N * (n * n * n) : Nat)) ∧ ro' = upr ro0 s g (qA (mkW H 1 n N) N n) ∧ gn' = gn0) := by
 have hn3 : n * n * n ≤ 27 := by
  have h1 : n * n ≤ 3 * 3 := Nat.mul_le_mul hn hn
  have h2 : n * n * n ≤ 9 * 3 := Nat.mul_le_mul h1 hn
  omega
 obtain ⟨c, hc⟩ : ∃ c, c = n * n * n := ⟨_, rfl⟩
 have hcc : ∀ a, a ≤ N → a * c ≤ 27000000 := fun a ha => by
  have : a * c ≤ 1000000 * 27 := Nat.mul_le_mul (by omega) (by omega)
  omega
 have hq0 : qA (mkW H 1 n 0) N n = qA H N n := q_congr fun w x y z _ _ _ _ => by simp [mkW]
 rw [← hc]
 refine in_ofS (fn := Try.f7) (code := bodyOf Try.f7) Try.func7 rfl (by kernel_rfl) ?_
 intro sl hs
 have s0 : sl 0 = .ref s g [] 0 N := hs 0
 have s1 : sl 1 = i64 1 := hs 1
 dsimp only [Try.f7, bodyOf, Option.getD]
 refine Yad ?_
 refine WK_for (fun a st => st.sl 0 = .ref s g [] 0 N ∧ st.sl 1 = i64 (1 + (a * c : Nat)) ∧ st.sl 5 = i64 (a : Int) ∧ (st.ro = upr ro0 s g (qA (mkW H 1 n a) N n)) ∧ (st.gn = gn0)) N ?_ ?_ ?_
 ·refine Yai ?_
  refine ⟨by simp, rfl, ?_⟩
  rw [hq0]
  exact (upr_id _ _ _ _ hro).symm
 ·rintro a sl ro gn ha ⟨s0, s1, s5, hr, hg⟩
  dsimp only at s0 s1 s5
  have ha' : (a : Int) < (N : Nat) := by omega
  dsimp only at hr hg
  subst hr hg
  have hb := hcc a (by omega)
  have hb2 := hcc (a + 1) (by omega)
  have e1 : (a + 1) * c = a * c + c := by rw [Nat.add_mul, Nat.one_mul]
  have hcell := q_cells0 (upr_same ro0 s g (qA (mkW H 1 n a) N n))
  have hga := rws_get (fun w => cubeA (mkW H 1 n a w) n) N a ha
  simp (maxSteps := 10000000) (disch := first | assumption | omega) only [go_sem, ↓reduceIte, Nat.reduceEqDiff, reduceCtorEq, Nat.reduceAdd, Nat.reduceMul, Nat.reduceLeDiff, zc, Int.reduceToNat, s0, s1, s5, ha', ha, ti3, ti33, hcell, hga, zfe]
  refine CLL_inS rfl (mk3 (ro0 := upr ro0 s g (qA (mkW H 1 n a) N n)) (gn0 := gn) (k := 1 + (a * c : Nat)) (upr_same _ _ _ _) ha (by omega) (by omega) (by omega)) ?_
  rintro _ _ _ ⟨rfl, rfl, rfl⟩
  rw [upr_upr]
  have e2 : qA (mkI (mkW H 1 n a) a (1 + (a * c : Nat)) n n) N n = qA (mkW H 1 n (a + 1)) N n := q_congr fun w x y z _ hx _ _ => by
   unfold mkI mkW
   by_cases hw : w = a
   ·rw [if_pos ⟨hw, hx⟩, if_pos (by omega), hw, ← hc]; omega
   ·rw [if_neg (fun h => hw h.1)]
    have : w < a ↔ w < a + 1 := by omega
    simp only [this]
  rw [e2, ← hc]
  simp (maxSteps := 10000000) (disch := first | assumption | omega) only [go_sem, ↓reduceIte, Nat.reduceEqDiff, reduceCtorEq, Nat.reduceAdd, Nat.reduceMul, Nat.reduceLeDiff, zc, Int.reduceToNat, s0, s1, s5, ha', ha, ti3]
  exact ⟨i64c (by omega), i64c (by omega)⟩
 ·rintro sl ro gn ⟨s0, s1, s5, hr, hg⟩
  dsimp only at s0 s1 s5
  have ha' : ¬ ((N : Nat) : Int) < (N : Nat) := by omega
  dsimp only at hr hg
  subst hr hg
  have hcell := q_cells0 (upr_same ro0 s g (qA (mkW H 1 n N) N n))
  simp (maxSteps := 10000000) (disch := first | assumption | omega) only [go_sem, ↓reduceIte, Nat.reduceEqDiff, reduceCtorEq, Nat.reduceAdd, Nat.reduceMul, Nat.reduceLeDiff, zc, Int.reduceToNat, s0, s1, s5, ha', ti3, hcell, zfe]
  exact RETS_1 _ Ur ⟨rfl, rfl, rfl⟩
end
end Go.Proofs.Ytlmdicaingbdjaa
/- Enumeration of rings, the law: lists of rings, told equal and held. -/
namespace Go.Proofs.Ytlmdicaingbdjaa
open Go.RowKit
set_option maxRecDepth 1000000
theorem pli (F : C3) (n : Nat) : pureL (rws (fun i => AV.imm (rws (fun j => AV.imm (rws (fun k => i64 (F i j k)) n)) n)) n) = true := by
 have := isLLL_pure (isLLL_immC F n)
 simpa only [pureA] using this
section
variable {n : Nat} {Ls : List C3}
set_option maxHeartbeats 4000000 in
theorem cEqR (hn : n ≤ maxN) (hN : Ls.length ≤ 1000000) : CallOK Try.prog 6 [immR n Ls, immR n Ls] (bo true) := by
 have lAs : (Ls.map fun F => immC F n).length = Ls.length := List.length_map _
 refine call_of (fn := Try.f6) (code := bodyOf Try.f6) Try.func6 rfl (by kernel_rfl) (rfl) ?_
 intro sl hs
 have s0 : sl 0 = immR n Ls := hs 0
 have s1 : sl 1 = immR n Ls := hs 1
 dsimp only [Try.f6, bodyOf, Option.getD]
 simp (maxSteps := 10000000) (disch := first | assumption | omega) only [go_sem, ↓reduceIte, Nat.reduceEqDiff, reduceCtorEq, Nat.reduceAdd, Nat.reduceMul, Nat.reduceLeDiff, zc, Int.reduceToNat, s0, s1, ti3, kLen_imm, lAs, eq_true (rfl : (Ls.length : Int) = Ls.length)]
 refine WK_for (fun i st => st.sl 0 = immR n Ls ∧ st.sl 1 = immR n Ls ∧ st.sl 5 = i64 (i : Int)) Ls.length ?_ ?_ ?_
 ·refine Yai ?_
  exact rfl
 ·rintro i sl ro gn hi ⟨s0, s1, s5⟩
  dsimp only at s0 s1 s5
  have hi' : (i : Int) < (Ls.length : Nat) := by omega
  obtain ⟨F, hF⟩ : ∃ F, F = Ls.getD i c0 := ⟨_, rfl⟩
  have hdF := imR_drop (n := n) hi
  rw [← hF] at hdF
  have hgF := get_drop hdF
  have hpi : pureA (immC F n) = true := isLLL_pure (isLLL_immC F n)
  simp (maxSteps := 10000000) (disch := first | assumption | omega) only [go_sem, ↓reduceIte, Nat.reduceEqDiff, reduceCtorEq, Nat.reduceAdd, Nat.reduceMul, Nat.reduceLeDiff, zc, Int.reduceToNat, s0, s1, s5, hi', hi, ti3, ti33, kLen_imm, lAs, kIdx_imm, hgF, hpi, nrLi]
  refine CLLD_pure _ (c17g (a := immC F n) (immC_sh (fun _ _ => none) F n) (fun _ _ _ => rfl) (fun _ => rfl) (c47 hn)) (by simp only [pureL, pureA, pli, Bool.and_self]) rfl ?_
  simp (maxSteps := 10000000) (disch := first | assumption | omega) only [go_sem, ↓reduceIte, Nat.reduceEqDiff, reduceCtorEq, Nat.reduceAdd, Nat.reduceMul, Nat.reduceLeDiff, zc, Int.reduceToNat, s0, s1, s5, hi', hi, ti4]
  refine FIN_of (by kernel_rfl) ?_
  simp (maxSteps := 10000000) (disch := first | assumption | omega) only [go_sem, ↓reduceIte, Nat.reduceEqDiff, reduceCtorEq, Nat.reduceAdd, Nat.reduceMul, Nat.reduceLeDiff, zc, Int.reduceToNat, s0, s1, s5, hi', hi, ti3, ti4]
  exact i64c (by omega)
 ·rintro sl ro gn ⟨s0, s1, s5⟩
  dsimp only at s0 s1 s5
  have hi' : ¬ ((Ls.length : Nat) : Int) < (Ls.length : Nat) := by omega
  simp (maxSteps := 10000000) (disch := first | assumption | omega) only [go_sem, ↓reduceIte, Nat.reduceEqDiff, reduceCtorEq, Nat.reduceAdd, Nat.reduceMul, Nat.reduceLeDiff, zc, Int.reduceToNat, s0, s1, s5, hi', ti3, kLen_imm, lAs]
  exact Yab
theorem cEqN : CallOK Try.prog 6 [nilA, nilA] (bo true) := by
 refine call_of (fn := Try.f6) (code := bodyOf Try.f6) Try.func6 rfl (by kernel_rfl) (rfl) ?_
 intro sl hs
 have s0 : sl 0 = nilA := hs 0
 have s1 : sl 1 = nilA := hs 1
 dsimp only [Try.f6, bodyOf, Option.getD]
 refine Yad ?_
 refine WK_for (fun i st => st.sl 0 = nilA ∧ st.sl 1 = nilA ∧ st.sl 5 = i64 (i : Int)) 0 ?_ ?_ ?_
 ·refine Yai ?_
  exact rfl
 ·rintro i sl ro gn hi ⟨s0, s1, s5⟩
  dsimp only at s0 s1 s5
  have hi' : (i : Int) < (0 : Nat) := by omega
  omega
 ·rintro sl ro gn ⟨s0, s1, s5⟩
  dsimp only at s0 s1 s5
  have hi' : ¬ ((0 : Nat) : Int) < (0 : Nat) := by omega
  refine Ybn ?_
  exact Yab
abbrev immM (N n : Nat) : AV := .imm (rws (fun w => immC (lbl (1 + (w * (n * n * n) : Nat)) n) n) N)
set_option maxHeartbeats 4000000 in
theorem cHeldR {N : Nat} (hn : n ≤ 3) (hN : N ≤ 1000000) : CallOK Try.prog 8 [immM N n, i64 1] (i64 (1 + (N * (n * n * n) : Nat))) := by
 have hn3 : n * n * n ≤ 27 := by
  have h1 : n * n ≤ 3 * 3 := Nat.mul_le_mul hn hn
  have h2 : n * n * n ≤ 9 * 3 := Nat.mul_le_mul h1 hn
  omega
 obtain ⟨c, hc⟩ : ∃ c, c = n * n * n := ⟨_, rfl⟩
 have hcc : ∀ a, a ≤ N → a * c ≤ 27000000 := fun a ha => by
  have : a * c ≤ 1000000 * 27 := Nat.mul_le_mul (by omega) (by omega)
  omega
 unfold immM
 rw [← hc]
 obtain ⟨cs, hcs⟩ : ∃ cs, cs = rws (fun w => immC (lbl (1 + (w * c : Nat)) n) n) N := ⟨_, rfl⟩
 have lcs : cs.length = N := by rw [hcs, zfe]
 rw [← hcs]
 refine call_of (fn := Try.f8) (code := bodyOf Try.f8) Try.func8 rfl (by kernel_rfl) (rfl) ?_
 intro sl hs
 have s0 : sl 0 = .imm cs := hs 0
 have s1 : sl 1 = i64 1 := hs 1
 dsimp only [Try.f8, bodyOf, Option.getD]
 refine Yad ?_
 refine WK_for (fun a st => st.sl 0 = .imm cs ∧ st.sl 1 = i64 (1 + (a * c : Nat)) ∧ st.sl 5 = i64 (a : Int)) N ?_ ?_ ?_
 ·refine Yai ?_
  exact ⟨by simp, rfl⟩
 ·rintro a sl ro gn ha ⟨s0, s1, s5⟩
  dsimp only at s0 s1 s5
  have ha' : (a : Int) < (N : Nat) := by omega
  have hb := hcc a (by omega)
  have hb2 := hcc (a + 1) (by omega)
  have e1 : (a + 1) * c = a * c + c := by rw [Nat.add_mul, Nat.one_mul]
  have hga : cs[a]? = some (immC (lbl (1 + (a * c : Nat)) n) n) := by rw [hcs]; exact rws_get _ _ _ ha
  have hpi : pureA (immC (lbl (1 + (a * c : Nat)) n) n) = true := isLLL_pure (isLLL_immC _ n)
  have hnn : ¬ (1 + ((a * c : Nat) : Int) + (c : Nat)) < 0 := by omega
  have ch := c49 (n := n) (k := 1 + (a * c : Nat)) (by omega) (by omega) (by omega)
  rw [← hc] at ch
  simp (maxSteps := 10000000) (disch := first | assumption | omega) only [go_sem, ↓reduceIte, Nat.reduceEqDiff, reduceCtorEq, Nat.reduceAdd, Nat.reduceMul, Nat.reduceLeDiff, zc, Int.reduceToNat, s0, s1, s5, ha', ha, ti3, ti33, kLen_imm, lcs, kIdx_imm, hga, hpi]
  refine CLL_pure _ ch (by simp only [pureL, pureA, pli, Bool.and_self]) rfl rfl ?_
  simp (maxSteps := 10000000) (disch := first | assumption | omega) only [go_sem, ↓reduceIte, Nat.reduceEqDiff, reduceCtorEq, Nat.reduceAdd, Nat.reduceMul, Nat.reduceLeDiff, zc, Int.reduceToNat, s0, s1, s5, ha', ha, ti3, eq_false hnn]
  exact ⟨i64c (by omega), i64c (by omega)⟩
 ·rintro sl ro gn ⟨s0, s1, s5⟩
  dsimp only at s0 s1 s5
  have ha' : ¬ ((N : Nat) : Int) < (N : Nat) := by omega
  simp (maxSteps := 10000000) (disch := first | assumption | omega) only [go_sem, ↓reduceIte, Nat.reduceEqDiff, reduceCtorEq, Nat.reduceAdd, Nat.reduceMul, Nat.reduceLeDiff, zc, Int.reduceToNat, s0, s1, s5, ha', ti3, kLen_imm, lcs]
  exact Yab
end
end Go.Proofs.Ytlmdicaingbdjaa
/- Enumeration of rings: the law, given that both lists are the same. -/
namespace Go.Proofs.Ytlmdicaingbdjaa
open Go.RowKit
set_option maxRecDepth 1000000
theorem ex_cubeA (ro : Ro) (F : C3) (n k : Nat) : ex ro (k + 4) (cubeA F n) = immC F n := by
 show AV.imm ((rws (fun i => AV.row (rws (fun j => AV.row (rws (fun k => i64 (F i j k)) n)) n)) n).map (ex ro (k + 3))) = _
 rw [rws_map]
 refine congrArg AV.imm (rws_congr fun x _ => ?_)
 show AV.imm ((rws (fun j => AV.row (rws (fun k => i64 (F x j k)) n)) n).map (ex ro (k + 2))) = _
 rw [rws_map]
 refine congrArg AV.imm (rws_congr fun y _ => ?_)
 show AV.imm ((rws (fun k => i64 (F x y k)) n).map (ex ro (k + 1))) = _
 rw [rws_map]
 rfl
theorem ex_immC (ro : Ro) (F : C3) (n k : Nat) : ex ro (k + 4) (immC F n) = immC F n := by
 show AV.imm ((rws (fun i => AV.imm (rws (fun j => AV.imm (rws (fun k => i64 (F i j k)) n)) n)) n).map (ex ro (k + 3))) = _
 rw [rws_map]
 refine congrArg AV.imm (rws_congr fun x _ => ?_)
 show AV.imm ((rws (fun j => AV.imm (rws (fun k => i64 (F x j k)) n)) n).map (ex ro (k + 2))) = _
 rw [rws_map]
 refine congrArg AV.imm (rws_congr fun y _ => ?_)
 show AV.imm ((rws (fun k => i64 (F x y k)) n).map (ex ro (k + 1))) = _
 rw [rws_map]
 rfl
theorem exq_listA {ro : Ro} {s g n N : Nat} {Ls : List C3} (h : ro s g = some (listA n Ls)) (hN : N = Ls.length) : exq 8 ro (.ref s g [] 0 N) (immR n Ls) := by
 subst hN
 refine ⟨fun k hk => ?_, fun hp => by simp [pureA] at hp⟩
 obtain ⟨j, rfl⟩ : ∃ j, k = j + 5 := ⟨k - 5, by omega⟩
 show (match ro.cells s g [] with | some cs => AV.imm (((cs.drop 0).take Ls.length).map (ex ro (j + 4))) | none => .dead) = _
 rw [zef, h]
 show AV.imm ((((Ls.map fun F => cubeA F n).drop 0).take Ls.length).map (ex ro (j + 4))) = _
 rw [List.drop_zero, List.take_of_length_le (by rw [List.length_map]; exact Nat.le_refl _), List.map_map]
 exact congrArg AV.imm (List.map_congr_left fun F _ => ex_cubeA ro F n j)
theorem exq_listI {ro : Ro} {s g n N : Nat} {Ls : List C3} (h : ro s g = some (listI n Ls)) (hN : N = Ls.length) : exq 8 ro (.ref s g [] 0 N) (immR n Ls) := by
 subst hN
 refine ⟨fun k hk => ?_, fun hp => by simp [pureA] at hp⟩
 obtain ⟨j, rfl⟩ : ∃ j, k = j + 5 := ⟨k - 5, by omega⟩
 show (match ro.cells s g [] with | some cs => AV.imm (((cs.drop 0).take Ls.length).map (ex ro (j + 4))) | none => .dead) = _
 rw [zef, h]
 show AV.imm ((((Ls.map fun F => immC F n).drop 0).take Ls.length).map (ex ro (j + 4))) = _
 rw [List.drop_zero, List.take_of_length_le (by rw [List.length_map]; exact Nat.le_refl _), List.map_map]
 exact congrArg AV.imm (List.map_congr_left fun F _ => ex_immC ro F n j)
theorem exq_q {ro : Ro} {s g n N : Nat} {H : C4} (h : ro s g = some (qA (mkW H 1 n N) N n)) : exq 8 ro (.ref s g [] 0 N) (immM N n) := by
 refine ⟨fun k hk => ?_, fun hp => by simp [pureA] at hp⟩
 obtain ⟨j, rfl⟩ : ∃ j, k = j + 5 := ⟨k - 5, by omega⟩
 show (match ro.cells s g [] with | some cs => AV.imm (((cs.drop 0).take N).map (ex ro (j + 4))) | none => .dead) = _
 rw [q_cells0 h]
 show AV.imm ((((qR (mkW H 1 n N) N n).drop 0).take N).map (ex ro (j + 4))) = _
 rw [List.drop_zero, List.take_of_length_le (by rw [zfe]; exact Nat.le_refl _), rws_map]
 refine congrArg AV.imm (rws_congr fun w hw => ?_)
 rw [ex_cubeA]
 refine congrArg AV.imm (rws_congr fun x _ => congrArg AV.imm (rws_congr fun y _ => congrArg AV.imm (rws_congr fun z _ => ?_)))
 show i64 (if w < N then (1 : Int) + (w * (n * n * n) + ((x * n + y) * n + z) : Nat) else H w x y z) = i64 ((1 + (w * (n * n * n) : Nat) : Int) + ((x * n + y) * n + z : Nat))
 rw [if_pos hw]
 generalize w * (n * n * n) = a
 generalize (x * n + y) * n + z = b
 exact congrArg i64 (by omega)
theorem listA_q (n : Nat) (Ls : List C3) : listA n Ls = qA (fun w => Ls.getD w c0) Ls.length n := by
 unfold listA qA
 refine congrArg AV.row ?_
 apply List.ext_getElem
 ·rw [List.length_map, zfe]
 ·intro i h1 h2
  rw [List.length_map] at h1
  have := rws_get (fun w => cubeA (Ls.getD w c0) n) Ls.length i h1
  rw [List.getElem?_eq_getElem h2] at this
  rw [Option.some.inj this, List.getElem_map, List.getD_eq_getElem?_getD, List.getElem?_eq_getElem h1]
  rfl
theorem immR_of {n : Nat} {Ls Ls' : List C3} (h : Ls'.map (fun F => cubeL F n) = Ls.map (fun F => cubeL F n)) : immR n Ls' = immR n Ls := by
 have := listA_of h
 have e := congrArg frzV this
 rwa [show listA n Ls' = listB n Ls' from rfl, show listA n Ls = listB n Ls from rfl, frz_listB, frz_listB] at e
theorem impE_tS (b : Nat) (gn : Nat → Nat) (v x : Value) : impE b gn (.tup [.sc v, .sc x]) = ⟨.tup [.sc v, .sc x], none, [], []⟩ := nr _
theorem impE_tR (b : Nat) (gn : Nat → Nat) (cs : List AV) (v : Value) : impE b gn (.tup [.row cs, .sc v]) = ⟨.tup [.ref b (gn b + 1) [] 0 cs.length, .sc v], none, [], [(b, .row cs)]⟩ := nr _
section
variable {n m : Nat}
set_option maxHeartbeats 16000000 in
theorem cLaw1 (h1 : 1 ≤ n) (h3 : n ≤ 3) (hm : m ≤ 4) (hPL : (tabsS n m).map (fun F => cubeL F n) = (srtL n (tabs n m)).map (fun F => cubeL F n)) (hN : (srtL n (tabs n m)).length ≤ 1000000) : CallOK Try.prog 3 [i64 (n : Int), i64 (m : Int)] (bo true) := by
 have cI := cAll1 h1 h3 hm
 have cS := cSAll1 h1 h3 hm
 have hL : (tabsS n m).length = (srtL n (tabs n m)).length := by
  have := congrArg List.length hPL
  rwa [List.length_map, List.length_map] at this
 have hR := immR_of hPL
 generalize tabsS n m = S at cS hPL hL hR
 generalize srtL n (tabs n m) = P at cI hPL hL hR hN
 have hn' : n ≤ maxN := by unfold maxN; omega
 have cE := cEqR (n := n) (Ls := P) hn' (by omega)
 have cH := cHeldR (n := n) (N := P.length) h3 hN
 refine call_of (fn := Try.f3) (code := bodyOf Try.f3) Try.func3 rfl (by kernel_rfl) (rfl) ?_
 intro sl hs
 have s0 : sl 0 = i64 (n : Int) := hs 0
 have s1 : sl 1 = i64 (m : Int) := hs 1
 dsimp only [Try.f3, bodyOf, Option.getD]
 refine Yaf ?_
 refine CLL_pure _ cS rfl rfl (by rfl) ?_
 simp (maxSteps := 10000000) (disch := first | assumption | omega) only [go_sem, ↓reduceIte, Nat.reduceEqDiff, reduceCtorEq, Nat.reduceAdd, Nat.reduceMul, Nat.reduceLeDiff, zc, Int.reduceToNat, s0, s1, impE_tR, listI, List.length_map, ti2]
 refine CLL_pure _ cI rfl rfl (by rfl) ?_
 simp (maxSteps := 10000000) (disch := first | assumption | omega) only [go_sem, ↓reduceIte, Nat.reduceEqDiff, reduceCtorEq, Nat.reduceAdd, Nat.reduceMul, Nat.reduceLeDiff, zc, Int.reduceToNat, s0, s1, impE_tR, listA, List.length_map, ti2]
 refine CLL_q _ cE (.cons (exq_listA (n := n) (Ls := P) (by simp only [↓za, ↓reduceIte, Nat.reduceEqDiff, zb, reduceCtorEq]; rfl) rfl) (.cons (by rw [← hR]; exact exq_listI (n := n) (Ls := S) (by simp only [↓za, ↓reduceIte, Nat.reduceEqDiff, zb, reduceCtorEq]; rfl) rfl) .nil)) rfl rfl rfl ?_
 refine Yaf ?_
 refine CLL_inS rfl (mk4 (H := fun w => P.getD w c0) (n := n) (by simp only [↓za, ↓reduceIte, Nat.reduceEqDiff, zb, reduceCtorEq]; exact congrArg some (listA_q n P)) h3 hN) ?_
 rintro _ _ _ ⟨rfl, rfl, rfl⟩
 have hM0 : ¬ (1 + ((P.length * (n * n * n) : Nat) : Int)) < 0 := by omega
 have hM1 : (1 + ((P.length * (n * n * n) : Nat) : Int)) = 1 + ((P.length * (n * n * n) : Nat) : Int) := rfl
 generalize (1 + ((P.length * (n * n * n) : Nat) : Int)) = M at cH hM0 hM1 ⊢
 refine Yad ?_
 refine CLL_q _ cH (.cons (exq_q (H := fun w => P.getD w c0) Ur) (.cons (exq_sc _ _ _ (by decide)) .nil)) rfl rfl rfl ?_
 simp (maxSteps := 10000000) (disch := first | assumption | omega) only [go_sem, ↓reduceIte, Nat.reduceEqDiff, reduceCtorEq, Nat.reduceAdd, Nat.reduceMul, Nat.reduceLeDiff, zc, Int.reduceToNat, s0, s1, ti3, ti4, eq_false hM0]
 refine CLL_pure _ cI rfl rfl (by rfl) ?_
 simp (maxSteps := 10000000) (disch := first | assumption | omega) only [go_sem, ↓reduceIte, Nat.reduceEqDiff, reduceCtorEq, Nat.reduceAdd, Nat.reduceMul, Nat.reduceLeDiff, zc, Int.reduceToNat, s0, s1, impE_tR, listA, List.length_map, ti2]
 refine CLL_q _ cE (.cons (exq_listA (n := n) (Ls := P) (by simp only [↓za, ↓reduceIte, Nat.reduceEqDiff, zb, reduceCtorEq]; rfl) rfl) (.cons (by rw [← hR]; exact exq_listI (n := n) (Ls := S) (by simp only [↓za, ↓reduceIte, Nat.reduceEqDiff, zb, reduceCtorEq]; rfl) rfl) .nil)) rfl rfl rfl ?_
 refine Yam ?_
 refine CLL_q _ cH (.cons (exq_q (H := fun w => P.getD w c0) Ur) (.cons (exq_sc _ _ _ (by decide)) .nil)) rfl rfl rfl ?_
 simp (maxSteps := 10000000) (disch := first | assumption | omega) only [go_sem, ↓reduceIte, Nat.reduceEqDiff, reduceCtorEq, Nat.reduceAdd, Nat.reduceMul, Nat.reduceLeDiff, zc, Int.reduceToNat, s0, s1, ti3, ti4, eq_false hM0]
 exact Yab
theorem mkN {ro : Ro} {gn : Nat → Nat} {k : Int} : InS Try.prog 7 [nilA, i64 k] ro gn (fun r ro' gn' => r = i64 k ∧ ro' = ro ∧ gn' = gn) := by
 refine in_ofS (fn := Try.f7) (code := bodyOf Try.f7) Try.func7 rfl (by kernel_rfl) ?_
 intro sl hs
 have s0 : sl 0 = nilA := hs 0
 have s1 : sl 1 = i64 k := hs 1
 dsimp only [Try.f7, bodyOf, Option.getD]
 refine Yad ?_
 refine WK_for (fun i st => st.sl 0 = nilA ∧ st.sl 1 = i64 k ∧ st.sl 5 = i64 (i : Int) ∧ (st.ro = ro ∧ st.gn = gn)) 0 ?_ ?_ ?_
 ·refine Yai ?_
  exact rfl
 ·rintro i sl ro gn hi ⟨s0, s1, s5, hr⟩
  dsimp only at s0 s1 s5
  have hi' : (i : Int) < (0 : Nat) := by omega
  omega
 ·rintro sl ro gn ⟨s0, s1, s5, hr⟩
  dsimp only at s0 s1 s5
  have hi' : ¬ ((0 : Nat) : Int) < (0 : Nat) := by omega
  dsimp only at hr
  refine Ybn ?_
  exact RETS_1 _ Ur ⟨rfl, hr.1, hr.2⟩
theorem heldN {k : Int} : CallOK Try.prog 8 [nilA, i64 k] (i64 k) := by
 refine call_of (fn := Try.f8) (code := bodyOf Try.f8) Try.func8 rfl (by kernel_rfl) (rfl) ?_
 intro sl hs
 have s0 : sl 0 = nilA := hs 0
 have s1 : sl 1 = i64 k := hs 1
 dsimp only [Try.f8, bodyOf, Option.getD]
 refine Yad ?_
 refine WK_for (fun i st => st.sl 0 = nilA ∧ st.sl 1 = i64 k ∧ st.sl 5 = i64 (i : Int)) 0 ?_ ?_ ?_
 ·refine Yai ?_
  exact rfl
 ·rintro i sl ro gn hi ⟨s0, s1, s5⟩
  dsimp only at s0 s1 s5
  have hi' : (i : Int) < (0 : Nat) := by omega
  omega
 ·rintro sl ro gn ⟨s0, s1, s5⟩
  dsimp only at s0 s1 s5
  have hi' : ¬ ((0 : Nat) : Int) < (0 : Nat) := by omega
  refine Ybn ?_
  exact Yab
set_option maxHeartbeats 8000000 in
theorem cLaw0 {n m : Int} (h : ¬ ((1 ≤ n ∧ n ≤ 3) ∧ 0 ≤ m ∧ m ≤ 4)) : CallOK Try.prog 3 [i64 n, i64 m] (bo true) := by
 have cI := cAll0 h
 have cS := cSAll0 h
 refine call_of (fn := Try.f3) (code := bodyOf Try.f3) Try.func3 rfl (by kernel_rfl) (rfl) ?_
 intro sl hs
 have s0 : sl 0 = i64 n := hs 0
 have s1 : sl 1 = i64 m := hs 1
 dsimp only [Try.f3, bodyOf, Option.getD]
 refine Yaf ?_
 refine CLL_pure _ cS rfl rfl (by rfl) ?_
 refine Ybo ?_
 refine CLL_pure _ cI rfl rfl (by rfl) ?_
 refine Ybo ?_
 refine CLL_pure _ cEqN rfl rfl rfl ?_
 refine Yam ?_
 refine CLL_inS rfl mkN ?_
 rintro _ _ _ ⟨rfl, rfl, rfl⟩
 refine Yam ?_
 refine CLL_pure _ (heldN (k := 1)) rfl rfl rfl ?_
 refine Yam ?_
 refine CLL_pure _ cI rfl rfl (by rfl) ?_
 refine Ybo ?_
 refine CLL_pure _ cEqN rfl rfl rfl ?_
 refine Yam ?_
 refine CLL_pure _ (heldN (k := 1)) rfl rfl rfl ?_
 refine Yam ?_
 exact Yab
end
end Go.Proofs.Ytlmdicaingbdjaa
