/- The laws' marking and holding functions. -/
import Derived.Test.YtifgeenipinnmaaK2
set_option linter.all false
namespace Go.Proofs.Ytifgeenipinnmaa
open Go.RowKit

/-- n numbers from k on. -/
def iota (k : Int) : Nat → List Int
  | 0 => []
  | n + 1 => iota k n ++ [k + n]
theorem iota_len (k : Int) : ∀ n, (iota k n).length = n
  | 0 => rfl
  | n + 1 => by simp [iota, iota_len k n]
theorem iota_at (k : Int) : ∀ n j, j < n → atI (iota k n) j = k + j
  | 0, j, h => by omega
  | n + 1, j, h => by
    have ih := iota_at k n
    unfold atI at ih ⊢
    simp only [iota, List.getD_eq_getElem?_getD, List.getElem?_append, iota_len]
    split
    · rename_i h2
      have := ih j h2
      rwa [List.getD_eq_getElem?_getD] at this
    · have : j = n := by omega
      subst this; simp

def sumN : List Nat → Nat
  | [] => 0
  | n :: ns => n + sumN ns
/-- Rows of the lengths ns, numbered from k on. -/
def labs (k : Int) : List Nat → List (List Int)
  | [] => []
  | n :: ns => iota k n :: labs (k + n) ns
theorem labs_len (k : Int) : ∀ ns, (labs k ns).length = ns.length := by
  intro ns; induction ns generalizing k with
  | nil => rfl
  | cons n ns ih => simp [labs, ih]
theorem labs_at : ∀ (ns : List Nat) (k : Int) (j : Nat), j < ns.length → (labs k ns).getD j [] = iota (k + sumN (ns.take j)) (ns.getD j 0)
  | [], _, j, h => by simp at h
  | n :: ns, k, 0, _ => by simp [labs, sumN]
  | n :: ns, k, j + 1, h => by
    have := labs_at ns (k + n) j (by simpa using h)
    simp only [labs, List.getD_cons_succ, List.take_succ_cons, sumN, this]
    congr 1; omega
theorem sumN_take : ∀ (ns : List Nat) (j : Nat), j < ns.length → sumN (ns.take (j + 1)) = sumN (ns.take j) + ns.getD j 0
  | [], j, h => by simp at h
  | n :: ns, 0, _ => by simp [sumN]
  | n :: ns, j + 1, h => by
    have := sumN_take ns j (by simpa using h)
    simp only [List.take_succ_cons, sumN, List.getD_cons_succ] at this ⊢
    omega
theorem sumN_take_le : ∀ (ns : List Nat) (j : Nat), sumN (ns.take j) ≤ sumN ns
  | [], j => by simp
  | n :: ns, 0 => by simp [sumN]
  | n :: ns, j + 1 => by have := sumN_take_le ns j; simp only [List.take_succ_cons, sumN]; omega

set_option maxRecDepth 1000000 in
theorem c33 {a : AV} {n : Nat} {k : Int} (ha : isL a (iota k n)) (hn : n ≤ maxN) (hk : 0 ≤ k) (hk2 : k + n ≤ 2^62) : CallOK Try.prog 33 [a, i64 k] (i64 (k + n)) := by
  refine call_of (fn := Try.f33) (code := bodyOf Try.f33) Try.func33 rfl (by kernel_rfl) rfl ?_
  intro sl hs
  have s0 : sl 0 = a := hs 0
  have s1 : sl 1 = i64 k := hs 1
  have hn' : n ≤ 4294967296 := hn
  simp only [Try.f33, bodyOf, Option.getD, go_sem, ↓reduceIte, Nat.reduceEqDiff, reduceCtorEq, Nat.reduceAdd, Nat.reduceMul, Nat.reduceLeDiff, ti2, ti3, ti4, ti23, s0, s1]
  refine WK_for (fun j st => st.sl 0 = a ∧ st.sl 1 = i64 (k + j) ∧ st.sl 5 = i64 (j : Int)) n ?_ ?_ ?_
  · simp only [↓zcy, ↓zcz, ↓zda, ↓zdb, ↓reduceIte, Nat.reduceEqDiff, and_true, true_and, and_self, ne_eq, not_false_eq_true, eq_self, false_and, and_false, reduceCtorEq, s0, s1, Int.natCast_zero, Int.add_zero]
  · rintro j sl ro gn hj ⟨s0, s1, s5⟩
    dsimp only at s0 s1 s5
    have hj' : (j : Int) < n := by omega
    have hj2 : j < (iota k n).length := by rw [iota_len]; exact hj
    simp (config := { maxSteps := 10000000 }) (disch := first | omega | assumption) only [go_sem, ↓reduceIte, Nat.reduceEqDiff, reduceCtorEq, Nat.reduceAdd, Nat.reduceMul, Nat.reduceLeDiff, zfu, Int.mul_def, Int.add_def, zfv, cond_false, cond_true, isub, ti2, ti3, ti4, ti23, s0, s1, s5, isL_len ha, isL_idx ha hj2, iota_len, iota_at k n j hj, hj']
    exact ⟨i64c (by omega), i64c (by omega)⟩
  · rintro sl ro gn ⟨s0, s1, s5⟩
    dsimp only at s0 s1 s5
    have hj' : ¬ (n : Int) < n := by omega
    simp (config := { maxSteps := 10000000 }) (disch := first | omega | assumption) only [go_sem, ↓reduceIte, Nat.reduceEqDiff, reduceCtorEq, Nat.reduceAdd, Nat.reduceMul, Nat.reduceLeDiff, zfu, Int.mul_def, Int.add_def, zfv, cond_false, cond_true, isub, ti2, ti3, ti4, ti23, s0, s1, s5, isL_len ha, iota_len, hj']
    simp only [zbj, zbk, retR, resL, outT, zes, zez, oneV, ↓zcy, ↓zcz, ↓reduceIte, Nat.reduceEqDiff, Option.some.injEq, AV.sc.injEq, Value.bool.injEq, Value.int.injEq, outL, outT, zft, zcp, zed, zef, zei, zeh, List.length_cons, List.length_nil, Nat.reduceAdd, Nat.zero_add, Nat.reduceLeDiff, List.drop_zero, List.take_succ_cons, List.take_zero, zfi, zfh, Ro.dl, zdb, zda, zfe, and_self, and_true, true_and, eq_self, List.append_nil, List.nil_append, List.cons_append, ne_eq, not_false_eq_true, and_false, false_and, Bool.false_eq_true, St.ev, zes, zfn]

set_option maxRecDepth 1000000 in
theorem c44 {a : AV} {ns : List Nat} {k : Int} (ha : isLL a (labs k ns)) (hn : ns.length ≤ maxN) (hn2 : ∀ j, ns.getD j 0 ≤ maxN) (hk : 0 ≤ k) (hk2 : k + sumN ns ≤ 2^62) : CallOK Try.prog 44 [a, i64 k] (i64 (k + sumN ns)) := by
  refine call_of (fn := Try.f44) (code := bodyOf Try.f44) Try.func44 rfl (by kernel_rfl) rfl ?_
  intro sl hs
  have s0 : sl 0 = a := hs 0
  have s1 : sl 1 = i64 k := hs 1
  have hn' : ns.length ≤ 4294967296 := hn
  simp only [Try.f44, bodyOf, Option.getD, go_sem, ↓reduceIte, Nat.reduceEqDiff, reduceCtorEq, Nat.reduceAdd, Nat.reduceMul, Nat.reduceLeDiff, ti2, ti3, ti4, ti22, s0, s1]
  refine WK_for (fun j st => st.sl 0 = a ∧ st.sl 1 = i64 (k + sumN (ns.take j)) ∧ st.sl 5 = i64 (j : Int)) ns.length ?_ ?_ ?_
  · simp only [↓zcy, ↓zcz, ↓zda, ↓zdb, ↓reduceIte, Nat.reduceEqDiff, and_true, true_and, and_self, ne_eq, not_false_eq_true, eq_self, false_and, and_false, reduceCtorEq, s0, s1, Int.natCast_zero, Int.add_zero, List.take_zero, sumN]
  · rintro j sl ro gn hj ⟨s0, s1, s5⟩
    dsimp only at s0 s1 s5
    have hj' : (j : Int) < ns.length := by omega
    have hj2 : j < (labs k ns).length := by rw [labs_len]; exact hj
    have h1 := isLL_at ha hj2
    rw [labs_at ns k j hj] at h1
    have hle := sumN_take_le ns (j + 1)
    have hst := sumN_take ns j hj
    simp (config := { maxSteps := 10000000 }) (disch := first | omega | assumption) only [go_sem, ↓reduceIte, Nat.reduceEqDiff, reduceCtorEq, Nat.reduceAdd, Nat.reduceMul, Nat.reduceLeDiff, zfu, Int.mul_def, Int.add_def, zfv, cond_false, cond_true, isub, ti2, ti3, ti4, ti22, ti23, s0, s1, s5, isLL_len ha, isLL_idx ha hj2, labs_len, hj']
    refine CLL_pure _ (c33 h1 (hn2 j) (by omega) (by omega)) (by simp only [pureL, isL_pure h1, pureA, Bool.and_self]) rfl rfl ?_
    have hge : ¬ (k + sumN (ns.take j) + (ns.getD j 0 : Nat) < 0) := by omega
    simp (config := { maxSteps := 10000000 }) (disch := first | omega | assumption) only [go_sem, ↓reduceIte, Nat.reduceEqDiff, reduceCtorEq, Nat.reduceAdd, Nat.reduceMul, Nat.reduceLeDiff, zfu, Int.mul_def, Int.add_def, zfv, cond_false, cond_true, isub, ti2, ti3, ti4, ti23, s0, s1, s5, hge]
    exact ⟨i64c (by omega), i64c (by omega)⟩
  · rintro sl ro gn ⟨s0, s1, s5⟩
    dsimp only at s0 s1 s5
    have hj' : ¬ (ns.length : Int) < ns.length := by omega
    simp (config := { maxSteps := 10000000 }) (disch := first | omega | assumption) only [go_sem, ↓reduceIte, Nat.reduceEqDiff, reduceCtorEq, Nat.reduceAdd, Nat.reduceMul, Nat.reduceLeDiff, zfu, Int.mul_def, Int.add_def, zfv, cond_false, cond_true, isub, ti2, ti3, ti4, ti22, ti23, s0, s1, s5, isLL_len ha, labs_len, hj']
    simp only [zbj, zbk, retR, resL, outT, zes, zez, oneV, ↓zcy, ↓zcz, ↓reduceIte, Nat.reduceEqDiff, Option.some.injEq, AV.sc.injEq, Value.bool.injEq, Value.int.injEq, outL, outT, zft, zcp, zed, zef, zei, zeh, List.length_cons, List.length_nil, Nat.reduceAdd, Nat.zero_add, Nat.reduceLeDiff, List.drop_zero, List.take_succ_cons, List.take_zero, zfi, zfh, Ro.dl, zdb, zda, zfe, and_self, and_true, true_and, eq_self, List.append_nil, List.nil_append, List.cons_append, ne_eq, not_false_eq_true, and_false, false_and, Bool.false_eq_true, St.ev, zes, zfn, List.take_length]

set_option maxRecDepth 1000000 in
theorem c14 {a b : AV} {ns : List Nat} {m : Nat} {k : Int} (ha : isLL a (labs k ns)) (hb : isL b (iota (k + sumN ns) m)) (hn : ns.length ≤ maxN) (hn2 : ∀ j, ns.getD j 0 ≤ maxN) (hm : m ≤ maxN) (hk : 0 ≤ k) (hk2 : k + sumN ns + m ≤ 2^62) :
    CallOK Try.prog 14 [.agg [a, b], i64 k] (i64 (k + sumN ns + m)) := by
  refine call_of (fn := Try.f14) (code := bodyOf Try.f14) Try.func14 rfl (by kernel_rfl) rfl ?_
  intro sl hs
  have s0 : sl 0 = .agg [a, b] := hs 0
  have s1 : sl 1 = i64 k := hs 1
  simp only [Try.f14, bodyOf, Option.getD, go_sem, ↓reduceIte, Nat.reduceEqDiff, reduceCtorEq, Nat.reduceAdd, Nat.reduceMul, Nat.reduceLeDiff, ti2, ti3, ti4, ti22, ti25, s0, s1, isLL_cellB _ ha, isL_cellB _ hb, isLL_lift _ _ _ ha, isL_lift _ _ _ hb]
  refine CLL_pure _ (c44 ha hn hn2 hk (by omega)) (by simp only [pureL, isLL_pure ha, pureA, Bool.and_self]) rfl rfl ?_
  have hge : ¬ (k + sumN ns < 0) := by omega
  simp (config := { maxSteps := 10000000 }) (disch := first | omega | assumption) only [go_sem, ↓reduceIte, Nat.reduceEqDiff, reduceCtorEq, Nat.reduceAdd, Nat.reduceMul, Nat.reduceLeDiff, zfu, Int.mul_def, Int.add_def, zfv, cond_false, cond_true, isub, ti2, ti3, ti4, ti22, ti23, ti25, s0, s1, isLL_lift _ _ _ ha, isL_lift _ _ _ hb, hge]
  refine CLL_pure _ (c33 hb hm (by omega) (by omega)) (by simp only [pureL, isL_pure hb, pureA, Bool.and_self]) rfl rfl ?_
  have hge : ¬ (k + sumN ns + m < 0) := by omega
  simp (config := { maxSteps := 10000000 }) (disch := first | omega | assumption) only [go_sem, ↓reduceIte, Nat.reduceEqDiff, reduceCtorEq, Nat.reduceAdd, Nat.reduceMul, Nat.reduceLeDiff, zfu, Int.mul_def, Int.add_def, zfv, cond_false, cond_true, isub, ti2, ti3, ti4, ti23, s0, s1, hge]
  simp only [zbj, zbk, retR, resL, outT, zes, zez, oneV, ↓zcy, ↓zcz, ↓reduceIte, Nat.reduceEqDiff, Option.some.injEq, AV.sc.injEq, Value.bool.injEq, Value.int.injEq, outL, outT, zft, zcp, zed, zef, zei, zeh, List.length_cons, List.length_nil, Nat.reduceAdd, Nat.zero_add, Nat.reduceLeDiff, List.drop_zero, List.take_succ_cons, List.take_zero, zfi, zfh, Ro.dl, zdb, zda, zfe, and_self, and_true, true_and, eq_self, List.append_nil, List.nil_append, List.cons_append, ne_eq, not_false_eq_true, and_false, false_and, Bool.false_eq_true, St.ev, zes, zfn]

theorem in_of {f : Nat} {fn : Func} {code : Code} {args : List AV} {r : AV} {ro ro' : Ro} {gn gn' : Nat → Nat} (hf : Try.prog.funcs[f]? = some fn) (hb : fn.body = some code)
    (hok : (!(fn.name == "runtime.NumGoroutine") && dstOK fn.ntmps code && decide (args.length ≤ fn.ntmps)) = true)
    (h : ∀ sl : Nat → AV, (∀ k, sl k = args.getD k (.sc undef)) → WK XX code [] (RETI ti0 fn.results.toList r ro' gn') ⟨sl, ro, gn⟩) : InOK Try.prog f args ro gn r ro' gn' :=
  in_ofG _ (tiG_ok _) mixed0 hf hb hok h

/-- A place in memory: a block, or a row inside a block of rows. -/
structure Plc (s g : Nat) (p : List Nat) (W : List AV → AV) : Prop where
  cells : ∀ (ro : Ro) cs, ro s g = some (W cs) → ro.cells s g p = some cs
  notBx : ∀ (ro : Ro) cs, ro s g = some (W cs) → isBxAt ro s g p = false
  put : ∀ f cs, putR f p (W cs) = W (f cs)
theorem plc_nil (s g : Nat) : Plc s g [] .row := by
  refine ⟨fun ro cs h => ?_, fun ro cs h => ?_, fun f cs => ?_⟩
  · simp [Ro.cells, h, blk]
  · simp [isBxAt, Ro.at, h, ath]
  · simp [putR]
theorem plc_in (s g i : Nat) (rows : List AV) (hi : i < rows.length) : Plc s g [i] (fun cs => .row (rows.set i (.row cs))) := by
  refine ⟨fun ro cs h => ?_, fun ro cs h => ?_, fun f cs => ?_⟩
  · simp [Ro.cells, Ro.at, h, ath, hi]
  · simp [isBxAt, Ro.at, h, ath, hi]
  · simp [putR, hi]

theorem upr_upr (ro : Ro) (s g : Nat) (a b : AV) : upr (upr ro s g a) s g b = upr ro s g b := by
  funext s' g'; simp only [zdb]; split <;> rfl
theorem upr_id (ro : Ro) (s g : Nat) (a : AV) (h : ro s g = some a) : upr ro s g a = ro := by
  funext s' g'; simp only [zdb]; split
  · rename_i h2; obtain ⟨rfl, rfl⟩ := h2; exact h.symm
  · rfl
theorem upr_same (ro : Ro) (s g : Nat) (a : AV) : upr ro s g a s g = some a := by simp [zdb]

theorem Plc.wr {s g : Nat} {p : List Nat} {W : List AV → AV} (hp : Plc s g p W) (ro : Ro) (cs : List AV) (i : Nat) (vs : List AV) : (upr ro s g (W cs)).wr ⟨s, g, p, i, vs⟩ = upr ro s g (W (setL i vs cs)) := by
  simp only [Ro.wr, upr_same, hp.put, upr_upr]

/-- The first j cells are numbered. -/
def mkd (k : Int) (j : Nat) (cs : List AV) : List AV := (iota k j).map i64 ++ cs.drop j
theorem mkd_len (k : Int) (j : Nat) (cs : List AV) (h : j ≤ cs.length) : (mkd k j cs).length = cs.length := by simp [mkd, iota_len]; omega
theorem mkd_zero (k : Int) (cs : List AV) : mkd k 0 cs = cs := rfl
theorem mkd_full (k : Int) (cs : List AV) : mkd k cs.length cs = (iota k cs.length).map i64 := by simp [mkd]
theorem mkd_succ (k : Int) (j : Nat) (cs : List AV) (h : j < cs.length) : setL j [i64 (k + j)] (mkd k j cs) = mkd k (j + 1) cs := by
  simp only [setL, mkd, iota]
  rw [List.set_append_right _ _ (by simp [iota_len])]
  simp only [List.length_map, iota_len, Nat.sub_self, List.map_append, List.append_assoc, List.map_cons, List.map_nil, List.cons_append, List.nil_append]
  rw [List.drop_eq_getElem_cons h, List.set_cons_zero]

set_option maxRecDepth 1000000 in
theorem in32 {s g : Nat} {p : List Nat} {W : List AV → AV} (hp : Plc s g p W) {cs : List AV} {ro : Ro} {gn : Nat → Nat} {k : Int} (hro : ro s g = some (W cs)) (hn : cs.length ≤ maxN) (hk : 0 ≤ k) (hk2 : k + cs.length ≤ 2^62) :
    InOK Try.prog 32 [.ref s g p 0 cs.length, i64 k] ro gn (i64 (k + cs.length)) (upr ro s g (W ((iota k cs.length).map i64))) gn := by
  refine in_of (fn := Try.f32) (code := bodyOf Try.f32) Try.func32 rfl (by kernel_rfl) ?_
  intro sl hs
  have s0 : sl 0 = .ref s g p 0 cs.length := hs 0
  have s1 : sl 1 = i64 k := hs 1
  have hn' : cs.length ≤ 4294967296 := hn
  simp only [Try.f32, bodyOf, Option.getD, go_sem, ↓reduceIte, Nat.reduceEqDiff, reduceCtorEq, Nat.reduceAdd, Nat.reduceMul, Nat.reduceLeDiff, ti2, ti3, ti4, ti23, s0, s1]
  refine WK_for (fun j st => st.sl 0 = .ref s g p 0 cs.length ∧ st.sl 1 = i64 (k + j) ∧ st.sl 5 = i64 (j : Int) ∧ st.ro = upr ro s g (W (mkd k j cs)) ∧ st.gn = gn) cs.length ?_ ?_ ?_
  · simp only [↓zcy, ↓zcz, ↓zda, ↓zdb, ↓reduceIte, Nat.reduceEqDiff, and_true, true_and, and_self, ne_eq, not_false_eq_true, eq_self, false_and, and_false, reduceCtorEq, s0, s1, Int.natCast_zero, Int.add_zero, mkd_zero]
    exact (upr_id _ _ _ _ hro).symm
  · rintro j sl ro' gn' hj ⟨s0, s1, s5, rfl, rfl⟩
    dsimp only at s0 s1 s5
    have hj' : (j : Int) < cs.length := by omega
    have hc := hp.cells (upr ro s g (W (mkd k j cs))) _ (upr_same _ _ _ _)
    have hb := hp.notBx (upr ro s g (W (mkd k j cs))) _ (upr_same _ _ _ _)
    have hj3 : j + 1 ≤ cs.length := hj
    simp (config := { maxSteps := 10000000 }) (disch := first | omega | assumption) only [go_sem, ↓reduceIte, Nat.reduceEqDiff, reduceCtorEq, Nat.reduceAdd, Nat.reduceMul, Nat.reduceLeDiff, zfu, Int.mul_def, Int.add_def, zfv, cond_false, cond_true, isub, ti2, ti3, ti4, ti23, s0, s1, s5, kLen1, hc, hb, hj', hj, hj3, mkd_len k j cs (Nat.le_of_lt hj), hp.wr, mkd_succ k j cs hj, zez, oneV]
    exact ⟨i64c (by omega), i64c (by omega), congrArg (fun x => upr ro s g (W x)) (mkd_succ k j cs hj)⟩
  · rintro sl ro' gn' ⟨s0, s1, s5, rfl, rfl⟩
    dsimp only at s0 s1 s5
    have hj' : ¬ (cs.length : Int) < cs.length := by omega
    have hc := hp.cells (upr ro s g (W (mkd k cs.length cs))) _ (upr_same _ _ _ _)
    simp (config := { maxSteps := 10000000 }) (disch := first | omega | assumption) only [go_sem, ↓reduceIte, Nat.reduceEqDiff, reduceCtorEq, Nat.reduceAdd, Nat.reduceMul, Nat.reduceLeDiff, zfu, Int.mul_def, Int.add_def, zfv, cond_false, cond_true, isub, ti2, ti3, ti4, ti23, s0, s1, s5, kLen1, hc, hj']
    refine ⟨.inr rfl, ⟨_, rfl, ?_⟩, ?_, rfl⟩
    · simp only [↓zcy, ↓zcz, ↓zda, ↓zdb, ↓reduceIte, Nat.reduceEqDiff, and_true, true_and, and_self, ne_eq, not_false_eq_true, eq_self, false_and, and_false, reduceCtorEq, oneOrA]
    · rw [mkd_full]

/-- The cells of rows. -/
def rowsOf (css : List (List AV)) : List AV := css.map .row
def labsA (k : Int) (ns : List Nat) : List AV := (labs k ns).map fun xs => .row (xs.map i64)
/-- The first j rows are numbered. -/
def mkr (k : Int) (j : Nat) (css : List (List AV)) : List AV := labsA k ((css.map List.length).take j) ++ (css.drop j).map .row

theorem labsA_len (k : Int) (ns : List Nat) : (labsA k ns).length = ns.length := by simp [labsA, labs_len]
theorem labs_snoc : ∀ (ns : List Nat) (n : Nat) (k : Int), labs k (ns ++ [n]) = labs k ns ++ [iota (k + sumN ns) n]
  | [], n, k => by simp [labs, sumN]
  | m :: ns, n, k => by
    simp only [List.cons_append, labs, labs_snoc ns n, sumN]
    rw [show k + (m : Int) + (sumN ns : Nat) = k + ((m + sumN ns : Nat) : Int) by omega]
theorem mkr_len (k : Int) (j : Nat) (css : List (List AV)) (h : j ≤ css.length) : (mkr k j css).length = css.length := by
  simp [mkr, labsA_len]; omega
theorem mkr_at (k : Int) (j : Nat) (css : List (List AV)) (h : j < css.length) : (mkr k j css)[j]? = some (.row (css.getD j [])) := by
  have h2 : (labsA k ((css.map List.length).take j)).length = j := by simp [labsA_len]; omega
  rw [mkr, List.getElem?_append_right (by omega), h2, Nat.sub_self]
  simp [h]
theorem mkr_succ (k : Int) (j : Nat) (css : List (List AV)) (h : j < css.length) : (mkr k j css).set j (.row ((iota (k + sumN ((css.map List.length).take j)) (css.getD j []).length).map i64)) = mkr k (j + 1) css := by
  have h2 : (labsA k ((css.map List.length).take j)).length = j := by simp [labsA_len]; omega
  have h3 : (css.map List.length).take (j + 1) = (css.map List.length).take j ++ [(css.getD j []).length] := by
    rw [List.take_succ]
    simp [h]
  unfold mkr
  rw [List.set_append_right _ _ (by omega), h2, Nat.sub_self, List.drop_eq_getElem_cons h]
  rw [h3]
  simp only [labsA, labs_snoc, List.map_append, List.map_cons, List.map_nil, List.append_assoc, List.cons_append, List.nil_append, List.set_cons_zero]

set_option maxRecDepth 1000000 in
theorem in43 {s g : Nat} {css : List (List AV)} {ro : Ro} {gn : Nat → Nat} {k : Int} (hro : ro s g = some (.row (rowsOf css))) (hn : css.length ≤ maxN) (hn2 : ∀ j, (css.getD j []).length ≤ maxN) (hk : 0 ≤ k) (hk2 : k + sumN (css.map List.length) ≤ 2^62) :
    InOK Try.prog 43 [.ref s g [] 0 css.length, i64 k] ro gn (i64 (k + sumN (css.map List.length))) (upr ro s g (.row (labsA k (css.map List.length)))) gn := by
  refine in_of (fn := Try.f43) (code := bodyOf Try.f43) Try.func43 rfl (by kernel_rfl) ?_
  intro sl hs
  have s0 : sl 0 = .ref s g [] 0 css.length := hs 0
  have s1 : sl 1 = i64 k := hs 1
  have hn' : css.length ≤ 4294967296 := hn
  simp only [Try.f43, bodyOf, Option.getD, go_sem, ↓reduceIte, Nat.reduceEqDiff, reduceCtorEq, Nat.reduceAdd, Nat.reduceMul, Nat.reduceLeDiff, ti2, ti3, ti4, ti22, s0, s1]
  refine WK_for (fun j st => st.sl 0 = .ref s g [] 0 css.length ∧ st.sl 1 = i64 (k + sumN ((css.map List.length).take j)) ∧ st.sl 5 = i64 (j : Int) ∧ st.ro = upr ro s g (.row (mkr k j css)) ∧ st.gn = gn) css.length ?_ ?_ ?_
  · simp only [↓zcy, ↓zcz, ↓zda, ↓zdb, ↓reduceIte, Nat.reduceEqDiff, and_true, true_and, and_self, ne_eq, not_false_eq_true, eq_self, false_and, and_false, reduceCtorEq, s0, s1, Int.natCast_zero, Int.add_zero, List.take_zero, sumN]
    exact (upr_id _ _ _ _ hro).symm
  · rintro j sl ro' gn' hj ⟨s0, s1, s5, rfl, rfl⟩
    dsimp only at s0 s1 s5
    have hj' : (j : Int) < css.length := by omega
    simp (config := { maxSteps := 10000000 }) (disch := first | omega | assumption) only [go_sem, ↓reduceIte, Nat.reduceEqDiff, reduceCtorEq, Nat.reduceAdd, Nat.reduceMul, Nat.reduceLeDiff, zfu, Int.mul_def, Int.add_def, zfv, cond_false, cond_true, isub, ti2, ti3, ti4, ti22, ti23, s0, s1, s5, kLen1, hj', hj, mkr_at k j css hj, lift]
    have hle := sumN_take_le (css.map List.length) (j + 1)
    have hst := sumN_take (css.map List.length) j (by simpa using hj)
    have hgl : (css.map List.length).getD j 0 = (css.getD j []).length := by simp [hj]
    rw [hgl] at hst
    have hset : (mkr k j css).set j (.row (css.getD j [])) = mkr k j css := by
      have h1 : j < (mkr k j css).length := by rw [mkr_len _ _ _ (Nat.le_of_lt hj)]; exact hj
      have h2 := mkr_at k j css hj
      rw [List.getElem?_eq_getElem h1, Option.some.injEq] at h2
      rw [← h2, List.set_getElem_self]
    refine CLL_in rfl _ _ _ (in32 (plc_in s g j (mkr k j css) (by rw [mkr_len _ _ _ (Nat.le_of_lt hj)]; exact hj)) (cs := css.getD j []) (by rw [hset]; exact upr_same _ _ _ _) (hn2 j) (by omega) (by omega)) ?_
    simp (config := { maxSteps := 10000000 }) (disch := first | omega | assumption) only [go_sem, ↓reduceIte, Nat.reduceEqDiff, reduceCtorEq, Nat.reduceAdd, Nat.reduceMul, Nat.reduceLeDiff, zfu, Int.mul_def, Int.add_def, zfv, cond_false, cond_true, isub, ti2, ti3, ti4, ti22, ti23, s0, s1, s5]
    exact ⟨i64c (by omega), i64c (by omega), by rw [upr_upr, mkr_succ k j css hj]⟩
  · rintro sl ro' gn' ⟨s0, s1, s5, rfl, rfl⟩
    dsimp only at s0 s1 s5
    have hj' : ¬ (css.length : Int) < css.length := by omega
    simp (config := { maxSteps := 10000000 }) (disch := first | omega | assumption) only [go_sem, ↓reduceIte, Nat.reduceEqDiff, reduceCtorEq, Nat.reduceAdd, Nat.reduceMul, Nat.reduceLeDiff, zfu, Int.mul_def, Int.add_def, zfv, cond_false, cond_true, isub, ti2, ti3, ti4, ti22, ti23, s0, s1, s5, kLen1, hj']
    refine ⟨.inr rfl, ⟨_, rfl, ?_⟩, ?_, rfl⟩
    · simp only [↓zcy, ↓zcz, ↓zda, ↓zdb, ↓reduceIte, Nat.reduceEqDiff, and_true, true_and, and_self, ne_eq, not_false_eq_true, eq_self, false_and, and_false, reduceCtorEq, oneOrA]
      rw [List.take_of_length_le (by simp)]
    · simp [mkr]
      rw [List.take_of_length_le (by simp)]

end Go.Proofs.Ytifgeenipinnmaa
