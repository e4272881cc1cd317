/- Texts joined: F3 F4 F5. -/
import Derived.Test.YtgcnmlecihegcaaMi
set_option linter.all false
/- Matrices in memory; the program's diagonal, scaled matrices, Gauss sums; the conditions 0 and 3. -/
namespace Go.Proofs.Ytgcnmlecihegcaa
open Go.RowKit
set_option maxRecDepth 1000000

abbrev matA (f : Nat → Nat → Int) (n m : Nat) : AV := .row (rws (fun i => .row (rws (fun j => i64 (f i j)) m)) n)
def upd2 (f : Nat → Nat → Int) (i j : Nat) (v : Int) : Nat → Nat → Int := fun x y => if x = i ∧ y = j then v else f x y
def matL (f : Nat → Nat → Int) (n m : Nat) : List (List Int) := rws (fun i => rws (fun j => f i j) m) n
theorem matL_row {f : Nat → Nat → Int} {n m i : Nat} (h : i < n) : row (matL f n m) i = rws (fun j => f i j) m := row_rws _ h
theorem matL_at {f : Nat → Nat → Int} {n m i j : Nat} (hi : i < n) (hj : j < m) : atI (row (matL f n m) i) j = f i j := by rw [matL_row hi, atI_rws _ hj]
theorem rowLL_mat (f : Nat → Nat → Int) (n m : Nat) : rowLL (matL f n m) = matA f n m := by simp only [rowLL, rowL, matL, rws_map]
theorem noRef_mat (f : Nat → Nat → Int) (n m : Nat) : noRef (matA f n m) = true := noRef_row _ (noRefL_rws _ _ fun _ => noRef_row _ (noRefL_rws _ _ fun _ => rfl))
theorem noI_mat (f : Nat → Nat → Int) (n m : Nat) : noI (matA f n m) = true := noI_row _ (noIL_map _ (fun _ => noI_row _ (noIL_map _ (fun _ => rfl) _)) _)
theorem mat_congr {f g : Nat → Nat → Int} {n m : Nat} (h : ∀ i j, i < n → j < m → f i j = g i j) : matA f n m = matA g n m :=
  congrArg AV.row (rws_congr fun x hx => congrArg AV.row (rws_congr fun y hy => by rw [h x y hx hy]))
theorem bx1_rws {f : Nat → List AV} {n i : Nat} (h : i < n) : bx1 (some (.row (rws (fun i => .row (f i)) n))) i = false := bx1_row (rws_get _ _ _ h)
theorem wr1_mat {f : Nat → Nat → Int} {n m i j : Nat} {v : Int} {ro : Ro} {s g : Nat} (hi : i < n) (hj : j < m) : wr1 (some (.row (rws (fun i => .row (rws (fun j => i64 (f i j)) m)) n))) ro s g i j [i64 v] = upr ro s g (matA (upd2 f i j v) n m) := by
  rw [wr1_row (rws_get _ _ _ hi), setL, setL, rws_set, rws_set]
  refine congrArg (upr ro s g) (congrArg AV.row (rws_congr fun x hx => ?_))
  by_cases hxi : x = i
  · subst hxi
    rw [if_pos rfl]
    refine congrArg AV.row (rws_congr fun y hy => ?_)
    by_cases hyj : y = j
    · subst hyj; rw [if_pos rfl]; simp [upd2]
    · rw [if_neg hyj]; simp [upd2, hyj]
  · rw [if_neg hxi]
    refine congrArg AV.row (rws_congr fun y hy => ?_)
    simp [upd2, hxi]
theorem exq_mat {n : Nat} {ro : Ro} {s g k m : Nat} {f : Nat → Nat → Int} (h : ro s g = some (matA f k m)) (hn : 3 ≤ n) : exq n ro (.ref s g [] 0 k) (immLL (matL f k m)) := by
  have := exq_refLL (ro := ro) (s := s) (g := g) (m := k) (n := n) (xs := matL f k m) (by rw [h, rowLL_mat]) (by simp only [matL, zfe]) hn
  exact this
theorem isLL_mat (f : Nat → Nat → Int) (n m : Nat) : isLL (immLL (matL f n m)) (matL f n m) := isLL_imm _
theorem noRef_isL {a : AV} {xs : List Int} (h : isL a xs) : noRef a = true := by
  rcases h with rfl | ⟨_, rfl⟩
  · simpa only [noRef] using zhi xs
  · rfl
theorem noRef_isLL {a : AV} {xs : List (List Int)} (h : isLL a xs) : noRef a = true := by
  rcases h with ⟨ds, rfl, hd⟩ | ⟨_, rfl⟩
  · simpa only [noRef] using isLs_nr hd
  · rfl
theorem noRef_isLLL {a : AV} {xs : List (List (List Int))} (h : isLLL a xs) : noRef a = true := by
  rcases h with ⟨ds, rfl, hd⟩ | ⟨_, rfl⟩
  · simpa only [noRef] using isLLs_nr hd
  · rfl
theorem nrL_rowL (xss : List (List Int)) : noRefL (xss.map rowL) = true := zhj xss
theorem nrL_mat (f : Nat → Nat → Int) (n m : Nat) : noRefL (rws (fun i => .row (rws (fun j => i64 (f i j)) m)) n) = true := noRefL_rws _ _ fun _ => noRef_row _ (noRefL_rws _ _ fun _ => rfl)
theorem nrL_rwi (f : Nat → Int) (n : Nat) : noRefL (rws (fun i => i64 (f i)) n) = true := noRefL_rws _ _ fun _ => rfl
theorem noRefL_n : noRefL [] = true := rfl
theorem noRefL_c (a : AV) (l : List AV) : noRefL (a :: l) = (noRef a && noRefL l) := by simp only [noRefL]
theorem noRef_s (v : Value) : noRef (.sc v) = true := nr _
theorem pureL_n : pureL [] = true := nr _
theorem pureL_c (a : AV) (l : List AV) : pureL (a :: l) = (pureA a && pureL l) := by simp only [pureL]
theorem pureA_ref (s g : Nat) (p : List Nat) (o n : Nat) : pureA (.ref s g p o n) = false := nr _
theorem pureA_ptr (s g : Nat) (p : List Nat) (o : Nat) : pureA (.ptr s g p o) = false := nr _
theorem pureA_sc (v : Value) : pureA (.sc v) = true := nr _
theorem pureA_agg (l : List AV) : pureA (.agg l) = pureL l := by simp only [pureA]
theorem sitesL_n : zdz [] = [] := nr _
theorem sitesL_c (a : AV) (l : List AV) : zdz (a :: l) = zdy a ++ zdz l := by simp only [zdz]
attribute [go_sem] isL_sh isLL_sh isLLL_sh isL_pure isLL_pure isLLL_pure noRef_isL noRef_isLL noRef_isLLL nrL_rowL nrL_mat nrL_rwi noRefL_n noRefL_c noRef_s pureL_n pureL_c pureA_ref pureA_ptr pureA_sc pureA_agg sitesL_n sitesL_c

attribute [go_sem] inO_row rowO_row isBx_one wr_one bx1_rws wr1_mat impE_row List.length_map tms_len

/-- The diagonal matrix of a list. -/
def dgE (T : List Int) (k : Nat) (i j : Nat) : Int := if i = j ∧ i < k then atI T i else 0
/-- Scaled rows. -/
def sclL (S : List (List Int)) (w : Int) : List (List Int) := rws (fun i => rws (fun j => atI (row S i) j * w % 55441) (row S i).length) S.length
/-- The condition 0. -/
def StaP (S : List (List Int)) (T : List Int) : Prop := S = trp S ∧ atI (row S 0) 0 = 1 ∧ atI T 0 = 1 ∧ (∀ i, i < T.length → atI (row S 0) i ≠ 0) ∧ (∀ i, i < T.length → atI T i ≠ 0)
theorem ix_neg {xs : List Int} {n : Int} : 0 ≤ ix xs n 0 ↔ ∃ j, j < xs.length ∧ atI xs j = n := by
  rcases ix_cases xs n with h | ⟨m, h, h1, h2⟩
  · rw [h]
    refine ⟨fun h => absurd h (by decide), ?_⟩
    rintro ⟨j, hj, he⟩
    have h3 : xs = rws (atI xs) xs.length := eq_of_atI (zfe _ _).symm fun j hj => (atI_rws _ hj).symm
    have := (ix_has (atI xs) xs.length n).2 ⟨j, hj, he⟩
    rw [← h3, h] at this
    exact absurd this (by decide)
  · rw [h]
    exact ⟨fun _ => ⟨m, h1, h2⟩, fun _ => by omega⟩

/-- The matrix with the entries s t. -/
def uE (S : List (List Int)) (T : List Int) (i j : Nat) : Int := atI (row S i) j * atI T j % 55441
theorem sm_one {f : Nat → Int} {j : Nat} : ∀ {n : Nat}, (∀ k, k < n → k ≠ j → f k = 0) → sm f n = if j < n then f j else 0
  | 0, _ => rfl
  | n + 1, h => by
    simp only [sm]
    rw [sm_one fun k hk => h k (by omega)]
    by_cases h1 : j < n
    · rw [if_pos h1, if_pos (by omega), h n (by omega) (by omega), Int.add_zero]
    · rw [if_neg h1]
      by_cases h2 : j = n
      · subst h2; rw [if_pos (by omega), Int.zero_add]
      · rw [if_neg (by omega), h n (by omega) (by omega)]; rfl
theorem tms_dg (S : List (List Int)) (T : List Int) (hS : S.length = T.length) : tms S (matL (dgE T T.length) T.length T.length) = matL (uE S T) T.length T.length := by
  have hl : (matL (dgE T T.length) T.length T.length).length = T.length := zfe _ _
  unfold tms
  rw [hl, hS]
  refine rws_congr fun i hi => rws_congr fun j hj => ?_
  unfold tmE uE
  rw [hl, sm_one (j := j) ?_, if_pos hj, matL_at hj hj]
  · simp [dgE, hj]
  · intro k hk hkj
    rw [matL_at hk hj]
    simp [dgE, hkj]
def uM (S : List (List Int)) (T : List Int) : List (List Int) := matL (uE S T) T.length T.length
def gsV (S : List (List Int)) (T : List Int) : Int := sm (gsT S T) T.length % 55441
/-- The condition 3. -/
def TurP (S : List (List Int)) (T : List Int) : Prop := tms (tms (uM S T) (uM S T)) (uM S T) = sclL (tms S S) (gsV S T)
theorem numLL_tms (A B : List (List Int)) : numLL (tms A B) := numLL_rws _ _ fun _ _ => numL_rws _ _ fun _ _ => num_mod _
theorem numLL_mat {f : Nat → Nat → Int} {n m : Nat} (h : ∀ i j, i < n → j < m → num (f i j)) : numLL (matL f n m) := numLL_rws _ _ fun i hi => numL_rws _ _ fun j hj => h i j hi hj

end Go.Proofs.Ytgcnmlecihegcaa

/- The program's rings: faults. -/
namespace Go.Proofs.Ytgcnmlecihegcaa
open Go.RowKit
set_option maxRecDepth 1000000

/-- The least label without a dual, or -1. -/
def F2Z (T : List (List (List Int))) (z : Int) : Prop := (F2 T = none ∧ z = -1) ∨ ∃ i : Nat, F2 T = some [1, (i : Int)] ∧ z = i
theorem fnd_ex {α : Type} {p : Nat → Option α} {v : α} : ∀ {n : Nat}, fnd n p = some v → ∃ k, k < n ∧ p k = some v
  | 0, h => by cases h
  | n + 1, h => by
    simp only [fnd] at h
    cases hf : fnd n p with
    | some w =>
      rw [hf] at h
      obtain ⟨k, hk, e⟩ := fnd_ex (p := p) (n := n) (v := v) (by rw [hf]; exact h)
      exact ⟨k, by omega, e⟩
    | none =>
      rw [hf] at h
      exact ⟨n, by omega, h⟩
theorem F2Z_ex (T : List (List (List Int))) : ∃ z, F2Z T z := by
  cases h : F2 T with
  | none => exact ⟨-1, .inl ⟨h, rfl⟩⟩
  | some v =>
    obtain ⟨k, hk, e⟩ := fnd_ex h
    unfold p2 at e
    split at e
    · cases e; exact ⟨k, .inr ⟨k, h, rfl⟩⟩
    · cases e
end Go.Proofs.Ytgcnmlecihegcaa

/- The program's rings: brackets; what is a ring. -/
namespace Go.Proofs.Ytgcnmlecihegcaa
open Go.RowKit
set_option maxRecDepth 1000000

section
variable {ro : Ro} {s g o n : Nat} {p : List Nat} {cs : List AV} {a1 : Nat} {a2 : Bool} {a3 : List Value} {e : Nat} {a5 : List (Nat × Nat)} {a6 : Option IntKind} {a7 a8 : Bool}
theorem kB_neR : kBin0 (some ⟨a1, a2, a3, some e, a5, a6, a7, a8⟩) ro .neq (.ref s g p o n) (.sc (.slice none 0 0)) = if (ro.cells s g p).isSome = true then some ⟨bo true, none, [], []⟩ else none := nr _
theorem kB_eqR : kBin0 (some ⟨a1, a2, a3, some e, a5, a6, a7, a8⟩) ro .eql (.ref s g p o n) (.sc (.slice none 0 0)) = if (ro.cells s g p).isSome = true then some ⟨bo false, none, [], []⟩ else none := nr _
theorem kB_neI : kBin0 (some ⟨a1, a2, a3, some e, a5, a6, a7, a8⟩) ro .neq (.imm cs) (.sc (.slice none 0 0)) = some ⟨bo true, none, [], []⟩ := nr _
theorem kB_eqI : kBin0 (some ⟨a1, a2, a3, some e, a5, a6, a7, a8⟩) ro .eql (.imm cs) (.sc (.slice none 0 0)) = some ⟨bo false, none, [], []⟩ := nr _
theorem kB_neN : kBin0 (some ⟨a1, a2, a3, some e, a5, a6, a7, a8⟩) ro .neq (.sc (.slice none 0 0)) (.sc (.slice none 0 0)) = some ⟨bo false, none, [], []⟩ := nr _
theorem kB_eqN : kBin0 (some ⟨a1, a2, a3, some e, a5, a6, a7, a8⟩) ro .eql (.sc (.slice none 0 0)) (.sc (.slice none 0 0)) = some ⟨bo true, none, [], []⟩ := nr _
theorem kBin_ref (i : Option TI) (op : BinOp) (y : AV) : kBin i ro op (.ref s g p o n) y = kBin0 i ro op (.ref s g p o n) y := nr _
theorem kBin_imm (i : Option TI) (op : BinOp) (y : AV) : kBin i ro op (.imm cs) y = kBin0 i ro op (.imm cs) y := nr _
theorem kBin_nil (i : Option TI) (op : BinOp) (y : AV) : kBin i ro op (.sc (.slice none 0 0)) (.sc (.slice none 0 0)) = kBin0 i ro op (.sc (.slice none 0 0)) (.sc (.slice none 0 0)) := nr _
end
attribute [go_sem] kB_neR kB_eqR kB_neI kB_eqI kB_neN kB_eqN kBin_ref kBin_imm kBin_nil

theorem exq_fn {n f : Nat} {ro : Ro} {cs cs' : List AV} (h : exqL n ro cs cs') : exq (n + 1) ro (.fn f cs) (.fn f cs') := by
  refine ⟨fun k hk => ?_, fun hp => by rw [h.pureE (by simpa only [pureA] using hp)]⟩
  obtain ⟨j, rfl⟩ : ∃ j, k = j + 1 := ⟨k - 1, by omega⟩
  show AV.fn f (cs.map (ex ro j)) = _
  rw [h.mapE j (by omega)]
theorem exq_ptr {n s g : Nat} {ro : Ro} {v : Value} (h : ro s g = some (.bx [.sc v])) (hn : 2 ≤ n) : exq n ro (.ptr s g [] 0) (.iptr [.sc v]) := by
  refine ⟨fun k hk => ?_, fun hp => by simp [pureA] at hp⟩
  obtain ⟨j, rfl⟩ : ∃ j, k = j + 2 := ⟨k - 2, by omega⟩
  simp only [ex, zef, h, zei, List.drop_zero, List.map_cons, List.map_nil]

/-- What is a ring. -/
def RingP (T : List (List (List Int))) : Prop := CubeP T ∧ RF T = none
theorem RF_ne {T : List (List (List Int))} {v : List Int} (h : RF T = some v) : 0 < v.length := by
  have g1 : ∀ {v}, F1 T = some v → 0 < v.length := fun h => by
    obtain ⟨i, _, h⟩ := fnd_ex h
    obtain ⟨k, _, h⟩ := fnd_ex h
    unfold p1 at h; split at h <;> cases h; exact Nat.succ_pos _
  have g2 : ∀ {v}, F2 T = some v → 0 < v.length := fun h => by
    obtain ⟨i, _, h⟩ := fnd_ex h
    unfold p2 at h; split at h <;> cases h; exact Nat.succ_pos _
  have g3 : ∀ {v}, F3 T = some v → 0 < v.length := fun h => by
    obtain ⟨i, _, h⟩ := fnd_ex h
    obtain ⟨j, _, h⟩ := fnd_ex h
    obtain ⟨k, _, h⟩ := fnd_ex h
    unfold p3 at h; split at h <;> cases h; exact Nat.succ_pos _
  have g4 : ∀ {v}, F4 T = some v → 0 < v.length := fun h => by
    obtain ⟨i, _, h⟩ := fnd_ex h
    obtain ⟨j, _, h⟩ := fnd_ex h
    obtain ⟨k, _, h⟩ := fnd_ex h
    obtain ⟨l, _, h⟩ := fnd_ex h
    unfold p4 at h; split at h <;> cases h; exact Nat.succ_pos _
  unfold RF at h
  split at h
  · rename_i h1; cases h; exact g1 h1
  · split at h
    · rename_i h1; cases h; exact g2 h1
    · split at h
      · rename_i h1; cases h; exact g3 h1
      · exact g4 h
section
variable {ro : Ro} {s g o n : Nat} {p : List Nat} {a1 : Nat} {a2 : Bool} {a3 : List Value} {e : Nat} {a5 : List (Nat × Nat)} {a6 : Option IntKind} {a7 a8 : Bool}
theorem kLen_ref : kLen1 (some ⟨a1, a2, a3, some e, a5, a6, a7, a8⟩) ro (.ref s g p o n) = if (ro.cells s g p).isSome = true then some ⟨i64 n, none, [], []⟩ else none := by
  simp only [kLen1, Option.isSome_some, true_and]
theorem kLen_nil : kLen1 (some ⟨a1, a2, a3, some e, a5, a6, a7, a8⟩) ro (.sc (.slice none 0 0)) = some ⟨i64 0, none, [], []⟩ := nr _
end
attribute [go_sem] kLen_ref kLen_nil

theorem c108 {a : AV} {T : List (List (List Int))} (ha : isLLL a T) {t : Bool} (ht : t = true ↔ RingP T) : CallOK Try.prog 37 [.agg [a]] (bo t) := by
  refine call_of (fn := Try.f37) (code := bodyOf Try.f37) Try.func37 rfl (by kernel_rfl) (rfl) ?_
  intro sl hs
  have s0 : sl 0 = .agg [a] := hs 0
  by_cases hc : CubeP T
  · have c1 := c131 ha hc
    dsimp only [Try.f37, bodyOf, Option.getD]
    simp (config := { maxSteps := 10000000 }) (disch := first | assumption | omega) only [go_sem, ↓reduceIte, Nat.reduceEqDiff, reduceCtorEq, Nat.reduceAdd, Nat.reduceMul, Nat.reduceLeDiff, zfu, Int.mul_def, Int.add_def, zfv, cond_false, cond_true, isub, Int.reduceToNat, s0]
    refine CLL_pure _ (c130 (t := true) ha (by simp [hc])) (by simp (disch := assumption) only [pureL, pureA, isL_pure, isLL_pure, isLLL_pure, pureL_map, Bool.and_self, Bool.and_true]) rfl rfl ?_
    simp (config := { maxSteps := 10000000 }) (disch := first | assumption | omega) only [go_sem, ↓reduceIte, Nat.reduceEqDiff, reduceCtorEq, Nat.reduceAdd, Nat.reduceMul, Nat.reduceLeDiff, zfu, Int.mul_def, Int.add_def, zfv, cond_false, cond_true, isub, Int.reduceToNat, s0]
    cases h : RF T with
    | none =>
      rw [h] at c1
      refine CLL_pure _ c1 (by simp (disch := assumption) only [pureL, pureA, isL_pure, isLL_pure, isLLL_pure, pureL_map, Bool.and_self, Bool.and_true]) rfl rfl ?_
      simp (config := { maxSteps := 10000000 }) (disch := first | assumption | omega) only [go_sem, ↓reduceIte, Nat.reduceEqDiff, reduceCtorEq, Nat.reduceAdd, Nat.reduceMul, Nat.reduceLeDiff, zfu, Int.mul_def, Int.add_def, zfv, cond_false, cond_true, isub, Int.reduceToNat, s0, optA]
      simp only [zbj, zbk, retR, resL, outT, zes, zez, oneV, ↓zcy, ↓zcz, ↓reduceIte, Nat.reduceEqDiff, Option.some.injEq, AV.sc.injEq, Value.bool.injEq, Value.int.injEq, outL, outT, zft, zcp, zed, zef, zei, zeh, List.length_cons, List.length_nil, Nat.reduceAdd, Nat.zero_add, Nat.reduceLeDiff, List.drop_zero, List.take_succ_cons, List.take_zero, zfi, zfh, Ro.dl, zdb, zda, zfe, and_self, and_true, true_and, eq_self, List.append_nil, List.nil_append, List.cons_append, ne_eq, not_false_eq_true, and_false, false_and, Bool.false_eq_true, St.ev, zes, zfn, zhk, List.length_map]
      exact (ht.2 ⟨hc, h⟩).symm
    | some v =>
      have hv := RF_ne h
      rw [h] at c1
      refine CLL_pure _ c1 (by simp (disch := assumption) only [pureL, pureA, isL_pure, isLL_pure, isLLL_pure, pureL_map, Bool.and_self, Bool.and_true]) rfl rfl ?_
      simp (config := { maxSteps := 10000000 }) (disch := first | assumption | omega) only [go_sem, ↓reduceIte, Nat.reduceEqDiff, reduceCtorEq, Nat.reduceAdd, Nat.reduceMul, Nat.reduceLeDiff, zfu, Int.mul_def, Int.add_def, zfv, cond_false, cond_true, isub, Int.reduceToNat, s0, optA]
      simp only [zbj, zbk, retR, resL, outT, zes, zez, oneV, ↓zcy, ↓zcz, ↓reduceIte, Nat.reduceEqDiff, Option.some.injEq, AV.sc.injEq, Value.bool.injEq, Value.int.injEq, outL, outT, zft, zcp, zed, zef, zei, zeh, List.length_cons, List.length_nil, Nat.reduceAdd, Nat.zero_add, Nat.reduceLeDiff, List.drop_zero, List.take_succ_cons, List.take_zero, zfi, zfh, Ro.dl, zdb, zda, zfe, and_self, and_true, true_and, eq_self, List.append_nil, List.nil_append, List.cons_append, ne_eq, not_false_eq_true, and_false, false_and, Bool.false_eq_true, St.ev, zes, zfn, zhk, List.length_map]
      exact bool_false ht fun h2 => by rw [h2.2] at h; cases h
  · skip
    dsimp only [Try.f37, bodyOf, Option.getD]
    simp (config := { maxSteps := 10000000 }) (disch := first | assumption | omega) only [go_sem, ↓reduceIte, Nat.reduceEqDiff, reduceCtorEq, Nat.reduceAdd, Nat.reduceMul, Nat.reduceLeDiff, zfu, Int.mul_def, Int.add_def, zfv, cond_false, cond_true, isub, Int.reduceToNat, s0]
    refine CLL_pure _ (c130 (t := false) ha (by simp [hc])) (by simp (disch := assumption) only [pureL, pureA, isL_pure, isLL_pure, isLLL_pure, pureL_map, Bool.and_self, Bool.and_true]) rfl rfl ?_
    simp (config := { maxSteps := 10000000 }) (disch := first | assumption | omega) only [go_sem, ↓reduceIte, Nat.reduceEqDiff, reduceCtorEq, Nat.reduceAdd, Nat.reduceMul, Nat.reduceLeDiff, zfu, Int.mul_def, Int.add_def, zfv, cond_false, cond_true, isub, Int.reduceToNat, s0]
    simp only [zbj, zbk, retR, resL, outT, zes, zez, oneV, ↓zcy, ↓zcz, ↓reduceIte, Nat.reduceEqDiff, Option.some.injEq, AV.sc.injEq, Value.bool.injEq, Value.int.injEq, outL, outT, zft, zcp, zed, zef, zei, zeh, List.length_cons, List.length_nil, Nat.reduceAdd, Nat.zero_add, Nat.reduceLeDiff, List.drop_zero, List.take_succ_cons, List.take_zero, zfi, zfh, Ro.dl, zdb, zda, zfe, and_self, and_true, true_and, eq_self, List.append_nil, List.nil_append, List.cons_append, ne_eq, not_false_eq_true, and_false, false_and, Bool.false_eq_true, St.ev, zes, zfn, zhk, List.length_map]
    exact bool_false ht fun h => hc h.1
end Go.Proofs.Ytgcnmlecihegcaa
