/- Texts joined: Y1 Y2 Y3 Y4. -/
import Derived.Test.YtgcnmlecihegcaaGreatMf
import Derived.Test.YtgcnmlecihegcaaGreatMh
import Derived.Test.YtgcnmlecihegcaaGreatMj
import Derived.Test.YtgcnmlecihegcaaGreatMl
import Derived.Test.YtgcnmlecihegcaaGreatMx
set_option linter.all false
/- Three levels of lists as a statement hands them in: readings, sizes, copies, equality. -/
namespace Go.Proofs.YtgcnmlecihegcaaGreat
open Go.RowKit Go.ChangeShapes Go.WideShapes Go.Deep Go.Joins
set_option maxRecDepth 1000000
def isLLws : List AV → List (List (List Int)) → Prop
  | [], [] => True
  | a :: bs, x :: xs => isLLw a x ∧ isLLws bs xs
  | _, _ => False
def isLLLw (a : AV) (xss : List (List (List Int))) : Prop := (∃ cs, a = .imm cs ∧ isLLws cs xss) ∨ (xss = [] ∧ ∃ o c, a = .sc (.slice o 0 c))
theorem isLLws_len : ∀ {cs : List AV} {T : List (List (List Int))}, isLLws cs T → cs.length = T.length
  | [], [], _ => rfl
  | a :: bs, x :: xs, h => by simp only [List.length_cons]; rw [isLLws_len h.2]
  | [], _ :: _, h => h.elim
  | _ :: _, [], h => h.elim
theorem isLLws_get : ∀ {cs : List AV} {T : List (List (List Int))} {k : Nat}, isLLws cs T → k < T.length → ∃ c, cs[k]? = some c ∧ isLLw c (T.getD k [])
  | a :: bs, x :: xs, 0, h, _ => ⟨a, rfl, h.1⟩
  | a :: bs, x :: xs, k + 1, h, hk => by
    obtain ⟨c, h1, h2⟩ := isLLws_get (k := k) h.2 (by simpa using hk)
    exact ⟨c, by simpa using h1, by simpa using h2⟩
  | [], [], k, _, hk => by simp at hk
  | [], _ :: _, _, h, _ => h.elim
  | _ :: _, [], _, h, _ => h.elim
theorem isLLws_pure : ∀ {cs : List AV} {T : List (List (List Int))}, isLLws cs T → pureL cs = true
  | [], [], _ => rfl
  | a :: bs, x :: xs, h => by simp [pureL, isLLw_pure h.1, isLLws_pure h.2]
  | [], _ :: _, h => h.elim
  | _ :: _, [], h => h.elim
theorem isLLLw_pure {a : AV} {xs : List (List (List Int))} (h : isLLLw a xs) : pureA a = true := by
  rcases h with ⟨cs, rfl, h⟩ | ⟨_, o, c, rfl⟩
  · simp [pureA, isLLws_pure h]
  · rfl
theorem isLLLw_sites {a : AV} {xs : List (List (List Int))} (h : isLLLw a xs) : zdy a = [] := by
  rcases h with ⟨cs, rfl, h⟩ | ⟨_, o, c, rfl⟩ <;> rfl
theorem isLLLw_cellB {a : AV} {xs : List (List (List Int))} (ro : Ro) (h : isLLLw a xs) : cellOkB ro a = true := by
  rcases h with ⟨cs, rfl, h⟩ | ⟨_, o, c, rfl⟩ <;> rfl
theorem isLLLw_lift {a : AV} {xs : List (List (List Int))} (s g : Nat) (p : List Nat) (h : isLLLw a xs) : lift s g p a = a := by
  rcases h with ⟨cs, rfl, h⟩ | ⟨_, o, c, rfl⟩ <;> rfl
theorem isLLLw_len {a : AV} {xs : List (List (List Int))} (h : isLLLw a xs) {ro : Ro} {a1 : Nat} {a2 : Bool} {a3 : List Value} {e : Nat} {a5 : List (Nat × Nat)} {a6 : Option IntKind} {a7 a8 : Bool} : kLen1 (some ⟨a1, a2, a3, some e, a5, a6, a7, a8⟩) ro a = some ⟨i64 xs.length, none, [], []⟩ := by
  rcases h with ⟨cs, rfl, h⟩ | ⟨rfl, o, c, rfl⟩
  · simp [kLen1, isLLws_len h]
  · rfl
theorem isLLLw_idx {a : AV} {xs : List (List (List Int))} (h : isLLLw a xs) {k : Nat} (hk : k < xs.length) {ro : Ro} {a1 : Nat} {a2 : Bool} {a3 : List Value} {e : Nat} {a5 : List (Nat × Nat)} {a6 : Option IntKind} {a7 a8 : Bool} : kIdx (some ⟨a1, a2, a3, some e, a5, a6, a7, a8⟩) ro a (i64 (k : Int)) = some ⟨.iptr [atA a k], none, [], []⟩ := by
  rcases h with ⟨cs, rfl, h⟩ | ⟨rfl, o, c, rfl⟩
  · obtain ⟨c, h1, h2⟩ := isLLws_get h hk
    simp [kIdx, h1, atA]
  · simp at hk
theorem isLLLw_mat {a : AV} {xs : List (List (List Int))} (h : isLLLw a xs) {k : Nat} (hk : k < xs.length) : isLLw (atA a k) (mat xs k) := by
  rcases h with ⟨cs, rfl, h⟩ | ⟨rfl, o, c, rfl⟩
  · obtain ⟨c, h1, h2⟩ := isLLws_get h hk
    have e : atA (.imm cs) k = c := by simp [atA, h1]
    rw [e]; exact h2
  · simp at hk
theorem isLLws_map {f : Nat → AV} {g : Nat → List (List Int)} : ∀ {l : List Nat}, (∀ i, i ∈ l → isLLw (f i) (g i)) → isLLws (l.map f) (l.map g)
  | [], _ => trivial
  | i :: l, h => ⟨h i (by simp), isLLws_map fun j hj => h j (by simp [hj])⟩
theorem mat_out {T : List (List (List Int))} {k : Nat} (h : T.length ≤ k) : mat T k = [] := by
  unfold mat; rw [List.getD_eq_getElem?_getD, List.getElem?_eq_none h]; rfl
attribute [go_sem] isLLLw_len isLLLw_idx isLLLw_lift isLLLw_cellB isLLLw_sites isLLLw_pure
section
variable {H : Type} {enc : TypeId × Value → H} {P : Program} {w : World} {held : Bool}
/-- A slice of slices of slices of integers. -/
theorem open_w3 {t t1 t2 e : TypeId} {fuel : Nat} {v : Value} {x : DataW H × List MemPlace} (ht : P.underlying t = some (.slice t1)) (ht1 : P.underlying t1 = some (.slice t2)) (ht2 : P.underlying t2 = some (.slice e)) (he : P.underlying e = some (.int .i64)) (hc1 : P.cellsOf t1 = 1) (hc2 : P.cellsOf t2 = 1) (hc : P.cellsOf e = 1)
    (h : DataW.trod enc P w 0 (fun _ => true) held fuel t [v] = some x) :
    ∃ a T, Rel (cx0 w (fun _ => False)) a v [] ∧ isLLLw a T ∧ T.length < 2^63 ∧ (∀ i, (mat T i).length < 2^63) ∧ ∀ i j, (row (mat T i) j).length < 2^63 := by
  rcases open_slice ht h with ⟨hcs, _⟩ | ⟨ad, len, cap, m, n, D, Pl, hcs, _, hl, hm, hmm, _, hel⟩
  · simp only [List.cons.injEq, and_true] at hcs
    subst hcs
    exact ⟨.sc (.slice none 0 0), [], .sc _ .nil, .inr ⟨rfl, _, _, rfl⟩, by simp, fun i => by simp [mat], fun i j => by simp [row, mat]⟩
  · simp only [List.cons.injEq, and_true] at hcs
    subst hcs
    simp only [if_true] at hmm
    subst hmm
    have hmx : m < 2^63 := Nat.lt_of_le_of_lt hm (by decide)
    rcases Nat.eq_zero_or_pos len with h0 | hpos
    · subst h0
      exact ⟨.sc (.slice (some ad) 0 m), [], .sc _ .nil, .inr ⟨rfl, _, _, rfl⟩, by simp, fun i => by simp [mat], fun i j => by simp [row, mat]⟩
    · have hrow : ∀ i, i < m → ∃ u a xs, w.cell? (ad.add i) = some u ∧ Rel (cx0 w (fun _ => False)) a u [] ∧ isLLw a xs ∧ xs.length < 2^63 ∧ ∀ j, (row xs j).length < 2^63 := by
        intro i hi
        obtain ⟨cs', hcl, htr⟩ := hel i hi
        rw [hc1] at hcl
        obtain ⟨_, hlen, hat⟩ := World.cells?_some hcl
        obtain ⟨u, rfl⟩ : ∃ u, cs' = [u] := by
          match cs', hlen with
          | [u], _ => exact ⟨u, rfl⟩
        have h0 := hat 0 (by omega)
        obtain ⟨a, xs, r1, r2, r3, r4, _⟩ := open_w2 ht1 ht2 he hc2 hc htr
        refine ⟨u, a, xs, ?_, r1, r2, r3, r4⟩
        simpa [Addr.add, Nat.mul_one] using h0
      obtain ⟨hs, hb⟩ := cell_spot (hrow 0 (by omega)).choose_spec.choose_spec.choose_spec.1
      have hs' : ad.spot = none := by simpa [Addr.add] using hs
      have hb' : ad.block < w.heap.size := by simpa [Addr.add] using hb
      have hall : ∀ i, ∃ q : Value × AV × List (List Int), i < m → w.cell? (ad.add i) = some q.1 ∧ Rel (cx0 w (fun _ => False)) q.2.1 q.1 [] ∧ isLLw q.2.1 q.2.2 ∧ q.2.2.length < 2^63 ∧ ∀ j, (row q.2.2 j).length < 2^63 := by
        intro i
        by_cases hi : i < m
        · obtain ⟨u, a, xs, r⟩ := hrow i hi
          exact ⟨(u, a, xs), fun _ => r⟩
        · exact ⟨(.bool false, .dead, []), fun h => absurd h hi⟩
      obtain ⟨q, hq⟩ := Classical.axiomOfChoice hall
      have hget : ∀ i, i < len → mat ((List.range len).map fun i => (q i).2.2) i = (q i).2.2 := fun i hi => by simp [mat, hi]
      refine ⟨.imm ((List.range len).map fun i => (q i).2.1), (List.range len).map fun i => (q i).2.2, ?_, .inl ⟨_, rfl, isLLws_map fun i hi => ?_⟩, by simp; omega, fun i => ?_, fun i j => ?_⟩
      · have hr : RelL (cx0 w (fun _ => False)) ((List.range len).map fun i => (q i).2.1) ((List.range len).map fun i => (q i).1) [] :=
          RelL.mapO fun i hi => (hq i (by have := List.mem_range.1 hi; omega)).2.1
        have hlen2 : ((List.range len).map fun i => (q i).1).length = len := by simp
        have := RelL.imm (c := cx0 w (fun _ => False)) ad.block ad.off m hr ⟨fun h => h, hb', fun i u hu => ?_⟩ (by rw [hlen2]; exact hl) RelL.nil
        · rw [hlen2] at this
          have e : (⟨ad.block, ad.off, none⟩ : Addr) = ad := by cases ad; simp_all
          rwa [e] at this
        · show w.cell? ⟨ad.block, ad.off + i, none⟩ = some u
          rw [← add_plain hs' i]
          have hi : i < len := by
            have := (List.getElem?_eq_some_iff.1 hu).1
            rwa [hlen2] at this
          rw [(hq i (by omega)).1]
          simp [hi] at hu
          rw [hu]
      · exact (hq i (by have := List.mem_range.1 hi; omega)).2.2.1
      · rcases Nat.lt_or_ge i len with hi | hi
        · rw [hget i hi]; exact (hq i (by omega)).2.2.2.1
        · rw [mat_out (by simpa using hi)]; simp
      · rcases Nat.lt_or_ge i len with hi | hi
        · rw [hget i hi]; exact (hq i (by omega)).2.2.2.2 j
        · rw [mat_out (by simpa using hi), row_out (by simp)]; simp
end

/-! ### Sizes -/
def szT (T : List (List (List Int))) (l : Int) : Nat → Int
  | 0 => l
  | i + 1 => szA (mat T i) (szT T l i - (mat T i).length) (mat T i).length
theorem szA_top (S : List (List Int)) (l : Int) (n : Nat) : szA S l n ≤ l := szA_le S l (Nat.zero_le n)
theorem szT_le (T : List (List (List Int))) (l : Int) : ∀ {i j : Nat}, i ≤ j → szT T l j ≤ szT T l i
  | i, 0, h => by
    have : i = 0 := by omega
    subst this; exact Int.le_refl _
  | i, j + 1, h => by
    rcases Nat.lt_or_ge i (j + 1) with h2 | h2
    · have := szT_le T l (i := i) (j := j) (by omega)
      have h3 := szA_top (mat T j) (szT T l j - (mat T j).length) (mat T j).length
      simp only [szT]; omega
    · have : i = j + 1 := by omega
      subst this; exact Int.le_refl _
theorem cSzT {a : AV} {T : List (List (List Int))} {left : Int} (ha : isLLLw a T) (hx : T.length < 2^63) (hr : ∀ i, (mat T i).length < 2^63) (hr2 : ∀ i j, (row (mat T i) j).length < 2^63) (h1 : 0 ≤ left) (h2 : left ≤ 1048576) : CallOK Tryz.prog 59 [a, i64 left] (i64 (szV (szT T (left - T.length) T.length))) := by
  refine call_of (fn := Tryz.f59) (code := bodyOf Tryz.f59) Tryz.func59 rfl (by kernel_rfl) (rfl) ?_
  intro sl hs
  have s0 : sl 0 = a := hs 0
  have s1 : sl 1 = i64 left := hs 1
  have hle := szT_le T (left - T.length) (Nat.zero_le T.length)
  simp only [szT] at hle
  by_cases h : left - (T.length : Int) < 0
  · skip
    dsimp only [Tryz.f59, bodyOf, Option.getD]
    simp (config := { maxSteps := 10000000 }) (disch := first | assumption | omega) only [go_sem, ↓reduceIte, Nat.reduceEqDiff, reduceCtorEq, Nat.reduceAdd, Nat.reduceMul, Nat.reduceLeDiff, zfu, Int.mul_def, Int.add_def, zfv, cond_false, cond_true, isub, Int.reduceToNat, s0, s1]
    simp only [zbj, zbk, retR, resL, outT, zes, zez, oneV, ↓zcy, ↓zcz, ↓reduceIte, Nat.reduceEqDiff, Option.some.injEq, AV.sc.injEq, Value.bool.injEq, Value.int.injEq, outL, outT, zft, zcp, zed, zef, zei, zeh, List.length_cons, List.length_nil, Nat.reduceAdd, Nat.zero_add, Nat.reduceLeDiff, List.drop_zero, List.take_succ_cons, List.take_zero, zfi, zfh, Ro.dl, zdb, zda, zfe, and_self, and_true, true_and, eq_self, List.append_nil, List.nil_append, List.cons_append, ne_eq, not_false_eq_true, and_false, false_and, Bool.false_eq_true, St.ev, zes, zfn, zhk, List.length_map]
    unfold szV; rw [if_pos (by omega)]
  · skip
    dsimp only [Tryz.f59, bodyOf, Option.getD]
    simp (config := { maxSteps := 10000000 }) (disch := first | assumption | omega) only [go_sem, ↓reduceIte, Nat.reduceEqDiff, reduceCtorEq, Nat.reduceAdd, Nat.reduceMul, Nat.reduceLeDiff, zfu, Int.mul_def, Int.add_def, zfv, cond_false, cond_true, isub, Int.reduceToNat, s0, s1]
    refine WK_for (fun i st => st.sl 0 = a ∧ st.sl 1 = i64 (szT T (left - T.length) i) ∧ st.sl 5 = i64 (i : Int) ∧ (0 ≤ szT T (left - T.length) i)) T.length ?_ ?_ ?_
    · simp only [↓zcy, ↓zcz, ↓zda, ↓zdb, ↓reduceIte, Nat.reduceEqDiff, and_true, true_and, and_self, ne_eq, not_false_eq_true, eq_self, false_and, and_false, reduceCtorEq, rws_zero, s0, s1]
      exact ⟨rfl, rfl, by simp only [szT]; omega⟩
    · rintro i sl ro gn hi ⟨s0, s1, s5, q⟩
      dsimp only at s0 s1 s5
      have hi' : (i : Int) < (T.length : Nat) := by omega
      have hrow := isLLLw_mat ha hi
      have hri := hr i
      have hle2 := szT_le T (left - T.length) (Nat.zero_le i)
      have hle3 := szT_le T (left - T.length) (show i + 1 ≤ T.length by omega)
      simp only [szT] at hle2
      simp (config := { maxSteps := 10000000 }) (disch := first | assumption | omega) only [go_sem, ↓reduceIte, Nat.reduceEqDiff, reduceCtorEq, Nat.reduceAdd, Nat.reduceMul, Nat.reduceLeDiff, zfu, Int.mul_def, Int.add_def, zfv, cond_false, cond_true, isub, Int.reduceToNat, s0, s1, s5, hi', hi]
      refine CLL_pure _ (c55 hrow hri (fun j _ => hr2 i j) q (by omega)) (by simp (disch := assumption) only [pureL, pureA, isLw_pure, isLLw_pure, pureL_map, Bool.and_self, Bool.and_true]) rfl rfl ?_
      by_cases hn : szA (mat T i) (szT T (left - T.length) i - (mat T i).length) (mat T i).length < 0
      · have e : szV (szA (mat T i) (szT T (left - T.length) i - (mat T i).length) (mat T i).length) = -1 := if_pos hn
        have hn2 : szT T (left - T.length) (i + 1) < 0 := hn
        rw [e]
        simp (config := { maxSteps := 10000000 }) (disch := first | assumption | omega) only [go_sem, ↓reduceIte, Nat.reduceEqDiff, reduceCtorEq, Nat.reduceAdd, Nat.reduceMul, Nat.reduceLeDiff, zfu, Int.mul_def, Int.add_def, zfv, cond_false, cond_true, isub, Int.reduceToNat, s0, s1, s5, hi', hi]
        simp only [zbj, zbk, retR, resL, outT, zes, zez, oneV, ↓zcy, ↓zcz, ↓reduceIte, Nat.reduceEqDiff, Option.some.injEq, AV.sc.injEq, Value.bool.injEq, Value.int.injEq, outL, outT, zft, zcp, zed, zef, zei, zeh, List.length_cons, List.length_nil, Nat.reduceAdd, Nat.zero_add, Nat.reduceLeDiff, List.drop_zero, List.take_succ_cons, List.take_zero, zfi, zfh, Ro.dl, zdb, zda, zfe, and_self, and_true, true_and, eq_self, List.append_nil, List.nil_append, List.cons_append, ne_eq, not_false_eq_true, and_false, false_and, Bool.false_eq_true, St.ev, zes, zfn, zhk, List.length_map]
        unfold szV; rw [if_pos (by omega)]
      · have e : szV (szA (mat T i) (szT T (left - T.length) i - (mat T i).length) (mat T i).length) = szT T (left - T.length) (i + 1) := if_neg hn
        rw [e]
        have hn' : ¬ szT T (left - T.length) (i + 1) < 0 := hn
        simp (config := { maxSteps := 10000000 }) (disch := first | assumption | omega) only [go_sem, ↓reduceIte, Nat.reduceEqDiff, reduceCtorEq, Nat.reduceAdd, Nat.reduceMul, Nat.reduceLeDiff, zfu, Int.mul_def, Int.add_def, zfv, cond_false, cond_true, isub, Int.reduceToNat, s0, s1, s5, hi', hi]
        exact ⟨i64c (by omega), by omega⟩
    · rintro sl ro gn ⟨s0, s1, s5, q⟩
      dsimp only at s0 s1 s5
      have hi' : ¬ ((T.length : Nat) : Int) < (T.length : Nat) := by omega
      simp (config := { maxSteps := 10000000 }) (disch := first | assumption | omega) only [go_sem, ↓reduceIte, Nat.reduceEqDiff, reduceCtorEq, Nat.reduceAdd, Nat.reduceMul, Nat.reduceLeDiff, zfu, Int.mul_def, Int.add_def, zfv, cond_false, cond_true, isub, Int.reduceToNat, s0, s1, s5, hi']
      simp only [zbj, zbk, retR, resL, outT, zes, zez, oneV, ↓zcy, ↓zcz, ↓reduceIte, Nat.reduceEqDiff, Option.some.injEq, AV.sc.injEq, Value.bool.injEq, Value.int.injEq, outL, outT, zft, zcp, zed, zef, zei, zeh, List.length_cons, List.length_nil, Nat.reduceAdd, Nat.zero_add, Nat.reduceLeDiff, List.drop_zero, List.take_succ_cons, List.take_zero, zfi, zfh, Ro.dl, zdb, zda, zfe, and_self, and_true, true_and, eq_self, List.append_nil, List.nil_append, List.cons_append, ne_eq, not_false_eq_true, and_false, false_and, Bool.false_eq_true, St.ev, zes, zfn, zhk, List.length_map]
      unfold szV; rw [if_neg (by omega)]
theorem szA_ok {S : List (List Int)} {l : Int} (h : ¬ szA S l S.length < 0) : 0 ≤ l ∧ ∀ i, i < S.length → (row S i).length ≤ l := by
  refine ⟨by have := szA_top S l S.length; omega, fun i hi => ?_⟩
  have h3 := szA_le S l (show i + 1 ≤ S.length by omega)
  have h4 := szA_le S l (Nat.zero_le i)
  simp only [szA] at h3 h4
  omega
theorem szT_ok {T : List (List (List Int))} {left : Int} (h : ¬ szT T (left - T.length) T.length < 0) : T.length ≤ left ∧ ∀ i, i < T.length → (mat T i).length ≤ left ∧ ∀ j, j < (mat T i).length → (row (mat T i) j).length ≤ left := by
  have h0 := szT_le T (left - T.length) (Nat.zero_le T.length)
  simp only [szT] at h0
  refine ⟨by omega, fun i hi => ?_⟩
  have h1 := szT_le T (left - T.length) (show i + 1 ≤ T.length by omega)
  have h2 := szT_le T (left - T.length) (Nat.zero_le i)
  simp only [szT] at h1 h2
  obtain ⟨h3, h4⟩ := szA_ok (S := mat T i) (l := szT T (left - T.length) i - (mat T i).length) (by omega)
  exact ⟨by omega, fun j hj => by have := h4 j hj; omega⟩

/-! ### Copies -/
abbrev rowLLL (T : List (List (List Int))) : AV := .row (T.map rowLL)
abbrev immLLL (T : List (List (List Int))) : AV := .imm (T.map immLL)
theorem isLLs_imm : ∀ T : List (List (List Int)), isLLs (T.map immLL) T
  | [] => trivial
  | x :: T => ⟨isLL_imm x, isLLs_imm T⟩
theorem isLLL_imm (T : List (List (List Int))) : isLLL (immLLL T) T := .inl ⟨_, rfl, isLLs_imm T⟩
theorem noRef_rowLLL (T : List (List (List Int))) : noRef (rowLLL T) = true := by
  refine noRef_row _ ?_
  induction T with
  | nil => rfl
  | cons x T ih => simp only [List.map_cons, noRefL, noRef_rowLL x, ih, Bool.and_self]
theorem ex_refLLL {ro : Ro} {s g : Nat} {T : List (List (List Int))} (h : ro s g = some (rowLLL T)) (k : Nat) : ex ro (k + 4) (.ref s g [] 0 T.length) = immLLL T := by
  have hc : ro.cells s g [] = some (T.map rowLL) := by simp only [Ro.cells, h, blk]
  have h1 : ∀ x : List Int, ex ro (k + 1 + 1) (rowL x) = immL x := fun x => by
    show AV.imm ((x.map i64).map (ex ro (k + 1))) = _
    rw [List.map_map]; rfl
  have h2 : ∀ x : List (List Int), ex ro (k + 3) (rowLL x) = immLL x := fun x => by
    show AV.imm ((x.map rowL).map (ex ro (k + 2))) = _
    rw [List.map_map]
    exact congrArg AV.imm (List.map_congr_left fun y _ => h1 y)
  show (match ro.cells s g [] with
    | some cs => AV.imm (((cs.drop 0).take T.length).map (ex ro (k + 3)))
    | none => .dead) = _
  rw [hc]
  show AV.imm ((((T.map rowLL).drop 0).take T.length).map (ex ro (k + 3))) = _
  rw [List.drop_zero, List.take_of_length_le (by simp), List.map_map]
  exact congrArg AV.imm (List.map_congr_left fun x _ => h2 x)
theorem exq_refLLL {n : Nat} {ro : Ro} {s g m : Nat} {T : List (List (List Int))} (h : ro s g = some (rowLLL T)) (hm : m = T.length) (hn : 4 ≤ n) : exq n ro (.ref s g [] 0 m) (immLLL T) := by
  refine ⟨fun k hk => ?_, fun hp => by simp [pureA] at hp⟩
  subst hm
  obtain ⟨j, rfl⟩ : ∃ j, k = j + 4 := ⟨k - 4, by omega⟩
  exact ex_refLLL h j
theorem outL_refsL (f : Nat → List (List Int)) (s : Nat) : ∀ (l : List Nat) (ro : Ro), l.Nodup → (∀ k, k ∈ l → ro s (k + 1) = some (rowLL (f k))) → ∃ ws, outL ro (l.map fun k => .ref s (k + 1) [] 0 (f k).length) = some (l.map fun k => rowLL (f k), ws)
  | [], ro, _, _ => ⟨[], rfl⟩
  | k :: l, ro, hn, h => by
    have hk := h k (by simp)
    have hn' := List.nodup_cons.1 hn
    obtain ⟨ws, hw⟩ := outL_refsL f s l (ro.dl [(s, k + 1)]) hn'.2 (fun j hj => by
      have : j ≠ k := fun e => hn'.1 (e ▸ hj)
      show upr ro s (k + 1) .dead s (j + 1) = _
      rw [zdb, if_neg (by omega)]
      exact h j (by simp [hj]))
    refine ⟨(s, k + 1) :: ws, ?_⟩
    simp only [List.map_cons, outL, zes, hk, List.length_map, if_true, hw, List.cons_append, List.nil_append]
theorem cToT {a : AV} {T : List (List (List Int))} (ha : isLLLw a T) (hx : T.length ≤ maxN) (hr : ∀ i, i < T.length → (mat T i).length ≤ maxN ∧ ∀ j, j < (mat T i).length → (row (mat T i) j).length ≤ maxN) : CallOK Tryz.prog 72 [a] (rowLLL T) := by
  have hx' : T.length ≤ 4294967296 := hx
  have hm' : (T.length : Int) ≤ ((4294967296 : Nat) : Int) := by omega
  have e0 : rowLLL T = .row ((List.range T.length).map fun k => rowLL (mat T k)) := by
    have : T.map rowLL = (List.range T.length).map fun k => rowLL (mat T k) := by
      apply List.ext_getElem
      · simp
      · intro i h1 h2
        have hi : i < T.length := by simpa using h1
        simp [mat, hi]
    rw [rowLLL, this]
  rw [e0]
  refine call_of (fn := Tryz.f72) (code := bodyOf Tryz.f72) Tryz.func72 rfl (by kernel_rfl) (e0 ▸ noRef_rowLLL _) ?_
  intro sl hs
  have s0 : sl 0 = a := hs 0
  dsimp only [Tryz.f72, bodyOf, Option.getD]
  simp (config := { maxSteps := 10000000 }) (disch := first | assumption | omega) only [go_sem, ↓reduceIte, Nat.reduceEqDiff, reduceCtorEq, Nat.reduceAdd, Nat.reduceMul, Nat.reduceLeDiff, zfu, Int.mul_def, Int.add_def, zfv, cond_false, cond_true, isub, Int.reduceToNat, s0, kMake, Int.natCast_nonneg, Int.le_refl, hm', List.getD_cons_zero, rep_rws]
  refine WK_for (fun i st => st.sl 0 = a ∧ st.sl 3 = .ref 8224 1 [] 0 T.length ∧ st.ro 8224 1 = some (.bx (rws (fun k => if k < i then .ref 24672 (k + 1) [] 0 (mat T k).length else nilA) T.length)) ∧ st.sl 4 = i64 (i : Int) ∧ (st.gn 24672 = i) ∧ (∀ k, k < i → st.ro 24672 (k + 1) = some (rowLL (mat T k)))) T.length ?_ ?_ ?_
  · simp only [↓zcy, ↓zcz, ↓zda, ↓zdb, ↓reduceIte, Nat.reduceEqDiff, and_true, true_and, and_self, ne_eq, not_false_eq_true, eq_self, false_and, and_false, reduceCtorEq, rws_zero, s0]
    exact ⟨congrArg some (congrArg AV.bx (rws_congr fun k hk => by rw [if_neg (by omega)])), rfl, lt0⟩
  · rintro i sl ro gn hi ⟨s0, s3, r8224, s4, g, q⟩
    dsimp only at s0 s3 r8224 s4
    have hi' : (i : Int) < (T.length : Nat) := by omega
    dsimp only at g q
    have hrow := isLLLw_mat ha hi
    simp (config := { maxSteps := 10000000 }) (disch := first | assumption | omega) only [go_sem, ↓reduceIte, Nat.reduceEqDiff, reduceCtorEq, Nat.reduceAdd, Nat.reduceMul, Nat.reduceLeDiff, zfu, Int.mul_def, Int.add_def, zfv, cond_false, cond_true, isub, Int.reduceToNat, s0, s3, r8224, s4, hi', hi]
    refine CLL_pure _ (c60 hrow (hr i hi).1 (hr i hi).2) (by simp (disch := assumption) only [pureL, pureA, isLw_pure, isLLw_pure, pureL_map, Bool.and_self, Bool.and_true]) rfl rfl ?_
    simp (config := { maxSteps := 10000000 }) (disch := first | assumption | omega) only [go_sem, ↓reduceIte, Nat.reduceEqDiff, reduceCtorEq, Nat.reduceAdd, Nat.reduceMul, Nat.reduceLeDiff, zfu, Int.mul_def, Int.add_def, zfv, cond_false, cond_true, isub, Int.reduceToNat, s0, s3, r8224, s4, hi', hi, g]
    refine ⟨congrArg (fun x => some (AV.bx x)) ?_, i64c (by omega), fun k hk => ?_⟩
    · rw [rws_set]
      refine rws_congr fun k hk => ?_
      by_cases hki : k = i
      · subst hki; rw [if_pos rfl, if_pos (by omega)]
      · rw [if_neg hki]
        have e : (k < i) ↔ (k < i + 1) := by omega
        simp only [e]
    · by_cases hki : k = i
      · subst hki; simp
      · rw [if_neg hki]; exact q k (by omega)
  · rintro sl ro gn ⟨s0, s3, r8224, s4, g, q⟩
    dsimp only at s0 s3 r8224 s4
    have hi' : ¬ ((T.length : Nat) : Int) < (T.length : Nat) := by omega
    dsimp only at g q
    simp (config := { maxSteps := 10000000 }) (disch := first | assumption | omega) only [go_sem, ↓reduceIte, Nat.reduceEqDiff, reduceCtorEq, Nat.reduceAdd, Nat.reduceMul, Nat.reduceLeDiff, zfu, Int.mul_def, Int.add_def, zfv, cond_false, cond_true, isub, Int.reduceToNat, s0, s3, r8224, s4, hi']
    have e1 : rws (fun k => if k < T.length then (AV.ref 24672 (k + 1) [] 0 (mat T k).length) else nilA) T.length = (List.range T.length).map fun k => .ref 24672 (k + 1) [] 0 (mat T k).length := rws_congr fun k hk => if_pos hk
    obtain ⟨ws, hw⟩ := outL_refsL (mat T) 24672 (List.range T.length) (upr ro 8224 1 .dead) List.nodup_range (fun k hk => by
      rw [zdb, if_neg (by omega)]; exact q k (List.mem_range.1 hk))
    simp only [zbj, zbk, retR, resL, outT, zes, zez, oneV, ↓zcy, ↓zcz, ↓reduceIte, Nat.reduceEqDiff, Option.some.injEq, AV.sc.injEq, Value.bool.injEq, Value.int.injEq, outL, outT, zft, zcp, zed, zef, zei, zeh, List.length_cons, List.length_nil, Nat.reduceAdd, Nat.zero_add, Nat.reduceLeDiff, List.drop_zero, List.take_succ_cons, List.take_zero, zfi, zfh, Ro.dl, zdb, zda, zfe, and_self, and_true, true_and, eq_self, List.append_nil, List.nil_append, List.cons_append, ne_eq, not_false_eq_true, and_false, false_and, Bool.false_eq_true, St.ev, zes, zfn, zhk, List.length_map, r8224, e1, hw, List.length_range]

/-! ### Equality -/
theorem cEqT {a b : AV} {T : List (List (List Int))} (ha : isLLL a T) (hb : isLLL b T) (hx : T.length ≤ maxN) (hr : ∀ i, i < T.length → (mat T i).length ≤ maxN ∧ ∀ j, j < (mat T i).length → (row (mat T i) j).length ≤ maxN) : CallOK Tryz.prog 83 [a, b] (bo true) := by
  have hx' : T.length ≤ 4294967296 := hx
  refine call_of (fn := Tryz.f83) (code := bodyOf Tryz.f83) Tryz.func83 rfl (by kernel_rfl) (rfl) ?_
  intro sl hs
  have s0 : sl 0 = a := hs 0
  have s1 : sl 1 = b := hs 1
  dsimp only [Tryz.f83, bodyOf, Option.getD]
  simp (config := { maxSteps := 10000000 }) (disch := first | assumption | omega) only [go_sem, ↓reduceIte, Nat.reduceEqDiff, reduceCtorEq, Nat.reduceAdd, Nat.reduceMul, Nat.reduceLeDiff, zfu, Int.mul_def, Int.add_def, zfv, cond_false, cond_true, isub, Int.reduceToNat, s0, s1]
  refine WK_for (fun i st => st.sl 0 = a ∧ st.sl 1 = b ∧ st.sl 5 = i64 (i : Int)) T.length ?_ ?_ ?_
  · simp only [↓zcy, ↓zcz, ↓zda, ↓zdb, ↓reduceIte, Nat.reduceEqDiff, and_true, true_and, and_self, ne_eq, not_false_eq_true, eq_self, false_and, and_false, reduceCtorEq, rws_zero, s0, s1]
    (repeat' first | rfl | exact i64c rfl | exact i64c (by omega) | exact trivial | apply And.intro)
  · rintro i sl ro gn hi ⟨s0, s1, s5⟩
    dsimp only at s0 s1 s5
    have hi' : (i : Int) < (T.length : Nat) := by omega
    have h1 := isLLL_mat ha hi
    have h2 := isLLL_mat hb hi
    have c := c42 h1 h2 (hr i hi).1 (row_max (hr i hi).2)
    rw [decide_eq_true rfl] at c
    simp (config := { maxSteps := 10000000 }) (disch := first | assumption | omega) only [go_sem, ↓reduceIte, Nat.reduceEqDiff, reduceCtorEq, Nat.reduceAdd, Nat.reduceMul, Nat.reduceLeDiff, zfu, Int.mul_def, Int.add_def, zfv, cond_false, cond_true, isub, Int.reduceToNat, s0, s1, s5, hi', hi]
    refine CLLD_pure _ c (by simp (disch := assumption) only [pureL, pureA, isL_pure, isLL_pure, isLLL_pure, pureL_map, Bool.and_self, Bool.and_true]) rfl ?_
    simp (config := { maxSteps := 10000000 }) (disch := first | assumption | omega) only [go_sem, ↓reduceIte, Nat.reduceEqDiff, reduceCtorEq, Nat.reduceAdd, Nat.reduceMul, Nat.reduceLeDiff, zfu, Int.mul_def, Int.add_def, zfv, cond_false, cond_true, isub, Int.reduceToNat, s0, s1, s5, hi', hi]
    refine FIN_of (by kernel_rfl) ?_
    simp (config := { maxSteps := 10000000 }) (disch := first | assumption | omega) only [go_sem, ↓reduceIte, Nat.reduceEqDiff, reduceCtorEq, Nat.reduceAdd, Nat.reduceMul, Nat.reduceLeDiff, zfu, Int.mul_def, Int.add_def, zfv, cond_false, cond_true, isub, Int.reduceToNat, s0, s1, s5, hi', hi]
    exact i64c (by omega)
  · rintro sl ro gn ⟨s0, s1, s5⟩
    dsimp only at s0 s1 s5
    have hi' : ¬ ((T.length : Nat) : Int) < (T.length : Nat) := by omega
    simp (config := { maxSteps := 10000000 }) (disch := first | assumption | omega) only [go_sem, ↓reduceIte, Nat.reduceEqDiff, reduceCtorEq, Nat.reduceAdd, Nat.reduceMul, Nat.reduceLeDiff, zfu, Int.mul_def, Int.add_def, zfv, cond_false, cond_true, isub, Int.reduceToNat, s0, s1, s5, hi']
    simp only [zbj, zbk, retR, resL, outT, zes, zez, oneV, ↓zcy, ↓zcz, ↓reduceIte, Nat.reduceEqDiff, Option.some.injEq, AV.sc.injEq, Value.bool.injEq, Value.int.injEq, outL, outT, zft, zcp, zed, zef, zei, zeh, List.length_cons, List.length_nil, Nat.reduceAdd, Nat.zero_add, Nat.reduceLeDiff, List.drop_zero, List.take_succ_cons, List.take_zero, zfi, zfh, Ro.dl, zdb, zda, zfe, and_self, and_true, true_and, eq_self, List.append_nil, List.nil_append, List.cons_append, ne_eq, not_false_eq_true, and_false, false_and, Bool.false_eq_true, St.ev, zes, zfn, zhk, List.length_map]
end Go.Proofs.YtgcnmlecihegcaaGreat

/- Groups of orders: sums, negatives, sizes, in plain terms; the contract of addElements. -/
namespace Go.Proofs.YtgcnmlecihegcaaGreat
open Go.RowKit
set_option maxRecDepth 1000000

/-! ### Digits, from the last order on -/
def adB : List Int → Int → Int → Int
  | [], _, _ => 0
  | m :: ms, a, b => (a % m + b % m) % m + m * adB ms (a / m) (b / m)
def ngB : List Int → Int → Int
  | [], _ => 0
  | m :: ms, a => (m - a % m) % m + m * ngB ms (a / m)
def prB : List Int → Int
  | [] => 1
  | m :: ms => m * prB ms
theorem prB_pos : ∀ {R : List Int}, (∀ m, m ∈ R → 2 ≤ m) → 1 ≤ prB R
  | [], _ => by simp [prB]
  | m :: ms, h => by
    have h1 := prB_pos (R := ms) fun x hx => h x (by simp [hx])
    have h2 := h m (by simp)
    have : 1 * 1 ≤ m * prB ms := Int.mul_le_mul (by omega) h1 (by omega) (by omega)
    simp only [prB]; omega
theorem adB_rng : ∀ {R : List Int} {a b : Int}, (∀ m, m ∈ R → 2 ≤ m) → 0 ≤ adB R a b ∧ adB R a b < prB R
  | [], _, _, _ => by simp [adB, prB]
  | m :: ms, a, b, h => by
    have h2 := h m (by simp)
    obtain ⟨h3, h4⟩ := adB_rng (R := ms) (a := a / m) (b := b / m) fun x hx => h x (by simp [hx])
    have h5 : 0 ≤ (a % m + b % m) % m := Int.emod_nonneg _ (by omega)
    have h6 : (a % m + b % m) % m < m := Int.emod_lt_of_pos _ (by omega)
    have h7 : 0 ≤ m * adB ms (a / m) (b / m) := Int.mul_nonneg (by omega) h3
    have h8 : m * adB ms (a / m) (b / m) ≤ m * (prB ms - 1) := Int.mul_le_mul_of_nonneg_left (by omega) (by omega)
    have h9 : m * (prB ms - 1) = m * prB ms - m := by rw [Int.mul_sub, Int.mul_one]
    simp only [adB, prB]
    omega
theorem ngB_rng : ∀ {R : List Int} {a : Int}, (∀ m, m ∈ R → 2 ≤ m) → 0 ≤ ngB R a ∧ ngB R a < prB R
  | [], _, _ => by simp [ngB, prB]
  | m :: ms, a, h => by
    have h2 := h m (by simp)
    obtain ⟨h3, h4⟩ := ngB_rng (R := ms) (a := a / m) fun x hx => h x (by simp [hx])
    have h5 : 0 ≤ (m - a % m) % m := Int.emod_nonneg _ (by omega)
    have h6 : (m - a % m) % m < m := Int.emod_lt_of_pos _ (by omega)
    have h7 : 0 ≤ m * ngB ms (a / m) := Int.mul_nonneg (by omega) h3
    have h8 : m * ngB ms (a / m) ≤ m * (prB ms - 1) := Int.mul_le_mul_of_nonneg_left (by omega) (by omega)
    have h9 : m * (prB ms - 1) = m * prB ms - m := by rw [Int.mul_sub, Int.mul_one]
    simp only [ngB, prB]
    omega
theorem neg_dig {m a : Int} (hm : 2 ≤ m) : (a % m + (m - a % m) % m) % m = 0 := by
  have h1 : 0 ≤ a % m := Int.emod_nonneg _ (by omega)
  have h2 : a % m < m := Int.emod_lt_of_pos _ (by omega)
  by_cases h : a % m = 0
  · rw [h]; simp
  · rw [Int.emod_eq_of_lt (a := m - a % m) (by omega) (by omega)]
    have : a % m + (m - a % m) = m := by omega
    rw [this, Int.emod_self]
theorem ad_ng : ∀ {R : List Int} {a : Int}, (∀ m, m ∈ R → 2 ≤ m) → adB R a (ngB R a) = 0
  | [], _, _ => rfl
  | m :: ms, a, h => by
    have h2 := h m (by simp)
    have h5 : 0 ≤ (m - a % m) % m := Int.emod_nonneg _ (by omega)
    have h6 : (m - a % m) % m < m := Int.emod_lt_of_pos _ (by omega)
    have e1 : ((m - a % m) % m + m * ngB ms (a / m)) % m = (m - a % m) % m := by
      rw [Int.add_mul_emod_self_left, Int.emod_eq_of_lt h5 h6]
    have e2 : ((m - a % m) % m + m * ngB ms (a / m)) / m = ngB ms (a / m) := by
      rw [Int.add_mul_ediv_left _ _ (by omega), Int.ediv_eq_zero_of_lt h5 h6, Int.zero_add]
    simp only [adB, ngB]
    rw [e1, e2, neg_dig h2, ad_ng (R := ms) fun x hx => h x (by simp [hx])]
    simp
theorem ad_inj : ∀ {R : List Int} {a b : Int}, (∀ m, m ∈ R → 2 ≤ m) → 0 ≤ b → b < prB R → adB R a b = 0 → b = ngB R a
  | [], _, b, _, h0, h1, _ => by simp only [prB] at h1; simp only [ngB]; omega
  | m :: ms, a, b, h, h0, h1, he => by
    have h2 := h m (by simp)
    have hms : ∀ x, x ∈ ms → 2 ≤ x := fun x hx => h x (by simp [hx])
    have h3 := (adB_rng (R := ms) (a := a / m) (b := b / m) hms).1
    have h5 : 0 ≤ (a % m + b % m) % m := Int.emod_nonneg _ (by omega)
    have h7 : 0 ≤ m * adB ms (a / m) (b / m) := Int.mul_nonneg (by omega) h3
    simp only [adB, prB] at he h1
    have e1 : (a % m + b % m) % m = 0 := by omega
    have e2 : m * adB ms (a / m) (b / m) = 0 := by omega
    have e3 : adB ms (a / m) (b / m) = 0 := by
      rcases Int.mul_eq_zero.1 e2 with e | e
      · omega
      · exact e
    have hb0 : 0 ≤ b / m := Int.ediv_nonneg h0 (by omega)
    have hb1 : b / m < prB ms := Int.ediv_lt_of_lt_mul (by omega) (by rw [Int.mul_comm]; exact h1)
    have ih := ad_inj (R := ms) hms hb0 hb1 e3
    have q1 : 0 ≤ a % m := Int.emod_nonneg _ (by omega)
    have q2 : a % m < m := Int.emod_lt_of_pos _ (by omega)
    have q3 : 0 ≤ b % m := Int.emod_nonneg _ (by omega)
    have q4 : b % m < m := Int.emod_lt_of_pos _ (by omega)
    have q5 : b % m = (m - a % m) % m := by
      by_cases h8 : a % m + b % m < m
      · rw [Int.emod_eq_of_lt (by omega) h8] at e1
        have e4 : a % m = 0 := by omega
        rw [e4, Int.sub_zero, Int.emod_self]; omega
      · have e5 : (a % m + b % m) % m = a % m + b % m - m := by
          rw [← Int.sub_emod_right, Int.emod_eq_of_lt (by omega) (by omega)]
        by_cases h9 : a % m = 0
        · omega
        · rw [Int.emod_eq_of_lt (a := m - a % m) (by omega) (by omega)]; omega
    have := Int.emod_add_mul_ediv b m
    simp only [ngB]
    rw [← ih, ← q5]
    omega

/-! ### Orders -/
/-- Orders of a group with at most 16 elements. -/
def pfx (O : List Int) : Nat → Int
  | 0 => 1
  | i + 1 => pfx O i * atI O i
structure GrpP (O : List Int) : Prop where
  l1 : 1 ≤ O.length
  l4 : O.length ≤ 4
  rg : ∀ i, i < O.length → 2 ≤ atI O i ∧ atI O i ≤ 16
  sz : pfx O O.length ≤ 16
/-- The order that the round k of a range backward meets. -/
def ordF (O : List Int) (k : Nat) : Ord16 :=
  if h : 2 ≤ (atI O (O.length - 1 - k)).toNat ∧ (atI O (O.length - 1 - k)).toNat ≤ 16 then ⟨((O.length - 1 - k : Nat) : Int), (atI O (O.length - 1 - k)).toNat, h⟩ else ⟨0, 2, by decide⟩
theorem ordF_at {O : List Int} (h : ∀ i, i < O.length → 2 ≤ atI O i ∧ atI O i ≤ 16) {k : Nat} (hk : k < O.length) : (ordF O k).i = ((O.length - 1 - k : Nat) : Int) ∧ ((ordF O k).m : Int) = atI O (O.length - 1 - k) := by
  have := h (O.length - 1 - k) (by omega)
  unfold ordF
  rw [dif_pos (by omega)]
  exact ⟨rfl, by show ((atI O (O.length - 1 - k)).toNat : Int) = _; omega⟩
/-- The orders from the last one on. -/
def rvO (O : List Int) : List Int := (upto (ordF O) O.length).map fun o => (o.m : Int)
theorem rvO_two (O : List Int) : ∀ m, m ∈ rvO O → 2 ≤ m := by
  intro m hm
  obtain ⟨o, _, rfl⟩ := List.mem_map.1 hm
  have := o.h.1
  omega
def adO (O : List Int) (x y : Int) : Int := adB (rvO O) x y
def ngO (O : List Int) (x : Int) : Int := ngB (rvO O) x
theorem adR_sum : ∀ (pre : List Ord16) (t : Int × Int × Int × Int), (pre.foldl adR t).1 = t.1 + t.2.1 * adB (pre.map fun o => (o.m : Int)) t.2.2.1 t.2.2.2
  | [], t => by simp [adB]
  | o :: pre, t => by
    rw [List.foldl_cons, adR_sum pre]
    simp only [adR, List.map_cons, adB]
    rw [Int.mul_add, Int.mul_comm _ t.2.1, Int.mul_assoc, Int.add_assoc]
theorem adT_sum (O : List Int) (x y : Int) : (adT x y (upto (ordF O) O.length)).1 = adO O x y := by
  unfold adT adO rvO
  rw [adR_sum]
  simp
theorem pfx_pos {O : List Int} (h : ∀ i, i < O.length → 2 ≤ atI O i ∧ atI O i ≤ 16) : ∀ {i : Nat}, i ≤ O.length → 1 ≤ pfx O i
  | 0, _ => by simp [pfx]
  | i + 1, hi => by
    have h1 := pfx_pos h (i := i) (by omega)
    have h2 := h i (by omega)
    have : 1 * 1 ≤ pfx O i * atI O i := Int.mul_le_mul h1 (by omega) (by omega) (by omega)
    simp only [pfx]; omega
theorem upto_drop {α : Type} (f : Nat → α) (n k : Nat) (h : k < n) : (upto f n).drop k = f k :: (upto f n).drop (k + 1) := by
  rw [List.drop_eq_getElem_cons (by rw [upto_length]; exact h)]
  simp [upto]
theorem pfx_rv {O : List Int} (h : ∀ i, i < O.length → 2 ≤ atI O i ∧ atI O i ≤ 16) : ∀ {i : Nat}, i ≤ O.length → prB ((rvO O).drop (O.length - i)) = pfx O i
  | 0, _ => by
    rw [List.drop_of_length_le (by simp [rvO, upto_length])]; rfl
  | i + 1, hi => by
    have ih := pfx_rv h (i := i) (by omega)
    have e : O.length - (i + 1) + 1 = O.length - i := by omega
    have e2 : O.length - 1 - (O.length - (i + 1)) = i := by omega
    have ho := (ordF_at h (k := O.length - (i + 1)) (by omega)).2
    rw [e2] at ho
    unfold rvO at ih ⊢
    rw [← List.map_drop, upto_drop _ _ _ (by omega), List.map_cons, e]
    rw [← List.map_drop] at ih
    simp only [prB, pfx]
    rw [ih, ho, Int.mul_comm]
theorem GrpP.prB {O : List Int} (h : GrpP O) : prB (rvO O) = pfx O O.length := by
  have := pfx_rv h.rg (i := O.length) (Nat.le_refl _)
  rwa [Nat.sub_self, List.drop_zero] at this
theorem GrpP.ad {O : List Int} (h : GrpP O) (x y : Int) : 0 ≤ adO O x y ∧ adO O x y < pfx O O.length := by
  have := adB_rng (R := rvO O) (a := x) (b := y) (rvO_two O)
  rwa [h.prB] at this
theorem GrpP.ng {O : List Int} (h : GrpP O) (x : Int) : 0 ≤ ngO O x ∧ ngO O x < pfx O O.length := by
  have := ngB_rng (R := rvO O) (a := x) (rvO_two O)
  rwa [h.prB] at this
theorem GrpP.inv {O : List Int} (h : GrpP O) {x y : Int} (h0 : 0 ≤ y) (h1 : y < pfx O O.length) : adO O x y = 0 ↔ y = ngO O x := by
  constructor
  · exact ad_inj (rvO_two O) h0 (by rw [h.prB]; exact h1)
  · rintro rfl; exact ad_ng (rvO_two O)

/-! ### The program's sum -/
theorem relL_i64 {c : Cx} : ∀ {xs : List Int} {us : List Value} {F : List Nat}, RelL c (xs.map i64) us F → us = xs.map (Value.int .i64)
  | [], us, F, h => (RelL.nilF h).1
  | x :: xs, us, F, h => by
    obtain ⟨v, vs, F1, G1, rfl, _, h1, h2, _⟩ := RelL.uncons h
    obtain ⟨rfl, _⟩ := Rel.sc_inv h1
    rw [relL_i64 h2]; rfl
theorem cAddI {O : List Int} (hO : GrpP O) {x y : Int} (hx : 0 ≤ x ∧ x < 4294967296) (hy : 0 ≤ y ∧ y < 4294967296) : CallOK Tryz.prog 152 [immL O, i64 x, i64 y] (i64 (adO O x y)) := by
  refine ⟨⟨_, Tryz.func152, by kernel_rfl, by kernel_rfl⟩, rfl, fun w A vs hv hA => ?_⟩
  obtain ⟨v0, vs1, rfl, h0, hv1⟩ := RelL.uncons0 hv
  obtain ⟨v1, vs2, rfl, h1, hv2⟩ := RelL.uncons0 hv1
  obtain ⟨v2, vs3, rfl, h2, hv3⟩ := RelL.uncons0 hv2
  obtain rfl := (RelL.nilF hv3).1
  obtain ⟨rfl, _⟩ := Rel.sc_inv h1
  obtain ⟨rfl, _⟩ := Rel.sc_inv h2
  obtain ⟨g, b, cap, us, rfl, hr, hin, hcap, _⟩ := Rel.imm_inv h0
  obtain rfl := relL_i64 hr
  have hl4 := hO.l4
  have hI : IntsA w.heap.size w (.slice (some ⟨g, b, none⟩) O.length cap) O := by
    refine ⟨g, b, cap, rfl, hin.2.1, fun j hj => hin.2.2 j _ ?_⟩
    rw [List.getElem?_map, List.getElem?_eq_getElem hj]
    simp
  rw [List.length_map] at hcap ⊢
  have hc := addE_in Fence.wide 3 trivial trivial trivial rfl (Nat.le_refl _) g b cap O hl4 x y hx hy (ordF O) (fun m hm => by
    have := ordF_at hO.rg (k := O.length - (m + 1)) (by omega)
    have e : O.length - 1 - (O.length - (m + 1)) = m := by omega
    rw [e] at this
    refine ⟨this.1, this.2.trans ?_⟩
    unfold atI
    rw [List.getD_eq_getElem?_getD]) w hI
  refine (callsIn_wide.1 hc).mono ?_
  rintro e w' ⟨rfl, hb⟩
  rw [adT_sum]
  exact ⟨_, A, [], rfl, .sc _ .nil, fun _ h => h, fun _ h => (by cases h), ⟨hb.os, hb.tape, hb.output, hb.size, fun k hk _ => hb.block k hk⟩⟩
end Go.Proofs.YtgcnmlecihegcaaGreat

/- The program's metrics. -/
namespace Go.Proofs.YtgcnmlecihegcaaGreat
open Go.RowKit
set_option maxRecDepth 1000000

theorem tiMet : ti0 36 = some ⟨3, true, [Value.slice none 0 0, Value.int .i64 0, Value.slice none 0 0], none, [(0, 25), (1, 2), (2, 25)], none, false, false⟩ := by kernel_rfl
attribute [go_sem] tiMet
abbrev mt (O : List Int) (M : Int) (V : List Int) : AV := .agg [immL O, i64 M, immL V]
def adN (O : List Int) (x y : Nat) : Nat := (adO O x y).toNat
def ngN (O : List Int) (x : Nat) : Nat := (ngO O x).toNat
theorem GrpP.adN {O : List Int} (h : GrpP O) (x y : Nat) : adO O x y = (adN O x y : Nat) ∧ ((Go.Proofs.YtgcnmlecihegcaaGreat.adN O x y : Nat) : Int) < pfx O O.length := by
  have := h.ad x y
  unfold Go.Proofs.YtgcnmlecihegcaaGreat.adN
  omega
theorem GrpP.ngN {O : List Int} (h : GrpP O) (x : Nat) : ngO O x = (ngN O x : Nat) ∧ ((Go.Proofs.YtgcnmlecihegcaaGreat.ngN O x : Nat) : Int) < pfx O O.length := by
  have := h.ng x
  unfold Go.Proofs.YtgcnmlecihegcaaGreat.ngN
  omega
/-- What a metric's numbers are, all but the conditions on their values. -/
structure MetB (O : List Int) (M : Int) (V : List Int) : Prop where
  g : GrpP O
  m : 1 ≤ M ∧ M ≤ 55440
  n : (V.length : Int) = pfx O O.length
  v : ∀ k, k < V.length → 0 ≤ atI V k ∧ atI V k ≤ M - 1
def prM (O : List Int) (M : Int) (V : List Int) (x y : Nat) : Int := (atI V (adN O x y) - atI V x - atI V y) % M
def BilP (O : List Int) (M : Int) (V : List Int) : Prop := ∀ x, x < V.length → atI V (ngN O x) = atI V x ∧ ∀ y, y < V.length → ∀ z, z < V.length → prM O M V (adN O x y) z = (prM O M V x z + prM O M V y z) % M
theorem tmod_rest {n M : Int} (h : 0 < M) : (n.tmod M + M).tmod M = n % M ∧ -M < n.tmod M ∧ n.tmod M < M := by
  have h1 : -M < n.tmod M := by have := Int.lt_tmod_of_pos n h; omega
  have h2 : n.tmod M < M := Int.tmod_lt_of_pos n h
  refine ⟨?_, h1, h2⟩
  rw [Int.tmod_eq_emod_of_nonneg (by omega), Int.add_emod_right, Int.tmod_def, Int.sub_mul_emod_self_left]

section
variable {O V : List Int} {M : Int}
theorem cSize : CallOK Tryz.prog 79 [mt O M V] (i64 (V.length : Int)) := by
  refine call_of (fn := Tryz.f79) (code := bodyOf Tryz.f79) Tryz.func79 rfl (by kernel_rfl) (rfl) ?_
  intro sl hs
  have s0 : sl 0 = mt O M V := hs 0
  have hv := isL_imm V
  have hvo := isL_imm O
  dsimp only [Tryz.f79, bodyOf, Option.getD]
  simp (config := { maxSteps := 10000000 }) (disch := first | assumption | omega) only [go_sem, ↓reduceIte, Nat.reduceEqDiff, reduceCtorEq, Nat.reduceAdd, Nat.reduceMul, Nat.reduceLeDiff, zfu, Int.mul_def, Int.add_def, zfv, cond_false, cond_true, isub, Int.reduceToNat, s0]
  simp only [zbj, zbk, retR, resL, outT, zes, zez, oneV, ↓zcy, ↓zcz, ↓reduceIte, Nat.reduceEqDiff, Option.some.injEq, AV.sc.injEq, Value.bool.injEq, Value.int.injEq, outL, outT, zft, zcp, zed, zef, zei, zeh, List.length_cons, List.length_nil, Nat.reduceAdd, Nat.zero_add, Nat.reduceLeDiff, List.drop_zero, List.take_succ_cons, List.take_zero, zfi, zfh, Ro.dl, zdb, zda, zfe, and_self, and_true, true_and, eq_self, List.append_nil, List.nil_append, List.cons_append, ne_eq, not_false_eq_true, and_false, false_and, Bool.false_eq_true, St.ev, zes, zfn, zhk, List.length_map]
theorem cPlus (hO : GrpP O) {x y : Int} (hx : 0 ≤ x ∧ x < 4294967296) (hy : 0 ≤ y ∧ y < 4294967296) : CallOK Tryz.prog 126 [mt O M V, i64 x, i64 y] (i64 (adO O x y)) := by
  refine call_of (fn := Tryz.f126) (code := bodyOf Tryz.f126) Tryz.func126 rfl (by kernel_rfl) (rfl) ?_
  intro sl hs
  have s0 : sl 0 = mt O M V := hs 0
  have s1 : sl 1 = i64 x := hs 1
  have s2 : sl 2 = i64 y := hs 2
  dsimp only [Tryz.f126, bodyOf, Option.getD]
  simp (config := { maxSteps := 10000000 }) (disch := first | assumption | omega) only [go_sem, ↓reduceIte, Nat.reduceEqDiff, reduceCtorEq, Nat.reduceAdd, Nat.reduceMul, Nat.reduceLeDiff, zfu, Int.mul_def, Int.add_def, zfv, cond_false, cond_true, isub, Int.reduceToNat, s0, s1, s2]
  refine CLL_pure _ (cAddI hO hx hy) (by simp (disch := assumption) only [pureL, pureA, isL_pure, isLL_pure, isLLL_pure, pureL_map, Bool.and_self, Bool.and_true]) rfl rfl ?_
  simp (config := { maxSteps := 10000000 }) (disch := first | assumption | omega) only [go_sem, ↓reduceIte, Nat.reduceEqDiff, reduceCtorEq, Nat.reduceAdd, Nat.reduceMul, Nat.reduceLeDiff, zfu, Int.mul_def, Int.add_def, zfv, cond_false, cond_true, isub, Int.reduceToNat, s0, s1, s2]
  simp only [zbj, zbk, retR, resL, outT, zes, zez, oneV, ↓zcy, ↓zcz, ↓reduceIte, Nat.reduceEqDiff, Option.some.injEq, AV.sc.injEq, Value.bool.injEq, Value.int.injEq, outL, outT, zft, zcp, zed, zef, zei, zeh, List.length_cons, List.length_nil, Nat.reduceAdd, Nat.zero_add, Nat.reduceLeDiff, List.drop_zero, List.take_succ_cons, List.take_zero, zfi, zfh, Ro.dl, zdb, zda, zfe, and_self, and_true, true_and, eq_self, List.append_nil, List.nil_append, List.cons_append, ne_eq, not_false_eq_true, and_false, false_and, Bool.false_eq_true, St.ev, zes, zfn, zhk, List.length_map]
theorem cMinus (hO : GrpP O) {x : Nat} (hx : x < 4294967296) : CallOK Tryz.prog 125 [mt O M V, i64 (x : Int)] (i64 (ngN O x : Int)) := by
  have hn := hO.ngN x
  have hs := hO.sz
  refine call_of (fn := Tryz.f125) (code := bodyOf Tryz.f125) Tryz.func125 rfl (by kernel_rfl) (rfl) ?_
  intro sl hs
  have s0 : sl 0 = mt O M V := hs 0
  have s1 : sl 1 = i64 (x : Int) := hs 1
  dsimp only [Tryz.f125, bodyOf, Option.getD]
  simp (config := { maxSteps := 10000000 }) (disch := first | assumption | omega) only [go_sem, ↓reduceIte, Nat.reduceEqDiff, reduceCtorEq, Nat.reduceAdd, Nat.reduceMul, Nat.reduceLeDiff, zfu, Int.mul_def, Int.add_def, zfv, cond_false, cond_true, isub, Int.reduceToNat, s0, s1]
  refine WK_for (fun i st => st.sl 1 = i64 (x : Int) ∧ st.sl 2 = .ptr 4096 1 [] 0 ∧ st.ro 4096 1 = some (.bx [immL O, i64 M, immL V]) ∧ st.sl 5 = i64 (i : Int)) ((ngN O x)) ?_ ?_ ?_
  · simp only [↓zcy, ↓zcz, ↓zda, ↓zdb, ↓reduceIte, Nat.reduceEqDiff, and_true, true_and, and_self, ne_eq, not_false_eq_true, eq_self, false_and, and_false, reduceCtorEq, rws_zero, s0, s1]
    (repeat' first | rfl | exact i64c rfl | exact i64c (by omega) | exact trivial | apply And.intro)
  · rintro i sl ro gn hi ⟨s1, s2, r4096, s5⟩
    dsimp only at s1 s2 r4096 s5
    have hi' : (i : Int) < ((ngN O x) : Nat) := by omega
    have hne : ¬ adO O x i = 0 := fun h => by have := (hO.inv (x := x) (y := i) (by omega) (by omega)).1 h; omega
    simp (config := { maxSteps := 10000000 }) (disch := first | assumption | omega) only [go_sem, ↓reduceIte, Nat.reduceEqDiff, reduceCtorEq, Nat.reduceAdd, Nat.reduceMul, Nat.reduceLeDiff, zfu, Int.mul_def, Int.add_def, zfv, cond_false, cond_true, isub, Int.reduceToNat, s1, s2, r4096, s5, hi', hi]
    refine CLL_pure _ (cPlus hO (x := x) (y := i) (by omega) (by omega)) (by simp (disch := assumption) only [pureL, pureA, isL_pure, isLL_pure, isLLL_pure, pureL_map, Bool.and_self, Bool.and_true]) rfl rfl ?_
    simp (config := { maxSteps := 10000000 }) (disch := first | assumption | omega) only [go_sem, ↓reduceIte, Nat.reduceEqDiff, reduceCtorEq, Nat.reduceAdd, Nat.reduceMul, Nat.reduceLeDiff, zfu, Int.mul_def, Int.add_def, zfv, cond_false, cond_true, isub, Int.reduceToNat, s1, s2, r4096, s5, hi', hi, eq_false hne]
    exact i64c (by omega)
  · rintro sl ro gn ⟨s1, s2, r4096, s5⟩
    dsimp only at s1 s2 r4096 s5
    have hi' : ¬ (((ngN O x) : Nat) : Int) < ((ngN O x) : Nat) := by omega
    have he : adO O x (ngN O x : Int) = 0 := (hO.inv (x := x) (by omega) (by omega)).2 hn.1.symm
    simp (config := { maxSteps := 10000000 }) (disch := first | assumption | omega) only [go_sem, ↓reduceIte, Nat.reduceEqDiff, reduceCtorEq, Nat.reduceAdd, Nat.reduceMul, Nat.reduceLeDiff, zfu, Int.mul_def, Int.add_def, zfv, cond_false, cond_true, isub, Int.reduceToNat, s1, s2, r4096, s5, hi']
    refine CLL_pure _ (cPlus hO (x := x) (y := (ngN O x : Int)) (by omega) (by omega)) (by simp (disch := assumption) only [pureL, pureA, isL_pure, isLL_pure, isLLL_pure, pureL_map, Bool.and_self, Bool.and_true]) rfl rfl ?_
    simp (config := { maxSteps := 10000000 }) (disch := first | assumption | omega) only [go_sem, ↓reduceIte, Nat.reduceEqDiff, reduceCtorEq, Nat.reduceAdd, Nat.reduceMul, Nat.reduceLeDiff, zfu, Int.mul_def, Int.add_def, zfv, cond_false, cond_true, isub, Int.reduceToNat, s1, s2, r4096, s5, hi', he]
    simp only [zbj, zbk, retR, resL, outT, zes, zez, oneV, ↓zcy, ↓zcz, ↓reduceIte, Nat.reduceEqDiff, Option.some.injEq, AV.sc.injEq, Value.bool.injEq, Value.int.injEq, outL, outT, zft, zcp, zed, zef, zei, zeh, List.length_cons, List.length_nil, Nat.reduceAdd, Nat.zero_add, Nat.reduceLeDiff, List.drop_zero, List.take_succ_cons, List.take_zero, zfi, zfh, Ro.dl, zdb, zda, zfe, and_self, and_true, true_and, eq_self, List.append_nil, List.nil_append, List.cons_append, ne_eq, not_false_eq_true, and_false, false_and, Bool.false_eq_true, St.ev, zes, zfn, zhk, List.length_map]
theorem cRest (hM : 1 ≤ M ∧ M ≤ 55440) {n : Int} (hn : -4294967296 < n ∧ n < 4294967296) : CallOK Tryz.prog 56 [mt O M V, i64 n] (i64 (n % M)) := by
  obtain ⟨e1, e2, e3⟩ := tmod_rest (n := n) (M := M) (by omega)
  have hM0 : ¬ M = 0 := by omega
  refine call_of (fn := Tryz.f56) (code := bodyOf Tryz.f56) Tryz.func56 rfl (by kernel_rfl) (rfl) ?_
  intro sl hs
  have s0 : sl 0 = mt O M V := hs 0
  have s1 : sl 1 = i64 n := hs 1
  dsimp only [Tryz.f56, bodyOf, Option.getD]
  simp (config := { maxSteps := 10000000 }) (disch := first | assumption | omega) only [go_sem, ↓reduceIte, Nat.reduceEqDiff, reduceCtorEq, Nat.reduceAdd, Nat.reduceMul, Nat.reduceLeDiff, zfu, Int.mul_def, Int.add_def, zfv, cond_false, cond_true, isub, Int.reduceToNat, s0, s1, e1]
  refine FIN_of (by kernel_rfl) ?_
  simp (config := { maxSteps := 10000000 }) (disch := first | assumption | omega) only [go_sem, ↓reduceIte, Nat.reduceEqDiff, reduceCtorEq, Nat.reduceAdd, Nat.reduceMul, Nat.reduceLeDiff, zfu, Int.mul_def, Int.add_def, zfv, cond_false, cond_true, isub, Int.reduceToNat, s0, s1, e1]
  simp only [zbj, zbk, retR, resL, outT, zes, zez, oneV, ↓zcy, ↓zcz, ↓reduceIte, Nat.reduceEqDiff, Option.some.injEq, AV.sc.injEq, Value.bool.injEq, Value.int.injEq, outL, outT, zft, zcp, zed, zef, zei, zeh, List.length_cons, List.length_nil, Nat.reduceAdd, Nat.zero_add, Nat.reduceLeDiff, List.drop_zero, List.take_succ_cons, List.take_zero, zfi, zfh, Ro.dl, zdb, zda, zfe, and_self, and_true, true_and, eq_self, List.append_nil, List.nil_append, List.cons_append, ne_eq, not_false_eq_true, and_false, false_and, Bool.false_eq_true, St.ev, zes, zfn, zhk, List.length_map]
theorem cPair (h : MetB O M V) {x y : Nat} (hx : x < V.length) (hy : y < V.length) : CallOK Tryz.prog 105 [mt O M V, i64 (x : Int), i64 (y : Int)] (i64 (prM O M V x y)) := by
  have hn := h.n
  have hs := h.g.sz
  obtain ⟨a1, a2⟩ := h.g.adN x y
  have hv := isL_imm V
  have hvo := isL_imm O
  have had : adN O x y < V.length := by omega
  have v1 := h.v _ had
  have v2 := h.v _ hx
  have v3 := h.v _ hy
  obtain ⟨m1, m2⟩ := h.m
  refine call_of (fn := Tryz.f105) (code := bodyOf Tryz.f105) Tryz.func105 rfl (by kernel_rfl) (rfl) ?_
  intro sl hs
  have s0 : sl 0 = mt O M V := hs 0
  have s1 : sl 1 = i64 (x : Int) := hs 1
  have s2 : sl 2 = i64 (y : Int) := hs 2
  dsimp only [Tryz.f105, bodyOf, Option.getD]
  simp (config := { maxSteps := 10000000 }) (disch := first | assumption | omega) only [go_sem, ↓reduceIte, Nat.reduceEqDiff, reduceCtorEq, Nat.reduceAdd, Nat.reduceMul, Nat.reduceLeDiff, zfu, Int.mul_def, Int.add_def, zfv, cond_false, cond_true, isub, Int.reduceToNat, s0, s1, s2]
  refine CLLD_pure _ (cPlus h.g (x := x) (y := y) (by omega) (by omega)) (by simp (disch := assumption) only [pureL, pureA, isL_pure, isLL_pure, isLLL_pure, pureL_map, Bool.and_self, Bool.and_true]) rfl ?_
  simp (config := { maxSteps := 10000000 }) (disch := first | assumption | omega) only [go_sem, ↓reduceIte, Nat.reduceEqDiff, reduceCtorEq, Nat.reduceAdd, Nat.reduceMul, Nat.reduceLeDiff, zfu, Int.mul_def, Int.add_def, zfv, cond_false, cond_true, isub, Int.reduceToNat, s0, s1, s2, a1]
  refine CLLD_pure _ (cRest (O := O) (V := V) h.m (n := atI V (adN O x y) - atI V x - atI V y) (by omega)) (by simp (disch := assumption) only [pureL, pureA, isL_pure, isLL_pure, isLLL_pure, pureL_map, Bool.and_self, Bool.and_true]) rfl ?_
  simp (config := { maxSteps := 10000000 }) (disch := first | assumption | omega) only [go_sem, ↓reduceIte, Nat.reduceEqDiff, reduceCtorEq, Nat.reduceAdd, Nat.reduceMul, Nat.reduceLeDiff, zfu, Int.mul_def, Int.add_def, zfv, cond_false, cond_true, isub, Int.reduceToNat, s0, s1, s2]
  refine FIN_of (by kernel_rfl) ?_
  simp (config := { maxSteps := 10000000 }) (disch := first | assumption | omega) only [go_sem, ↓reduceIte, Nat.reduceEqDiff, reduceCtorEq, Nat.reduceAdd, Nat.reduceMul, Nat.reduceLeDiff, zfu, Int.mul_def, Int.add_def, zfv, cond_false, cond_true, isub, Int.reduceToNat, s0, s1, s2]
  simp only [zbj, zbk, retR, resL, outT, zes, zez, oneV, ↓zcy, ↓zcz, ↓reduceIte, Nat.reduceEqDiff, Option.some.injEq, AV.sc.injEq, Value.bool.injEq, Value.int.injEq, outL, outT, zft, zcp, zed, zef, zei, zeh, List.length_cons, List.length_nil, Nat.reduceAdd, Nat.zero_add, Nat.reduceLeDiff, List.drop_zero, List.take_succ_cons, List.take_zero, zfi, zfh, Ro.dl, zdb, zda, zfe, and_self, and_true, true_and, eq_self, List.append_nil, List.nil_append, List.cons_append, ne_eq, not_false_eq_true, and_false, false_and, Bool.false_eq_true, St.ev, zes, zfn, zhk, List.length_map]
  rfl
theorem prM_rng (h : 1 ≤ M ∧ M ≤ 55440) (x y : Nat) : 0 ≤ prM O M V x y ∧ prM O M V x y < M := ⟨Int.emod_nonneg _ (by omega), Int.emod_lt_of_pos _ (by omega)⟩
theorem cBil (h : MetB O M V) {t : Bool} (ht : t = true ↔ BilP O M V) : CallOK Tryz.prog 82 [mt O M V] (bo t) := by
  have hn := h.n
  have hs := h.g.sz
  have hv := isL_imm V
  have hvo := isL_imm O
  have hV16 : V.length ≤ 16 := by omega
  obtain ⟨m1, m2⟩ := h.m
  refine call_of (fn := Tryz.f82) (code := bodyOf Tryz.f82) Tryz.func82 rfl (by kernel_rfl) (rfl) ?_
  intro sl hs
  have s0 : sl 0 = mt O M V := hs 0
  dsimp only [Tryz.f82, bodyOf, Option.getD]
  simp (config := { maxSteps := 10000000 }) (disch := first | assumption | omega) only [go_sem, ↓reduceIte, Nat.reduceEqDiff, reduceCtorEq, Nat.reduceAdd, Nat.reduceMul, Nat.reduceLeDiff, zfu, Int.mul_def, Int.add_def, zfv, cond_false, cond_true, isub, Int.reduceToNat, s0]
  refine CLL_pure _ cSize (by simp (disch := assumption) only [pureL, pureA, isL_pure, isLL_pure, isLLL_pure, pureL_map, Bool.and_self, Bool.and_true]) rfl rfl ?_
  simp (config := { maxSteps := 10000000 }) (disch := first | assumption | omega) only [go_sem, ↓reduceIte, Nat.reduceEqDiff, reduceCtorEq, Nat.reduceAdd, Nat.reduceMul, Nat.reduceLeDiff, zfu, Int.mul_def, Int.add_def, zfv, cond_false, cond_true, isub, Int.reduceToNat, s0]
  refine WK_for (fun i st => st.sl 1 = .ptr 4096 1 [] 0 ∧ st.ro 4096 1 = some (.bx [immL O, i64 M, immL V]) ∧ st.sl 7 = i64 (V.length : Int) ∧ st.sl 8 = i64 (i : Int) ∧ (∀ x, x < i → atI V (ngN O x) = atI V x ∧ ∀ y, y < V.length → ∀ z, z < V.length → prM O M V (adN O x y) z = (prM O M V x z + prM O M V y z) % M)) V.length ?_ ?_ ?_
  · simp only [↓zcy, ↓zcz, ↓zda, ↓zdb, ↓reduceIte, Nat.reduceEqDiff, and_true, true_and, and_self, ne_eq, not_false_eq_true, eq_self, false_and, and_false, reduceCtorEq, rws_zero, s0]
    exact ⟨rfl, fun x hx => absurd hx (Nat.not_lt_zero _)⟩
  · rintro i sl ro gn hi ⟨s1, r4096, s7, s8, q⟩
    dsimp only at s1 r4096 s7 s8
    have hi' : (i : Int) < (V.length : Nat) := by omega
    obtain ⟨n1, n2⟩ := h.g.ngN i
    have hng : ngN O i < V.length := by omega
    simp (config := { maxSteps := 10000000 }) (disch := first | assumption | omega) only [go_sem, ↓reduceIte, Nat.reduceEqDiff, reduceCtorEq, Nat.reduceAdd, Nat.reduceMul, Nat.reduceLeDiff, zfu, Int.mul_def, Int.add_def, zfv, cond_false, cond_true, isub, Int.reduceToNat, s1, r4096, s7, s8, hi', hi]
    refine CLLD_pure _ (cMinus h.g (x := i) (by omega)) (by simp (disch := assumption) only [pureL, pureA, isL_pure, isLL_pure, isLLL_pure, pureL_map, Bool.and_self, Bool.and_true]) rfl ?_
    simp (config := { maxSteps := 10000000 }) (disch := first | assumption | omega) only [go_sem, ↓reduceIte, Nat.reduceEqDiff, reduceCtorEq, Nat.reduceAdd, Nat.reduceMul, Nat.reduceLeDiff, zfu, Int.mul_def, Int.add_def, zfv, cond_false, cond_true, isub, Int.reduceToNat, s1, r4096, s7, s8, hi', hi]
    refine FIN_of (by kernel_rfl) ?_
    simp (config := { maxSteps := 10000000 }) (disch := first | assumption | omega) only [go_sem, ↓reduceIte, Nat.reduceEqDiff, reduceCtorEq, Nat.reduceAdd, Nat.reduceMul, Nat.reduceLeDiff, zfu, Int.mul_def, Int.add_def, zfv, cond_false, cond_true, isub, Int.reduceToNat, s1, r4096, s7, s8, hi', hi]
    refine ⟨fun h1 => ?_, fun h1 => ?_⟩
    · refine CLL_pure _ cSize (by simp (disch := assumption) only [pureL, pureA, isL_pure, isLL_pure, isLLL_pure, pureL_map, Bool.and_self, Bool.and_true]) rfl rfl ?_
      simp (config := { maxSteps := 10000000 }) (disch := first | assumption | omega) only [go_sem, ↓reduceIte, Nat.reduceEqDiff, reduceCtorEq, Nat.reduceAdd, Nat.reduceMul, Nat.reduceLeDiff, zfu, Int.mul_def, Int.add_def, zfv, cond_false, cond_true, isub, Int.reduceToNat, s1, r4096, s7, s8, hi', hi]
      refine WK_for (fun j st => st.sl 1 = .ptr 4096 1 [] 0 ∧ st.ro 4096 1 = some (.bx [immL O, i64 M, immL V]) ∧ st.sl 7 = i64 (V.length : Int) ∧ st.sl 8 = i64 (i : Int) ∧ st.sl 3 = i64 (i : Int) ∧ st.sl 25 = i64 (V.length : Int) ∧ st.sl 26 = i64 (j : Int) ∧ (∀ y, y < j → ∀ z, z < V.length → prM O M V (adN O i y) z = (prM O M V i z + prM O M V y z) % M)) V.length ?_ ?_ ?_
      · simp only [↓zcy, ↓zcz, ↓zda, ↓zdb, ↓reduceIte, Nat.reduceEqDiff, and_true, true_and, and_self, ne_eq, not_false_eq_true, eq_self, false_and, and_false, reduceCtorEq, rws_zero, s1, r4096, s7, s8, hi', hi]
        exact ⟨rfl, fun x hx => absurd hx (Nat.not_lt_zero _)⟩
      · rintro j sl ro gn hj ⟨s1, r4096, s7, s8, s3, s25, s26, q2⟩
        dsimp only at s1 r4096 s7 s8 s3 s25 s26
        have hj' : (j : Int) < (V.length : Nat) := by omega
        obtain ⟨a1, a2⟩ := h.g.adN i j
        have had : adN O i j < V.length := by omega
        simp (config := { maxSteps := 10000000 }) (disch := first | assumption | omega) only [go_sem, ↓reduceIte, Nat.reduceEqDiff, reduceCtorEq, Nat.reduceAdd, Nat.reduceMul, Nat.reduceLeDiff, zfu, Int.mul_def, Int.add_def, zfv, cond_false, cond_true, isub, Int.reduceToNat, s1, r4096, s7, s8, s3, s25, s26, hj', hj]
        refine CLL_pure _ cSize (by simp (disch := assumption) only [pureL, pureA, isL_pure, isLL_pure, isLLL_pure, pureL_map, Bool.and_self, Bool.and_true]) rfl rfl ?_
        simp (config := { maxSteps := 10000000 }) (disch := first | assumption | omega) only [go_sem, ↓reduceIte, Nat.reduceEqDiff, reduceCtorEq, Nat.reduceAdd, Nat.reduceMul, Nat.reduceLeDiff, zfu, Int.mul_def, Int.add_def, zfv, cond_false, cond_true, isub, Int.reduceToNat, s1, r4096, s7, s8, s3, s25, s26, hj', hj]
        refine WK_for (fun k st => st.sl 1 = .ptr 4096 1 [] 0 ∧ st.ro 4096 1 = some (.bx [immL O, i64 M, immL V]) ∧ st.sl 7 = i64 (V.length : Int) ∧ st.sl 8 = i64 (i : Int) ∧ st.sl 3 = i64 (i : Int) ∧ st.sl 25 = i64 (V.length : Int) ∧ st.sl 26 = i64 (j : Int) ∧ st.sl 4 = i64 (j : Int) ∧ st.sl 30 = i64 (V.length : Int) ∧ st.sl 31 = i64 (k : Int) ∧ (∀ z, z < k → prM O M V (adN O i j) z = (prM O M V i z + prM O M V j z) % M)) V.length ?_ ?_ ?_
        · simp only [↓zcy, ↓zcz, ↓zda, ↓zdb, ↓reduceIte, Nat.reduceEqDiff, and_true, true_and, and_self, ne_eq, not_false_eq_true, eq_self, false_and, and_false, reduceCtorEq, rws_zero, s1, r4096, s7, s8, s3, s25, s26, hj', hj]
          exact ⟨rfl, fun x hx => absurd hx (Nat.not_lt_zero _)⟩
        · rintro k sl ro gn hk ⟨s1, r4096, s7, s8, s3, s25, s26, s4, s30, s31, q3⟩
          dsimp only at s1 r4096 s7 s8 s3 s25 s26 s4 s30 s31
          have hk' : (k : Int) < (V.length : Nat) := by omega
          obtain ⟨p1, p2⟩ := prM_rng (O := O) (V := V) h.m i k
          obtain ⟨p3, p4⟩ := prM_rng (O := O) (V := V) h.m j k
          simp (config := { maxSteps := 10000000 }) (disch := first | assumption | omega) only [go_sem, ↓reduceIte, Nat.reduceEqDiff, reduceCtorEq, Nat.reduceAdd, Nat.reduceMul, Nat.reduceLeDiff, zfu, Int.mul_def, Int.add_def, zfv, cond_false, cond_true, isub, Int.reduceToNat, s1, r4096, s7, s8, s3, s25, s26, s4, s30, s31, hk', hk]
          refine CLLD_pure _ (cPlus h.g (x := i) (y := j) (by omega) (by omega)) (by simp (disch := assumption) only [pureL, pureA, isL_pure, isLL_pure, isLLL_pure, pureL_map, Bool.and_self, Bool.and_true]) rfl ?_
          simp (config := { maxSteps := 10000000 }) (disch := first | assumption | omega) only [go_sem, ↓reduceIte, Nat.reduceEqDiff, reduceCtorEq, Nat.reduceAdd, Nat.reduceMul, Nat.reduceLeDiff, zfu, Int.mul_def, Int.add_def, zfv, cond_false, cond_true, isub, Int.reduceToNat, s1, r4096, s7, s8, s3, s25, s26, s4, s30, s31, hk', hk, a1]
          refine CLLD_pure _ (cPair h had hk) (by simp (disch := assumption) only [pureL, pureA, isL_pure, isLL_pure, isLLL_pure, pureL_map, Bool.and_self, Bool.and_true]) rfl ?_
          simp (config := { maxSteps := 10000000 }) (disch := first | assumption | omega) only [go_sem, ↓reduceIte, Nat.reduceEqDiff, reduceCtorEq, Nat.reduceAdd, Nat.reduceMul, Nat.reduceLeDiff, zfu, Int.mul_def, Int.add_def, zfv, cond_false, cond_true, isub, Int.reduceToNat, s1, r4096, s7, s8, s3, s25, s26, s4, s30, s31, hk', hk]
          refine CLLD_pure _ (cPair h hi hk) (by simp (disch := assumption) only [pureL, pureA, isL_pure, isLL_pure, isLLL_pure, pureL_map, Bool.and_self, Bool.and_true]) rfl ?_
          simp (config := { maxSteps := 10000000 }) (disch := first | assumption | omega) only [go_sem, ↓reduceIte, Nat.reduceEqDiff, reduceCtorEq, Nat.reduceAdd, Nat.reduceMul, Nat.reduceLeDiff, zfu, Int.mul_def, Int.add_def, zfv, cond_false, cond_true, isub, Int.reduceToNat, s1, r4096, s7, s8, s3, s25, s26, s4, s30, s31, hk', hk]
          refine CLLD_pure _ (cPair h hj hk) (by simp (disch := assumption) only [pureL, pureA, isL_pure, isLL_pure, isLLL_pure, pureL_map, Bool.and_self, Bool.and_true]) rfl ?_
          simp (config := { maxSteps := 10000000 }) (disch := first | assumption | omega) only [go_sem, ↓reduceIte, Nat.reduceEqDiff, reduceCtorEq, Nat.reduceAdd, Nat.reduceMul, Nat.reduceLeDiff, zfu, Int.mul_def, Int.add_def, zfv, cond_false, cond_true, isub, Int.reduceToNat, s1, r4096, s7, s8, s3, s25, s26, s4, s30, s31, hk', hk]
          refine CLLD_pure _ (cRest (O := O) (V := V) h.m (n := prM O M V i k + prM O M V j k) (by omega)) (by simp (disch := assumption) only [pureL, pureA, isL_pure, isLL_pure, isLLL_pure, pureL_map, Bool.and_self, Bool.and_true]) rfl ?_
          simp (config := { maxSteps := 10000000 }) (disch := first | assumption | omega) only [go_sem, ↓reduceIte, Nat.reduceEqDiff, reduceCtorEq, Nat.reduceAdd, Nat.reduceMul, Nat.reduceLeDiff, zfu, Int.mul_def, Int.add_def, zfv, cond_false, cond_true, isub, Int.reduceToNat, s1, r4096, s7, s8, s3, s25, s26, s4, s30, s31, hk', hk]
          refine FIN_of (by kernel_rfl) ?_
          simp (config := { maxSteps := 10000000 }) (disch := first | assumption | omega) only [go_sem, ↓reduceIte, Nat.reduceEqDiff, reduceCtorEq, Nat.reduceAdd, Nat.reduceMul, Nat.reduceLeDiff, zfu, Int.mul_def, Int.add_def, zfv, cond_false, cond_true, isub, Int.reduceToNat, s1, r4096, s7, s8, s3, s25, s26, s4, s30, s31, hk', hk]
          refine ⟨fun h2 => ?_, fun h2 => ?_⟩
          · refine ⟨i64c (by omega), fun z hz => ?_⟩
            by_cases e : z = k
            · subst e; exact h2
            · exact q3 z (by omega)
          · have hf : t = false := by
              cases t with
              | false => rfl
              | true => exact absurd (((ht.1 rfl) i hi).2 j hj k hk) h2
            subst hf
            simp only [zbj, zbk, retR, resL, outT, zes, zez, oneV, ↓zcy, ↓zcz, ↓reduceIte, Nat.reduceEqDiff, Option.some.injEq, AV.sc.injEq, Value.bool.injEq, Value.int.injEq, outL, outT, zft, zcp, zed, zef, zei, zeh, List.length_cons, List.length_nil, Nat.reduceAdd, Nat.zero_add, Nat.reduceLeDiff, List.drop_zero, List.take_succ_cons, List.take_zero, zfi, zfh, Ro.dl, zdb, zda, zfe, and_self, and_true, true_and, eq_self, List.append_nil, List.nil_append, List.cons_append, ne_eq, not_false_eq_true, and_false, false_and, Bool.false_eq_true, St.ev, zes, zfn, zhk, List.length_map]
        · rintro sl ro gn ⟨s1, r4096, s7, s8, s3, s25, s26, s4, s30, s31, q3⟩
          dsimp only at s1 r4096 s7 s8 s3 s25 s26 s4 s30 s31
          have hk' : ¬ ((V.length : Nat) : Int) < (V.length : Nat) := by omega
          simp (config := { maxSteps := 10000000 }) (disch := first | assumption | omega) only [go_sem, ↓reduceIte, Nat.reduceEqDiff, reduceCtorEq, Nat.reduceAdd, Nat.reduceMul, Nat.reduceLeDiff, zfu, Int.mul_def, Int.add_def, zfv, cond_false, cond_true, isub, Int.reduceToNat, s1, r4096, s7, s8, s3, s25, s26, s4, s30, s31, hk']
          refine ⟨i64c (by omega), fun y hy => ?_⟩
          by_cases e : y = j
          · subst e; exact q3
          · exact q2 y (by omega)
      · rintro sl ro gn ⟨s1, r4096, s7, s8, s3, s25, s26, q2⟩
        dsimp only at s1 r4096 s7 s8 s3 s25 s26
        have hj' : ¬ ((V.length : Nat) : Int) < (V.length : Nat) := by omega
        simp (config := { maxSteps := 10000000 }) (disch := first | assumption | omega) only [go_sem, ↓reduceIte, Nat.reduceEqDiff, reduceCtorEq, Nat.reduceAdd, Nat.reduceMul, Nat.reduceLeDiff, zfu, Int.mul_def, Int.add_def, zfv, cond_false, cond_true, isub, Int.reduceToNat, s1, r4096, s7, s8, s3, s25, s26, hj']
        refine ⟨i64c (by omega), fun x hx => ?_⟩
        by_cases e : x = i
        · subst e; exact ⟨h1, q2⟩
        · exact q x (by omega)
    · have hf : t = false := by
        cases t with
        | false => rfl
        | true => exact absurd ((ht.1 rfl) i hi).1 h1
      subst hf
      simp only [zbj, zbk, retR, resL, outT, zes, zez, oneV, ↓zcy, ↓zcz, ↓reduceIte, Nat.reduceEqDiff, Option.some.injEq, AV.sc.injEq, Value.bool.injEq, Value.int.injEq, outL, outT, zft, zcp, zed, zef, zei, zeh, List.length_cons, List.length_nil, Nat.reduceAdd, Nat.zero_add, Nat.reduceLeDiff, List.drop_zero, List.take_succ_cons, List.take_zero, zfi, zfh, Ro.dl, zdb, zda, zfe, and_self, and_true, true_and, eq_self, List.append_nil, List.nil_append, List.cons_append, ne_eq, not_false_eq_true, and_false, false_and, Bool.false_eq_true, St.ev, zes, zfn, zhk, List.length_map]
  · rintro sl ro gn ⟨s1, r4096, s7, s8, q⟩
    dsimp only at s1 r4096 s7 s8
    have hi' : ¬ ((V.length : Nat) : Int) < (V.length : Nat) := by omega
    have hf : t = true := ht.2 q
    subst hf
    simp (config := { maxSteps := 10000000 }) (disch := first | assumption | omega) only [go_sem, ↓reduceIte, Nat.reduceEqDiff, reduceCtorEq, Nat.reduceAdd, Nat.reduceMul, Nat.reduceLeDiff, zfu, Int.mul_def, Int.add_def, zfv, cond_false, cond_true, isub, Int.reduceToNat, s1, r4096, s7, s8, hi']
    simp only [zbj, zbk, retR, resL, outT, zes, zez, oneV, ↓zcy, ↓zcz, ↓reduceIte, Nat.reduceEqDiff, Option.some.injEq, AV.sc.injEq, Value.bool.injEq, Value.int.injEq, outL, outT, zft, zcp, zed, zef, zei, zeh, List.length_cons, List.length_nil, Nat.reduceAdd, Nat.zero_add, Nat.reduceLeDiff, List.drop_zero, List.take_succ_cons, List.take_zero, zfi, zfh, Ro.dl, zdb, zda, zfe, and_self, and_true, true_and, eq_self, List.append_nil, List.nil_append, List.cons_append, ne_eq, not_false_eq_true, and_false, false_and, Bool.false_eq_true, St.ev, zes, zfn, zhk, List.length_map]
end
end Go.Proofs.YtgcnmlecihegcaaGreat

/- Which metrics the program takes. -/
namespace Go.Proofs.YtgcnmlecihegcaaGreat
open Go.RowKit
set_option maxRecDepth 1000000

/-- What is a metric. -/
def MetP (O : List Int) (M : Int) (V : List Int) : Prop := MetB O M V ∧ 55440 % M = 0 ∧ atI V 0 = 0 ∧ BilP O M V
def gS (O : List Int) : Nat → Int
  | 0 => 1
  | i + 1 => if gS O i * atI O i ≤ 17 then gS O i * atI O i else 17
theorem gS_pfx {O : List Int} (h : ∀ i, i < O.length → 2 ≤ atI O i ∧ atI O i ≤ 16) : ∀ {i : Nat}, i ≤ O.length → 1 ≤ gS O i ∧ gS O i ≤ 17 ∧ ((gS O i ≤ 16 ∨ pfx O i ≤ 16) → gS O i = pfx O i)
  | 0, _ => by simp [gS, pfx]
  | i + 1, hi => by
    obtain ⟨h1, h2, h3⟩ := gS_pfx h (i := i) (by omega)
    have h4 := h i (by omega)
    have h5 := pfx_pos h (i := i) (by omega)
    have h6 : 1 * 1 ≤ gS O i * atI O i := Int.mul_le_mul h1 (by omega) (by omega) (by omega)
    have h7 : pfx O i * 2 ≤ pfx O i * atI O i := Int.mul_le_mul_of_nonneg_left (by omega) (by omega)
    have h8 : gS O i * 2 ≤ gS O i * atI O i := Int.mul_le_mul_of_nonneg_left (by omega) (by omega)
    simp only [gS, pfx]
    by_cases hc : gS O i * atI O i ≤ 17
    · rw [if_pos hc]
      refine ⟨by omega, hc, fun _ => ?_⟩
      rw [h3 (.inl (by omega))]
    · rw [if_neg hc]
      refine ⟨by omega, by omega, fun h9 => ?_⟩
      rcases h9 with h9 | h9
      · omega
      · have := h3 (.inr (by omega))
        rw [this] at hc
        omega
theorem kMin_i (a b : Int) : kMin (i64 a) (i64 b) = some ⟨i64 (if b < a then b else a), none, [], []⟩ := by simp [kMin]
theorem cIsOrder {n : Int} : CallOK Tryz.prog 78 [i64 n] (bo (decide (1 ≤ n ∧ 55440 % n = 0))) := by
  refine call_of (fn := Tryz.f78) (code := bodyOf Tryz.f78) Tryz.func78 rfl (by kernel_rfl) (rfl) ?_
  intro sl hs
  have s0 : sl 0 = i64 n := hs 0
  by_cases h1 : 1 ≤ n
  · have h0 : ¬ n = 0 := by omega
    have e : (55440 : Int).tmod n = 55440 % n := Int.tmod_eq_emod_of_nonneg (by decide)
    dsimp only [Tryz.f78, bodyOf, Option.getD]
    simp (config := { maxSteps := 10000000 }) (disch := first | assumption | omega) only [go_sem, ↓reduceIte, Nat.reduceEqDiff, reduceCtorEq, Nat.reduceAdd, Nat.reduceMul, Nat.reduceLeDiff, zfu, Int.mul_def, Int.add_def, zfv, cond_false, cond_true, isub, Int.reduceToNat, s0, eq_true h1, e]
    simp only [zbj, zbk, retR, resL, outT, zes, zez, oneV, ↓zcy, ↓zcz, ↓reduceIte, Nat.reduceEqDiff, Option.some.injEq, AV.sc.injEq, Value.bool.injEq, Value.int.injEq, outL, outT, zft, zcp, zed, zef, zei, zeh, List.length_cons, List.length_nil, Nat.reduceAdd, Nat.zero_add, Nat.reduceLeDiff, List.drop_zero, List.take_succ_cons, List.take_zero, zfi, zfh, Ro.dl, zdb, zda, zfe, and_self, and_true, true_and, eq_self, List.append_nil, List.nil_append, List.cons_append, ne_eq, not_false_eq_true, and_false, false_and, Bool.false_eq_true, St.ev, zes, zfn, zhk, List.length_map]
  · skip
    dsimp only [Tryz.f78, bodyOf, Option.getD]
    simp (config := { maxSteps := 10000000 }) (disch := first | assumption | omega) only [go_sem, ↓reduceIte, Nat.reduceEqDiff, reduceCtorEq, Nat.reduceAdd, Nat.reduceMul, Nat.reduceLeDiff, zfu, Int.mul_def, Int.add_def, zfv, cond_false, cond_true, isub, Int.reduceToNat, s0, eq_false h1]
    simp only [zbj, zbk, retR, resL, outT, zes, zez, oneV, ↓zcy, ↓zcz, ↓reduceIte, Nat.reduceEqDiff, Option.some.injEq, AV.sc.injEq, Value.bool.injEq, Value.int.injEq, outL, outT, zft, zcp, zed, zef, zei, zeh, List.length_cons, List.length_nil, Nat.reduceAdd, Nat.zero_add, Nat.reduceLeDiff, List.drop_zero, List.take_succ_cons, List.take_zero, zfi, zfh, Ro.dl, zdb, zda, zfe, and_self, and_true, true_and, eq_self, List.append_nil, List.nil_append, List.cons_append, ne_eq, not_false_eq_true, and_false, false_and, Bool.false_eq_true, St.ev, zes, zfn, zhk, List.length_map]
theorem cGroupSize {O : List Int} (hl : O.length ≤ 4) (h : ∀ i, i < O.length → 2 ≤ atI O i ∧ atI O i ≤ 16) : CallOK Tryz.prog 80 [immL O] (i64 (if O.length = 0 then 0 else gS O O.length)) := by
  have ho := isL_imm O
  refine call_of (fn := Tryz.f80) (code := bodyOf Tryz.f80) Tryz.func80 rfl (by kernel_rfl) (rfl) ?_
  intro sl hs
  have s0 : sl 0 = immL O := hs 0
  dsimp only [Tryz.f80, bodyOf, Option.getD]
  simp (config := { maxSteps := 10000000 }) (disch := first | assumption | omega) only [go_sem, ↓reduceIte, Nat.reduceEqDiff, reduceCtorEq, Nat.reduceAdd, Nat.reduceMul, Nat.reduceLeDiff, zfu, Int.mul_def, Int.add_def, zfv, cond_false, cond_true, isub, Int.reduceToNat, s0]
  refine WK_for (fun i st => st.sl 0 = immL O ∧ st.sl 3 = i64 (gS O i) ∧ st.sl 6 = immL O ∧ st.sl 7 = i64 (O.length : Int) ∧ st.sl 8 = i64 (i : Int)) O.length ?_ ?_ ?_
  · simp only [↓zcy, ↓zcz, ↓zda, ↓zdb, ↓reduceIte, Nat.reduceEqDiff, and_true, true_and, and_self, ne_eq, not_false_eq_true, eq_self, false_and, and_false, reduceCtorEq, rws_zero, s0]
    (repeat' first | rfl | exact i64c rfl | exact i64c (by omega) | exact trivial | apply And.intro)
  · rintro i sl ro gn hi ⟨s0, s3, s6, s7, s8⟩
    dsimp only at s0 s3 s6 s7 s8
    have hi' : (i : Int) < (O.length : Nat) := by omega
    obtain ⟨g1, g2, -⟩ := gS_pfx h (i := i) (by omega)
    obtain ⟨a1, a2⟩ := h i hi
    have hlt : ¬ atI O i < 1 := by omega
    have hm1 : 0 ≤ gS O i * atI O i := Int.mul_nonneg (by omega) (by omega)
    have hm2 : gS O i * atI O i ≤ 17 * 16 := Int.mul_le_mul g2 a2 (by omega) (by omega)
    have h17 : ¬ (17 : Int) < atI O i := by omega
    have e : (if gS O i * atI O i < 17 then gS O i * atI O i else 17) = gS O (i + 1) := by
      simp only [gS]
      by_cases hc : gS O i * atI O i < 17
      · rw [if_pos hc, if_pos (by omega)]
      · rw [if_neg hc]
        by_cases hd : gS O i * atI O i ≤ 17
        · rw [if_pos hd]; omega
        · rw [if_neg hd]
    simp (config := { maxSteps := 10000000 }) (disch := first | assumption | omega) only [go_sem, ↓reduceIte, Nat.reduceEqDiff, reduceCtorEq, Nat.reduceAdd, Nat.reduceMul, Nat.reduceLeDiff, zfu, Int.mul_def, Int.add_def, zfv, cond_false, cond_true, isub, Int.reduceToNat, s0, s3, s6, s7, s8, hi', hi, kMin_i, eq_false h17, e]
    exact i64c (by omega)
  · rintro sl ro gn ⟨s0, s3, s6, s7, s8⟩
    dsimp only at s0 s3 s6 s7 s8
    have hi' : ¬ ((O.length : Nat) : Int) < (O.length : Nat) := by omega
    by_cases h0 : O.length = 0
    · have h0' : (O.length : Int) = 0 := by omega
      simp (config := { maxSteps := 10000000 }) (disch := first | assumption | omega) only [go_sem, ↓reduceIte, Nat.reduceEqDiff, reduceCtorEq, Nat.reduceAdd, Nat.reduceMul, Nat.reduceLeDiff, zfu, Int.mul_def, Int.add_def, zfv, cond_false, cond_true, isub, Int.reduceToNat, s0, s3, s6, s7, s8, hi', eq_true h0', h0]
      simp only [zbj, zbk, retR, resL, outT, zes, zez, oneV, ↓zcy, ↓zcz, ↓reduceIte, Nat.reduceEqDiff, Option.some.injEq, AV.sc.injEq, Value.bool.injEq, Value.int.injEq, outL, outT, zft, zcp, zed, zef, zei, zeh, List.length_cons, List.length_nil, Nat.reduceAdd, Nat.zero_add, Nat.reduceLeDiff, List.drop_zero, List.take_succ_cons, List.take_zero, zfi, zfh, Ro.dl, zdb, zda, zfe, and_self, and_true, true_and, eq_self, List.append_nil, List.nil_append, List.cons_append, ne_eq, not_false_eq_true, and_false, false_and, Bool.false_eq_true, St.ev, zes, zfn, zhk, List.length_map]
    · have h0' : ¬ (O.length : Int) = 0 := by omega
      simp (config := { maxSteps := 10000000 }) (disch := first | assumption | omega) only [go_sem, ↓reduceIte, Nat.reduceEqDiff, reduceCtorEq, Nat.reduceAdd, Nat.reduceMul, Nat.reduceLeDiff, zfu, Int.mul_def, Int.add_def, zfv, cond_false, cond_true, isub, Int.reduceToNat, s0, s3, s6, s7, s8, hi', eq_false h0', h0]
      simp only [zbj, zbk, retR, resL, outT, zes, zez, oneV, ↓zcy, ↓zcz, ↓reduceIte, Nat.reduceEqDiff, Option.some.injEq, AV.sc.injEq, Value.bool.injEq, Value.int.injEq, outL, outT, zft, zcp, zed, zef, zei, zeh, List.length_cons, List.length_nil, Nat.reduceAdd, Nat.zero_add, Nat.reduceLeDiff, List.drop_zero, List.take_succ_cons, List.take_zero, zfi, zfh, Ro.dl, zdb, zda, zfe, and_self, and_true, true_and, eq_self, List.append_nil, List.nil_append, List.cons_append, ne_eq, not_false_eq_true, and_false, false_and, Bool.false_eq_true, St.ev, zes, zfn, zhk, List.length_map]
theorem pfx_two {O : List Int} (h : ∀ i, i < O.length → 2 ≤ atI O i ∧ atI O i ≤ 16) (h1 : 1 ≤ O.length) : 2 ≤ pfx O O.length := by
  obtain ⟨k, hk⟩ : ∃ k, O.length = k + 1 := ⟨O.length - 1, by omega⟩
  have h2 := pfx_pos h (i := k) (by omega)
  have h3 := h k (by omega)
  have : 1 * 2 ≤ pfx O k * atI O k := Int.mul_le_mul h2 (by omega) (by omega) (by omega)
  rw [hk]; simp only [pfx]; omega
theorem GrpP.gs {O : List Int} (h : GrpP O) : (if O.length = 0 then 0 else gS O O.length) = pfx O O.length := by
  have := h.l1
  rw [if_neg (by omega)]
  exact (gS_pfx h.rg (i := O.length) (Nat.le_refl _)).2.2 (.inr h.sz)
theorem GrpP_iff {O : List Int} (hl : O.length ≤ 4) (h : ∀ i, i < O.length → 2 ≤ atI O i ∧ atI O i ≤ 16) : GrpP O ↔ (2 ≤ (if O.length = 0 then 0 else gS O O.length) ∧ (if O.length = 0 then 0 else gS O O.length) ≤ 16) := by
  constructor
  · intro hg
    rw [hg.gs]
    exact ⟨pfx_two h hg.l1, hg.sz⟩
  · rintro ⟨h1, h2⟩
    by_cases h0 : O.length = 0
    · rw [if_pos h0] at h1; omega
    · rw [if_neg h0] at h1 h2
      have := (gS_pfx h (i := O.length) (Nat.le_refl _)).2.2 (.inl h2)
      exact ⟨by omega, hl, h, by omega⟩
theorem bool_f {t : Bool} {p : Prop} (ht : t = true ↔ p) (h : ¬ p) : t = false := by
  cases t with
  | false => rfl
  | true => exact absurd (ht.1 rfl) h
theorem cIsGroup {O : List Int} (hx : O.length ≤ maxN) {t : Bool} (ht : t = true ↔ GrpP O) : CallOK Tryz.prog 77 [immL O] (bo t) := by
  have ho := isL_imm O
  have hx' : O.length ≤ 4294967296 := hx
  refine call_of (fn := Tryz.f77) (code := bodyOf Tryz.f77) Tryz.func77 rfl (by kernel_rfl) (rfl) ?_
  intro sl hs
  have s0 : sl 0 = immL O := hs 0
  by_cases hl : O.length ≤ 4
  · have hl' : (O.length : Int) ≤ 4 := by omega
    have cW := c129 (lo := 2) (hi := 16) ho hx
    by_cases hw : allW O 2 16 = true
    · rw [hw] at cW
      have h := allW_iff.1 hw
      have ht2 := ht.trans (GrpP_iff hl h)
      dsimp only [Tryz.f77, bodyOf, Option.getD]
      simp (config := { maxSteps := 10000000 }) (disch := first | assumption | omega) only [go_sem, ↓reduceIte, Nat.reduceEqDiff, reduceCtorEq, Nat.reduceAdd, Nat.reduceMul, Nat.reduceLeDiff, zfu, Int.mul_def, Int.add_def, zfv, cond_false, cond_true, isub, Int.reduceToNat, s0, eq_true hl']
      refine CLL_pure _ cW (by simp (disch := assumption) only [pureL, pureA, isL_pure, isLL_pure, isLLL_pure, pureL_map, Bool.and_self, Bool.and_true]) rfl rfl ?_
      simp (config := { maxSteps := 10000000 }) (disch := first | assumption | omega) only [go_sem, ↓reduceIte, Nat.reduceEqDiff, reduceCtorEq, Nat.reduceAdd, Nat.reduceMul, Nat.reduceLeDiff, zfu, Int.mul_def, Int.add_def, zfv, cond_false, cond_true, isub, Int.reduceToNat, s0]
      refine CLL_pure _ (cGroupSize hl h) (by simp (disch := assumption) only [pureL, pureA, isL_pure, isLL_pure, isLLL_pure, pureL_map, Bool.and_self, Bool.and_true]) rfl rfl ?_
      simp (config := { maxSteps := 10000000 }) (disch := first | assumption | omega) only [go_sem, ↓reduceIte, Nat.reduceEqDiff, reduceCtorEq, Nat.reduceAdd, Nat.reduceMul, Nat.reduceLeDiff, zfu, Int.mul_def, Int.add_def, zfv, cond_false, cond_true, isub, Int.reduceToNat, s0]
      refine CLL_pure _ c40 (by simp (disch := assumption) only [pureL, pureA, isL_pure, isLL_pure, isLLL_pure, pureL_map, Bool.and_self, Bool.and_true]) rfl rfl ?_
      simp (config := { maxSteps := 10000000 }) (disch := first | assumption | omega) only [go_sem, ↓reduceIte, Nat.reduceEqDiff, reduceCtorEq, Nat.reduceAdd, Nat.reduceMul, Nat.reduceLeDiff, zfu, Int.mul_def, Int.add_def, zfv, cond_false, cond_true, isub, Int.reduceToNat, s0]
      simp only [zbj, zbk, retR, resL, outT, zes, zez, oneV, ↓zcy, ↓zcz, ↓reduceIte, Nat.reduceEqDiff, Option.some.injEq, AV.sc.injEq, Value.bool.injEq, Value.int.injEq, outL, outT, zft, zcp, zed, zef, zei, zeh, List.length_cons, List.length_nil, Nat.reduceAdd, Nat.zero_add, Nat.reduceLeDiff, List.drop_zero, List.take_succ_cons, List.take_zero, zfi, zfh, Ro.dl, zdb, zda, zfe, and_self, and_true, true_and, eq_self, List.append_nil, List.nil_append, List.cons_append, ne_eq, not_false_eq_true, and_false, false_and, Bool.false_eq_true, St.ev, zes, zfn, zhk, List.length_map]
      cases t with
      | true => exact decide_eq_true (ht2.1 rfl)
      | false => exact decide_eq_false fun h3 => by have := ht2.2 h3; cases this
    · have hw' : allW O 2 16 = false := by simpa using hw
      rw [hw'] at cW
      have hf := bool_f ht fun hg => hw (allW_iff.2 hg.rg)
      subst hf
      dsimp only [Tryz.f77, bodyOf, Option.getD]
      simp (config := { maxSteps := 10000000 }) (disch := first | assumption | omega) only [go_sem, ↓reduceIte, Nat.reduceEqDiff, reduceCtorEq, Nat.reduceAdd, Nat.reduceMul, Nat.reduceLeDiff, zfu, Int.mul_def, Int.add_def, zfv, cond_false, cond_true, isub, Int.reduceToNat, s0, eq_true hl']
      refine CLL_pure _ cW (by simp (disch := assumption) only [pureL, pureA, isL_pure, isLL_pure, isLLL_pure, pureL_map, Bool.and_self, Bool.and_true]) rfl rfl ?_
      simp (config := { maxSteps := 10000000 }) (disch := first | assumption | omega) only [go_sem, ↓reduceIte, Nat.reduceEqDiff, reduceCtorEq, Nat.reduceAdd, Nat.reduceMul, Nat.reduceLeDiff, zfu, Int.mul_def, Int.add_def, zfv, cond_false, cond_true, isub, Int.reduceToNat, s0]
      simp only [zbj, zbk, retR, resL, outT, zes, zez, oneV, ↓zcy, ↓zcz, ↓reduceIte, Nat.reduceEqDiff, Option.some.injEq, AV.sc.injEq, Value.bool.injEq, Value.int.injEq, outL, outT, zft, zcp, zed, zef, zei, zeh, List.length_cons, List.length_nil, Nat.reduceAdd, Nat.zero_add, Nat.reduceLeDiff, List.drop_zero, List.take_succ_cons, List.take_zero, zfi, zfh, Ro.dl, zdb, zda, zfe, and_self, and_true, true_and, eq_self, List.append_nil, List.nil_append, List.cons_append, ne_eq, not_false_eq_true, and_false, false_and, Bool.false_eq_true, St.ev, zes, zfn, zhk, List.length_map]
  · have hl' : ¬ (O.length : Int) ≤ 4 := by omega
    have hf := bool_f ht fun hg => hl hg.l4
    subst hf
    dsimp only [Tryz.f77, bodyOf, Option.getD]
    simp (config := { maxSteps := 10000000 }) (disch := first | assumption | omega) only [go_sem, ↓reduceIte, Nat.reduceEqDiff, reduceCtorEq, Nat.reduceAdd, Nat.reduceMul, Nat.reduceLeDiff, zfu, Int.mul_def, Int.add_def, zfv, cond_false, cond_true, isub, Int.reduceToNat, s0, eq_false hl']
    simp only [zbj, zbk, retR, resL, outT, zes, zez, oneV, ↓zcy, ↓zcz, ↓reduceIte, Nat.reduceEqDiff, Option.some.injEq, AV.sc.injEq, Value.bool.injEq, Value.int.injEq, outL, outT, zft, zcp, zed, zef, zei, zeh, List.length_cons, List.length_nil, Nat.reduceAdd, Nat.zero_add, Nat.reduceLeDiff, List.drop_zero, List.take_succ_cons, List.take_zero, zfi, zfh, Ro.dl, zdb, zda, zfe, and_self, and_true, true_and, eq_self, List.append_nil, List.nil_append, List.cons_append, ne_eq, not_false_eq_true, and_false, false_and, Bool.false_eq_true, St.ev, zes, zfn, zhk, List.length_map]
theorem div_le {M : Int} (h1 : 1 ≤ M) (h : 55440 % M = 0) : M ≤ 55440 := Int.le_of_dvd (by decide) (Int.dvd_of_emod_eq_zero h)
theorem cIsMetric {O V : List Int} {M : Int} (hx : O.length ≤ maxN) (hv2 : V.length ≤ maxN) (hM64 : -2^63 ≤ M ∧ M < 2^63) {t : Bool} (ht : t = true ↔ MetP O M V) : CallOK Tryz.prog 36 [mt O M V] (bo t) := by
  have ho := isL_imm O
  have hv := isL_imm V
  have hv3 : V.length ≤ 4294967296 := hv2
  refine call_of (fn := Tryz.f36) (code := bodyOf Tryz.f36) Tryz.func36 rfl (by kernel_rfl) (rfl) ?_
  intro sl hs
  have s0 : sl 0 = mt O M V := hs 0
  by_cases hg : GrpP O
  · have cG := cIsGroup (t := true) hx (by simp [hg])
    have hrg := hg.rg
    have hl4 := hg.l4
    have cS := cGroupSize hl4 hrg
    rw [hg.gs] at cS
    by_cases hm : 1 ≤ M ∧ 55440 % M = 0
    · have cO := cIsOrder (n := M)
      rw [decide_eq_true hm] at cO
      have hM2 := div_le hm.1 hm.2
      by_cases hn : (V.length : Int) = pfx O O.length
      · have cW := c129 (lo := 0) (hi := M - 1) hv hv2
        by_cases hw : allW V 0 (M - 1) = true
        · rw [hw] at cW
          have hb : MetB O M V := ⟨hg, ⟨hm.1, hM2⟩, hn, allW_iff.1 hw⟩
          have hpos : 0 < V.length := by have := pfx_pos hrg (Nat.le_refl O.length); omega
          by_cases hz : atI V 0 = 0
          · have ht2 : t = true ↔ BilP O M V := ht.trans ⟨fun h => h.2.2.2, fun h => ⟨hb, hm.2, hz, h⟩⟩
            dsimp only [Tryz.f36, bodyOf, Option.getD]
            simp (config := { maxSteps := 10000000 }) (disch := first | assumption | omega) only [go_sem, ↓reduceIte, Nat.reduceEqDiff, reduceCtorEq, Nat.reduceAdd, Nat.reduceMul, Nat.reduceLeDiff, zfu, Int.mul_def, Int.add_def, zfv, cond_false, cond_true, isub, Int.reduceToNat, s0]
            refine CLLD_pure _ cG (by simp (disch := assumption) only [pureL, pureA, isL_pure, isLL_pure, isLLL_pure, pureL_map, Bool.and_self, Bool.and_true]) rfl ?_
            simp (config := { maxSteps := 10000000 }) (disch := first | assumption | omega) only [go_sem, ↓reduceIte, Nat.reduceEqDiff, reduceCtorEq, Nat.reduceAdd, Nat.reduceMul, Nat.reduceLeDiff, zfu, Int.mul_def, Int.add_def, zfv, cond_false, cond_true, isub, Int.reduceToNat, s0]
            refine CLLD_pure _ cO (by simp (disch := assumption) only [pureL, pureA, isL_pure, isLL_pure, isLLL_pure, pureL_map, Bool.and_self, Bool.and_true]) rfl ?_
            simp (config := { maxSteps := 10000000 }) (disch := first | assumption | omega) only [go_sem, ↓reduceIte, Nat.reduceEqDiff, reduceCtorEq, Nat.reduceAdd, Nat.reduceMul, Nat.reduceLeDiff, zfu, Int.mul_def, Int.add_def, zfv, cond_false, cond_true, isub, Int.reduceToNat, s0]
            refine CLLD_pure _ cSize (by simp (disch := assumption) only [pureL, pureA, isL_pure, isLL_pure, isLLL_pure, pureL_map, Bool.and_self, Bool.and_true]) rfl ?_
            simp (config := { maxSteps := 10000000 }) (disch := first | assumption | omega) only [go_sem, ↓reduceIte, Nat.reduceEqDiff, reduceCtorEq, Nat.reduceAdd, Nat.reduceMul, Nat.reduceLeDiff, zfu, Int.mul_def, Int.add_def, zfv, cond_false, cond_true, isub, Int.reduceToNat, s0]
            refine CLLD_pure _ cS (by simp (disch := assumption) only [pureL, pureA, isL_pure, isLL_pure, isLLL_pure, pureL_map, Bool.and_self, Bool.and_true]) rfl ?_
            simp (config := { maxSteps := 10000000 }) (disch := first | assumption | omega) only [go_sem, ↓reduceIte, Nat.reduceEqDiff, reduceCtorEq, Nat.reduceAdd, Nat.reduceMul, Nat.reduceLeDiff, zfu, Int.mul_def, Int.add_def, zfv, cond_false, cond_true, isub, Int.reduceToNat, s0, eq_true hn]
            refine CLLD_pure _ cW (by simp (disch := assumption) only [pureL, pureA, isL_pure, isLL_pure, isLLL_pure, pureL_map, Bool.and_self, Bool.and_true]) rfl ?_
            simp (config := { maxSteps := 10000000 }) (disch := first | assumption | omega) only [go_sem, ↓reduceIte, Nat.reduceEqDiff, reduceCtorEq, Nat.reduceAdd, Nat.reduceMul, Nat.reduceLeDiff, zfu, Int.mul_def, Int.add_def, zfv, cond_false, cond_true, isub, Int.reduceToNat, s0]
            refine FIN_of (by kernel_rfl) ?_
            simp (config := { maxSteps := 10000000 }) (disch := first | assumption | omega) only [go_sem, ↓reduceIte, Nat.reduceEqDiff, reduceCtorEq, Nat.reduceAdd, Nat.reduceMul, Nat.reduceLeDiff, zfu, Int.mul_def, Int.add_def, zfv, cond_false, cond_true, isub, Int.reduceToNat, s0, isL_idx0, eq_true hz]
            refine CLL_pure _ (cBil hb ht2) (by simp (disch := assumption) only [pureL, pureA, isL_pure, isLL_pure, isLLL_pure, pureL_map, Bool.and_self, Bool.and_true]) rfl rfl ?_
            simp (config := { maxSteps := 10000000 }) (disch := first | assumption | omega) only [go_sem, ↓reduceIte, Nat.reduceEqDiff, reduceCtorEq, Nat.reduceAdd, Nat.reduceMul, Nat.reduceLeDiff, zfu, Int.mul_def, Int.add_def, zfv, cond_false, cond_true, isub, Int.reduceToNat, s0]
            simp only [zbj, zbk, retR, resL, outT, zes, zez, oneV, ↓zcy, ↓zcz, ↓reduceIte, Nat.reduceEqDiff, Option.some.injEq, AV.sc.injEq, Value.bool.injEq, Value.int.injEq, outL, outT, zft, zcp, zed, zef, zei, zeh, List.length_cons, List.length_nil, Nat.reduceAdd, Nat.zero_add, Nat.reduceLeDiff, List.drop_zero, List.take_succ_cons, List.take_zero, zfi, zfh, Ro.dl, zdb, zda, zfe, and_self, and_true, true_and, eq_self, List.append_nil, List.nil_append, List.cons_append, ne_eq, not_false_eq_true, and_false, false_and, Bool.false_eq_true, St.ev, zes, zfn, zhk, List.length_map]
          · have hf := bool_f ht fun h => hz h.2.2.1
            subst hf
            dsimp only [Tryz.f36, bodyOf, Option.getD]
            simp (config := { maxSteps := 10000000 }) (disch := first | assumption | omega) only [go_sem, ↓reduceIte, Nat.reduceEqDiff, reduceCtorEq, Nat.reduceAdd, Nat.reduceMul, Nat.reduceLeDiff, zfu, Int.mul_def, Int.add_def, zfv, cond_false, cond_true, isub, Int.reduceToNat, s0]
            refine CLLD_pure _ cG (by simp (disch := assumption) only [pureL, pureA, isL_pure, isLL_pure, isLLL_pure, pureL_map, Bool.and_self, Bool.and_true]) rfl ?_
            simp (config := { maxSteps := 10000000 }) (disch := first | assumption | omega) only [go_sem, ↓reduceIte, Nat.reduceEqDiff, reduceCtorEq, Nat.reduceAdd, Nat.reduceMul, Nat.reduceLeDiff, zfu, Int.mul_def, Int.add_def, zfv, cond_false, cond_true, isub, Int.reduceToNat, s0]
            refine CLLD_pure _ cO (by simp (disch := assumption) only [pureL, pureA, isL_pure, isLL_pure, isLLL_pure, pureL_map, Bool.and_self, Bool.and_true]) rfl ?_
            simp (config := { maxSteps := 10000000 }) (disch := first | assumption | omega) only [go_sem, ↓reduceIte, Nat.reduceEqDiff, reduceCtorEq, Nat.reduceAdd, Nat.reduceMul, Nat.reduceLeDiff, zfu, Int.mul_def, Int.add_def, zfv, cond_false, cond_true, isub, Int.reduceToNat, s0]
            refine CLLD_pure _ cSize (by simp (disch := assumption) only [pureL, pureA, isL_pure, isLL_pure, isLLL_pure, pureL_map, Bool.and_self, Bool.and_true]) rfl ?_
            simp (config := { maxSteps := 10000000 }) (disch := first | assumption | omega) only [go_sem, ↓reduceIte, Nat.reduceEqDiff, reduceCtorEq, Nat.reduceAdd, Nat.reduceMul, Nat.reduceLeDiff, zfu, Int.mul_def, Int.add_def, zfv, cond_false, cond_true, isub, Int.reduceToNat, s0]
            refine CLLD_pure _ cS (by simp (disch := assumption) only [pureL, pureA, isL_pure, isLL_pure, isLLL_pure, pureL_map, Bool.and_self, Bool.and_true]) rfl ?_
            simp (config := { maxSteps := 10000000 }) (disch := first | assumption | omega) only [go_sem, ↓reduceIte, Nat.reduceEqDiff, reduceCtorEq, Nat.reduceAdd, Nat.reduceMul, Nat.reduceLeDiff, zfu, Int.mul_def, Int.add_def, zfv, cond_false, cond_true, isub, Int.reduceToNat, s0, eq_true hn]
            refine CLLD_pure _ cW (by simp (disch := assumption) only [pureL, pureA, isL_pure, isLL_pure, isLLL_pure, pureL_map, Bool.and_self, Bool.and_true]) rfl ?_
            simp (config := { maxSteps := 10000000 }) (disch := first | assumption | omega) only [go_sem, ↓reduceIte, Nat.reduceEqDiff, reduceCtorEq, Nat.reduceAdd, Nat.reduceMul, Nat.reduceLeDiff, zfu, Int.mul_def, Int.add_def, zfv, cond_false, cond_true, isub, Int.reduceToNat, s0]
            refine FIN_of (by kernel_rfl) ?_
            simp (config := { maxSteps := 10000000 }) (disch := first | assumption | omega) only [go_sem, ↓reduceIte, Nat.reduceEqDiff, reduceCtorEq, Nat.reduceAdd, Nat.reduceMul, Nat.reduceLeDiff, zfu, Int.mul_def, Int.add_def, zfv, cond_false, cond_true, isub, Int.reduceToNat, s0, isL_idx0, eq_false hz]
            simp only [zbj, zbk, retR, resL, outT, zes, zez, oneV, ↓zcy, ↓zcz, ↓reduceIte, Nat.reduceEqDiff, Option.some.injEq, AV.sc.injEq, Value.bool.injEq, Value.int.injEq, outL, outT, zft, zcp, zed, zef, zei, zeh, List.length_cons, List.length_nil, Nat.reduceAdd, Nat.zero_add, Nat.reduceLeDiff, List.drop_zero, List.take_succ_cons, List.take_zero, zfi, zfh, Ro.dl, zdb, zda, zfe, and_self, and_true, true_and, eq_self, List.append_nil, List.nil_append, List.cons_append, ne_eq, not_false_eq_true, and_false, false_and, Bool.false_eq_true, St.ev, zes, zfn, zhk, List.length_map]
        · have hw' : allW V 0 (M - 1) = false := by simpa using hw
          rw [hw'] at cW
          have hf := bool_f ht fun h => hw (allW_iff.2 h.1.v)
          subst hf
          dsimp only [Tryz.f36, bodyOf, Option.getD]
          simp (config := { maxSteps := 10000000 }) (disch := first | assumption | omega) only [go_sem, ↓reduceIte, Nat.reduceEqDiff, reduceCtorEq, Nat.reduceAdd, Nat.reduceMul, Nat.reduceLeDiff, zfu, Int.mul_def, Int.add_def, zfv, cond_false, cond_true, isub, Int.reduceToNat, s0]
          refine CLLD_pure _ cG (by simp (disch := assumption) only [pureL, pureA, isL_pure, isLL_pure, isLLL_pure, pureL_map, Bool.and_self, Bool.and_true]) rfl ?_
          simp (config := { maxSteps := 10000000 }) (disch := first | assumption | omega) only [go_sem, ↓reduceIte, Nat.reduceEqDiff, reduceCtorEq, Nat.reduceAdd, Nat.reduceMul, Nat.reduceLeDiff, zfu, Int.mul_def, Int.add_def, zfv, cond_false, cond_true, isub, Int.reduceToNat, s0]
          refine CLLD_pure _ cO (by simp (disch := assumption) only [pureL, pureA, isL_pure, isLL_pure, isLLL_pure, pureL_map, Bool.and_self, Bool.and_true]) rfl ?_
          simp (config := { maxSteps := 10000000 }) (disch := first | assumption | omega) only [go_sem, ↓reduceIte, Nat.reduceEqDiff, reduceCtorEq, Nat.reduceAdd, Nat.reduceMul, Nat.reduceLeDiff, zfu, Int.mul_def, Int.add_def, zfv, cond_false, cond_true, isub, Int.reduceToNat, s0]
          refine CLLD_pure _ cSize (by simp (disch := assumption) only [pureL, pureA, isL_pure, isLL_pure, isLLL_pure, pureL_map, Bool.and_self, Bool.and_true]) rfl ?_
          simp (config := { maxSteps := 10000000 }) (disch := first | assumption | omega) only [go_sem, ↓reduceIte, Nat.reduceEqDiff, reduceCtorEq, Nat.reduceAdd, Nat.reduceMul, Nat.reduceLeDiff, zfu, Int.mul_def, Int.add_def, zfv, cond_false, cond_true, isub, Int.reduceToNat, s0]
          refine CLLD_pure _ cS (by simp (disch := assumption) only [pureL, pureA, isL_pure, isLL_pure, isLLL_pure, pureL_map, Bool.and_self, Bool.and_true]) rfl ?_
          simp (config := { maxSteps := 10000000 }) (disch := first | assumption | omega) only [go_sem, ↓reduceIte, Nat.reduceEqDiff, reduceCtorEq, Nat.reduceAdd, Nat.reduceMul, Nat.reduceLeDiff, zfu, Int.mul_def, Int.add_def, zfv, cond_false, cond_true, isub, Int.reduceToNat, s0, eq_true hn]
          refine CLLD_pure _ cW (by simp (disch := assumption) only [pureL, pureA, isL_pure, isLL_pure, isLLL_pure, pureL_map, Bool.and_self, Bool.and_true]) rfl ?_
          simp (config := { maxSteps := 10000000 }) (disch := first | assumption | omega) only [go_sem, ↓reduceIte, Nat.reduceEqDiff, reduceCtorEq, Nat.reduceAdd, Nat.reduceMul, Nat.reduceLeDiff, zfu, Int.mul_def, Int.add_def, zfv, cond_false, cond_true, isub, Int.reduceToNat, s0]
          refine FIN_of (by kernel_rfl) ?_
          simp (config := { maxSteps := 10000000 }) (disch := first | assumption | omega) only [go_sem, ↓reduceIte, Nat.reduceEqDiff, reduceCtorEq, Nat.reduceAdd, Nat.reduceMul, Nat.reduceLeDiff, zfu, Int.mul_def, Int.add_def, zfv, cond_false, cond_true, isub, Int.reduceToNat, s0]
          simp only [zbj, zbk, retR, resL, outT, zes, zez, oneV, ↓zcy, ↓zcz, ↓reduceIte, Nat.reduceEqDiff, Option.some.injEq, AV.sc.injEq, Value.bool.injEq, Value.int.injEq, outL, outT, zft, zcp, zed, zef, zei, zeh, List.length_cons, List.length_nil, Nat.reduceAdd, Nat.zero_add, Nat.reduceLeDiff, List.drop_zero, List.take_succ_cons, List.take_zero, zfi, zfh, Ro.dl, zdb, zda, zfe, and_self, and_true, true_and, eq_self, List.append_nil, List.nil_append, List.cons_append, ne_eq, not_false_eq_true, and_false, false_and, Bool.false_eq_true, St.ev, zes, zfn, zhk, List.length_map]
      · have hf := bool_f ht fun h => hn h.1.n
        subst hf
        dsimp only [Tryz.f36, bodyOf, Option.getD]
        simp (config := { maxSteps := 10000000 }) (disch := first | assumption | omega) only [go_sem, ↓reduceIte, Nat.reduceEqDiff, reduceCtorEq, Nat.reduceAdd, Nat.reduceMul, Nat.reduceLeDiff, zfu, Int.mul_def, Int.add_def, zfv, cond_false, cond_true, isub, Int.reduceToNat, s0]
        refine CLLD_pure _ cG (by simp (disch := assumption) only [pureL, pureA, isL_pure, isLL_pure, isLLL_pure, pureL_map, Bool.and_self, Bool.and_true]) rfl ?_
        simp (config := { maxSteps := 10000000 }) (disch := first | assumption | omega) only [go_sem, ↓reduceIte, Nat.reduceEqDiff, reduceCtorEq, Nat.reduceAdd, Nat.reduceMul, Nat.reduceLeDiff, zfu, Int.mul_def, Int.add_def, zfv, cond_false, cond_true, isub, Int.reduceToNat, s0]
        refine CLLD_pure _ cO (by simp (disch := assumption) only [pureL, pureA, isL_pure, isLL_pure, isLLL_pure, pureL_map, Bool.and_self, Bool.and_true]) rfl ?_
        simp (config := { maxSteps := 10000000 }) (disch := first | assumption | omega) only [go_sem, ↓reduceIte, Nat.reduceEqDiff, reduceCtorEq, Nat.reduceAdd, Nat.reduceMul, Nat.reduceLeDiff, zfu, Int.mul_def, Int.add_def, zfv, cond_false, cond_true, isub, Int.reduceToNat, s0]
        refine CLLD_pure _ cSize (by simp (disch := assumption) only [pureL, pureA, isL_pure, isLL_pure, isLLL_pure, pureL_map, Bool.and_self, Bool.and_true]) rfl ?_
        simp (config := { maxSteps := 10000000 }) (disch := first | assumption | omega) only [go_sem, ↓reduceIte, Nat.reduceEqDiff, reduceCtorEq, Nat.reduceAdd, Nat.reduceMul, Nat.reduceLeDiff, zfu, Int.mul_def, Int.add_def, zfv, cond_false, cond_true, isub, Int.reduceToNat, s0]
        refine CLLD_pure _ cS (by simp (disch := assumption) only [pureL, pureA, isL_pure, isLL_pure, isLLL_pure, pureL_map, Bool.and_self, Bool.and_true]) rfl ?_
        simp (config := { maxSteps := 10000000 }) (disch := first | assumption | omega) only [go_sem, ↓reduceIte, Nat.reduceEqDiff, reduceCtorEq, Nat.reduceAdd, Nat.reduceMul, Nat.reduceLeDiff, zfu, Int.mul_def, Int.add_def, zfv, cond_false, cond_true, isub, Int.reduceToNat, s0, eq_false hn]
        refine FIN_of (by kernel_rfl) ?_
        simp (config := { maxSteps := 10000000 }) (disch := first | assumption | omega) only [go_sem, ↓reduceIte, Nat.reduceEqDiff, reduceCtorEq, Nat.reduceAdd, Nat.reduceMul, Nat.reduceLeDiff, zfu, Int.mul_def, Int.add_def, zfv, cond_false, cond_true, isub, Int.reduceToNat, s0]
        simp only [zbj, zbk, retR, resL, outT, zes, zez, oneV, ↓zcy, ↓zcz, ↓reduceIte, Nat.reduceEqDiff, Option.some.injEq, AV.sc.injEq, Value.bool.injEq, Value.int.injEq, outL, outT, zft, zcp, zed, zef, zei, zeh, List.length_cons, List.length_nil, Nat.reduceAdd, Nat.zero_add, Nat.reduceLeDiff, List.drop_zero, List.take_succ_cons, List.take_zero, zfi, zfh, Ro.dl, zdb, zda, zfe, and_self, and_true, true_and, eq_self, List.append_nil, List.nil_append, List.cons_append, ne_eq, not_false_eq_true, and_false, false_and, Bool.false_eq_true, St.ev, zes, zfn, zhk, List.length_map]
    · have cO := cIsOrder (n := M)
      rw [decide_eq_false hm] at cO
      have hf := bool_f ht fun h => hm ⟨h.1.m.1, h.2.1⟩
      subst hf
      dsimp only [Tryz.f36, bodyOf, Option.getD]
      simp (config := { maxSteps := 10000000 }) (disch := first | assumption | omega) only [go_sem, ↓reduceIte, Nat.reduceEqDiff, reduceCtorEq, Nat.reduceAdd, Nat.reduceMul, Nat.reduceLeDiff, zfu, Int.mul_def, Int.add_def, zfv, cond_false, cond_true, isub, Int.reduceToNat, s0]
      refine CLLD_pure _ cG (by simp (disch := assumption) only [pureL, pureA, isL_pure, isLL_pure, isLLL_pure, pureL_map, Bool.and_self, Bool.and_true]) rfl ?_
      simp (config := { maxSteps := 10000000 }) (disch := first | assumption | omega) only [go_sem, ↓reduceIte, Nat.reduceEqDiff, reduceCtorEq, Nat.reduceAdd, Nat.reduceMul, Nat.reduceLeDiff, zfu, Int.mul_def, Int.add_def, zfv, cond_false, cond_true, isub, Int.reduceToNat, s0]
      refine CLLD_pure _ cO (by simp (disch := assumption) only [pureL, pureA, isL_pure, isLL_pure, isLLL_pure, pureL_map, Bool.and_self, Bool.and_true]) rfl ?_
      simp (config := { maxSteps := 10000000 }) (disch := first | assumption | omega) only [go_sem, ↓reduceIte, Nat.reduceEqDiff, reduceCtorEq, Nat.reduceAdd, Nat.reduceMul, Nat.reduceLeDiff, zfu, Int.mul_def, Int.add_def, zfv, cond_false, cond_true, isub, Int.reduceToNat, s0]
      refine FIN_of (by kernel_rfl) ?_
      simp (config := { maxSteps := 10000000 }) (disch := first | assumption | omega) only [go_sem, ↓reduceIte, Nat.reduceEqDiff, reduceCtorEq, Nat.reduceAdd, Nat.reduceMul, Nat.reduceLeDiff, zfu, Int.mul_def, Int.add_def, zfv, cond_false, cond_true, isub, Int.reduceToNat, s0]
      simp only [zbj, zbk, retR, resL, outT, zes, zez, oneV, ↓zcy, ↓zcz, ↓reduceIte, Nat.reduceEqDiff, Option.some.injEq, AV.sc.injEq, Value.bool.injEq, Value.int.injEq, outL, outT, zft, zcp, zed, zef, zei, zeh, List.length_cons, List.length_nil, Nat.reduceAdd, Nat.zero_add, Nat.reduceLeDiff, List.drop_zero, List.take_succ_cons, List.take_zero, zfi, zfh, Ro.dl, zdb, zda, zfe, and_self, and_true, true_and, eq_self, List.append_nil, List.nil_append, List.cons_append, ne_eq, not_false_eq_true, and_false, false_and, Bool.false_eq_true, St.ev, zes, zfn, zhk, List.length_map]
  · have cG := cIsGroup (t := false) hx (by simp [hg])
    have hf := bool_f ht fun h => hg h.1.g
    subst hf
    dsimp only [Tryz.f36, bodyOf, Option.getD]
    simp (config := { maxSteps := 10000000 }) (disch := first | assumption | omega) only [go_sem, ↓reduceIte, Nat.reduceEqDiff, reduceCtorEq, Nat.reduceAdd, Nat.reduceMul, Nat.reduceLeDiff, zfu, Int.mul_def, Int.add_def, zfv, cond_false, cond_true, isub, Int.reduceToNat, s0]
    refine CLLD_pure _ cG (by simp (disch := assumption) only [pureL, pureA, isL_pure, isLL_pure, isLLL_pure, pureL_map, Bool.and_self, Bool.and_true]) rfl ?_
    simp (config := { maxSteps := 10000000 }) (disch := first | assumption | omega) only [go_sem, ↓reduceIte, Nat.reduceEqDiff, reduceCtorEq, Nat.reduceAdd, Nat.reduceMul, Nat.reduceLeDiff, zfu, Int.mul_def, Int.add_def, zfv, cond_false, cond_true, isub, Int.reduceToNat, s0]
    refine FIN_of (by kernel_rfl) ?_
    simp (config := { maxSteps := 10000000 }) (disch := first | assumption | omega) only [go_sem, ↓reduceIte, Nat.reduceEqDiff, reduceCtorEq, Nat.reduceAdd, Nat.reduceMul, Nat.reduceLeDiff, zfu, Int.mul_def, Int.add_def, zfv, cond_false, cond_true, isub, Int.reduceToNat, s0]
    simp only [zbj, zbk, retR, resL, outT, zes, zez, oneV, ↓zcy, ↓zcz, ↓reduceIte, Nat.reduceEqDiff, Option.some.injEq, AV.sc.injEq, Value.bool.injEq, Value.int.injEq, outL, outT, zft, zcp, zed, zef, zei, zeh, List.length_cons, List.length_nil, Nat.reduceAdd, Nat.zero_add, Nat.reduceLeDiff, List.drop_zero, List.take_succ_cons, List.take_zero, zfi, zfh, Ro.dl, zdb, zda, zfe, and_self, and_true, true_and, eq_self, List.append_nil, List.nil_append, List.cons_append, ne_eq, not_false_eq_true, and_false, false_and, Bool.false_eq_true, St.ev, zes, zfn, zhk, List.length_map]
end Go.Proofs.YtgcnmlecihegcaaGreat
