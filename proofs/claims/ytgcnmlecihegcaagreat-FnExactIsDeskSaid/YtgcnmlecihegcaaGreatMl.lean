/- Texts joined: G2 G3 O1. -/
import Derived.ChangeOld
import Derived.Below
import Derived.Carry
import Derived.Deep.Slices
import Derived.ChangeSlices
import Derived.Lib.SmallJoins
import Derived.Test.YtgcnmlecihegcaaGreatMk
set_option linter.all false
/- Charges; balances. -/
namespace Go.Proofs.YtgcnmlecihegcaaGreat
open Go.RowKit
set_option maxRecDepth 1000000

/-- The code of data and a charge. -/
noncomputable def chg (S : List (List Int)) (T : List Int) (i : Int) : Int := by
  classical exact if DataP S T then (if 0 ≤ i ∧ i ≤ (T.length : Int) - 1 then 0 else 2) else 1
theorem chg0 {S : List (List Int)} {T : List Int} {i : Int} (h : DataP S T) (hi : 0 ≤ i ∧ i ≤ (T.length : Int) - 1) : chg S T i = 0 := by unfold chg; rw [if_pos h, if_pos hi]
theorem chg2 {S : List (List Int)} {T : List Int} {i : Int} (h : DataP S T) (hi : ¬ (0 ≤ i ∧ i ≤ (T.length : Int) - 1)) : chg S T i = 2 := by unfold chg; rw [if_pos h, if_neg hi]
theorem chg1 {S : List (List Int)} {T : List Int} {i : Int} (h : ¬ DataP S T) : chg S T i = 1 := by unfold chg; rw [if_neg h]

section
variable {a b : AV} {S : List (List Int)} {T : List Int}
theorem c66t (ha : isLL a S) (hb : isL b T) (hS : S.length ≤ maxN) (hT : T.length ≤ maxN) (hR : ∀ i, i < S.length → (row S i).length ≤ maxN) (h : DataP S T) : CallOK Tryz.prog 31 [.agg [a, b]] (bo true) := c66 ha hb hS hT hR (by simp [h])
theorem c66f (ha : isLL a S) (hb : isL b T) (hS : S.length ≤ maxN) (hT : T.length ≤ maxN) (hR : ∀ i, i < S.length → (row S i).length ≤ maxN) (h : ¬ DataP S T) : CallOK Tryz.prog 31 [.agg [a, b]] (bo false) := c66 ha hb hS hT hR (by simp [h])
theorem c62t (ha : isLL a S) (hb : isL b T) (hS : S.length ≤ maxN) (hT : T.length ≤ maxN) (hR : ∀ i, i < S.length → (row S i).length ≤ maxN) (h : DataP S T) : CallOK Tryz.prog 21 [.agg [a, b]] (bo true) := c62 ha hb hS hT hR (by simp [h])
theorem c62f (ha : isLL a S) (hb : isL b T) (hS : S.length ≤ maxN) (hT : T.length ≤ maxN) (hR : ∀ i, i < S.length → (row S i).length ≤ maxN) (h : ¬ DataP S T) : CallOK Tryz.prog 21 [.agg [a, b]] (bo false) := c62 ha hb hS hT hR (by simp [h])

end
/-- What data is. -/
structure Dat (S : List (List Int)) (T : List Int) : Prop where
  shp : Shp S T
  m16 : T.length ≤ 16
  sta : StaP S T
  whl : ¬ whl S T.length = 0
  cj : CjP S T
  tur : TurP S T
  ring : RingP (cubeL (nmE S T.length (cjL S T)) T.length)
theorem DataP.dat {S : List (List Int)} {T : List Int} (h : DataP S T) : Dat S T := by
  obtain ⟨h0, h1, h2, h3, h4⟩ := DF_inv h.2
  exact ⟨Shp_of h.1, h.1.2.1, h0, h1, h2, h3, h4⟩
theorem Dat.cube {S : List (List Int)} {T : List Int} (h : Dat S T) : cubeOk (nmE S T.length (cjL S T)) T.length := ((CubeP_iff h.shp.pos).1 h.ring.1).1
theorem cjA_nat {S : List (List Int)} {T : List Int} (h : Dat S T) {i : Nat} (hi : i < T.length) : ∃ c : Nat, cjA S T i = c ∧ c < T.length ∧ atI (cjL S T) i = c := by
  have := cj_rng h.shp h.cj i hi
  have e : atI (cjL S T) i = cjA S T i := atI_rws _ hi
  rw [e] at this
  exact ⟨(cjA S T i).toNat, by omega, by omega, by rw [e]; omega⟩

/-! ### Places in cubes -/
def in2 (i j : Nat) : Option AV → Option (List AV)
  | some (.row cs) => match cs[i]? with
    | some (.row ds) => rowO ds[j]?
    | _ => none
  | _ => none
theorem cells_two (ro : Ro) (s g i j : Nat) : ro.cells s g [i, j] = in2 i j (ro s g) := by
  unfold Ro.cells in2 Ro.at
  cases h : ro s g with
  | none => rfl
  | some a =>
    cases a <;> try rfl
    rename_i cs
    simp only [ath]
    cases h2 : cs[i]? with
    | none => rfl
    | some c =>
      cases c <;> try rfl
      rename_i ds
      simp only [ath]
      cases h3 : ds[j]? with
      | none => rfl
      | some d => cases d <;> rfl
theorem in2_rws {f : Nat → Nat → List AV} {n m i j : Nat} (hi : i < n) (hj : j < m) : in2 i j (some (.row (rws (fun i => .row (rws (fun j => .row (f i j)) m)) n))) = some (f i j) := by
  simp only [in2, rws_get _ _ _ hi, rws_get _ _ _ hj, rowO_row]
attribute [go_sem] cells_two in2_rws impE_agg1 kFieldV

/-! ### Balances -/
def baT (S : List (List Int)) (T : List Int) (c j k : Nat) : Int := nmE S T.length (cjL S T) c j k * (atI T k * atI (row S 0) k % 55441)
/-- The reference's sum. -/
def baS (S : List (List Int)) (T : List Int) (c j : Nat) : Nat → Int
  | 0 => 0
  | k + 1 => (baS S T c j k + baT S T c j k) % 55441
theorem num_baS (S : List (List Int)) (T : List Int) (c j : Nat) : ∀ k, num (baS S T c j k)
  | 0 => ⟨Int.le_refl _, by show (0 : Int) < 55441; decide⟩
  | _ + 1 => num_mod _
/-- The program's terms. -/
def bbT (S : List (List Int)) (T : List Int) (c j k : Nat) : Int := nmE S T.length (cjL S T) c j k * atI T k % 55441 * atI (row S 0) k % 55441
theorem num_bbT (S : List (List Int)) (T : List Int) (c j k : Nat) : 0 ≤ bbT S T c j k ∧ bbT S T c j k ≤ 55440 := by
  have := num_mod (nmE S T.length (cjL S T) c j k * atI T k % 55441 * atI (row S 0) k)
  unfold num at this; unfold bbT; omega
theorem MM.add {a b c d : Int} (h1 : MM a b) (h2 : MM c d) : MM (a + c) (b + d) := by
  unfold MM at *; rw [Int.add_emod, h1, h2, ← Int.add_emod]
theorem ba_bb (S : List (List Int)) (T : List Int) (c j : Nat) : ∀ k, MM (baS S T c j k) (sm (bbT S T c j) k)
  | 0 => MM.rfl
  | k + 1 => by
    refine (MM.mod _).trans (MM.add (ba_bb S T c j k) ?_)
    unfold baT bbT
    refine MM.trans (MM.mul MM.rfl (MM.mod _)) (MM.symm ((MM.mod _).trans ((MM.mul (MM.mod _) MM.rfl).trans ?_)))
    rw [Int.mul_assoc]; exact MM.rfl
def balV (S : List (List Int)) (T : List Int) (c i j : Nat) : Int := baS S T c j T.length * pw (atI T i) 55439 % 55441 * pw (atI T j) 55439 % 55441
theorem pw_MM (a b : Int) : MM (pw (a * b % 55441) 55439) (pw a 55439 * pw b 55439) := by
  unfold pw
  have h1 : MM ((a * b % 55441) ^ (55439 : Int).toNat) ((a * b) ^ (55439 : Int).toNat) := by
    have : ∀ n : Nat, MM ((a * b % 55441) ^ n) ((a * b) ^ n) := by
      intro n
      induction n with
      | zero => rw [Int.pow_zero, Int.pow_zero]; exact MM.rfl
      | succ n ih => rw [Int.pow_succ, Int.pow_succ]; exact MM.mul ih (MM.mod _)
    exact this _
  have h2 : ∀ n : Nat, (a * b) ^ n = a ^ n * b ^ n := by
    intro n
    induction n with
    | zero => rw [Int.pow_zero, Int.pow_zero, Int.pow_zero]; rfl
    | succ n ih =>
      rw [Int.pow_succ, Int.pow_succ, Int.pow_succ, ih]
      rw [Int.mul_assoc, Int.mul_assoc]
      congr 1
      rw [← Int.mul_assoc, ← Int.mul_assoc, Int.mul_comm (b ^ n) a]
  refine (MM.mod _).trans (h1.trans ?_)
  rw [h2]
  exact MM.symm (MM.mul (MM.mod _) (MM.mod _))
theorem bal_eq (S : List (List Int)) (T : List Int) (c i j : Nat) : qt (sm (bbT S T c j) T.length % 55441) (atI T i * atI T j % 55441) = balV S T c i j := by
  unfold qt balV
  show MM _ _
  have h1 : MM (sm (bbT S T c j) T.length % 55441 * pw (atI T i * atI T j % 55441) 55439) (baS S T c j T.length * (pw (atI T i) 55439 * pw (atI T j) 55439)) :=
    MM.mul ((MM.mod _).trans (ba_bb S T c j T.length).symm) (pw_MM _ _)
  refine h1.trans (MM.symm ?_)
  refine (MM.mul (MM.mod _) MM.rfl).trans ?_
  rw [Int.mul_assoc]; exact MM.rfl

section
variable {a b : AV} {S : List (List Int)} {T : List Int}
theorem c64d (ha : isLL a S) (hb : isL b T) (D : Dat S T) : CallOK Tryz.prog 93 [.agg [a, b]] (rowL (cjL S T)) := by
  have hcs := cj_same D.shp D.whl
  have hdl : rws (djA S) T.length = cjL S T := rws_congr fun i hi => hcs.2 D.cj i hi
  exact c64 hb ha D.shp (noRef_rowL _) (fun _ => by rw [hdl]) (fun h => absurd (hcs.1.2 D.cj) h)
end
end Go.Proofs.YtgcnmlecihegcaaGreat

/- The law of BalanceOf answers true. -/
namespace Go.Proofs.YtgcnmlecihegcaaGreat
open Go.RowKit
set_option maxRecDepth 1000000
theorem impE_tup2 (b : Nat) (gn : Nat → Nat) (v x : Value) : impE b gn (.tup [.sc v, .sc x]) = ⟨.tup [.sc v, .sc x], none, [], []⟩ := nr _
theorem maxN_of {n : Nat} (h : (n : Int) ≤ 1048576) : n ≤ maxN := Nat.le_trans (by omega : n ≤ 1048576) (by decide)
attribute [go_sem] impE_tup2 impE_agg2

theorem ti48 : ti0 45 = ti0 45 := rfl

theorem row_max {S : List (List Int)} (hR : ∀ i, i < S.length → (row S i).length ≤ maxN) (j : Nat) : (S.getD j []).length ≤ maxN := by
  rcases Nat.lt_or_ge j S.length with h | h
  · exact hR j h
  · have : S.getD j [] = [] := by simp [List.getD_eq_getElem?_getD, List.getElem?_eq_none h]
    rw [this]; exact Nat.zero_le _

end Go.Proofs.YtgcnmlecihegcaaGreat

/- What a statement hands in, read by the machine. -/
namespace Go.Proofs.YtgcnmlecihegcaaGreat
open Go.RowKit Go.ChangeShapes Go.WideShapes Go.Deep Go.Joins

theorem walk_below {P : Program} {f : Nat} {args : List AV} {b : Bool} (h : CallOK P f args (bo b)) {w : World} {vs : List Value} (hv : RelL (cx0 w (fun _ => False)) args vs []) :
    Calls P f vs.toArray w fun e w' => e = .returned (.bool b) ∧ Below w.heap.size w w' := by
  refine (h.2.2 w (fun _ => False) vs hv (fun _ h => h.elim)).mono ?_
  rintro e w' ⟨v, A', F', rfl, h1, _, _, h4⟩
  obtain ⟨h2, _⟩ := Rel.sc_inv h1
  exact ⟨by rw [h2], ⟨h4.os, h4.tape, h4.output, h4.size, fun k hk => h4.block k hk (by simp)⟩⟩

theorem RelL.mapO {c : Cx} {f : Nat → AV} {g : Nat → Value} : ∀ {l : List Nat}, (∀ i, i ∈ l → Rel c (f i) (g i) []) → RelL c (l.map f) (l.map g) []
  | [], _ => .nil
  | i :: l, h => RelL.cons (h i (by simp)) (RelL.mapO fun j hj => h j (by simp [hj])) (by simp)
theorem isLws_map {f : Nat → AV} {g : Nat → List Int} : ∀ {l : List Nat}, (∀ i, i ∈ l → isLw (f i) (g i)) → isLws (l.map f) (l.map g)
  | [], _ => trivial
  | i :: l, h => ⟨h i (by simp), isLws_map fun j hj => h j (by simp [hj])⟩
theorem cell_spot {w : World} {a : Addr} {v : Value} (h : w.cell? a = some v) : a.spot = none ∧ a.block < w.heap.size := by
  unfold World.cell? at h
  split at h
  · rename_i c E fr hb
    split at h
    · cases h
    · rename_i hs
      refine ⟨by cases hsp : a.spot <;> simp_all, ?_⟩
      exact (Array.getElem?_eq_some_iff.1 hb).1
  · cases h
theorem add_plain {a : Addr} (h : a.spot = none) (i : Nat) : a.add i = ⟨a.block, a.off + i, none⟩ := by
  unfold Addr.add
  split
  · rename_i hi; subst hi; cases a; simp_all
  · rfl

theorem wf64 {a : Int} (h : (Lit.int .i64 a).wf = true) : -2^63 ≤ a ∧ a < 2^63 := by
  simp only [Lit.wf, Bool.and_eq_true, decide_eq_true_eq] at h
  have h1 : -2^63 ≤ a := h.1
  have h2 : a ≤ 2^63 - 1 := h.2
  omega
section
variable {H : Type} {enc : TypeId × Value → H} {P : Program} {w : World} {held : Bool}
/-- A slice of integers. -/
theorem open_w1 {t e : TypeId} {fuel : Nat} {v : Value} {x : DataW H × List MemPlace} (ht : P.underlying t = some (.slice e)) (he : P.underlying e = some (.int .i64)) (hc : P.cellsOf e = 1) (h : DataW.trod enc P w 0 (fun _ => true) held fuel t [v] = some x) :
    ∃ a xs, Rel (cx0 w (fun _ => False)) a v [] ∧ isLw a xs ∧ xs.length < 2^63 ∧ ∀ j, -2^63 ≤ atI xs j ∧ atI xs j < 2^63 := by
  rcases open_ints ht he hc h with ⟨hcs, _⟩ | ⟨ad, len, cap, zs, hcs, _, hl, hm, hz, _, hcell, hwf⟩
  · simp only [List.cons.injEq, and_true] at hcs
    subst hcs
    exact ⟨.sc (.slice none 0 0), [], .sc _ .nil, .inr ⟨rfl, _, _, rfl⟩, by simp, fun j => by simp [atI]⟩
  · simp only [List.cons.injEq, and_true] at hcs
    subst hcs
    simp only [if_true] at hz
    have hmx : cap < 2^63 := Nat.lt_of_le_of_lt hm (by decide)
    rcases Nat.eq_zero_or_pos len with h0 | hpos
    · subst h0
      exact ⟨.sc (.slice (some ad) 0 cap), [], .sc _ .nil, .inr ⟨rfl, _, _, rfl⟩, by simp, fun j => by simp [atI]⟩
    · have hc0 := hcell 0 (by omega)
      obtain ⟨hs, hb⟩ := cell_spot hc0
      have hs' : ad.spot = none := by simpa [Addr.add] using hs
      have hb' : ad.block < w.heap.size := by simpa [Addr.add] using hb
      have hlen : (zs.take len).length = len := by rw [List.length_take]; omega
      have hlen2 : ((zs.take len).map (Value.int .i64)).length = len := by rw [List.length_map, hlen]
      refine ⟨.imm ((zs.take len).map i64), zs.take len, ?_, .inl rfl, by omega, fun j => ?_⟩
      · have hr : RelL (cx0 w (fun _ => False)) ((zs.take len).map i64) ((zs.take len).map (Value.int .i64)) [] := by
          have := relL_sc (cx0 w (fun _ => False)) ((zs.take len).map (Value.int .i64))
          rwa [List.map_map] at this
        have := RelL.imm (c := cx0 w (fun _ => False)) ad.block ad.off cap hr ⟨fun h => h, hb', fun i u hu => ?_⟩ (by rw [hlen2]; exact hl) RelL.nil
        · rw [hlen2] at this
          have e : (⟨ad.block, ad.off, none⟩ : Addr) = ad := by cases ad; simp_all
          rwa [e] at this
        · show w.cell? ⟨ad.block, ad.off + i, none⟩ = some u
          rw [← add_plain hs' i]
          have hi : i < len := by
            have := (List.getElem?_eq_some_iff.1 hu).1
            rwa [hlen2] at this
          rw [hcell i (by omega)]
          rw [List.getElem?_map, List.getElem?_take, if_pos hi] at hu
          cases hzi : zs[i]? with
          | none => rw [hzi] at hu; cases hu
          | some z =>
            rw [hzi] at hu
            simp only [Option.map_some, Option.some.injEq] at hu
            rw [← hu]
            simp [List.getD_eq_getElem?_getD, hzi]
      · rcases Nat.lt_or_ge j (zs.take len).length with hj | hj
        · have hmem : atI (zs.take len) j ∈ zs := by
            have : atI (zs.take len) j = (zs.take len)[j] := by simp only [atI, List.getD_eq_getElem?_getD, List.getElem?_eq_getElem hj, Option.getD_some]
            rw [this]
            exact List.mem_of_mem_take (List.getElem_mem hj)
          exact wf64 (hwf _ hmem)
        · rw [atI_out hj]; exact ⟨by decide, by decide⟩
/-- A slice of slices of integers. -/
theorem open_w2 {t t1 e : TypeId} {fuel : Nat} {v : Value} {x : DataW H × List MemPlace} (ht : P.underlying t = some (.slice t1)) (ht1 : P.underlying t1 = some (.slice e)) (he : P.underlying e = some (.int .i64)) (hc1 : P.cellsOf t1 = 1) (hc : P.cellsOf e = 1)
    (h : DataW.trod enc P w 0 (fun _ => true) held fuel t [v] = some x) :
    ∃ a S, Rel (cx0 w (fun _ => False)) a v [] ∧ isLLw a S ∧ S.length < 2^63 ∧ (∀ i, (row S i).length < 2^63) ∧ ∀ i j, -2^63 ≤ atI (row S i) j ∧ atI (row S i) j < 2^63 := by
  rcases open_slice ht h with ⟨hcs, _⟩ | ⟨ad, len, cap, m, n, D, Pl, hcs, _, hl, hm, hmm, _, hel⟩
  · simp only [List.cons.injEq, and_true] at hcs
    subst hcs
    exact ⟨.sc (.slice none 0 0), [], .sc _ .nil, .inr ⟨rfl, _, _, rfl⟩, by simp, fun i => by simp [row], fun i j => by simp [row, atI]⟩
  · simp only [List.cons.injEq, and_true] at hcs
    subst hcs
    simp only [if_true] at hmm
    subst hmm
    have hmx : m < 2^63 := Nat.lt_of_le_of_lt hm (by decide)
    rcases Nat.eq_zero_or_pos len with h0 | hpos
    · subst h0
      exact ⟨.sc (.slice (some ad) 0 m), [], .sc _ .nil, .inr ⟨rfl, _, _, rfl⟩, by simp, fun i => by simp [row], fun i j => by simp [row, atI]⟩
    · have hrow : ∀ i, i < m → ∃ u a xs, w.cell? (ad.add i) = some u ∧ Rel (cx0 w (fun _ => False)) a u [] ∧ isLw a xs ∧ xs.length < 2^63 ∧ ∀ j, -2^63 ≤ atI xs j ∧ atI xs j < 2^63 := by
        intro i hi
        obtain ⟨cs', hcl, htr⟩ := hel i hi
        rw [hc1] at hcl
        obtain ⟨_, hlen, hat⟩ := World.cells?_some hcl
        obtain ⟨u, rfl⟩ : ∃ u, cs' = [u] := by
          match cs', hlen with
          | [u], _ => exact ⟨u, rfl⟩
        have h0 := hat 0 (by omega)
        obtain ⟨a, xs, r1, r2, r3, r4⟩ := open_w1 ht1 he hc htr
        refine ⟨u, a, xs, ?_, r1, r2, r3, r4⟩
        simpa [Addr.add, Nat.mul_one] using h0
      obtain ⟨hs, hb⟩ := cell_spot (hrow 0 (by omega)).choose_spec.choose_spec.choose_spec.1
      have hs' : ad.spot = none := by simpa [Addr.add] using hs
      have hb' : ad.block < w.heap.size := by simpa [Addr.add] using hb
      have hall : ∀ i, ∃ q : Value × AV × List Int, i < m → w.cell? (ad.add i) = some q.1 ∧ Rel (cx0 w (fun _ => False)) q.2.1 q.1 [] ∧ isLw q.2.1 q.2.2 ∧ q.2.2.length < 2^63 ∧ ∀ j, -2^63 ≤ atI q.2.2 j ∧ atI q.2.2 j < 2^63 := by
        intro i
        by_cases hi : i < m
        · obtain ⟨u, a, xs, r⟩ := hrow i hi
          exact ⟨(u, a, xs), fun _ => r⟩
        · exact ⟨(.bool false, .dead, []), fun h => absurd h hi⟩
      obtain ⟨q, hq⟩ := Classical.axiomOfChoice hall
      have hget : ∀ i, i < len → row ((List.range len).map fun i => (q i).2.2) i = (q i).2.2 := fun i hi => by simp [row, hi]
      refine ⟨.imm ((List.range len).map fun i => (q i).2.1), (List.range len).map fun i => (q i).2.2, ?_, .inl ⟨_, rfl, isLws_map fun i hi => ?_⟩, by simp; omega, fun i => ?_, fun i j => ?_⟩
      · have hr : RelL (cx0 w (fun _ => False)) ((List.range len).map fun i => (q i).2.1) ((List.range len).map fun i => (q i).1) [] :=
          RelL.mapO fun i hi => (hq i (by have := List.mem_range.1 hi; omega)).2.1
        have hlen2 : ((List.range len).map fun i => (q i).1).length = len := by simp
        have := RelL.imm (c := cx0 w (fun _ => False)) ad.block ad.off m hr ⟨fun h => h, hb', fun i u hu => ?_⟩ (by rw [hlen2]; exact hl) RelL.nil
        · rw [hlen2] at this
          have e : (⟨ad.block, ad.off, none⟩ : Addr) = ad := by cases ad; simp_all
          rwa [e] at this
        · show w.cell? ⟨ad.block, ad.off + i, none⟩ = some u
          rw [← add_plain hs' i]
          have hi : i < len := by
            have := (List.getElem?_eq_some_iff.1 hu).1
            rwa [hlen2] at this
          rw [(hq i (by omega)).1]
          simp [hi] at hu
          rw [hu]
      · exact (hq i (by have := List.mem_range.1 hi; omega)).2.2.1
      · rcases Nat.lt_or_ge i len with hi | hi
        · rw [hget i hi]; exact (hq i (by omega)).2.2.2.1
        · rw [row_out (by simpa using hi)]; simp
      · rcases Nat.lt_or_ge i len with hi | hi
        · rw [hget i hi]; exact (hq i (by omega)).2.2.2.2 j
        · rw [row_out (by simpa using hi), atI_out (by simp)]; exact ⟨by decide, by decide⟩
end
end Go.Proofs.YtgcnmlecihegcaaGreat
