/- Texts joined: G4 G5. -/
import Derived.Test.YtgcnmlecihegcaaGreatMl
set_option linter.all false
/- Diagonal vectors; the law of DiagonalVector answers true. -/
namespace Go.Proofs.YtgcnmlecihegcaaGreat
open Go.RowKit
set_option maxRecDepth 1000000

theorem kIdx_refN {ro : Ro} {s g : Nat} {p : List Nat} {off n k : Nat} {z : Int} (hz : z = k) (hk : k < n) (hc : (ro.cells s g p).isSome = true) {a1 : Nat} {a2 : Bool} {a3 : List Value} {e : Nat} {a5 : List (Nat × Nat)} {a6 : Option IntKind} {a7 a8 : Bool} : kIdx (some ⟨a1, a2, a3, some e, a5, a6, a7, a8⟩) ro (.ref s g p off n) (i64 z) = some ⟨.ptr s g p (off + k), none, [], []⟩ := by
  subst hz
  rw [zen, if_pos ⟨hk, hc⟩]
def dvF (n m k : Nat) : Int := if k % (n + 1) = 0 ∧ k / (n + 1) < m then 1 else 0
def dvL (n : Nat) : List Int := rws (dvF n n) (n * n)
theorem dv_step {n m : Nat} (h4 : n ≤ 4) (hm : m < n) : (rws (fun k => i64 (dvF n m k)) (n * n)).set (m * n + m) (i64 1) = rws (fun k => i64 (dvF n (m + 1) k)) (n * n) := by
  rw [rws_set]
  refine rws_congr fun k hk => ?_
  unfold dvF
  have hn : n = 1 ∨ n = 2 ∨ n = 3 ∨ n = 4 := by omega
  by_cases h : k = m * n + m
  · rw [if_pos h, if_pos]
    rcases hn with rfl | rfl | rfl | rfl <;> omega
  · rw [if_neg h]
    have e : (k % (n + 1) = 0 ∧ k / (n + 1) < m) ↔ (k % (n + 1) = 0 ∧ k / (n + 1) < m + 1) := by
      rcases hn with rfl | rfl | rfl | rfl <;> omega
    simp only [e]
theorem dv_lt {n m : Nat} (h4 : n ≤ 4) (hm : m < n) : m * n + m < n * n ∧ n * n ≤ 16 ∧ m * n ≤ 16 := by
  have hn : n = 1 ∨ n = 2 ∨ n = 3 ∨ n = 4 := by omega
  rcases hn with rfl | rfl | rfl | rfl <;> omega
theorem noRef_tupL (xs : List Int) (v : Value) : noRef (.tup [rowL xs, .sc v]) = true := by
  have h1 := noRef_rowL xs
  simp only [noRef, noRefL, Bool.and_true] at h1 ⊢
  exact h1
theorem dvL_row (n : Nat) : rowL (dvL n) = .row (rws (fun k => i64 (dvF n n k)) (n * n)) := by simp only [rowL, dvL, rws_map]

section
variable {a b : AV} {S : List (List Int)} {T : List Int}
end
end Go.Proofs.YtgcnmlecihegcaaGreat

/- The law of DiagonalVector answers true. -/
namespace Go.Proofs.YtgcnmlecihegcaaGreat
open Go.RowKit
set_option maxRecDepth 1000000

theorem szA_sum (S : List (List Int)) (l : Int) : ∀ i, i ≤ S.length → szA S l i = l - (sumN ((S.map List.length).take i) : Nat)
  | 0, _ => by simp [szA, sumN]
  | i + 1, h => by
    have hi : i < (S.map List.length).length := by rw [List.length_map]; omega
    have e : (S.map List.length).getD i 0 = (row S i).length := by
      unfold row
      simp only [List.getD_eq_getElem?_getD, List.getElem?_map]
      cases S[i]? <;> rfl
    simp only [szA]
    rw [szA_sum S l i (by omega), sumN_take _ i hi, e]
    omega
theorem szD_sum {S : List (List Int)} {T : List Int} {left : Int} (h : ¬ szD S T left < 0) : (sumN (S.map List.length) : Int) + T.length ≤ left := by
  have h2 := szA_sum S (left - S.length) S.length (Nat.le_refl _)
  rw [List.take_of_length_le (by simp)] at h2
  unfold szD at h
  split at h
  · omega
  · rename_i h1
    unfold szV at h
    split at h
    · omega
    · omega
/-- What both numbering functions make of data. -/
theorem lens_max {S : List (List Int)} (hR : ∀ i, i < S.length → (row S i).length ≤ maxN) (j : Nat) : (S.map List.length).getD j 0 ≤ maxN := by
  have := row_max hR j
  simp only [List.getD_eq_getElem?_getD, List.getElem?_map] at this ⊢
  cases h : S[j]? <;> simp_all
theorem impE_tupL (b : Nat) (gn : Nat → Nat) (xs : List AV) (v : Value) : impE b gn (.tup [.row xs, .sc v]) = ⟨.tup [.ref b (gn b + 1) [] 0 xs.length, .sc v], none, [], [(b, .row xs)]⟩ := nr _
attribute [go_sem] impE_tupL

theorem c31t {xs : List Int} {a b : AV} (ha : isL a xs) (hb : isL b xs) (hx : xs.length ≤ maxN) : CallOK Tryz.prog 84 [a, b] (bo true) := by
  have := c31 ha hb hx
  rwa [decide_eq_true rfl] at this

end Go.Proofs.YtgcnmlecihegcaaGreat
