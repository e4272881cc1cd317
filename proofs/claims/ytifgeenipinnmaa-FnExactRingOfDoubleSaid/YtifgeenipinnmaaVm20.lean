/- The abstract machine: the types' table of a program, by the program. -/
import Derived.Test.YtifgeenipinnmaaVm19
set_option linter.all false
namespace Go.Proofs.Ytifgeenipinnmaa
open Go.RowKit

def fldOk (P : Program) (f : Field) : Bool := match P.info? f.type with
  | some inf => inf.size != 0
  | none => false

def sizeOk (inf : TypeInfo) : TypeDesc → Bool
  | .struct _ => true
  | .array _ _ => false
  | _ => inf.size == 1

def fldsOkD (P : Program) : TypeDesc → Bool
  | .struct fs => fs.toList.all (fldOk P)
  | _ => true

def okT (P : Program) (t : Nat) : Option (TypeInfo × TypeDesc × Value) := match P.info? t, P.underlying t with
  | some inf, some d => match inf.zero with
    | some z => if sizeOk inf d && decide (z.cells.toList.length ≤ 65536) && fldsOkD P d then some (inf, d, z) else none
    | none => none
  | _, _ => none

def tiR (P : Program) (inf : TypeInfo) (d : TypeDesc) (z : Value) : TI :=
    { size := inf.size
      isAgg := match d with | .struct _ => true | _ => false
      zero := z.cells.toList
      elem := match d with
        | .slice e => match okT P e with
          | some (ie, _, ze) => if ie.size == 1 && decide (ie.bytes ≤ 1024) && (ze.cells.size == 1) then some e else none
          | none => none
        | _ => none
      flds := match d with | .struct fs => fs.toList.map fun f => (f.offset, f.type) | _ => []
      ik := match d with | .int k => some k | _ => none
      str := match d with | .string => true | _ => false
      bl := match d with | .bool => true | _ => false }

def tiG (P : Program) (t : Nat) : Option TI := match okT P t with
  | some (inf, d, z) => some (tiR P inf d z)
  | none => none

theorem okT_spec {P : Program} {t : Nat} {inf : TypeInfo} {d : TypeDesc} {z : Value} (h : okT P t = some (inf, d, z)) :
    P.info? t = some inf ∧ P.underlying t = some d ∧ inf.zero = some z ∧ sizeOk inf d = true ∧ z.cells.toList.length ≤ 65536 ∧ ∀ fs, d = .struct fs → ∀ f, f ∈ fs.toList → fldOk P f = true := by
  unfold okT at h
  cases hi : P.info? t with
  | none => simp [hi] at h
  | some inf' =>
    cases hu : P.underlying t with
    | none => simp [hi, hu] at h
    | some d' =>
      cases hz : inf'.zero with
      | none => simp [hi, hu, hz] at h
      | some z' =>
        simp only [hi, hu, hz] at h
        by_cases hc : (sizeOk inf' d' && decide (z'.cells.toList.length ≤ 65536) && fldsOkD P d') = true
        · rw [if_pos hc] at h
          simp only [Option.some.injEq, Prod.mk.injEq] at h
          obtain ⟨rfl, rfl, rfl⟩ := h
          simp only [Bool.and_eq_true, decide_eq_true_eq] at hc
          refine ⟨rfl, rfl, hz, hc.1.1, hc.1.2, ?_⟩
          rintro fs rfl f hf
          exact List.all_eq_true.1 hc.2 f hf
        · rw [if_neg hc] at h; cases h

theorem one_cell {xs : Array Value} (h : xs.size = 1) : xs = #[xs.toList.getD 0 undef] := by
  obtain ⟨l⟩ := xs
  match l, h with
  | [x], _ => rfl

theorem tiG_ok (P : Program) : TOK P (tiG P) := by
  refine ⟨fun t i h => ?_⟩
  unfold tiG at h
  cases hk : okT P t with
  | none => simp [hk] at h
  | some q =>
    obtain ⟨inf, d, z⟩ := q
    simp only [hk, Option.some.injEq] at h
    obtain ⟨h1, h2, h3, h4, h5, h6⟩ := okT_spec hk
    subst h
    unfold tiR
    refine ⟨?_, ?_, ⟨inf, z, h1, rfl, h3, rfl⟩, ?_, ?_, ?_, ?_, h5, ?_, ?_⟩
    · intro ha
      cases d <;> simp only [reduceCtorEq, Bool.false_eq_true] at ha
      rename_i fs
      refine ⟨fs, h2, ?_⟩
      intro k off ft hf
      simp only [List.getElem?_map, Option.map_eq_some_iff, Prod.mk.injEq] at hf
      obtain ⟨f, hf1, rfl, rfl⟩ := hf
      have hm : f ∈ fs.toList := List.mem_of_getElem? hf1
      have hfo := h6 fs rfl f hm
      unfold fldOk at hfo
      cases hi : P.info? f.type with
      | none => simp [hi] at hfo
      | some fin =>
        simp only [hi] at hfo
        refine ⟨f, fin, by simpa using hf1, rfl, rfl, rfl, by simpa using hfo, ?_⟩
        intro fi hfi
        unfold tiG at hfi
        cases hk2 : okT P f.type with
        | none => simp [hk2] at hfi
        | some q =>
          obtain ⟨inf2, d2, z2⟩ := q
          simp only [hk2, Option.some.injEq] at hfi
          have := (okT_spec hk2).1
          rw [hi] at this
          simp only [Option.some.injEq] at this
          subst this
          rw [← hfi]; rfl
    · intro ha
      refine ⟨d, h2, ?_, ?_⟩
      · rintro fs rfl; simp at ha
      · rintro n e rfl; simp [sizeOk] at h4
    · intro e he
      cases d <;> simp only [reduceCtorEq] at he
      rename_i e'
      cases hk2 : okT P e' with
      | none => simp [hk2] at he
      | some q =>
        obtain ⟨ie, d2, ze⟩ := q
        simp only [hk2] at he
        by_cases hc : (ie.size == 1 && decide (ie.bytes ≤ 1024) && (ze.cells.size == 1)) = true
        · rw [if_pos hc] at he
          simp only [Option.some.injEq] at he
          subst he
          simp only [Bool.and_eq_true, decide_eq_true_eq, beq_iff_eq] at hc
          obtain ⟨g1, g2, g3, g4, g5, g6⟩ := okT_spec hk2
          refine ⟨h2, tiR P ie d2 ze, ie, ze, ?_, g1, hc.1.1, hc.1.2, g3, ?_⟩
          · unfold tiG; simp only [hk2]
          · exact one_cell hc.2
        · rw [if_neg hc] at he; cases he
    · intro k hk'
      cases d <;> simp only [reduceCtorEq, Option.some.injEq] at hk'
      subst hk'; exact h2
    · intro hs
      cases d <;> simp only [reduceCtorEq, Bool.false_eq_true] at hs
      exact h2
    · intro hs
      cases d <;> simp only [reduceCtorEq, Bool.false_eq_true] at hs
      exact h2
    · intro fs hfs f hf
      rw [h2] at hfs
      simp only [Option.some.injEq] at hfs
      have hfo := h6 fs hfs f hf
      unfold fldOk at hfo
      cases hi : P.info? f.type with
      | none => simp [hi] at hfo
      | some fin => exact ⟨fin, rfl⟩
    · intro ha
      cases d <;> simp only [sizeOk, beq_iff_eq, Bool.false_eq_true] at h4 ha <;> first | exact h4 | cases ha

end Go.Proofs.Ytifgeenipinnmaa
