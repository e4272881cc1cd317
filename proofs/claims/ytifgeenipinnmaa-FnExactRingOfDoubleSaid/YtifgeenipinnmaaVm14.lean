/- The abstract machine: code. -/
import Derived.Test.YtifgeenipinnmaaVm13
import Derived.Deep.LoopGhost
set_option linter.all false
namespace Go.Proofs.Ytifgeenipinnmaa
open Go.RowKit

section
variable {w0 : World} {A0 : Nat → Prop} {F0 : List Nat} {C : Cfg} {cS : Cx} {n : Nat}

def SRx (w0 : World) (A0 : Nat → Prop) (F0 : List Nat) (cS : Cx) (n : Nat) (st : St) (a : Act) (w : World) : Prop := ∃ c Φ, c.w = w ∧ SR w0 A0 F0 cS n st a c Φ

theorem opsW_ok (T : TOK C.P C.ti) (hI : InlOK C) (rid : Nat) (ops : Array Oper) {K : Exit → Act → World → Prop} : ∀ (l : List Oper) (i : Nat) {Q : St → Prop} {st : St} {a : Act} {c : Cx} {Φ : Nat → Nat → List Nat}, SR w0 A0 F0 cS n st a c Φ →
    (∀ o, o ∈ l → ∀ t, o.dst = some t → t < n) → opsW C rid ops l i Q st → (∀ st' a' c' Φ', SR w0 A0 F0 cS n st' a' c' Φ' → Q st' → K .normal a' c'.w) → wpList C.P ops K l a c.w
  | [], i, Q, st, a, c, Φ, h, _, hq, hK => hK _ _ _ _ h hq
  | o :: rest, i, Q, st, a, c, Φ, h, hd, hq, hK => by
    have main : ∀ st', stepR C rid ops i o st st' → opsW C rid ops rest (i + 1) Q st' → wpList C.P ops K (o :: rest) a c.w := by
      intro st' hs hrest
      have := step_ok (w0 := w0) (A0 := A0) (F0 := F0) T h (hd o (by simp)) hs (K := wpList C.P ops K rest) (Q := K) (fun a' c' Φ' h' => opsW_ok T hI rid ops rest (i + 1) h' (fun o ho => hd o (by simp [ho])) hrest hK)
      unfold wpList
      split
      · rename_i hw; rw [if_pos hw] at this; exact .inl this
      · rename_i hw; rw [if_neg hw] at this; exact this
    simp only [opsW] at hq
    cases hw : zbl ops o st with
    | none => simp [hw] at hq
    | some t =>
      cases t
      · simp only [hw] at hq; exact main _ (by unfold stepR; rw [hw]) hq
      · simp only [hw] at hq
        rcases hq with ⟨e, h1, h2⟩ | ⟨r, ro', gn', h1, h2⟩
        · exact main _ (by unfold stepR; rw [hw]; exact ⟨e, h1, rfl⟩) h2
        · have := step_in_ok (w0 := w0) (A0 := A0) (F0 := F0) (o := o) hI h (hd o (by simp)) h1 (K := wpList C.P ops K rest) (Q := K) (fun a' c' Φ' h' => opsW_ok T hI rid ops rest (i + 1) h' (fun o ho => hd o (by simp [ho])) h2 hK)
          unfold wpList
          rw [if_pos (want_ok h hw)]
          exact .inl this

end

end Go.Proofs.Ytifgeenipinnmaa
