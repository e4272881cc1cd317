/- From a contract to a law's walk. -/
import Derived.Test.YtifgeenipinnmaaVm21
import Derived.ProofKit
set_option linter.all false
namespace Go.Proofs.Ytifgeenipinnmaa
open Go.RowKit

theorem grown_of {w w' : World} (h : Blw w w' []) : Grown w w' := by
  refine ⟨⟨h.os, h.output, fun i hi => ?_⟩, h.fr, h.size⟩
  have e := h.block i hi (by simp)
  rw [e]
  cases hx : w.heap[i]? with
  | none => trivial
  | some o => cases o <;> simp

theorem walk_of {P : Program} {f : Nat} {args : List AV} {b : Bool} (h : CallOK P f args (bo b)) {w : World} {vs : List Value} (hv : RelL (cx0 w (fun _ => False)) args vs []) :
    Calls P f vs.toArray w fun e w' => e = .returned (.bool b) ∧ Grown w w' := by
  refine (h.2.2 w (fun _ => False) vs hv (fun _ h => h.elim)).mono ?_
  rintro e w' ⟨v, A', F', rfl, h1, _, _, h4⟩
  obtain ⟨h2, _⟩ := Rel.sc_inv h1
  exact ⟨by rw [h2], grown_of h4⟩

def E0 : EC := ⟨fun _ _ => none, fun _ _ _ _ => none, fun _ => false⟩

theorem of_bodyG {P : Program} {ti : Nat → Option TI} (T : TOK P ti) (hm : P.follows .mixedOrders = true) {f : Nat} {args : List AV} {r : AV} (h : bodyE P ti E0 f args = some r) : CallOK P f args r :=
  bodyE_ok (C := cfgOf P ti) (E := E0) T (cfgOf_inl P ti) hm (fun _ _ _ h => by cases h) (fun _ _ _ _ _ _ _ h => by cases h) h

end Go.Proofs.Ytifgeenipinnmaa
