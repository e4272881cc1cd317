/-
  DERIVED. GIVEN WITH THE SEED: THE CARDS: each row of YteaaangdibabnaaDoorRows.lean that lists a variable, with what it lists TIED to the program's text (the seventh form; the later family's looks); each row that meets fmt, with fmt's text TOLD by the authors' own Lean function (tested against real Go, not proved from fmt's source: count such statements apart). THE CARD IS WHAT COUNTS. Prove the row's statement (the work); the ties are given (YteaaangdibabnaaDoorTie.lean); close each card by the builder's one call (the guide's Derived/Test/ToyasCard.lean, 'card_holds'). Laid BY PROGRAM, IN A SANDBOX (cutbox-door.mjs). By AI agents, Wed Nov 11 2026. No macro, syntax, notation, axiom, sorry.
-/
import Derived.Test.YteaaangdibabnaaDoorRows
import GoSem.ClaimSeven
namespace Go.Proofs.YteaaangdibabnaaDoor
namespace Rows

/-- THE TIED CARD OF 'laws.FnExactParseRing'. -/
def fnExactParseRingCard : Claim7 := { stood := { row := fnExactParseRingRow, standIns := [], harness := (true, "aaebfeefcb3d2e45a1cba5e278a7452570b2d0667c10c6c0c47a8667cc18dca9"), looks := true }, kinds := [], alts := [], laidByText := true, laidKinds := [.data, .data, .data, .data, .sentinel, .sentinel, .pinned], laidTests := true, laidLooks := .later }
def FnExactParseRingCardSaid : Prop := Claim7.holds Tryd.pinned (.plain (OpenSpec.ofChange fnExactParseRingSpec)) fnExactParseRingCard

/-- THE SECOND FORM's CARD OF 'laws.FnExactParseRing'. -/
def fnExactParseRingUptoCard : Claim7 := { stood := { row := fnExactParseRingUptoRow, standIns := [], harness := (true, "aaebfeefcb3d2e45a1cba5e278a7452570b2d0667c10c6c0c47a8667cc18dca9"), looks := true }, kinds := [], alts := [], laidByText := true, laidKinds := [.data, .data, .data, .data, .sentinel, .sentinel, .pinned], laidTests := true, laidLooks := .later }
def FnExactParseRingUptoCardSaid : Prop := Claim7.holds Tryd.pinned (.plain (OpenSpec.upto fnExactParseRingSpec)) fnExactParseRingUptoCard
end Rows
end Go.Proofs.YteaaangdibabnaaDoor
