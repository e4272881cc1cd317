/-
  DERIVED. GIVEN WITH THE SEED: THE CARDS: each row of YtkimbjcaoolfpaaGreatDoorRows.lean that lists a variable, with what it lists TIED to the program's text (the seventh form; the later family's looks); each row that meets fmt, with fmt's text TOLD by the authors' own Lean function (tested against real Go, not proved from fmt's source: count such statements apart). THE CARD IS WHAT COUNTS. Prove the row's statement (the work); the ties are given (YtkimbjcaoolfpaaGreatDoorTie.lean); close each card by the builder's one call (the guide's Derived/Test/ToyasCard.lean, 'card_holds'). Laid BY PROGRAM, IN A SANDBOX (cutbox-door.mjs). By AI agents, Wed Nov 11 2026. No macro, syntax, notation, axiom, sorry.
-/
import Derived.Test.YtkimbjcaoolfpaaGreatDoorRows
import GoSem.ClaimSeven
namespace Go.Proofs.YtkimbjcaoolfpaaGreatDoor
namespace Rows

/-- THE TIED CARD OF 'laws.FnExactWordTrace'. -/
def fnExactWordTraceCard : Claim7 := { stood := { row := fnExactWordTraceRow, standIns := [], harness := (true, "8bbdf901a037ad66634f66cb45e058b2488c4fc7695b999230d82a34034b80c5"), looks := false }, kinds := [], alts := [], laidByText := true, laidKinds := [.data, .pinned], laidTests := true, laidLooks := .later }
def FnExactWordTraceCardSaid : Prop := Claim7.holds Tryz.pinned (.plain (OpenSpec.ofChange fnExactWordTraceSpec)) fnExactWordTraceCard

/-- THE TIED CARD OF 'laws.FnExactAreProportional'. -/
def fnExactAreProportionalCard : Claim7 := { stood := { row := fnExactAreProportionalRow, standIns := [], harness := (true, "8bbdf901a037ad66634f66cb45e058b2488c4fc7695b999230d82a34034b80c5"), looks := false }, kinds := [], alts := [], laidByText := true, laidKinds := [.data, .pinned], laidTests := true, laidLooks := .later }
def FnExactAreProportionalCardSaid : Prop := Claim7.holds Tryz.pinned (.plain (OpenSpec.ofChange fnExactAreProportionalSpec)) fnExactAreProportionalCard

/-- THE TIED CARD OF 'laws.FnExactWordMatrix'. -/
def fnExactWordMatrixCard : Claim7 := { stood := { row := fnExactWordMatrixRow, standIns := [], harness := (true, "8bbdf901a037ad66634f66cb45e058b2488c4fc7695b999230d82a34034b80c5"), looks := false }, kinds := [], alts := [], laidByText := true, laidKinds := [.data, .pinned], laidTests := true, laidLooks := .later }
def FnExactWordMatrixCardSaid : Prop := Claim7.holds Tryz.pinned (.plain (OpenSpec.ofChange fnExactWordMatrixSpec)) fnExactWordMatrixCard

/-- THE TIED CARD OF 'laws.FnExactProjectiveOrder'. -/
def fnExactProjectiveOrderCard : Claim7 := { stood := { row := fnExactProjectiveOrderRow, standIns := [], harness := (true, "8bbdf901a037ad66634f66cb45e058b2488c4fc7695b999230d82a34034b80c5"), looks := false }, kinds := [], alts := [], laidByText := true, laidKinds := [.data, .pinned], laidTests := true, laidLooks := .later }
def FnExactProjectiveOrderCardSaid : Prop := Claim7.holds Tryz.pinned (.plain (OpenSpec.ofChange fnExactProjectiveOrderSpec)) fnExactProjectiveOrderCard

/-- THE SECOND FORM's CARD OF 'laws.FnExactWordTrace'. -/
def fnExactWordTraceUptoCard : Claim7 := { stood := { row := fnExactWordTraceUptoRow, standIns := [], harness := (true, "8bbdf901a037ad66634f66cb45e058b2488c4fc7695b999230d82a34034b80c5"), looks := false }, kinds := [], alts := [], laidByText := true, laidKinds := [.data, .pinned], laidTests := true, laidLooks := .later }
def FnExactWordTraceUptoCardSaid : Prop := Claim7.holds Tryz.pinned (.plain (OpenSpec.upto fnExactWordTraceSpec)) fnExactWordTraceUptoCard

/-- THE SECOND FORM's CARD OF 'laws.FnExactAreProportional'. -/
def fnExactAreProportionalUptoCard : Claim7 := { stood := { row := fnExactAreProportionalUptoRow, standIns := [], harness := (true, "8bbdf901a037ad66634f66cb45e058b2488c4fc7695b999230d82a34034b80c5"), looks := false }, kinds := [], alts := [], laidByText := true, laidKinds := [.data, .pinned], laidTests := true, laidLooks := .later }
def FnExactAreProportionalUptoCardSaid : Prop := Claim7.holds Tryz.pinned (.plain (OpenSpec.upto fnExactAreProportionalSpec)) fnExactAreProportionalUptoCard

/-- THE SECOND FORM's CARD OF 'laws.FnExactWordMatrix'. -/
def fnExactWordMatrixUptoCard : Claim7 := { stood := { row := fnExactWordMatrixUptoRow, standIns := [], harness := (true, "8bbdf901a037ad66634f66cb45e058b2488c4fc7695b999230d82a34034b80c5"), looks := false }, kinds := [], alts := [], laidByText := true, laidKinds := [.data, .pinned], laidTests := true, laidLooks := .later }
def FnExactWordMatrixUptoCardSaid : Prop := Claim7.holds Tryz.pinned (.plain (OpenSpec.upto fnExactWordMatrixSpec)) fnExactWordMatrixUptoCard

/-- THE SECOND FORM's CARD OF 'laws.FnExactProjectiveOrder'. -/
def fnExactProjectiveOrderUptoCard : Claim7 := { stood := { row := fnExactProjectiveOrderUptoRow, standIns := [], harness := (true, "8bbdf901a037ad66634f66cb45e058b2488c4fc7695b999230d82a34034b80c5"), looks := false }, kinds := [], alts := [], laidByText := true, laidKinds := [.data, .pinned], laidTests := true, laidLooks := .later }
def FnExactProjectiveOrderUptoCardSaid : Prop := Claim7.holds Tryz.pinned (.plain (OpenSpec.upto fnExactProjectiveOrderSpec)) fnExactProjectiveOrderUptoCard
end Rows
end Go.Proofs.YtkimbjcaoolfpaaGreatDoor
