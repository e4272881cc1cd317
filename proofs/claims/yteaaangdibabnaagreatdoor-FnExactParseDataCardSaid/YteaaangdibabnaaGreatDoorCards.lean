/-
  DERIVED. GIVEN WITH THE SEED: THE CARDS: each row of YteaaangdibabnaaGreatDoorRows.lean that lists a variable, with what it lists TIED to the program's text (the seventh form; the later family's looks); each row that meets fmt, with fmt's text TOLD by the authors' own Lean function (tested against real Go, not proved from fmt's source: count such statements apart). THE CARD IS WHAT COUNTS. Prove the row's statement (the work); the ties are given (YteaaangdibabnaaGreatDoorTie.lean); close each card by the builder's one call (the guide's Derived/Test/ToyasCard.lean, 'card_holds'). Laid BY PROGRAM, IN A SANDBOX (cutbox-door.mjs). By AI agents, Wed Nov 11 2026. No macro, syntax, notation, axiom, sorry.
-/
import Derived.Test.YteaaangdibabnaaGreatDoorRows
import GoSem.ClaimSeven
namespace Go.Proofs.YteaaangdibabnaaGreatDoor
namespace Rows

/-- THE TIED CARD OF 'laws.FnExactDataText'. -/
def fnExactDataTextCard : Claim7 := { stood := { row := fnExactDataTextRow, standIns := [], harness := (true, "8ef73275ef3129233d1d9872efb757b13ea3cff38cd7aedd13b9a212542b6487"), looks := true }, kinds := [], alts := [], laidByText := true, laidKinds := [.data, .data, .data], laidTests := true, laidLooks := .later }
def FnExactDataTextCardSaid : Prop := Claim7.holds Tryz.pinned (.plain (OpenSpec.ofChange fnExactDataTextSpec)) fnExactDataTextCard

/-- THE TIED CARD OF 'laws.FnExactParseData'. -/
def fnExactParseDataCard : Claim7 := { stood := { row := fnExactParseDataRow, standIns := [], harness := (true, "8ef73275ef3129233d1d9872efb757b13ea3cff38cd7aedd13b9a212542b6487"), looks := true }, kinds := [], alts := [], laidByText := true, laidKinds := [.data, .data, .data, .data, .sentinel, .sentinel, .pinned], laidTests := true, laidLooks := .later }
def FnExactParseDataCardSaid : Prop := Claim7.holds Tryz.pinned (.plain (OpenSpec.ofChange fnExactParseDataSpec)) fnExactParseDataCard

/-- THE SECOND FORM's CARD OF 'laws.FnExactDataText'. -/
def fnExactDataTextUptoCard : Claim7 := { stood := { row := fnExactDataTextUptoRow, standIns := [], harness := (true, "8ef73275ef3129233d1d9872efb757b13ea3cff38cd7aedd13b9a212542b6487"), looks := true }, kinds := [], alts := [], laidByText := true, laidKinds := [.data, .data, .data], laidTests := true, laidLooks := .later }
def FnExactDataTextUptoCardSaid : Prop := Claim7.holds Tryz.pinned (.plain (OpenSpec.upto fnExactDataTextSpec)) fnExactDataTextUptoCard

/-- THE SECOND FORM's CARD OF 'laws.FnExactParseData'. -/
def fnExactParseDataUptoCard : Claim7 := { stood := { row := fnExactParseDataUptoRow, standIns := [], harness := (true, "8ef73275ef3129233d1d9872efb757b13ea3cff38cd7aedd13b9a212542b6487"), looks := true }, kinds := [], alts := [], laidByText := true, laidKinds := [.data, .data, .data, .data, .sentinel, .sentinel, .pinned], laidTests := true, laidLooks := .later }
def FnExactParseDataUptoCardSaid : Prop := Claim7.holds Tryz.pinned (.plain (OpenSpec.upto fnExactParseDataSpec)) fnExactParseDataUptoCard
end Rows
end Go.Proofs.YteaaangdibabnaaGreatDoor
