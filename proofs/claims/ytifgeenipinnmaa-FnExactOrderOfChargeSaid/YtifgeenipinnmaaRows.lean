/-
  No cell of these rows narrows 'for every input' (looked for: loops, veiled, ifaces, maps, wideKeys, modest, calm, conditions, laid).
  DERIVED. THE GIVEN ROWS OF THIS SEAT. 7 by the template 'for every input the law returns true; each argument reads behind the call as it read before'; 0 by the template 'total and deterministic' (their statements: YtifgeenipinnmaaTotals.lean).
  GIVEN WITH THE SEED: the statements are not yours to turn. If you find one false, say at which input.
  Laid BY PROGRAM, IN A SANDBOX (cutbox-rows.mjs): the forced cells as the released guide's own fill.sh prints them over the translation 35b4dcb89cd82fb5… (all of the seat's roots in one cut). By AI agents, Wed Nov 11 2026. No macro, syntax, notation, axiom, sorry.
-/
import Derived.Test.YtifgeenipinnmaaChecked
import GoSem.Claim
import GoSem.ClaimJoined
import GoSem.ClaimMapViews
import Derived.JoinedTies
import Derived.KernelRfl
namespace Go.Proofs.Ytifgeenipinnmaa
/- THE CELL 'sum', in the pinned program and in every row, IS THE sha256 OF THE DUMP (.gsa) THAT YtifgeenipinnmaaProg.lean LOADS. Nothing in Lean hashes anything: it is a label: what it is worth is what the hold of that sum in a sandbox is worth. -/
noncomputable def Try.pinned : Pinned := { name := "ytifgeenipinnmaa", sum := "35b4dcb89cd82fb51a9f0f8a3a90a33f932375534171691e2366a8bc74dfe21b", checked := Try.checked }
namespace Rows
def none {H : Type} : Left H := { results := [], args := [] }

/-- 'laws.FnExactDoubleOfCyclic': WHATEVER THE INPUT: true; the input reads as it did. -/
def fnExactDoubleOfCyclicSpec : ChangeSpec := { name := "fnExactDoubleOfCyclic", fn := fun _ => fun
  | [d1, d2] => { results := [.lit (.bool true)], args := [d1, d2] }
  | _ => none }
def fnExactDoubleOfCyclicRow : OpenClaim := { program := "ytifgeenipinnmaa", sum := "35b4dcb89cd82fb51a9f0f8a3a90a33f932375534171691e2366a8bc74dfe21b", func := "loop.example/g01132/laws.FnExactDoubleOfCyclic", spec := "fnExactDoubleOfCyclic", apart := false }
def FnExactDoubleOfCyclicSaid : Prop := fnExactDoubleOfCyclicRow.holds Try.pinned (OpenSpec.ofChange fnExactDoubleOfCyclicSpec)

/-- ITS FALSE NEIGHBOUR: 'it returns false'. Refute it at one input. -/
def fnExactDoubleOfCyclicWrong : ChangeSpec := { name := "fnExactDoubleOfCyclic", fn := fun _ => fun
  | [d1, d2] => { results := [.lit (.bool false)], args := [d1, d2] }
  | _ => none }
def FnExactDoubleOfCyclicWrongFalsely : Prop := fnExactDoubleOfCyclicRow.holds Try.pinned (OpenSpec.ofChange fnExactDoubleOfCyclicWrong)

/-- 'laws.FnExactRingOfDouble': WHATEVER THE INPUT: true; the input reads as it did. -/
def fnExactRingOfDoubleSpec : ChangeSpec := { name := "fnExactRingOfDouble", fn := fun _ => fun
  | [d1, d2] => { results := [.lit (.bool true)], args := [d1, d2] }
  | _ => none }
def fnExactRingOfDoubleRow : OpenClaim := { program := "ytifgeenipinnmaa", sum := "35b4dcb89cd82fb51a9f0f8a3a90a33f932375534171691e2366a8bc74dfe21b", func := "loop.example/g01132/laws.FnExactRingOfDouble", spec := "fnExactRingOfDouble", unfollowed := true, recurses := true, apart := false }
def FnExactRingOfDoubleSaid : Prop := fnExactRingOfDoubleRow.holds Try.pinned (OpenSpec.ofChange fnExactRingOfDoubleSpec)

/-- ITS FALSE NEIGHBOUR: 'it returns false'. Refute it at one input. -/
def fnExactRingOfDoubleWrong : ChangeSpec := { name := "fnExactRingOfDouble", fn := fun _ => fun
  | [d1, d2] => { results := [.lit (.bool false)], args := [d1, d2] }
  | _ => none }
def FnExactRingOfDoubleWrongFalsely : Prop := fnExactRingOfDoubleRow.holds Try.pinned (OpenSpec.ofChange fnExactRingOfDoubleWrong)

/-- 'laws.FnExactNewDesk': WHATEVER THE INPUT: true; the input reads as it did. -/
def fnExactNewDeskSpec : ChangeSpec := { name := "fnExactNewDesk", fn := fun _ => fun
  | [] => { results := [.lit (.bool true)], args := [] }
  | _ => none }
def fnExactNewDeskRow : OpenClaim := { program := "ytifgeenipinnmaa", sum := "35b4dcb89cd82fb51a9f0f8a3a90a33f932375534171691e2366a8bc74dfe21b", func := "loop.example/g01132/laws.FnExactNewDesk", spec := "fnExactNewDesk", unfollowed := true, recurses := true, apart := false }
def FnExactNewDeskSaid : Prop := fnExactNewDeskRow.holds Try.pinned (OpenSpec.ofChange fnExactNewDeskSpec)

/-- ITS FALSE NEIGHBOUR: 'it returns false'. Refute it at one input. -/
def fnExactNewDeskWrong : ChangeSpec := { name := "fnExactNewDesk", fn := fun _ => fun
  | [] => { results := [.lit (.bool false)], args := [] }
  | _ => none }
def FnExactNewDeskWrongFalsely : Prop := fnExactNewDeskRow.holds Try.pinned (OpenSpec.ofChange fnExactNewDeskWrong)

/-- 'laws.FnExactBalanceOf': WHATEVER THE INPUT: true; the input reads as it did. -/
def fnExactBalanceOfSpec : ChangeSpec := { name := "fnExactBalanceOf", fn := fun _ => fun
  | [d1, d2, d3] => { results := [.lit (.bool true)], args := [d1, d2, d3] }
  | _ => none }
def fnExactBalanceOfRow : OpenClaim := { program := "ytifgeenipinnmaa", sum := "35b4dcb89cd82fb51a9f0f8a3a90a33f932375534171691e2366a8bc74dfe21b", func := "loop.example/g01132/laws.FnExactBalanceOf", spec := "fnExactBalanceOf", unfollowed := true, recurses := true, apart := false }
def FnExactBalanceOfSaid : Prop := fnExactBalanceOfRow.holds Try.pinned (OpenSpec.ofChange fnExactBalanceOfSpec)

/-- ITS FALSE NEIGHBOUR: 'it returns false'. Refute it at one input. -/
def fnExactBalanceOfWrong : ChangeSpec := { name := "fnExactBalanceOf", fn := fun _ => fun
  | [d1, d2, d3] => { results := [.lit (.bool false)], args := [d1, d2, d3] }
  | _ => none }
def FnExactBalanceOfWrongFalsely : Prop := fnExactBalanceOfRow.holds Try.pinned (OpenSpec.ofChange fnExactBalanceOfWrong)

/-- 'laws.FnExactDiagonalVector': WHATEVER THE INPUT: true; the input reads as it did. -/
def fnExactDiagonalVectorSpec : ChangeSpec := { name := "fnExactDiagonalVector", fn := fun _ => fun
  | [d] => { results := [.lit (.bool true)], args := [d] }
  | _ => none }
def fnExactDiagonalVectorRow : OpenClaim := { program := "ytifgeenipinnmaa", sum := "35b4dcb89cd82fb51a9f0f8a3a90a33f932375534171691e2366a8bc74dfe21b", func := "loop.example/g01132/laws.FnExactDiagonalVector", spec := "fnExactDiagonalVector", unfollowed := true, recurses := true, apart := false }
def FnExactDiagonalVectorSaid : Prop := fnExactDiagonalVectorRow.holds Try.pinned (OpenSpec.ofChange fnExactDiagonalVectorSpec)

/-- ITS FALSE NEIGHBOUR: 'it returns false'. Refute it at one input. -/
def fnExactDiagonalVectorWrong : ChangeSpec := { name := "fnExactDiagonalVector", fn := fun _ => fun
  | [d] => { results := [.lit (.bool false)], args := [d] }
  | _ => none }
def FnExactDiagonalVectorWrongFalsely : Prop := fnExactDiagonalVectorRow.holds Try.pinned (OpenSpec.ofChange fnExactDiagonalVectorWrong)

/-- 'laws.FnExactSecondIndicator': WHATEVER THE INPUT: true; the input reads as it did. -/
def fnExactSecondIndicatorSpec : ChangeSpec := { name := "fnExactSecondIndicator", fn := fun _ => fun
  | [d1, d2] => { results := [.lit (.bool true)], args := [d1, d2] }
  | _ => none }
def fnExactSecondIndicatorRow : OpenClaim := { program := "ytifgeenipinnmaa", sum := "35b4dcb89cd82fb51a9f0f8a3a90a33f932375534171691e2366a8bc74dfe21b", func := "loop.example/g01132/laws.FnExactSecondIndicator", spec := "fnExactSecondIndicator", unfollowed := true, recurses := true, apart := false }
def FnExactSecondIndicatorSaid : Prop := fnExactSecondIndicatorRow.holds Try.pinned (OpenSpec.ofChange fnExactSecondIndicatorSpec)

/-- ITS FALSE NEIGHBOUR: 'it returns false'. Refute it at one input. -/
def fnExactSecondIndicatorWrong : ChangeSpec := { name := "fnExactSecondIndicator", fn := fun _ => fun
  | [d1, d2] => { results := [.lit (.bool false)], args := [d1, d2] }
  | _ => none }
def FnExactSecondIndicatorWrongFalsely : Prop := fnExactSecondIndicatorRow.holds Try.pinned (OpenSpec.ofChange fnExactSecondIndicatorWrong)

/-- 'laws.FnExactOrderOfCharge': WHATEVER THE INPUT: true; the input reads as it did. -/
def fnExactOrderOfChargeSpec : ChangeSpec := { name := "fnExactOrderOfCharge", fn := fun _ => fun
  | [d1, d2] => { results := [.lit (.bool true)], args := [d1, d2] }
  | _ => none }
def fnExactOrderOfChargeRow : OpenClaim := { program := "ytifgeenipinnmaa", sum := "35b4dcb89cd82fb51a9f0f8a3a90a33f932375534171691e2366a8bc74dfe21b", func := "loop.example/g01132/laws.FnExactOrderOfCharge", spec := "fnExactOrderOfCharge", unfollowed := true, recurses := true, apart := false }
def FnExactOrderOfChargeSaid : Prop := fnExactOrderOfChargeRow.holds Try.pinned (OpenSpec.ofChange fnExactOrderOfChargeSpec)

/-- ITS FALSE NEIGHBOUR: 'it returns false'. Refute it at one input. -/
def fnExactOrderOfChargeWrong : ChangeSpec := { name := "fnExactOrderOfCharge", fn := fun _ => fun
  | [d1, d2] => { results := [.lit (.bool false)], args := [d1, d2] }
  | _ => none }
def FnExactOrderOfChargeWrongFalsely : Prop := fnExactOrderOfChargeRow.holds Try.pinned (OpenSpec.ofChange fnExactOrderOfChargeWrong)

/- THE SECOND FORM. 'bulk': how many values and letters a reading holds, each counted each time it is reached (what is shared counts as often as it is met; a slice's spare places count too). A statement '..UptoSaid' is the law's where the arguments, and the package variables that the reading takes, are together of bulk at most 1048576: NARROWER than '..Said'. Prove '..Said' where nothing that the law and all that it calls make is longer than what came in: it says more and counts as full. Else prove '..UptoSaid'. A law counts once. -/
mutual
def uptoBulk {H : Type} : DataW H → Nat
  | .lit (.string bytes) => bytes.length + 1
  | .lit _ => 1
  | .nil => 1
  | .ptr d => uptoBulk d + 1
  | .slice elems spare => uptoBulkAll elems + uptoBulkAll spare + 1
  | .agg parts => uptoBulkAll parts + 1
  | .iface _ d => uptoBulk d + 1
  | .map entries => uptoBulkEntries entries + 1
  | .held _ => 1
def uptoBulkAll {H : Type} : List (DataW H) → Nat
  | [] => 0
  | d :: r => uptoBulk d + uptoBulkAll r
def uptoBulkEntries {H : Type} : List (Lit × DataW H) → Nat
  | [] => 0
  | x :: r => uptoBulkEntry x + uptoBulkEntries r
def uptoBulkEntry {H : Type} : Lit × DataW H → Nat
  | (.string bytes, d) => bytes.length + uptoBulk d + 1
  | (_, d) => uptoBulk d + 1
 end
def uptoSmall : (H : Type) → List (DataW H) → Bool := fun _ ds => decide (uptoBulkAll ds ≤ 1048576)
def OpenSpec.upto (s : _root_.Go.ChangeSpec) : _root_.Go.OpenSpec := { _root_.Go.OpenSpec.ofChange s with cond := some uptoSmall }

/-- 'laws.FnExactDoubleOfCyclic', WHERE WHAT IT READS IS OF BULK AT MOST 1048576: true; the input reads as it did. -/
def fnExactDoubleOfCyclicUptoRow : OpenClaim := { program := "ytifgeenipinnmaa", sum := "35b4dcb89cd82fb51a9f0f8a3a90a33f932375534171691e2366a8bc74dfe21b", func := "loop.example/g01132/laws.FnExactDoubleOfCyclic", spec := "fnExactDoubleOfCyclic", apart := false, narrowed := true }
def FnExactDoubleOfCyclicUptoSaid : Prop := fnExactDoubleOfCyclicUptoRow.holds Try.pinned (OpenSpec.upto fnExactDoubleOfCyclicSpec)

/-- 'laws.FnExactRingOfDouble', WHERE WHAT IT READS IS OF BULK AT MOST 1048576: true; the input reads as it did. -/
def fnExactRingOfDoubleUptoRow : OpenClaim := { program := "ytifgeenipinnmaa", sum := "35b4dcb89cd82fb51a9f0f8a3a90a33f932375534171691e2366a8bc74dfe21b", func := "loop.example/g01132/laws.FnExactRingOfDouble", spec := "fnExactRingOfDouble", unfollowed := true, recurses := true, apart := false, narrowed := true }
def FnExactRingOfDoubleUptoSaid : Prop := fnExactRingOfDoubleUptoRow.holds Try.pinned (OpenSpec.upto fnExactRingOfDoubleSpec)

/-- 'laws.FnExactNewDesk', WHERE WHAT IT READS IS OF BULK AT MOST 1048576: true; the input reads as it did. -/
def fnExactNewDeskUptoRow : OpenClaim := { program := "ytifgeenipinnmaa", sum := "35b4dcb89cd82fb51a9f0f8a3a90a33f932375534171691e2366a8bc74dfe21b", func := "loop.example/g01132/laws.FnExactNewDesk", spec := "fnExactNewDesk", unfollowed := true, recurses := true, apart := false, narrowed := true }
def FnExactNewDeskUptoSaid : Prop := fnExactNewDeskUptoRow.holds Try.pinned (OpenSpec.upto fnExactNewDeskSpec)

/-- 'laws.FnExactBalanceOf', WHERE WHAT IT READS IS OF BULK AT MOST 1048576: true; the input reads as it did. -/
def fnExactBalanceOfUptoRow : OpenClaim := { program := "ytifgeenipinnmaa", sum := "35b4dcb89cd82fb51a9f0f8a3a90a33f932375534171691e2366a8bc74dfe21b", func := "loop.example/g01132/laws.FnExactBalanceOf", spec := "fnExactBalanceOf", unfollowed := true, recurses := true, apart := false, narrowed := true }
def FnExactBalanceOfUptoSaid : Prop := fnExactBalanceOfUptoRow.holds Try.pinned (OpenSpec.upto fnExactBalanceOfSpec)

/-- 'laws.FnExactDiagonalVector', WHERE WHAT IT READS IS OF BULK AT MOST 1048576: true; the input reads as it did. -/
def fnExactDiagonalVectorUptoRow : OpenClaim := { program := "ytifgeenipinnmaa", sum := "35b4dcb89cd82fb51a9f0f8a3a90a33f932375534171691e2366a8bc74dfe21b", func := "loop.example/g01132/laws.FnExactDiagonalVector", spec := "fnExactDiagonalVector", unfollowed := true, recurses := true, apart := false, narrowed := true }
def FnExactDiagonalVectorUptoSaid : Prop := fnExactDiagonalVectorUptoRow.holds Try.pinned (OpenSpec.upto fnExactDiagonalVectorSpec)

/-- 'laws.FnExactSecondIndicator', WHERE WHAT IT READS IS OF BULK AT MOST 1048576: true; the input reads as it did. -/
def fnExactSecondIndicatorUptoRow : OpenClaim := { program := "ytifgeenipinnmaa", sum := "35b4dcb89cd82fb51a9f0f8a3a90a33f932375534171691e2366a8bc74dfe21b", func := "loop.example/g01132/laws.FnExactSecondIndicator", spec := "fnExactSecondIndicator", unfollowed := true, recurses := true, apart := false, narrowed := true }
def FnExactSecondIndicatorUptoSaid : Prop := fnExactSecondIndicatorUptoRow.holds Try.pinned (OpenSpec.upto fnExactSecondIndicatorSpec)

/-- 'laws.FnExactOrderOfCharge', WHERE WHAT IT READS IS OF BULK AT MOST 1048576: true; the input reads as it did. -/
def fnExactOrderOfChargeUptoRow : OpenClaim := { program := "ytifgeenipinnmaa", sum := "35b4dcb89cd82fb51a9f0f8a3a90a33f932375534171691e2366a8bc74dfe21b", func := "loop.example/g01132/laws.FnExactOrderOfCharge", spec := "fnExactOrderOfCharge", unfollowed := true, recurses := true, apart := false, narrowed := true }
def FnExactOrderOfChargeUptoSaid : Prop := fnExactOrderOfChargeUptoRow.holds Try.pinned (OpenSpec.upto fnExactOrderOfChargeSpec)

end Rows
end Go.Proofs.Ytifgeenipinnmaa
