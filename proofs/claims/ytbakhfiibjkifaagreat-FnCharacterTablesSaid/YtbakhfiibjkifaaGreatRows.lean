/-
  No cell of these rows narrows 'for every input' (looked for: loops, veiled, ifaces, maps, wideKeys, modest, calm, conditions, laid).
  DERIVED. THE GIVEN ROWS OF THIS SEAT. 3 by the template 'for every input the law returns true; each argument reads behind the call as it read before'; 0 by the template 'total and deterministic' (their statements: YtbakhfiibjkifaaGreatTotals.lean).
  GIVEN WITH THE SEED: the statements are not yours to turn. If you find one false, say at which input.
  Laid BY PROGRAM, IN A SANDBOX (cutbox-rows.mjs): the forced cells as the released guide's own fill.sh prints them over the translation 69d3febc6dd4a776… (all of the seat's roots in one cut). By AI agents, Wed Nov 11 2026. No macro, syntax, notation, axiom, sorry.
-/
import Derived.Test.YtbakhfiibjkifaaGreatChecked
import GoSem.Claim
import GoSem.ClaimJoined
import GoSem.ClaimMapViews
import Derived.JoinedTies
import Derived.KernelRfl
namespace Go.Proofs.YtbakhfiibjkifaaGreat
/- THE CELL 'sum', in the pinned program and in every row, IS THE sha256 OF THE DUMP (.gsa) THAT YtbakhfiibjkifaaGreatProg.lean LOADS. Nothing in Lean hashes anything: it is a label: what it is worth is what the hold of that sum in a sandbox is worth. -/
noncomputable def Tryz.pinned : Pinned := { name := "ytbakhfiibjkifaagreat", sum := "69d3febc6dd4a776b19c7fee7a934618418480fae5cb476d30f55418f4a0d7de", checked := Tryz.checked }
namespace Rows
def none {H : Type} : Left H := { results := [], args := [] }

/-- 'laws.FnCharacters': WHATEVER THE INPUT: true; the input reads as it did. -/
def fnCharactersSpec : ChangeSpec := { name := "fnCharacters", fn := fun _ => fun
  | [d] => { results := [.lit (.bool true)], args := [d] }
  | _ => none }
def fnCharactersRow : OpenClaim := { program := "ytbakhfiibjkifaagreat", sum := "69d3febc6dd4a776b19c7fee7a934618418480fae5cb476d30f55418f4a0d7de", func := "loop.example/g01132/laws.FnCharacters", spec := "fnCharacters", unfollowed := true, recurses := true, apart := false }
def FnCharactersSaid : Prop := fnCharactersRow.holds Tryz.pinned (OpenSpec.ofChange fnCharactersSpec)

/-- ITS FALSE NEIGHBOUR: 'it returns false'. Refute it at one input. -/
def fnCharactersWrong : ChangeSpec := { name := "fnCharacters", fn := fun _ => fun
  | [d] => { results := [.lit (.bool false)], args := [d] }
  | _ => none }
def FnCharactersWrongFalsely : Prop := fnCharactersRow.holds Tryz.pinned (OpenSpec.ofChange fnCharactersWrong)

/-- 'laws.FnOrthogonality': WHATEVER THE INPUT: true; the input reads as it did. -/
def fnOrthogonalitySpec : ChangeSpec := { name := "fnOrthogonality", fn := fun _ => fun
  | [d] => { results := [.lit (.bool true)], args := [d] }
  | _ => none }
def fnOrthogonalityRow : OpenClaim := { program := "ytbakhfiibjkifaagreat", sum := "69d3febc6dd4a776b19c7fee7a934618418480fae5cb476d30f55418f4a0d7de", func := "loop.example/g01132/laws.FnOrthogonality", spec := "fnOrthogonality", unfollowed := true, recurses := true, apart := false }
def FnOrthogonalitySaid : Prop := fnOrthogonalityRow.holds Tryz.pinned (OpenSpec.ofChange fnOrthogonalitySpec)

/-- ITS FALSE NEIGHBOUR: 'it returns false'. Refute it at one input. -/
def fnOrthogonalityWrong : ChangeSpec := { name := "fnOrthogonality", fn := fun _ => fun
  | [d] => { results := [.lit (.bool false)], args := [d] }
  | _ => none }
def FnOrthogonalityWrongFalsely : Prop := fnOrthogonalityRow.holds Tryz.pinned (OpenSpec.ofChange fnOrthogonalityWrong)

/-- 'laws.FnCharacterTables': WHATEVER THE INPUT: true; the input reads as it did. -/
def fnCharacterTablesSpec : ChangeSpec := { name := "fnCharacterTables", fn := fun _ => fun
  | [d] => { results := [.lit (.bool true)], args := [d] }
  | _ => none }
def fnCharacterTablesRow : OpenClaim := { program := "ytbakhfiibjkifaagreat", sum := "69d3febc6dd4a776b19c7fee7a934618418480fae5cb476d30f55418f4a0d7de", func := "loop.example/g01132/laws.FnCharacterTables", spec := "fnCharacterTables", unfollowed := true, recurses := true, apart := false }
def FnCharacterTablesSaid : Prop := fnCharacterTablesRow.holds Tryz.pinned (OpenSpec.ofChange fnCharacterTablesSpec)

/-- ITS FALSE NEIGHBOUR: 'it returns false'. Refute it at one input. -/
def fnCharacterTablesWrong : ChangeSpec := { name := "fnCharacterTables", fn := fun _ => fun
  | [d] => { results := [.lit (.bool false)], args := [d] }
  | _ => none }
def FnCharacterTablesWrongFalsely : Prop := fnCharacterTablesRow.holds Tryz.pinned (OpenSpec.ofChange fnCharacterTablesWrong)

/- THE SECOND FORM. 'bulk': how many values and letters a reading holds, each counted each time it is reached (what is shared counts as often as it is met; a slice's spare places count too). A statement '..UptoSaid' is the law's where the arguments, and the package variables that the reading takes, are together of bulk at most 1048576: NARROWER than '..Said'. Prove '..Said' where nothing that the law and all that it calls make is longer than what came in: it says more and counts as full. Else prove '..UptoSaid'. A law counts once. -/
mutual
def uptoBulk {H : Type} : DataW H → Nat
  | .lit (.string bytes) => bytes.length + 1
  | .lit _ => 1
  | .nil => 1
  | .ptr d => uptoBulk d + 1
  | .slice elems spare => uptoBulkAll elems + uptoBulkAll spare + 1
  | .agg parts => uptoBulkAll parts + 1
  | .iface _ d => uptoBulk d + 1
  | .map entries => uptoBulkEntries entries + 1
  | .held _ => 1
def uptoBulkAll {H : Type} : List (DataW H) → Nat
  | [] => 0
  | d :: r => uptoBulk d + uptoBulkAll r
def uptoBulkEntries {H : Type} : List (Lit × DataW H) → Nat
  | [] => 0
  | x :: r => uptoBulkEntry x + uptoBulkEntries r
def uptoBulkEntry {H : Type} : Lit × DataW H → Nat
  | (.string bytes, d) => bytes.length + uptoBulk d + 1
  | (_, d) => uptoBulk d + 1
 end
def uptoSmall : (H : Type) → List (DataW H) → Bool := fun _ ds => decide (uptoBulkAll ds ≤ 1048576)
def OpenSpec.upto (s : _root_.Go.ChangeSpec) : _root_.Go.OpenSpec := { _root_.Go.OpenSpec.ofChange s with cond := some uptoSmall }

/-- 'laws.FnCharacters', WHERE WHAT IT READS IS OF BULK AT MOST 1048576: true; the input reads as it did. -/
def fnCharactersUptoRow : OpenClaim := { program := "ytbakhfiibjkifaagreat", sum := "69d3febc6dd4a776b19c7fee7a934618418480fae5cb476d30f55418f4a0d7de", func := "loop.example/g01132/laws.FnCharacters", spec := "fnCharacters", unfollowed := true, recurses := true, apart := false, narrowed := true }
def FnCharactersUptoSaid : Prop := fnCharactersUptoRow.holds Tryz.pinned (OpenSpec.upto fnCharactersSpec)

/-- 'laws.FnOrthogonality', WHERE WHAT IT READS IS OF BULK AT MOST 1048576: true; the input reads as it did. -/
def fnOrthogonalityUptoRow : OpenClaim := { program := "ytbakhfiibjkifaagreat", sum := "69d3febc6dd4a776b19c7fee7a934618418480fae5cb476d30f55418f4a0d7de", func := "loop.example/g01132/laws.FnOrthogonality", spec := "fnOrthogonality", unfollowed := true, recurses := true, apart := false, narrowed := true }
def FnOrthogonalityUptoSaid : Prop := fnOrthogonalityUptoRow.holds Tryz.pinned (OpenSpec.upto fnOrthogonalitySpec)

/-- 'laws.FnCharacterTables', WHERE WHAT IT READS IS OF BULK AT MOST 1048576: true; the input reads as it did. -/
def fnCharacterTablesUptoRow : OpenClaim := { program := "ytbakhfiibjkifaagreat", sum := "69d3febc6dd4a776b19c7fee7a934618418480fae5cb476d30f55418f4a0d7de", func := "loop.example/g01132/laws.FnCharacterTables", spec := "fnCharacterTables", unfollowed := true, recurses := true, apart := false, narrowed := true }
def FnCharacterTablesUptoSaid : Prop := fnCharacterTablesUptoRow.holds Tryz.pinned (OpenSpec.upto fnCharacterTablesSpec)

end Rows
end Go.Proofs.YtbakhfiibjkifaaGreat
