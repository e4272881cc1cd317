/- Texts joined: F6 G1 G2 G3 G4 G5 O1. -/
import Derived.ChangeOld
import Derived.Below
import Derived.Carry
import Derived.Deep.Slices
import Derived.ChangeSlices
import Derived.Lib.SmallJoins
import Derived.Test.YteaaangdibabnaaDoorMh
set_option linter.all false
/- The reference's and the program's data. -/
namespace Go.Proofs.YteaaangdibabnaaDoor
open Go.RowKit
set_option maxRecDepth 1000000
def Sta2 (S : List (List Int)) (T : List Int) (i j : Nat) : Prop := atI (row S i) j = atI (row S j) i ∧ atI (row S 0) i ≠ 0 ∧ atI T i ≠ 0 ∧ atI (row S 0) 0 = 1 ∧ atI T 0 = 1
open Classical in
noncomputable def DF (S : List (List Int)) (T : List Int) : Int :=
 if ¬ StaP S T then 0 else if whl S T.length = 0 then 1 else if ¬ CjP S T then 2 else if ¬ TurP S T then 3 else if ¬ RingP (cubeL (nmE S T.length (cjL S T)) T.length) then 4 else -1
def DataP (S : List (List Int)) (T : List Int) : Prop := ShpP S T ∧ DF S T = -1
theorem cubeL_congr {F G : Nat → Nat → Nat → Int} {n : Nat} (h : ∀ x y z, x < n → y < n → z < n → F x y z = G x y z) : cubeL F n = cubeL G n :=
 rws_congr fun x hx => rws_congr fun y hy => rws_congr fun z hz => h x y z hx hy hz
end Go.Proofs.YteaaangdibabnaaDoor
/- Sizes and copies of the statements' data; charges. -/
namespace Go.Proofs.YteaaangdibabnaaDoor
open Go.RowKit
set_option maxRecDepth 1000000
def isLw (a : AV) (xs : List Int) : Prop := a = .imm (xs.map i64) ∨ (xs = [] ∧ ∃ o c, a = .sc (.slice o 0 c))
def isLws : List AV → List (List Int) → Prop
 | [], [] => True
 | a :: bs, x :: xs => isLw a x ∧ isLws bs xs
 | _, _ => False
def isLLw (a : AV) (xss : List (List Int)) : Prop := (∃ cs, a = .imm cs ∧ isLws cs xss) ∨ (xss = [] ∧ ∃ o c, a = .sc (.slice o 0 c))
def szV (z : Int) : Int := if z < 0 then -1 else z
def szA (S : List (List Int)) (l : Int) : Nat → Int
 | 0 => l
 | i + 1 => szA S l i - (row S i).length
def szD (S : List (List Int)) (T : List Int) (left : Int) : Int := if szA S (left - S.length) S.length < 0 then -1 else szV (szA S (left - S.length) S.length - T.length)
end Go.Proofs.YteaaangdibabnaaDoor
/- Charges; balances. -/
namespace Go.Proofs.YteaaangdibabnaaDoor
open Go.RowKit
set_option maxRecDepth 1000000
noncomputable def chg (S : List (List Int)) (T : List Int) (i : Int) : Int := by
 classical exact if DataP S T then (if 0 ≤ i ∧ i ≤ (T.length : Int) - 1 then 0 else 2) else 1
section
variable {a b : AV} {S : List (List Int)} {T : List Int}
end
structure Dat (S : List (List Int)) (T : List Int) : Prop where
 shp : Shp S T
 m16 : T.length ≤ 16
 sta : StaP S T
 whl : ¬ whl S T.length = 0
 cj : CjP S T
 tur : TurP S T
 ring : RingP (cubeL (nmE S T.length (cjL S T)) T.length)
def in2 (i j : Nat) : Option AV → Option (List AV)
 | some (.row cs) => match cs[i]? with
  | some (.row ds) => rowO ds[j]?
  | _ => none
 | _ => none
attribute [go_sem] kFieldV
def baT (S : List (List Int)) (T : List Int) (c j k : Nat) : Int := nmE S T.length (cjL S T) c j k * (atI T k * atI (row S 0) k % 55441)
def baS (S : List (List Int)) (T : List Int) (c j : Nat) : Nat → Int
 | 0 => 0
 | k + 1 => (baS S T c j k + baT S T c j k) % 55441
def bbT (S : List (List Int)) (T : List Int) (c j k : Nat) : Int := nmE S T.length (cjL S T) c j k * atI T k % 55441 * atI (row S 0) k % 55441
def balV (S : List (List Int)) (T : List Int) (c i j : Nat) : Int := baS S T c j T.length * pw (atI T i) 55439 % 55441 * pw (atI T j) 55439 % 55441
section
variable {a b : AV} {S : List (List Int)} {T : List Int}
end
end Go.Proofs.YteaaangdibabnaaDoor
/- The law of BalanceOf answers true. -/
namespace Go.Proofs.YteaaangdibabnaaDoor
open Go.RowKit
set_option maxRecDepth 1000000
theorem impE_tup2 (b : Nat) (gn : Nat → Nat) (v x : Value) : impE b gn (.tup [.sc v, .sc x]) = ⟨.tup [.sc v, .sc x], none, [], []⟩ := nr _
attribute [go_sem] impE_tup2
end Go.Proofs.YteaaangdibabnaaDoor
/- Diagonal vectors; the law of DiagonalVector answers true. -/
namespace Go.Proofs.YteaaangdibabnaaDoor
open Go.RowKit
set_option maxRecDepth 1000000
def dvF (n m k : Nat) : Int := if k % (n + 1) = 0 ∧ k / (n + 1) < m then 1 else 0
def dvL (n : Nat) : List Int := rws (dvF n n) (n * n)
section
variable {a b : AV} {S : List (List Int)} {T : List Int}
end
end Go.Proofs.YteaaangdibabnaaDoor
/- The law of DiagonalVector answers true. -/
namespace Go.Proofs.YteaaangdibabnaaDoor
open Go.RowKit
set_option maxRecDepth 1000000
end Go.Proofs.YteaaangdibabnaaDoor
/- What a statement hands in, read by the machine. -/
namespace Go.Proofs.YteaaangdibabnaaDoor
open Go.RowKit Go.ChangeShapes Go.WideShapes Go.Deep Go.Joins
theorem walk_below {P : Program} {f : Nat} {args : List AV} {b : Bool} (h : CallOK P f args (bo b)) {w : World} {vs : List Value} (hv : RelL (cx0 w (fun _ => False)) args vs []) (hg : Gd w) :
  Calls P f vs.toArray w fun e w' => e = .returned (.bool b) ∧ Below w.heap.size w w' := by
 refine (h.2.2 w (fun _ => False) vs hv (fun _ h => h.elim) hg).mono ?_
 rintro e w' ⟨v, A', F', rfl, h1, _, _, h4⟩
 obtain ⟨h2, _⟩ := Rel.sc_inv h1
 exact ⟨by rw [h2], ⟨h4.os, h4.tape, h4.output, h4.size, fun k hk => h4.block k hk (by simp)⟩⟩
section
variable {H : Type} {enc : TypeId × Value → H} {P : Program} {w : World} {held : Bool}
end
end Go.Proofs.YteaaangdibabnaaDoor
