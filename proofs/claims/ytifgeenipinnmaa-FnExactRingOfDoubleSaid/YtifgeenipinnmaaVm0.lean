/- The abstract machine: values, how they read in the model's memory, and the first laws. Nothing here names the program. -/
import Derived.WalkKit
import Derived.Orders
set_option linter.all false
namespace Go.Proofs.Ytifgeenipinnmaa
open Go.RowKit

/-- Abstract values. -/
inductive AV where
  | sc (v : Value)
  | dead
  | imm (cs : List AV)
  | row (cs : List AV)
  | bx (cs : List AV)
  | ref (s g : Nat) (p : List Nat) (off n : Nat)
  | ptr (s g : Nat) (p : List Nat) (i : Nat)
  | iptr (cs : List AV)
  | agg (cs : List AV)
  | tup (cs : List AV)
  | fn (f : Nat) (caps : List AV)

abbrev Ro := Nat → Nat → Option AV

/-- What lies at a path below a value: each step an index of a row. -/
def ath : List Nat → AV → Option AV
  | [], c => some c
  | i :: q, .row cs => match cs[i]? with
    | some c => ath q c
    | none => none
  | _ :: _, _ => none

/-- Cells laid over cells, from i on. -/
def setL {α : Type} : Nat → List α → List α → List α
  | _, [], cs => cs
  | i, a :: as, cs => setL (i + 1) as (cs.set i a)

/-- The cells at a path below a value, turned. -/
def putR (f : List AV → List AV) : List Nat → AV → AV
  | [], .row cs => .row (f cs)
  | [], .bx cs => .bx (f cs)
  | [], a => a
  | i :: q, .row cs => match cs[i]? with
    | some c => .row (cs.set i (putR f q c))
    | none => .row cs
  | _ :: _, c => c

def Ro.at (ro : Ro) (s g : Nat) (p : List Nat) : Option AV := match ro s g with
  | some c => ath p c
  | none => none

/-- The cells of a block's value. -/
def blk : AV → Option (List AV)
  | .row cs => some cs
  | .bx cs => some cs
  | _ => none

/-- The cells of the block at a place. -/
def Ro.cells (ro : Ro) (s g : Nat) : List Nat → Option (List AV)
  | [] => match ro s g with
    | some a => blk a
    | none => none
  | i :: q => match ro.at s g (i :: q) with
    | some (.row cs) => some cs
    | _ => none

/-- Where a row lies: a block and an offset; each step through a header. -/
def locp (w : World) : List Nat → Nat × Nat → Option (Nat × Nat)
  | [], x => some x
  | i :: q, x => match w.cell? ⟨x.1, x.2 + i, none⟩ with
    | some (.slice (some a) _ _) => if a.spot = none then locp w q (a.block, a.off) else none
    | _ => none

structure Cx where
  w : World
  A : Nat → Prop
  ro : Ro
  gn : Nat → Nat
  L : Nat → Nat → Nat × Nat

/-- Cells that are read only. -/
def Cx.inW (c : Cx) (g b : Nat) (vs : List Value) : Prop :=
  ¬ c.A g ∧ g < c.w.heap.size ∧ ∀ i u, vs[i]? = some u → c.w.cell? ⟨g, b + i, none⟩ = some u

/-- Cells that are owned: their block, with room up to cap. -/
def ownB (w : World) (g b : Nat) (vs : List Value) (cap : Nat) : Prop :=
  ∃ arr E, w.heap[g]? = some (.cells arr E (0, 0)) ∧ b + cap ≤ arr.size ∧ vs.length ≤ cap ∧ cap ≤ maxLen ∧ ∀ i u, vs[i]? = some u → arr[b + i]? = some u

/-- A header of n elements at (g, b), with room. (Where it has no room, Go may leave its address behind.) -/
def hdr (w : World) (g b n : Nat) (v : Value) : Prop :=
  ∃ b' cap arr E, v = .slice (some ⟨g, b', none⟩) n cap ∧ (b' = b ∨ cap = 0) ∧ w.heap[g]? = some (.cells arr E (0, 0)) ∧ b' + cap ≤ arr.size ∧ n ≤ cap ∧ cap ≤ maxLen


inductive RelL (c : Cx) : List AV → List Value → List Nat → Prop
  | nil : RelL c [] [] []
  | sc {as vs G} (v : Value) : RelL c as vs G → RelL c (.sc v :: as) (v :: vs) G
  | dead {as vs G} (v : Value) : RelL c as vs G → RelL c (.dead :: as) (v :: vs) G
  | imm {as vs G cs us} (g b cap : Nat) : RelL c cs us [] → c.inW g b us → us.length ≤ cap → RelL c as vs G →
      RelL c (.imm cs :: as) (.slice (some ⟨g, b, none⟩) us.length cap :: vs) G
  | row {as vs G cs us F} (g b cap : Nat) : RelL c cs us F → ownB c.w g b us cap → g ∉ F → (∀ x, x = g ∨ x ∈ F → x ∉ G) → RelL c as vs G →
      RelL c (.row cs :: as) (.slice (some ⟨g, b, none⟩) us.length cap :: vs) (g :: (F ++ G))
  | bx {as vs G cs us F} (g b cap : Nat) : RelL c cs us F → ownB c.w g b us cap → g ∉ F → (∀ x, x = g ∨ x ∈ F → x ∉ G) → RelL c as vs G →
      RelL c (.bx cs :: as) (.pointer (some ⟨g, b, none⟩) :: vs) (g :: (F ++ G))
  | ref {as vs G} (s g : Nat) (p : List Nat) (off n : Nat) (v : Value) : g ≤ c.gn s →
      (∀ cs, c.ro.cells s g p = some cs → ∃ x, locp c.w p (c.L s g) = some x ∧ hdr c.w x.1 (x.2 + off) n v ∧ off + n ≤ cs.length) →
      RelL c as vs G → RelL c (.ref s g p off n :: as) (v :: vs) G
  | ptr {as vs G} (s g : Nat) (p : List Nat) (i : Nat) (v : Value) : g ≤ c.gn s →
      (∀ cs, c.ro.cells s g p = some cs → ∃ x, locp c.w p (c.L s g) = some x ∧ v = .pointer (some ⟨x.1, x.2 + i, none⟩)) →
      RelL c as vs G → RelL c (.ptr s g p i :: as) (v :: vs) G
  | iptr {as vs G cs us} (g b : Nat) : RelL c cs us [] → c.inW g b us → RelL c as vs G →
      RelL c (.iptr cs :: as) (.pointer (some ⟨g, b, none⟩) :: vs) G
  | agg {as vs G cs us F} : RelL c cs us F → (∀ x, x ∈ F → x ∉ G) → RelL c as vs G →
      RelL c (.agg cs :: as) (.agg us.toArray :: vs) (F ++ G)
  | tup {as vs G cs us F} : RelL c cs us F → (∀ x, x ∈ F → x ∉ G) → RelL c as vs G →
      RelL c (.tup cs :: as) (.tuple us.toArray :: vs) (F ++ G)
  | fn {as vs G cs us} (f : Nat) : RelL c cs us [] → RelL c as vs G →
      RelL c (.fn f cs :: as) (.func (.func f) #[] us.toArray :: vs) G

abbrev Rel (c : Cx) (a : AV) (v : Value) (F : List Nat) : Prop := RelL c [a] [v] F

theorem RelL.len {c : Cx} {as vs G} (h : RelL c as vs G) : as.length = vs.length := by
  induction h <;> simp_all

theorem RelL.nilF {c : Cx} {vs G} (h : RelL c [] vs G) : vs = [] ∧ G = [] := by cases h; exact ⟨rfl, rfl⟩

end Go.Proofs.Ytifgeenipinnmaa
