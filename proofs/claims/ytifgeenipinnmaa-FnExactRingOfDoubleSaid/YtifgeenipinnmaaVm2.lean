/- The abstract machine: states, operations, and the weakest precondition of code. -/
import Derived.Test.YtifgeenipinnmaaVm1
set_option linter.all false
namespace Go.Proofs.Ytifgeenipinnmaa
open Go.RowKit

/-- What the machine asks of a type. -/
structure TI where
  size : Nat
  isAgg : Bool
  zero : List Value
  elem : Option Nat
  flds : List (Nat × Nat)
  ik : Option IntKind
  str : Bool
  bl : Bool

structure St where
  sl : Nat → AV
  ro : Ro
  gn : Nat → Nat

def upd (f : Nat → AV) (k : Nat) (v : AV) : Nat → AV := fun j => if j = k then v else f j
def upg (f : Nat → Nat) (k v : Nat) : Nat → Nat := fun j => if j = k then v else f j
def upr (f : Ro) (s g : Nat) (a : AV) : Ro := fun s' g' => if s' = s ∧ g' = g then some a else f s' g'

@[simp] theorem upd_same (f : Nat → AV) (k : Nat) (v : AV) : upd f k v k = v := by simp [upd]
theorem upd_ne (f : Nat → AV) (k j : Nat) (v : AV) (h : j ≠ k) : upd f k v j = f j := by simp [upd, h]

/-- A write: at the place (s, g, p) from cell i on. -/
structure Wr where
  s : Nat
  g : Nat
  p : List Nat
  i : Nat
  as : List AV

def Ro.wr (ro : Ro) (x : Wr) : Ro := match ro x.s x.g with
  | some a => upr ro x.s x.g (putR (setL x.i x.as) x.p a)
  | none => ro

def Ro.dl : Ro → List (Nat × Nat) → Ro
  | ro, [] => ro
  | ro, (s, g) :: r => Ro.dl (upr ro s g .dead) r

structure Eff where
  v : AV
  wr : Option Wr
  dl : List (Nat × Nat)
  al : List (Nat × AV)

def Ro.wrO (ro : Ro) : Option Wr → Ro
  | none => ro
  | some x => ro.wr x

def St.al : St → List (Nat × AV) → St
  | st, [] => st
  | st, (s, a) :: r => St.al { st with ro := upr st.ro s (st.gn s + 1) a, gn := upg st.gn s (st.gn s + 1) } r

def St.eff (st : St) (e : Eff) : St := ({ st with ro := (st.ro.wrO e.wr).dl e.dl } : St).al e.al

def St.put (st : St) (d : Option Tmp) (v : AV) : St := match d with
  | some d => { st with sl := upd st.sl d v }
  | none => st

/-- A constant. -/
def zcs : Value → AV
  | .agg cs => .agg (cs.toList.map .sc)
  | v => .sc v

def St.ev (st : St) : Operand → AV
  | .tmp t => st.sl t
  | .const v => zcs v
  | .func f => .fn f []
  | .global _ => .dead

def semPure {α : Type} : Sem α → Option α
  | .pure a => some a
  | _ => none

def isNilV : Value → Bool
  | .slice none 0 0 => true
  | _ => false

/-- A slice against nil. -/
def nilCmp (op : BinOp) (t : Bool) : Option Value := match op with
  | .eql => some (.bool t)
  | .neq => some (.bool !t)
  | _ => none

/-- Binary operations on values that lead to no memory. -/
def binA (inf : TI) (op : BinOp) : AV → AV → Option Value
  | .sc (.int k a), .sc (.int k' b) => semPure (binOp op 0 (.int k a) (.int k' b))
  | .sc (.string a), .sc (.string b) => semPure (binOp op 0 (.string a) (.string b))
  | .sc (.bool a), .sc (.bool b) => if inf.bl then nilCmp op (a == b) else none
  | .sc x, .sc y => if isNilV x && isNilV y && inf.elem.isSome then nilCmp op true else none
  | .imm _, .sc y => if isNilV y && inf.elem.isSome then nilCmp op false else none
  | .ref .., .sc y => if isNilV y && inf.elem.isSome then nilCmp op false else none
  | _, _ => none

def lift (s g : Nat) (p : List Nat) : AV → AV
  | .row cs => .ref s g p 0 cs.length
  | .bx _ => .dead
  | .agg _ => .dead
  | .tup _ => .dead
  | a => a

def zfi (s g : Nat) (p : List Nat) : Nat → List AV → List AV
  | _, [] => []
  | i, a :: as => lift s g (p ++ [i]) a :: zfi s g p (i + 1) as

/-- The cells of a value. -/
def zem : AV → List AV
  | .agg cs => cs
  | a => [a]

def isBxAt (ro : Ro) (s g : Nat) (p : List Nat) : Bool := match ro.at s g p with
  | some (.bx _) => true
  | _ => false

def oneV : Value → Bool
  | .agg _ => false
  | .tuple _ => false
  | _ => true

/-- A value that may stand in a cell as it is. -/
def zez : AV → Bool
  | .sc v => oneV v
  | .imm _ => true
  | .iptr _ => true
  | .fn _ _ => true
  | _ => false

def cellOkB (ro : Ro) : AV → Bool
  | .ref s g p _ _ => p.isEmpty && (ro.cells s g p).isSome
  | .ptr s g p _ => p.isEmpty && (ro.cells s g p).isSome
  | a => zez a

/-- A value that becomes an element of an array of the call's own: a whole row is moved into it. -/
def zes (ro : Ro) : AV → Option (AV × List (Nat × Nat))
  | .ref s g [] 0 n => match ro s g with
    | some (.row cs) => if n = cs.length then some (.row cs, [(s, g)]) else none
    | _ => none
  | a => if zez a then some (a, []) else none

def zet (cells : List AV) : List (Nat × AV) → List AV
  | [] => cells
  | (i, a) :: r => zet (cells.set i a) r

def zer (ro : Ro) (ev : Operand → AV) : List (Nat × Operand) → Option (List (Nat × AV) × List (Nat × Nat))
  | [] => some ([], [])
  | (i, x) :: r => match zes ro (ev x) with
    | some (a, w) => match zer (ro.dl w) ev r with
      | some (as, ws) => some ((i, a) :: as, w ++ ws)
      | none => none
    | none => none

def zey : AV → Bool
  | .row _ => true
  | _ => false

def maxN : Nat := 4294967296

/-- The elements that append takes over, and what it leaves of their place. -/
def zeu (ro : Ro) : AV → Option (List AV × List (Nat × Nat))
  | .imm cs => if cs.all zez then some (cs, []) else none
  | .sc v => if isNilV v then some ([], []) else none
  | .ref s g p off n => match ro.cells s g p with
    | some cs =>
      let el := (cs.drop off).take n
      if el.all zez then some (el, []) else if p = [] ∧ off = 0 ∧ n = cs.length ∧ cs.all (fun a => zez a || zey a) ∧ isBxAt ro s g p = false then some (cs, [(s, g)]) else none
    | none => none
  | _ => none

def zfa (ti : Nat → Option TI) (ro : Ro) (flds : List (Nat × Nat)) (ev : Operand → AV) : List AV → List (Nat × Operand) → Option (List AV)
  | cells, [] => some cells
  | cells, (i, x) :: r => match flds[i]? with
    | some (off, t) => match ti t with
      | some inf => if (zem (ev x)).length = inf.size ∧ (zem (ev x)).all (cellOkB ro) ∧ off + inf.size ≤ cells.length then zfa ti ro flds ev (setL off (zem (ev x)) cells) r else none
      | none => none
    | none => none

/-- Is what an alias names still there? -/
def zee (ro : Ro) : AV → Bool
  | .ref s g p _ _ => (ro.cells s g p).isSome
  | .ptr s g p _ => (ro.cells s g p).isSome
  | _ => true

def evInt : AV → Option Int
  | .sc (.int _ n) => some n
  | _ => none

def opC (ti : Nat → Option TI) (b : Nat) (ro : Ro) (gn : Nat → Nat) (ev : Operand → AV) : Op → Option Eff
  | .move x => some ⟨ev x, none, [], []⟩
  | .assign x => some ⟨ev x, none, [], []⟩
  | .pick c x y => match ev c with
    | .sc (.bool t) => some ⟨if t then ev x else ev y, none, [], []⟩
    | _ => none
  | .binOp op t x y _ => match ti t with
    | some inf => if zee ro (ev x) then (match binA inf op (ev x) (ev y) with
      | some v => some ⟨.sc v, none, [], []⟩
      | none => none) else none
    | none => none
  | .unOp op _ x => match ev x with
    | .sc v => match semPure (Op.unary op v) with
      | some v => some ⟨.sc v, none, [], []⟩
      | none => none
    | _ => none
  | .convert src dst x => match ti src, ti dst, ev x with
    | some i, some j, .sc (.int _ n) => match i.ik, j.ik with
      | some _, some k => match semPure (Conv.intToInt k n) with
        | some v => some ⟨.sc v, none, [], []⟩
        | none => none
      | _, _ => none
    | _, _, _ => none
  | .load t x => match ti t with
    | some inf => match ev x with
      | .ptr s g p i => match ro.cells s g p with
        | some cs => if inf.isAgg then
            (if i + inf.size ≤ cs.length then some ⟨.agg (zfi s g p i ((cs.drop i).take inf.size)), none, [], []⟩ else none)
          else match cs[i]? with
            | some c => some ⟨lift s g (p ++ [i]) c, none, [], []⟩
            | none => none
        | none => none
      | .iptr cs => if inf.isAgg then
          (if inf.size ≤ cs.length then some ⟨.agg (cs.take inf.size), none, [], []⟩ else none)
        else match cs with
          | c :: _ => some ⟨c, none, [], []⟩
          | [] => none
      | _ => none
    | none => none
  | .store t x y => match ti t with
    | some inf => match ev x with
      | .ptr s g p i => match ro.cells s g p with
        | some cs =>
          if i + inf.size ≤ cs.length ∧ (zem (ev y)).length = inf.size ∧ (zem (ev y)).all (if isBxAt ro s g p then cellOkB ro else zez) then
            some ⟨.sc undef, some ⟨s, g, p, i, zem (ev y)⟩, [], []⟩
          else none
        | none => none
      | _ => none
    | none => none
  | .fieldAddr t x f => match ti t with
    | some inf => match inf.flds[f]? with
      | some (off, _) => if inf.isAgg ∧ zee ro (ev x) then match ev x with
        | .ptr s g p i => some ⟨.ptr s g p (i + off), none, [], []⟩
        | .iptr cs => if off ≤ cs.length then some ⟨.iptr (cs.drop off), none, [], []⟩ else none
        | _ => none
        else none
      | none => none
    | none => none
  | .field t x f => match ti t with
    | some inf => match inf.flds[f]? with
      | some (off, ft) => match ti ft, ev x with
        | some fi, .agg cs => if inf.isAgg ∧ off + fi.size ≤ cs.length then
            (if fi.isAgg then some ⟨.agg ((cs.drop off).take fi.size), none, [], []⟩ else match cs[off]? with
              | some c => some ⟨c, none, [], []⟩
              | none => none)
          else none
        | _, _ => none
      | none => none
    | none => none
  | .indexAddr t x ix => match ti t with
    | some inf => match inf.elem, ev ix with
      | some _, .sc (.int _ i) => match ev x with
        | .ref s g p off n => if 0 ≤ i ∧ i < n ∧ (ro.cells s g p).isSome then some ⟨.ptr s g p (off + i.toNat), none, [], []⟩ else none
        | .imm cs => if 0 ≤ i then (match cs[i.toNat]? with
            | some c => some ⟨.iptr [c], none, [], []⟩
            | none => none) else none
        | _ => none
      | _, _ => none
    | none => none
  | .index t x ix => match ti t with
    | some inf => match inf.str, ev x, ev ix with
      | true, .sc (.string s), .sc (.int _ i) => if 0 ≤ i then (match s[i.toNat]? with
          | some u => some ⟨.sc (.int .u8 u.toNat), none, [], []⟩
          | none => none) else none
      | _, _, _ => none
    | none => none
  | .alloc t => match ti t with
    | some inf => some ⟨.ptr b (gn b + 1) [] 0, none, [], [(b, .bx (inf.zero.map .sc))]⟩
    | none => none
  | .box _ x => if (zem (ev x)).all (cellOkB ro) then (if (zem (ev x)).length ≤ 65536 then some ⟨.ptr b (gn b + 1) [] 0, none, [], [(b, .bx (zem (ev x)))]⟩ else none) else none
  | .build t parts => match ti t with
    | some inf => if inf.isAgg then (match zfa ti ro inf.flds ev (inf.zero.map .sc) parts.toList with
        | some cs => some ⟨.agg cs, none, [], []⟩
        | none => none) else none
    | none => none
  | .buildSlice t n parts => match ti t with
    | some inf => match inf.elem with
      | some e => match ti e with
        | some ie => match zer ro ev parts.toList with
          | some (as, ws) => if n ≤ 65536 ∧ as.all (fun p => decide (p.1 < n)) then some ⟨.ref b (gn b + 1) [] 0 n, none, ws, [(b, .row (zet (List.replicate n (.sc (ie.zero.getD 0 undef))) as))]⟩ else none
          | none => none
        | none => none
      | none => none
    | none => none
  | .makeSlice t l c => match ti t with
    | some inf => match inf.elem with
      | some e => match ti e, ev l, ev c with
        | some ie, .sc (.int .i64 n), .sc (.int .i64 m) => if 0 ≤ n ∧ n ≤ m ∧ m ≤ maxN then
            some ⟨.ref b (gn b + 1) [] 0 n.toNat, none, [], [(b, .row (List.replicate n.toNat (.sc (ie.zero.getD 0 undef))))]⟩ else none
        | _, _, _ => none
      | none => none
    | none => none
  | .slice t x lo hi none => match ti t with
   | some inf => match ev x with
    | .ref s g p off n => if inf.elem.isSome then
      match (match lo with | none => some 0 | some y => evInt (ev y)), (match hi with | none => some (n : Int) | some y => evInt (ev y)) with
      | some l, some h => if 0 ≤ l ∧ l ≤ h ∧ h ≤ n ∧ (ro.cells s g p).isSome then some ⟨.ref s g p (off + l.toNat) (h - l).toNat, none, [], []⟩ else none
      | _, _ => none
      else none
    | .imm cs => if inf.elem.isSome then
      match (match lo with | none => some 0 | some y => evInt (ev y)), (match hi with | none => some (cs.length : Int) | some y => evInt (ev y)) with
      | some l, some h => if 0 ≤ l ∧ l ≤ h ∧ h ≤ cs.length then some ⟨.imm ((cs.drop l.toNat).take (h - l).toNat), none, [], []⟩ else none
      | _, _ => none
      else none
    | .sc (.string s) => if inf.str then
      match (match lo with | none => some 0 | some y => evInt (ev y)), (match hi with | none => some (s.size : Int) | some y => evInt (ev y)) with
      | some l, some h => if 0 ≤ l ∧ l ≤ h ∧ h ≤ s.size then some ⟨.sc (.string (s.extract l.toNat h.toNat)), none, [], []⟩ else none
      | _, _ => none
      else none
    | _ => none
   | none => none
  | .extract x i => match ev x with
    | .tup cs => match cs[i]? with
      | some c => some ⟨c, none, [], []⟩
      | none => none
    | _ => none
  | .makeFunc (.func f) first caps => if first.isEmpty then some ⟨.fn f (caps.toList.map ev), none, [], []⟩ else none
  | .call c => match c.callee, c.args.toList, c.argTypes.toList with
    | .builtin .len, [x], [t] => match ti t with
      | some inf => match ev x with
        | .ref s g p _ n => if inf.elem.isSome ∧ (ro.cells s g p).isSome then some ⟨.sc (.int .i64 n), none, [], []⟩ else none
        | .imm cs => if inf.elem.isSome then some ⟨.sc (.int .i64 cs.length), none, [], []⟩ else none
        | .sc (.string s) => if inf.str then some ⟨.sc (.int .i64 s.size), none, [], []⟩ else none
        | .sc (.slice none 0 0) => if inf.elem.isSome then some ⟨.sc (.int .i64 0), none, [], []⟩ else none
        | _ => none
      | none => none
    | .builtin .append, [x, y], [t, t'] => if t = t' ∧ ((ti t).bind (·.elem)).isSome then match zeu ro (ev y) with
      | some (el, ws) => match ev x with
        | .sc (.slice none 0 0) => if el.length = 0 then some ⟨.sc (.slice none 0 0), none, [], []⟩
            else if el.length ≤ maxN then some ⟨.ref b (gn b + 1) [] 0 el.length, none, ws, [(b, .row el)]⟩ else none
        | .ref s g [] off n => match (ro.dl ws) s g with
          | some (.row cs) => if n + el.length ≤ maxN then
              some ⟨.ref s (gn s + 1) [] 0 (n + el.length), none, ws ++ [(s, g)], [(s, .row ((cs.drop off).take n ++ el))]⟩ else none
          | _ => none
        | _ => none
      | none => none
      else none
    | .builtin .max, [x, y], _ => match ev x, ev y with
      | .sc (.int k n), .sc (.int k' m) => if k = k' then some ⟨.sc (.int k (if m > n then m else n)), none, [], []⟩ else none
      | _, _ => none
    | .builtin .min, [x, y], _ => match ev x, ev y with
      | .sc (.int k n), .sc (.int k' m) => if k = k' then some ⟨.sc (.int k (if m < n then m else n)), none, [], []⟩ else none
      | _, _ => none
    | _, _, _ => none
  | _ => none

end Go.Proofs.Ytifgeenipinnmaa
