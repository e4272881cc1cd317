/- The abstract machine: calls and code. -/
import Derived.Test.YtifgeenipinnmaaVm2
set_option linter.all false
namespace Go.Proofs.Ytifgeenipinnmaa
open Go.RowKit

def cx0 (w : World) (A : Nat → Prop) : Cx := ⟨w, A, fun _ _ => none, fun _ => 0, fun _ _ => (0, 0)⟩

/-- Of what was there only the blocks of F may have changed. -/
structure Blw (w w' : World) (F : List Nat) : Prop where
  os : w'.os = w.os
  tape : w'.tape = w.tape
  output : w'.output = w.output
  size : w.heap.size ≤ w'.heap.size
  block : ∀ k, k < w.heap.size → k ∉ F → w'.heap[k]? = w.heap[k]?
  fr : ∀ a, w'.frozen? a = w.frozen? a

/-- WHAT IS CLAIMED OF A FUNCTION: called with values that read as 'args' it returns a value that reads as r; what it was handed to write reads as 'outs'. -/
def CallIO (P : Program) (f : Nat) (args : List AV) (r : AV) (outs : List AV) : Prop :=
  ∀ (w : World) (A : Nat → Prop) (vs : List Value) (F : List Nat), RelL (cx0 w A) args vs F → (∀ x, x ∈ F → ¬ A x) → (∀ x, A x → x < w.heap.size) →
    Calls P f vs.toArray w fun e w' => ∃ v A' F', e = .returned v ∧ RelL (cx0 w' A') (r :: outs) (v :: vs) F' ∧ (∀ x, A x → A' x) ∧
      (∀ x, x ∈ F' → A' x ∧ ¬ A x ∧ (w.heap.size ≤ x ∨ x ∈ F)) ∧ Blw w w' F

/-- The function has a body, to be entered. -/
def Enter (P : Program) (f : Nat) : Prop := ∃ fn, P.funcs[f]? = some fn ∧ fn.body.isSome = true ∧ (fn.name == "runtime.NumGoroutine") = false

mutual
/-- No alias, no pointer into an activation. -/
def noRef : AV → Bool
  | .ref .. => false
  | .ptr .. => false
  | .row cs => noRefL cs
  | .bx cs => noRefL cs
  | .imm cs => noRefL cs
  | .iptr cs => noRefL cs
  | .agg cs => noRefL cs
  | .tup cs => noRefL cs
  | .fn _ cs => noRefL cs
  | .sc _ => true
  | .dead => true
def noRefL : List AV → Bool
  | [] => true
  | a :: as => noRef a && noRefL as
end

mutual
/-- Nothing owned inside. -/
def noOwn : AV → Bool
  | .row _ => false
  | .bx _ => false
  | .agg cs => noOwnL cs
  | .tup cs => noOwnL cs
  | _ => true
def noOwnL : List AV → Bool
  | [] => true
  | a :: as => noOwn a && noOwnL as
end

/-- WHAT IS CLAIMED OF A FUNCTION: called with values that read as 'args' it returns a value that reads as r, and writes nothing that was there. -/
def CallOK (P : Program) (f : Nat) (args : List AV) (r : AV) : Prop :=
  Enter P f ∧ noRef r = true ∧ ∀ (w : World) (A : Nat → Prop) (vs : List Value), RelL (cx0 w A) args vs [] → (∀ x, A x → x < w.heap.size) →
    Calls P f vs.toArray w fun e w' => ∃ v A' F', e = .returned v ∧ Rel (cx0 w' A') r v F' ∧ (∀ x, A x → A' x) ∧
      (∀ x, x ∈ F' → A' x ∧ w.heap.size ≤ x) ∧ Blw w w' []

mutual
/-- No alias, no pointer into what the activation owns. -/
def pureA : AV → Bool
  | .ref .. => false
  | .ptr .. => false
  | .row _ => false
  | .bx _ => false
  | .imm cs => pureL cs
  | .iptr cs => pureL cs
  | .agg cs => pureL cs
  | .tup cs => pureL cs
  | .fn _ cs => pureL cs
  | .sc _ => true
  | .dead => true
def pureL : List AV → Bool
  | [] => true
  | a :: as => pureA a && pureL as
end

mutual
/-- Nothing that is read only memory of somebody. -/
def noI : AV → Bool
  | .ref .. => false
  | .ptr .. => false
  | .imm _ => false
  | .iptr _ => false
  | .fn _ cs => noIL cs
  | .row cs => noIL cs
  | .bx cs => noIL cs
  | .agg cs => noIL cs
  | .tup cs => noIL cs
  | .sc _ => true
  | .dead => true
def noIL : List AV → Bool
  | [] => true
  | a :: as => noI a && noIL as
end

/-- What the callee reads of a value: what is owned here is read only there. -/
def ex (ro : Ro) : Nat → AV → AV
  | 0, _ => .dead
  | n + 1, a => match a with
    | .sc v => .sc v
    | .dead => .dead
    | .imm cs => .imm (cs.map (ex ro n))
    | .iptr cs => .iptr (cs.map (ex ro n))
    | .row cs => .imm (cs.map (ex ro n))
    | .bx cs => .iptr (cs.map (ex ro n))
    | .agg cs => .agg (cs.map (ex ro n))
    | .tup cs => .tup (cs.map (ex ro n))
    | .fn f cs => .fn f (cs.map (ex ro n))
    | .ref s g p off k => match ro.cells s g p with
      | some cs => .imm (((cs.drop off).take k).map (ex ro n))
      | none => .dead
    | .ptr s g p i => match ro.cells s g p with
      | some cs => .iptr ((cs.drop i).map (ex ro n))
      | none => .dead

/-- What is handed over to be written: whole slices, whole boxes. -/
def exO (ro : Ro) : AV → Option AV
  | .ref s g p 0 n => match ro.at s g p with
    | some (.row cs) => if n = cs.length then some (.row cs) else none
    | _ => none
  | .ptr s g [] 0 => match ro s g with
    | some (.bx cs) => some (.bx cs)
    | _ => none
  | .agg cs => match cs with
    | [.ref s g p 0 n, .ref s' g' p' 0 n'] => match ro.at s g p, ro.at s' g' p' with
      | some (.row xs), some (.row ys) => if n = xs.length ∧ n' = ys.length ∧ (s, g) ≠ (s', g') then some (.agg [.row xs, .row ys]) else none
      | _, _ => none
    | [.ref s g p 0 n] => match ro.at s g p with
      | some (.row xs) => if n = xs.length then some (.agg [.row xs]) else none
      | _ => none
    | _ => if pureL cs then some (.agg cs) else none
  | a => if pureA a then some a else none

/-- Import of a result: each row that is owned becomes a root of its own. -/
def impL (b : Nat) (gn : Nat → Nat) : List AV → List AV × List (Nat × AV) × Nat
  | [] => ([], [], b)
  | .row cs :: as => let r := impL (b + 1) gn as; (.ref b (gn b + 1) [] 0 cs.length :: r.1, (b, .row cs) :: r.2.1, r.2.2)
  | .bx cs :: as => let r := impL (b + 1) gn as; (.ptr b (gn b + 1) [] 0 :: r.1, (b, .bx cs) :: r.2.1, r.2.2)
  | a :: as => let r := impL b gn as; (a :: r.1, r.2.1, r.2.2)

def impT (b : Nat) (gn : Nat → Nat) : List AV → List AV × List (Nat × AV) × Nat
  | [] => ([], [], b)
  | .agg cs :: as => let x := impL b gn cs; let r := impT x.2.2 gn as; (.agg x.1 :: r.1, x.2.1 ++ r.2.1, r.2.2)
  | a :: as => let x := impL b gn [a]; let r := impT x.2.2 gn as; (x.1 ++ r.1, x.2.1 ++ r.2.1, r.2.2)

def imp (b : Nat) (gn : Nat → Nat) : AV → AV × List (Nat × AV)
  | .tup cs => let x := impT b gn cs; (.tup x.1, x.2.1)
  | a => let x := impT b gn [a]; (x.1.headD .dead, x.2.1)

/-- What can be imported. -/
def imp1 : AV → Bool
  | .row _ => true
  | .bx _ => true
  | a => noOwn a
def impA : AV → Bool
  | .agg cs => cs.all imp1
  | a => imp1 a
def impOK : AV → Bool
  | .tup cs => cs.all impA
  | a => impA a

/-- Sites: an operation of a region. -/
def site (rid i : Nat) : Nat := (rid + 1) * 4096 + i * 16

structure Cfg where
  P : Program
  ti : Nat → Option TI
  inl : Nat → List AV → Ro → (Nat → Nat) → AV → Ro → (Nat → Nat) → Prop

/-- The effect of a call of function f. -/
def callR (C : Cfg) (b : Nat) (st : St) (f : Nat) (args : List AV) (e : Eff) : Prop :=
  if pureL args then ∃ r, CallOK C.P f args r ∧ impOK r = true ∧ e = ⟨(imp b st.gn r).1, none, [], (imp b st.gn r).2⟩
  else ∃ r, CallOK C.P f (args.map (ex st.ro 8)) r ∧ impOK r = true ∧ noI r = true ∧ e = ⟨(imp b st.gn r).1, none, [], (imp b st.gn r).2⟩

def opR (C : Cfg) (b : Nat) (st : St) (op : Op) (e : Eff) : Prop := match op with
  | .call c => match c.callee with
    | .value f => match st.ev f with
      | .fn f caps => callR C b st f (c.args.toList.map st.ev ++ caps) e
      | _ => False
    | _ => opC C.ti b st.ro st.gn st.ev (.call c) = some e
  | op => opC C.ti b st.ro st.gn st.ev op = some e

/-- Is the operation wanted? -/
def zbl (ops : Array Oper) (o : Oper) (st : St) : Option Bool := match o.guard with
  | none => some true
  | some (j, t) => match (ops[j]?).bind (·.dst) with
    | some d => match st.sl d with
      | .sc (.bool x) => some (x == t)
      | .sc v => if (match v with | .bool _ => true | _ => false) then none else some false
      | _ => none
    | none => none

def stepR (C : Cfg) (rid : Nat) (ops : Array Oper) (i : Nat) (o : Oper) (st st' : St) : Prop := match zbl ops o st with
  | some true => ∃ e, opR C (site rid i) st o.op e ∧ st' = (st.eff e).put o.dst e.v
  | some false => st' = st.put o.dst (.sc undef)
  | none => False

/-- A call whose callee works in the caller's own memory. -/
def inR (C : Cfg) (st : St) (op : Op) (r : AV) (ro' : Ro) (gn' : Nat → Nat) : Prop := match op with
  | .call c => match c.callee with
    | .value f => match st.ev f with
      | .fn f caps => C.inl f (c.args.toList.map st.ev ++ caps) st.ro st.gn r ro' gn'
      | _ => False
    | _ => False
  | _ => False

def opsW (C : Cfg) (rid : Nat) (ops : Array Oper) : List Oper → Nat → (St → Prop) → St → Prop
  | [], _, Q, st => Q st
  | o :: rest, i, Q, st => match zbl ops o st with
    | some true => (∃ e, opR C (site rid i) st o.op e ∧ opsW C rid ops rest (i + 1) Q ((st.eff e).put o.dst e.v)) ∨
        (∃ r ro' gn', inR C st o.op r ro' gn' ∧ opsW C rid ops rest (i + 1) Q ((⟨st.sl, ro', gn'⟩ : St).put o.dst r))
    | some false => opsW C rid ops rest (i + 1) Q (st.put o.dst (.sc undef))
    | none => False

mutual
/-- The sites that a value names. -/
def zdy : AV → List Nat
  | .ref s _ _ _ _ => [s]
  | .ptr s _ _ _ => [s]
  | .agg cs => zdz cs
  | .tup cs => zdz cs
  | .fn _ cs => zdz cs
  | _ => []
def zdz : List AV → List Nat
  | [] => []
  | a :: as => zdy a ++ zdz as
end

/-- The sites that an operation reads; none: it may read all. -/
def rdS (ev : Operand → AV) : Op → Option (List Nat)
  | .binOp _ _ x _ _ => some (zdy (ev x))
  | .load _ x => some (zdy (ev x))
  | .store _ x y => some (zdy (ev x) ++ zdy (ev y))
  | .fieldAddr _ x _ => some (zdy (ev x))
  | .indexAddr _ x _ => some (zdy (ev x))
  | .slice _ x _ _ _ => some (zdy (ev x))
  | .box _ x => some (zdy (ev x))
  | .build _ ps => some (ps.toList.flatMap fun p => zdy (ev p.2))
  | .buildSlice _ _ ps => some (ps.toList.flatMap fun p => zdy (ev p.2))
  | .call c => match c.callee with
    | .value f => match ev f with
      | .fn _ caps => if pureL (c.args.toList.map ev ++ caps) then some [] else none
      | _ => some []
    | _ => some (c.args.toList.flatMap fun x => zdy (ev x))
  | _ => some []

mutual
/-- What a value names holds no alias itself. -/
def shA (ro : Ro) : AV → Bool
  | .ref s g p _ _ => match ro.cells s g p with
    | some cs => noRefL cs
    | none => true
  | .ptr s g p _ => match ro.cells s g p with
    | some cs => noRefL cs
    | none => true
  | .agg cs => shL ro cs
  | .tup cs => shL ro cs
  | .fn _ cs => shL ro cs
  | .imm cs => noRefL cs
  | .iptr cs => noRefL cs
  | .row cs => noRefL cs
  | .bx cs => noRefL cs
  | .sc _ => true
  | .dead => true
def shL (ro : Ro) : List AV → Bool
  | [] => true
  | a :: as => shA ro a && shL ro as
end
def rdX (ro : Ro) (ev : Operand → AV) : Op → Option (List Nat)
  | .call c => match c.callee with
    | .value f => match ev f with
      | .fn _ caps => if shL ro (c.args.toList.map ev ++ caps) then some (zdz (c.args.toList.map ev ++ caps)) else none
      | _ => none
    | _ => none
  | _ => none
/-- The same, told more closely of calls. -/
def rdR (ro : Ro) (ev : Operand → AV) (op : Op) : Option (List Nat) := match rdS ev op with
  | some r => some r
  | none => rdX ro ev op

/-- The sites that an effect writes. -/
def Eff.sites (e : Eff) : List Nat := (match e.wr with | some x => [x.s] | none => []) ++ e.dl.map (·.1) ++ e.al.map (·.1)

structure FP where
  rd : Option (List Nat)
  wr : List Nat

/-- The same, with what each operation reads and writes. -/
def opsD (C : Cfg) (rid : Nat) (ops : Array Oper) : List Oper → Nat → List FP → (St → List FP → Prop) → St → Prop
  | [], _, acc, Q, st => Q st acc.reverse
  | o :: rest, i, acc, Q, st => match zbl ops o st with
    | some true => ∃ e, opR C (site rid i) st o.op e ∧ opsD C rid ops rest (i + 1) (⟨rdR st.ro st.ev o.op, e.sites⟩ :: acc) Q ((st.eff e).put o.dst e.v)
    | some false => opsD C rid ops rest (i + 1) (⟨some [], []⟩ :: acc) Q (st.put o.dst (.sc undef))
    | none => False

def disj (a b : List Nat) : Bool := a.all fun x => !b.contains x

def FP.apart (a b : FP) : Bool :=
  (match a.rd with | some r => disj r b.wr | none => b.wr.isEmpty) && (match b.rd with | some r => disj r a.wr | none => a.wr.isEmpty) && disj a.wr b.wr

/-- Does j come before i by the edges? -/
def befB (ops : Array Oper) : Nat → Nat → Nat → Bool
  | 0, _, _ => false
  | n + 1, j, i => match ops[i]? with
    | some o => o.after.toList.any fun e => Region.binds .any e && (e.on == j || befB ops n j e.on)
    | none => false

/-- May the operations go in any order that the edges leave? -/
def okPair (ops : Array Oper) (fp : List FP) (j i : Nat) : Bool :=
  match ops[j]?, ops[i]?, fp[j]?, fp[i]? with
  | some x, some y, some a, some b => (x.apart ops y && a.apart b) || befB ops ops.size j i
  | _, _, _, _ => false

def okD (ops : Array Oper) (fp : List FP) : Bool := (List.range ops.size).all fun i =>
  (match ops[i]? with | some o => o.after.toList.all fun e => !Region.binds .any e || decide (e.on < i) | none => true) && (List.range i).all fun j => okPair ops fp j i

/-- WEAKEST PRECONDITION OF CODE. -/
def codeW (C : Cfg) : Code → (Exit → St → Prop) → St → Prop
  | .skip, Q, st => Q .normal st
  | .region id ops false, Q, st => opsW C id ops ops.toList 0 (Q .normal) st
  | .region id ops true, Q, st => opsD C id ops ops.toList 0 [] (fun st fp => okD ops fp = true ∧ Q .normal st) st
  | .seq a b, Q, st => codeW C a (fun e st' => match e with
    | .normal => codeW C b Q st'
    | e => Q e st') st
  | .cond c x y, Q, st => ∃ t, st.ev c = .sc (.bool t) ∧ (t = true → codeW C x Q st) ∧ (t = false → codeW C y Q st)
  | .block id c, Q, st => codeW C c (fun e st' => match e with
    | .exit j => if j = id then Q .normal st' else Q (.exit j) st'
    | e => Q e st') st
  | .loop c, Q, st => ∃ (I : Nat → St → Prop) (n : Nat), I n st ∧ ∀ n st', I n st' → codeW C c (fun e st'' => match e with
    | .normal => ∃ m, m < n ∧ I m st''
    | e => Q e st'') st'
  | .exit id, Q, st => Q (.exit id) st
  | .ret, Q, st => Q .ret st
  | _, _, _ => False

/-- All slots that the code writes are below n. -/
def dstOK (n : Nat) : Code → Bool
  | .region _ ops _ => ops.toList.all fun o => match o.dst with
    | some d => decide (d < n)
    | none => true
  | .seq a b => dstOK n a && dstOK n b
  | .cond _ x y => dstOK n x && dstOK n y
  | .block _ c => dstOK n c
  | .loop c => dstOK n c
  | _ => true

end Go.Proofs.Ytifgeenipinnmaa
