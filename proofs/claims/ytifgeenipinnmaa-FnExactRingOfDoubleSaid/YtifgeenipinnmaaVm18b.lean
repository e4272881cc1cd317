/- The abstract machine: the operations once more, cut into small parts (the kernel goes faster through them). -/
import Derived.Test.YtifgeenipinnmaaVm2
set_option linter.all false
namespace Go.Proofs.Ytifgeenipinnmaa
open Go.RowKit

def inI64 : Int → Bool
  | .ofNat m => Nat.ble m 9223372036854775807
  | .negSucc m => Nat.ble m 9223372036854775807

def wrF (n : Int) : Int := cond (inI64 n) n (IntKind.wrap .i64 n)

theorem wrF_eq (n : Int) : wrF n = IntKind.wrap .i64 n := by
  unfold wrF
  cases h : inI64 n with
  | false => rfl
  | true =>
    simp only [cond_true]
    have h1 : -9223372036854775808 ≤ n ∧ n ≤ 9223372036854775807 := by
      cases n with
      | ofNat m => simp only [inI64] at h; have := Nat.le_of_ble_eq_true h; simp only [Int.ofNat_eq_natCast]; omega
      | negSucc m => simp only [inI64] at h; have := Nat.le_of_ble_eq_true h; omega
    have e : IntKind.bits .i64 = 64 := rfl
    have s : IntKind.signed .i64 = true := rfl
    simp only [IntKind.wrap, e, s, Bool.true_and, decide_eq_true_eq]
    split <;> omega

def ltI (a b : Int) : Bool := match Int.sub a b with
  | .negSucc _ => true
  | .ofNat _ => false

theorem zea (a b : Int) : ltI a b = decide (a < b) := by
  unfold ltI
  have : Int.sub a b = a - b := rfl
  rw [this]
  cases h : a - b with
  | ofNat m => simp only; symm; rw [decide_eq_false_iff_not]; simp only [Int.ofNat_eq_natCast] at h; omega
  | negSucc m => simp only; symm; rw [decide_eq_true_eq]; omega

def eqI (a b : Int) : Bool := match a, b with
  | .ofNat m, .ofNat n => Nat.beq m n
  | .negSucc m, .negSucc n => Nat.beq m n
  | _, _ => false

theorem zeb (a b : Int) : eqI a b = decide (a = b) := by
  have nb : ∀ m n : Nat, Nat.beq m n = decide (m = n) := by
    intro m n
    cases h : Nat.beq m n with
    | true => have := Nat.eq_of_beq_eq_true h; simp [this]
    | false => have : m ≠ n := Nat.ne_of_beq_eq_false h; simp [this]
  cases a <;> cases b <;> simp [eqI, nb] <;> omega

def isZ : Int → Bool
  | .ofNat m => Nat.beq m 0
  | .negSucc _ => false

def kInt (op : BinOp) (a b : Int) : Option Value := match op with
  | .add => some (.int .i64 (wrF (Int.add a b)))
  | .sub => some (.int .i64 (wrF (Int.sub a b)))
  | .mul => some (.int .i64 (wrF (Int.mul a b)))
  | .quo => cond (isZ b) none (some (.int .i64 (wrF (Int.tdiv a b))))
  | .rem => cond (isZ b) none (some (.int .i64 (Int.tmod a b)))
  | .eql => some (.bool (eqI a b))
  | .neq => some (.bool (not (eqI a b)))
  | .lss => some (.bool (ltI a b))
  | .leq => some (.bool (not (ltI b a)))
  | .gtr => some (.bool (ltI b a))
  | .geq => some (.bool (not (ltI a b)))
  | _ => none

theorem kInt_ok {op : BinOp} {a b : Int} {v : Value} (h : kInt op a b = some v) : semPure (binOp op 0 (.int .i64 a) (.int .i64 b)) = some v := by
  have hz : isZ b = false → b ≠ 0 := by rintro h rfl; exact absurd h (by decide)
  have hle : ∀ x y : Int, (!decide (y < x)) = decide (x ≤ y) := by intro x y; rw [← decide_not]; exact decide_eq_decide.2 (by omega)
  cases op <;> simp only [kInt, reduceCtorEq, Option.some.injEq, wrF_eq, zea, zeb] at h
  case quo =>
    cases h0 : isZ b with
    | true => rw [h0] at h; cases h
    | false =>
      rw [h0] at h
      simp only [cond_false, Option.some.injEq] at h
      subst h
      simp [binOp, Op.intDiv, hz h0, semPure]; rfl
  case rem =>
    cases h0 : isZ b with
    | true => rw [h0] at h; cases h
    | false =>
      rw [h0] at h
      simp only [cond_false, Option.some.injEq] at h
      subst h
      simp [binOp, Op.intDiv, hz h0, semPure]; rfl
  all_goals
    subst h
    simp only [binOp, ne_eq, not_true_eq_false, if_false, Op.intArith, Op.intCmp, hle]
    first | rfl | (simp [semPure, pure]; done) | skip

def kMove (a : AV) : Option Eff := some ⟨a, none, [], []⟩

def zcm (c x y : AV) : Option Eff := match c with
  | .sc (.bool t) => some ⟨if t then x else y, none, [], []⟩
  | _ => none

def kBin0 (i : Option TI) (ro : Ro) (op : BinOp) (x y : AV) : Option Eff := match i with
  | some inf => if zee ro x then (match binA inf op x y with
    | some v => some ⟨.sc v, none, [], []⟩
    | none => none) else none
  | none => none

def zco (i : Option TI) (ro : Ro) (op : BinOp) (a b : Int) : Option Eff := match kInt op a b with
  | some v => match i with
    | some _ => some ⟨.sc v, none, [], []⟩
    | none => none
  | none => kBin0 i ro op (.sc (.int .i64 a)) (.sc (.int .i64 b))

def zcn (i : Option TI) (ro : Ro) (op : BinOp) (x y : Value) : Option Eff := match x with
  | .int .i64 a => match y with
    | .int .i64 b => zco i ro op a b
    | y => kBin0 i ro op (.sc (.int .i64 a)) (.sc y)
  | x => kBin0 i ro op (.sc x) (.sc y)

def kBin (i : Option TI) (ro : Ro) (op : BinOp) (x y : AV) : Option Eff := match x with
  | .sc a => match y with
    | .sc b => zcn i ro op a b
    | y => kBin0 i ro op (.sc a) y
  | x => kBin0 i ro op x y

theorem kBin_eq (i : Option TI) (ro : Ro) (op : BinOp) (x y : AV) : kBin i ro op x y = kBin0 i ro op x y := by
  have h1 : ∀ a b, zco i ro op a b = kBin0 i ro op (.sc (.int .i64 a)) (.sc (.int .i64 b)) := by
    intro a b
    unfold zco
    cases hk : kInt op a b with
    | none => rfl
    | some v =>
      cases i with
      | none => rfl
      | some inf => simp only [kBin0, zee, if_true, binA, kInt_ok hk]
  have h2 : ∀ a b, zcn i ro op a b = kBin0 i ro op (.sc a) (.sc b) := by
    intro a b
    unfold zcn
    split
    · split
      · exact h1 _ _
      · rfl
    · rfl
  unfold kBin
  split
  · split
    · exact h2 _ _
    · rfl
  · rfl

def zed (ro : Ro) (inf : TI) (s g : Nat) (p : List Nat) (i : Nat) : Option Eff := match ro.cells s g p with
  | some cs => if inf.isAgg then
      (if i + inf.size ≤ cs.length then some ⟨.agg (zfi s g p i ((cs.drop i).take inf.size)), none, [], []⟩ else none)
    else match cs[i]? with
      | some c => some ⟨lift s g (p ++ [i]) c, none, [], []⟩
      | none => none
  | none => none

def zcq (inf : TI) (cs : List AV) : Option Eff := if inf.isAgg then
    (if inf.size ≤ cs.length then some ⟨.agg (cs.take inf.size), none, [], []⟩ else none)
  else match cs with
    | c :: _ => some ⟨c, none, [], []⟩
    | [] => none

def zcp (i : Option TI) (ro : Ro) (x : AV) : Option Eff := match i with
  | some inf => match x with
    | .ptr s g p i => zed ro inf s g p i
    | .iptr cs => zcq inf cs
    | _ => none
  | none => none

def zeo (i : Option TI) (ro : Ro) (x y : AV) : Option Eff := match i with
  | some inf => match x with
    | .ptr s g p i => match ro.cells s g p with
      | some cs =>
        if i + inf.size ≤ cs.length ∧ (zem y).length = inf.size ∧ (zem y).all (if isBxAt ro s g p then cellOkB ro else zez) then
          some ⟨.sc undef, some ⟨s, g, p, i, zem y⟩, [], []⟩
        else none
      | none => none
    | _ => none
  | none => none

def zec (i : Option TI) (ro : Ro) (x : AV) (f : Nat) : Option Eff := match i with
  | some inf => match inf.flds[f]? with
    | some (off, _) => if inf.isAgg ∧ zee ro x then match x with
      | .ptr s g p i => some ⟨.ptr s g p (i + off), none, [], []⟩
      | .iptr cs => if off ≤ cs.length then some ⟨.iptr (cs.drop off), none, [], []⟩ else none
      | _ => none
      else none
    | none => none
  | none => none

def kIdx (i : Option TI) (ro : Ro) (x ix : AV) : Option Eff := match i with
  | some inf => match inf.elem, ix with
    | some _, .sc (.int _ i) => match x with
      | .ref s g p off n => if 0 ≤ i ∧ i < n ∧ (ro.cells s g p).isSome then some ⟨.ptr s g p (off + i.toNat), none, [], []⟩ else none
      | .imm cs => if 0 ≤ i then (match cs[i.toNat]? with
          | some c => some ⟨.iptr [c], none, [], []⟩
          | none => none) else none
      | _ => none
    | _, _ => none
  | none => none

def kLen (ti : Nat → Option TI) (ro : Ro) (ev : Operand → AV) : List Operand → List TypeId → Option Eff
  | [x], [t] => match ti t with
    | some inf => match ev x with
      | .ref s g p _ n => if inf.elem.isSome ∧ (ro.cells s g p).isSome then some ⟨.sc (.int .i64 n), none, [], []⟩ else none
      | .imm cs => if inf.elem.isSome then some ⟨.sc (.int .i64 cs.length), none, [], []⟩ else none
      | .sc (.string s) => if inf.str then some ⟨.sc (.int .i64 s.size), none, [], []⟩ else none
      | .sc (.slice none 0 0) => if inf.elem.isSome then some ⟨.sc (.int .i64 0), none, [], []⟩ else none
      | _ => none
    | none => none
  | _, _ => none

def kCall (ti : Nat → Option TI) (b : Nat) (ro : Ro) (gn : Nat → Nat) (ev : Operand → AV) (c : Call) : Option Eff := match c.callee with
  | .builtin .len => kLen ti ro ev c.args.toList c.argTypes.toList
  | _ => opC ti b ro gn ev (.call c)

/-- The operations. -/
def opK (ti : Nat → Option TI) (b : Nat) (ro : Ro) (gn : Nat → Nat) (ev : Operand → AV) (op : Op) : Option Eff := match op with
  | .move x => kMove (ev x)
  | .assign x => kMove (ev x)
  | .pick c x y => zcm (ev c) (ev x) (ev y)
  | .binOp op t x y _ => kBin (ti t) ro op (ev x) (ev y)
  | .load t x => zcp (ti t) ro (ev x)
  | .store t x y => zeo (ti t) ro (ev x) (ev y)
  | .fieldAddr t x f => zec (ti t) ro (ev x) f
  | .indexAddr t x ix => kIdx (ti t) ro (ev x) (ev ix)
  | .call c => kCall ti b ro gn ev c
  | op => opC ti b ro gn ev op

theorem opK_eq (ti : Nat → Option TI) (b : Nat) (ro : Ro) (gn : Nat → Nat) (ev : Operand → AV) (op : Op) : opK ti b ro gn ev op = opC ti b ro gn ev op := by
  cases op
  case binOp op t x y z => exact kBin_eq _ _ _ _ _
  case call c =>
    simp only [opK, kCall]
    split
    · rename_i hc
      simp only [opC, hc]
      match h1 : c.args.toList, h2 : c.argTypes.toList with
      | [], _ => simp [kLen]
      | [x], [] => simp [kLen]
      | [x], [t] => rfl
      | [x], _ :: _ :: _ => simp [kLen]
      | _ :: _ :: _, _ => simp [kLen]
    · rfl
  all_goals rfl

end Go.Proofs.Ytifgeenipinnmaa
