/- Laws of the operations, for rewriting. -/
import Derived.Test.YtifgeenipinnmaaVm23
set_option linter.all false
namespace Go.Proofs.Ytifgeenipinnmaa
open Go.RowKit

theorem zcy (f : Nat → AV) (k : Nat) (v : AV) (j : Nat) : upd f k v j = if j = k then v else f j := nr _
theorem zcz (f : Nat → AV) (k : Nat) (v : AV) : upd f k v k = v := upd_same f k v
theorem zda (f : Nat → Nat) (k v j : Nat) : upg f k v j = if j = k then v else f j := nr _
theorem zdb (f : Ro) (s g : Nat) (a : AV) (s' g' : Nat) : upr f s g a s' g' = if s' = s ∧ g' = g then some a else f s' g' := nr _
theorem zct (st : St) (v : AV) : st.eff ⟨v, none, [], []⟩ = st := nr _
theorem zcu (sl : Nat → AV) (ro : Ro) (gn : Nat → Nat) (v : AV) (s : Nat) (a : AV) : (⟨sl, ro, gn⟩ : St).eff ⟨v, none, [], [(s, a)]⟩ = ⟨sl, upr ro s (gn s + 1) a, upg gn s (gn s + 1)⟩ := nr _
theorem zcv (sl : Nat → AV) (ro : Ro) (gn : Nat → Nat) (v : AV) (x : Wr) : (⟨sl, ro, gn⟩ : St).eff ⟨v, some x, [], []⟩ = ⟨sl, ro.wr x, gn⟩ := nr _
theorem zcw (sl : Nat → AV) (ro : Ro) (gn : Nat → Nat) (d : Tmp) (v : AV) : (⟨sl, ro, gn⟩ : St).put (some d) v = ⟨upd sl d v, ro, gn⟩ := nr _
theorem zcx (st : St) (v : AV) : st.put none v = st := nr _

def zek (i : Option TI) (b : Nat) (gn : Nat → Nat) : Option Eff := match i with
  | some inf => some ⟨.ptr b (gn b + 1) [] 0, none, [], [(b, .bx (inf.zero.map .sc))]⟩
  | none => none
def kBox (b : Nat) (ro : Ro) (gn : Nat → Nat) (x : AV) : Option Eff :=
  if (zem x).all (cellOkB ro) then (if (zem x).length ≤ 65536 then some ⟨.ptr b (gn b + 1) [] 0, none, [], [(b, .bx (zem x))]⟩ else none) else none
def zel (ti : Nat → Option TI) (i : Option TI) (ro : Ro) (ev : Operand → AV) (parts : List (Nat × Operand)) : Option Eff := match i with
  | some inf => if inf.isAgg then (match zfa ti ro inf.flds ev (inf.zero.map .sc) parts with
      | some cs => some ⟨.agg cs, none, [], []⟩
      | none => none) else none
  | none => none
def zeq (ti : Nat → Option TI) (b : Nat) (i : Option TI) (ro : Ro) (gn : Nat → Nat) (ev : Operand → AV) (n : Nat) (parts : List (Nat × Operand)) : Option Eff := match i with
  | some inf => match inf.elem with
    | some e => match ti e with
      | some ie => match zer ro ev parts with
        | some (as, ws) => if n ≤ 65536 ∧ as.all (fun p => decide (p.1 < n)) then some ⟨.ref b (gn b + 1) [] 0 n, none, ws, [(b, .row (zet (List.replicate n (.sc (ie.zero.getD 0 undef))) as))]⟩ else none
        | none => none
      | none => none
    | none => none
  | none => none
def kMake (ti : Nat → Option TI) (b : Nat) (i : Option TI) (gn : Nat → Nat) (l c : AV) : Option Eff := match i with
  | some inf => match inf.elem with
    | some e => match ti e, l, c with
      | some ie, .sc (.int .i64 n), .sc (.int .i64 m) => if 0 ≤ n ∧ n ≤ m ∧ m ≤ maxN then
          some ⟨.ref b (gn b + 1) [] 0 n.toNat, none, [], [(b, .row (List.replicate n.toNat (.sc (ie.zero.getD 0 undef))))]⟩ else none
      | _, _, _ => none
    | none => none
  | none => none
def zcr (x : AV) (i : Nat) : Option Eff := match x with
  | .tup cs => match cs[i]? with
    | some c => some ⟨c, none, [], []⟩
    | none => none
  | _ => none
def kUn (op : UnOp) (x : AV) : Option Eff := match x with
  | .sc v => match semPure (Op.unary op v) with
    | some v => some ⟨.sc v, none, [], []⟩
    | none => none
  | _ => none
def kFieldV (ti : Nat → Option TI) (i : Option TI) (x : AV) (f : Nat) : Option Eff := match i with
  | some inf => match inf.flds[f]? with
    | some (off, ft) => match ti ft, x with
      | some fi, .agg cs => if inf.isAgg ∧ off + fi.size ≤ cs.length then
          (if fi.isAgg then some ⟨.agg ((cs.drop off).take fi.size), none, [], []⟩ else match cs[off]? with
            | some c => some ⟨c, none, [], []⟩
            | none => none)
        else none
      | _, _ => none
    | none => none
  | none => none
def kConv (i j : Option TI) (x : AV) : Option Eff := match i, j, x with
  | some i, some j, .sc (.int _ n) => match i.ik, j.ik with
    | some _, some k => match semPure (Conv.intToInt k n) with
      | some v => some ⟨.sc v, none, [], []⟩
      | none => none
    | _, _ => none
  | _, _, _ => none
def kApp (i : Option TI) (tt : Prop) [Decidable tt] (b : Nat) (ro : Ro) (gn : Nat → Nat) (x y : AV) : Option Eff :=
  if tt ∧ (i.bind (·.elem)).isSome then match zeu ro y with
    | some (el, ws) => match x with
      | .sc (.slice none 0 0) => if el.length = 0 then some ⟨.sc (.slice none 0 0), none, [], []⟩
          else if el.length ≤ maxN then some ⟨.ref b (gn b + 1) [] 0 el.length, none, ws, [(b, .row el)]⟩ else none
      | .ref s g [] off n => match (ro.dl ws) s g with
        | some (.row cs) => if n + el.length ≤ maxN then
            some ⟨.ref s (gn s + 1) [] 0 (n + el.length), none, ws ++ [(s, g)], [(s, .row ((cs.drop off).take n ++ el))]⟩ else none
        | _ => none
      | _ => none
    | none => none
    else none

def kLen1 (i : Option TI) (ro : Ro) (x : AV) : Option Eff := match i with
  | some inf => match x with
    | .ref s g p _ n => if inf.elem.isSome ∧ (ro.cells s g p).isSome then some ⟨.sc (.int .i64 n), none, [], []⟩ else none
    | .imm cs => if inf.elem.isSome then some ⟨.sc (.int .i64 cs.length), none, [], []⟩ else none
    | .sc (.string s) => if inf.str then some ⟨.sc (.int .i64 s.size), none, [], []⟩ else none
    | .sc (.slice none 0 0) => if inf.elem.isSome then some ⟨.sc (.int .i64 0), none, [], []⟩ else none
    | _ => none
  | none => none
def kMax (x y : AV) : Option Eff := match x, y with
  | .sc (.int k n), .sc (.int k' m) => if k = k' then some ⟨.sc (.int k (if m > n then m else n)), none, [], []⟩ else none
  | _, _ => none
def kMin (x y : AV) : Option Eff := match x, y with
  | .sc (.int k n), .sc (.int k' m) => if k = k' then some ⟨.sc (.int k (if m < n then m else n)), none, [], []⟩ else none
  | _, _ => none

section
variable {ti : Nat → Option TI} {b : Nat} {ro : Ro} {gn : Nat → Nat} {ev : Operand → AV}
theorem zbn (x : Operand) : opK ti b ro gn ev (.move x) = some ⟨ev x, none, [], []⟩ := nr _
theorem zbo (x : Operand) : opK ti b ro gn ev (.assign x) = some ⟨ev x, none, [], []⟩ := nr _
theorem zbp (c x y : Operand) : opK ti b ro gn ev (.pick c x y) = zcm (ev c) (ev x) (ev y) := nr _
theorem zbq (op : BinOp) (t : TypeId) (x y : Operand) (z) : opK ti b ro gn ev (.binOp op t x y z) = kBin (ti t) ro op (ev x) (ev y) := nr _
theorem zbr (op : UnOp) (t : TypeId) (x : Operand) : opK ti b ro gn ev (.unOp op t x) = kUn op (ev x) := nr _
theorem zbs (t : TypeId) (x : Operand) : opK ti b ro gn ev (.load t x) = zcp (ti t) ro (ev x) := nr _
theorem zbt (t : TypeId) (x y : Operand) : opK ti b ro gn ev (.store t x y) = zeo (ti t) ro (ev x) (ev y) := nr _
theorem zbu (t : TypeId) (x : Operand) (f : Nat) : opK ti b ro gn ev (.fieldAddr t x f) = zec (ti t) ro (ev x) f := nr _
theorem zbv (t : TypeId) (x : Operand) (f : Nat) : opK ti b ro gn ev (.field t x f) = kFieldV ti (ti t) (ev x) f := nr _
theorem zbw (t : TypeId) (x ix : Operand) : opK ti b ro gn ev (.indexAddr t x ix) = kIdx (ti t) ro (ev x) (ev ix) := nr _
theorem zbx (t : TypeId) : opK ti b ro gn ev (.alloc t) = zek (ti t) b gn := nr _
theorem zby (t : TypeId) (x : Operand) : opK ti b ro gn ev (.box t x) = kBox b ro gn (ev x) := nr _
theorem zbz (t : TypeId) (p : Array (Nat × Operand)) : opK ti b ro gn ev (.build t p) = zel ti (ti t) ro ev p.toList := nr _
theorem zca (t : TypeId) (n : Nat) (p : Array (Nat × Operand)) : opK ti b ro gn ev (.buildSlice t n p) = zeq ti b (ti t) ro gn ev n p.toList := nr _
theorem zcb (t : TypeId) (l c : Operand) : opK ti b ro gn ev (.makeSlice t l c) = kMake ti b (ti t) gn (ev l) (ev c) := nr _
theorem zcc (x : Operand) (i : Nat) : opK ti b ro gn ev (.extract x i) = zcr (ev x) i := nr _
theorem zcd (s d : TypeId) (x : Operand) : opK ti b ro gn ev (.convert s d x) = kConv (ti s) (ti d) (ev x) := nr _
theorem zce (c : Call) : opK ti b ro gn ev (.call c) = kCall ti b ro gn ev c := nr _
theorem zcf (x : Operand) (t : TypeId) : kCall ti b ro gn ev ⟨.builtin .len, #[x], #[t]⟩ = kLen1 (ti t) ro (ev x) := nr _
theorem zcg (x y : Operand) (t t' : TypeId) : kCall ti b ro gn ev ⟨.builtin .append, #[x, y], #[t, t']⟩ = kApp (ti t) (t = t') b ro gn (ev x) (ev y) := nr _
theorem zch (x y : Operand) (ts : Array TypeId) : kCall ti b ro gn ev ⟨.builtin .max, #[x, y], ts⟩ = kMax (ev x) (ev y) := nr _
theorem zci (x y : Operand) (ts : Array TypeId) : kCall ti b ro gn ev ⟨.builtin .min, #[x, y], ts⟩ = kMin (ev x) (ev y) := nr _
end

theorem zcj (b : Bool) : kUn .not (bo b) = some ⟨bo (!b), none, [], []⟩ := nr _
theorem zck (n : Int) : kUn .neg (i64 n) = some ⟨i64 (wrF (0 - n)), none, [], []⟩ := by rw [wrF_eq]; rfl
theorem zcl {n : Int} {k1 : IntKind} {a1 c1 : Nat} {a2 c2 : Bool} {a3 c3 : List Value} {e f : Option Nat} {a5 c5 : List (Nat × Nat)} {a7 a8 c7 c8 : Bool} : kConv (some ⟨a1, a2, a3, e, a5, some k1, a7, a8⟩) (some ⟨c1, c2, c3, f, c5, some .i64, c7, c8⟩) (i64 n) = some ⟨i64 (wrF n), none, [], []⟩ := by rw [wrF_eq]; rfl

theorem i64c {a b : Int} (h : a = b) : i64 a = i64 b := by rw [h]

theorem zen {ro : Ro} {s g : Nat} {p : List Nat} {off n k : Nat} {a1 : Nat} {a2 : Bool} {a3 : List Value} {e : Nat} {a5 : List (Nat × Nat)} {a6 : Option IntKind} {a7 a8 : Bool} : kIdx (some ⟨a1, a2, a3, some e, a5, a6, a7, a8⟩) ro (.ref s g p off n) (i64 (k : Int)) = if k < n ∧ (ro.cells s g p).isSome = true then some ⟨.ptr s g p (off + k), none, [], []⟩ else none := by
  simp only [kIdx, Int.natCast_nonneg, true_and, Int.ofNat_lt, Int.toNat_natCast]
theorem zep (ro : Ro) (s g o n : Nat) : cellOkB ro (.ref s g [] o n) = (ro.cells s g []).isSome := nr _
theorem zfj (ro : Ro) (v : Value) : cellOkB ro (.sc v) = oneV v := nr _
theorem zfk (ro : Ro) (cs : List AV) : cellOkB ro (.imm cs) = true := nr _
theorem zfl (ro : Ro) (s g i : Nat) : cellOkB ro (.ptr s g [] i) = (ro.cells s g []).isSome := nr _
theorem zfn (s g : Nat) (p : List Nat) (v : Value) : lift s g p (.sc v) = .sc v := nr _
theorem zfo (s g : Nat) (p : List Nat) (cs : List AV) : lift s g p (.imm cs) = .imm cs := nr _
theorem zfp (s g : Nat) (p : List Nat) (cs : List AV) : lift s g p (.row cs) = .ref s g p 0 cs.length := nr _
def rdP (ev : Operand → AV) : List (Nat × Operand) → List Nat
  | [] => []
  | (_, x) :: r => zdy (ev x) ++ rdP ev r
def rdA (ev : Operand → AV) : List Operand → List Nat
  | [] => []
  | x :: r => zdy (ev x) ++ rdA ev r
theorem rdP_eq (ev : Operand → AV) (l : List (Nat × Operand)) : (l.flatMap fun p => zdy (ev p.2)) = rdP ev l := by
  induction l with
  | nil => rfl
  | cons x l ih => obtain ⟨i, x⟩ := x; simp only [List.flatMap_cons, ih, rdP]
theorem rdA_eq (ev : Operand → AV) (l : List Operand) : (l.flatMap fun p => zdy (ev p)) = rdA ev l := by
  induction l with
  | nil => rfl
  | cons x l ih => simp only [List.flatMap_cons, ih, rdA]
def rdC (a : AV) (args : List AV) : Option (List Nat) := match a with
  | .fn _ caps => if pureL (args ++ caps) then some [] else none
  | _ => some []
theorem zdx (f : Nat) (caps args : List AV) : rdC (.fn f caps) args = if pureL (args ++ caps) then some [] else none := nr _
section
variable {ev : Operand → AV}
theorem zdc (x : Operand) : rdS ev (.move x) = some [] := nr _
theorem zdd (x : Operand) : rdS ev (.assign x) = some [] := nr _
theorem zde (c x y : Operand) : rdS ev (.pick c x y) = some [] := nr _
theorem zdg (op : UnOp) (t : TypeId) (x : Operand) : rdS ev (.unOp op t x) = some [] := nr _
theorem zdk (t : TypeId) (x : Operand) (f : Nat) : rdS ev (.field t x f) = some [] := nr _
theorem zdm (t : TypeId) (x ix : Operand) : rdS ev (.index t x ix) = some [] := nr _
theorem zdn (t : TypeId) : rdS ev (.alloc t) = some [] := nr _
theorem zdr (t : TypeId) (l c : Operand) : rdS ev (.makeSlice t l c) = some [] := nr _
theorem zdt (x : Operand) (i : Nat) : rdS ev (.extract x i) = some [] := nr _
theorem zdu (s d : TypeId) (x : Operand) : rdS ev (.convert s d x) = some [] := nr _
theorem zdf (op : BinOp) (t : TypeId) (x y : Operand) (z) : rdS ev (.binOp op t x y z) = some (zdy (ev x)) := nr _
theorem zdh (t : TypeId) (x : Operand) : rdS ev (.load t x) = some (zdy (ev x)) := nr _
theorem zdi (t : TypeId) (x y : Operand) : rdS ev (.store t x y) = some (zdy (ev x) ++ zdy (ev y)) := nr _
theorem zdj (t : TypeId) (x : Operand) (f : Nat) : rdS ev (.fieldAddr t x f) = some (zdy (ev x)) := nr _
theorem zdl (t : TypeId) (x ix : Operand) : rdS ev (.indexAddr t x ix) = some (zdy (ev x)) := nr _
theorem zds (t : TypeId) (x : Operand) (a b c : Option Operand) : rdS ev (.slice t x a b c) = some (zdy (ev x)) := nr _
theorem zdo (t : TypeId) (x : Operand) : rdS ev (.box t x) = some (zdy (ev x)) := nr _
theorem zdp (t : TypeId) (p : Array (Nat × Operand)) : rdS ev (.build t p) = some (rdP ev p.toList) := by rw [← rdP_eq]; rfl
theorem zdq (t : TypeId) (n : Nat) (p : Array (Nat × Operand)) : rdS ev (.buildSlice t n p) = some (rdP ev p.toList) := by rw [← rdP_eq]; rfl
theorem zdv (b : Builtin) (args : Array Operand) (ts : Array TypeId) : rdS ev (.call ⟨.builtin b, args, ts⟩) = some (rdA ev args.toList) := by rw [← rdA_eq]; rfl
theorem zdw (f : Operand) (args : Array Operand) (ts : Array TypeId) : rdS ev (.call ⟨.value f, args, ts⟩) = rdC (ev f) (args.toList.map ev) := by
  simp only [rdS, rdC]
  cases ev f <;> rfl
end
theorem isub (a b : Int) : Int.sub a b = a - b := nr _
theorem beqT (b : Bool) : (b == true) = b := by cases b <;> rfl
theorem beqF (b : Bool) : (b == false) = !b := by cases b <;> rfl
def blkO : Option AV → Option (List AV)
  | some (.row cs) => some cs
  | some (.bx cs) => some cs
  | _ => none
theorem zeh (cs : List AV) : blkO (some (.row cs)) = some cs := nr _
theorem zei (cs : List AV) : blkO (some (.bx cs)) = some cs := nr _
theorem zef (ro : Ro) (s g : Nat) : ro.cells s g [] = blkO (ro s g) := by
  unfold Ro.cells blkO
  cases ro s g with
  | none => rfl
  | some a => cases a <;> rfl
def rowO : Option AV → Option (List AV)
  | some (.row cs) => some cs
  | _ => none
def inO (i : Nat) : Option AV → Option (List AV)
  | some (.row cs) => rowO cs[i]?
  | _ => none
theorem inO_row (i : Nat) (cs : List AV) : inO i (some (.row cs)) = rowO cs[i]? := nr _
theorem rowO_row (cs : List AV) : rowO (some (.row cs)) = some cs := nr _
theorem zeg (ro : Ro) (s g i : Nat) : ro.cells s g [i] = inO i (ro s g) := by
  unfold Ro.cells inO Ro.at
  cases h : ro s g with
  | none => rfl
  | some a =>
    cases a <;> try rfl
    rename_i cs
    simp only [ath]
    cases h2 : cs[i]? with
    | none => rfl
    | some c => cases c <;> rfl

/-! ### Lists of numbers -/

abbrev nilA : AV := .sc (.slice none 0 0)
/-- The value reads as a list of numbers (nil, or read only memory). -/
def isL (a : AV) (xs : List Int) : Prop := a = .imm (xs.map i64) ∨ (xs = [] ∧ a = nilA)
def isLs : List AV → List (List Int) → Prop
  | [], [] => True
  | a :: as, x :: xs => isL a x ∧ isLs as xs
  | _, _ => False
def isLL (a : AV) (xss : List (List Int)) : Prop := (∃ cs, a = .imm cs ∧ isLs cs xss) ∨ (xss = [] ∧ a = nilA)

theorem isL_imm (xs : List Int) : isL (.imm (xs.map i64)) xs := .inl rfl
theorem isLs_len : ∀ {cs : List AV} {xss : List (List Int)}, isLs cs xss → cs.length = xss.length
  | [], [], _ => rfl
  | a :: as, x :: xs, h => by simp only [List.length_cons]; rw [isLs_len h.2]
  | [], _ :: _, h => h.elim
  | _ :: _, [], h => h.elim
theorem isLs_get : ∀ {cs : List AV} {xss : List (List Int)} {k : Nat}, isLs cs xss → k < xss.length → ∃ c, cs[k]? = some c ∧ isL c (xss.getD k [])
  | a :: as, x :: xs, 0, h, _ => ⟨a, rfl, h.1⟩
  | a :: as, x :: xs, k + 1, h, hk => by
    obtain ⟨c, h1, h2⟩ := isLs_get (k := k) h.2 (by simpa using hk)
    exact ⟨c, by simpa using h1, by simpa using h2⟩
  | [], [], k, _, hk => by simp at hk
  | [], _ :: _, _, h, _ => h.elim
  | _ :: _, [], _, h, _ => h.elim
theorem isLs_map (xss : List (List Int)) : isLs (xss.map fun xs => .imm (xs.map i64)) xss := by
  induction xss with
  | nil => trivial
  | cons x xs ih => exact ⟨isL_imm x, ih⟩
theorem isLL_imm (xss : List (List Int)) : isLL (.imm (xss.map fun xs => .imm (xs.map i64))) xss := .inl ⟨_, rfl, isLs_map xss⟩

theorem pureL_map (xs : List Int) : pureL (xs.map i64) = true := by
  induction xs with
  | nil => rfl
  | cons x xs ih => simp [pureL, pureA, ih]
theorem isL_pure {a : AV} {xs : List Int} (h : isL a xs) : pureA a = true := by
  rcases h with rfl | ⟨_, rfl⟩
  · simp [pureA, pureL_map]
  · rfl
theorem isLs_pure : ∀ {cs : List AV} {xss : List (List Int)}, isLs cs xss → pureL cs = true
  | [], [], _ => rfl
  | a :: as, x :: xs, h => by simp [pureL, isL_pure h.1, isLs_pure h.2]
  | [], _ :: _, h => h.elim
  | _ :: _, [], h => h.elim
theorem isLL_pure {a : AV} {xss : List (List Int)} (h : isLL a xss) : pureA a = true := by
  rcases h with ⟨cs, rfl, h⟩ | ⟨_, rfl⟩
  · simp [pureA, isLs_pure h]
  · rfl
theorem isL_sites {a : AV} {xs : List Int} (h : isL a xs) : zdy a = [] := by
  rcases h with rfl | ⟨_, rfl⟩ <;> rfl
theorem isLL_sites {a : AV} {xss : List (List Int)} (h : isLL a xss) : zdy a = [] := by
  rcases h with ⟨cs, rfl, h⟩ | ⟨_, rfl⟩ <;> rfl
theorem isL_cell {a : AV} {xs : List Int} (h : isL a xs) : zez a = true := by
  rcases h with rfl | ⟨_, rfl⟩ <;> rfl
theorem isLL_cell {a : AV} {xss : List (List Int)} (h : isLL a xss) : zez a = true := by
  rcases h with ⟨cs, rfl, h⟩ | ⟨_, rfl⟩ <;> rfl
theorem isL_cellB {a : AV} {xs : List Int} (ro : Ro) (h : isL a xs) : cellOkB ro a = true := by
  rcases h with rfl | ⟨_, rfl⟩ <;> rfl
theorem isLL_cellB {a : AV} {xss : List (List Int)} (ro : Ro) (h : isLL a xss) : cellOkB ro a = true := by
  rcases h with ⟨cs, rfl, h⟩ | ⟨_, rfl⟩ <;> rfl
theorem isL_lift {a : AV} {xs : List Int} (s g : Nat) (p : List Nat) (h : isL a xs) : lift s g p a = a := by
  rcases h with rfl | ⟨_, rfl⟩ <;> rfl
theorem isLL_lift {a : AV} {xss : List (List Int)} (s g : Nat) (p : List Nat) (h : isLL a xss) : lift s g p a = a := by
  rcases h with ⟨cs, rfl, h⟩ | ⟨_, rfl⟩ <;> rfl
theorem ex_map (ro : Ro) (k : Nat) (xs : List Int) : (xs.map i64).map (ex ro (k + 1)) = xs.map i64 := by
  rw [List.map_map]; exact List.map_congr_left fun x _ => rfl
theorem isL_ex {a : AV} {xs : List Int} (ro : Ro) (k : Nat) (h : isL a xs) : ex ro (k + 2) a = a := by
  rcases h with rfl | ⟨_, rfl⟩
  · show AV.imm ((xs.map i64).map (ex ro (k + 1))) = _
    rw [ex_map]
  · rfl
theorem isL_len {a : AV} {xs : List Int} (h : isL a xs) {ro : Ro} {a1 : Nat} {a2 : Bool} {a3 : List Value} {e : Nat} {a5 : List (Nat × Nat)} {a6 : Option IntKind} {a7 a8 : Bool} : kLen1 (some ⟨a1, a2, a3, some e, a5, a6, a7, a8⟩) ro a = some ⟨i64 xs.length, none, [], []⟩ := by
  rcases h with rfl | ⟨rfl, rfl⟩
  · simp [kLen1]
  · rfl
theorem isLL_len {a : AV} {xss : List (List Int)} (h : isLL a xss) {ro : Ro} {a1 : Nat} {a2 : Bool} {a3 : List Value} {e : Nat} {a5 : List (Nat × Nat)} {a6 : Option IntKind} {a7 a8 : Bool} : kLen1 (some ⟨a1, a2, a3, some e, a5, a6, a7, a8⟩) ro a = some ⟨i64 xss.length, none, [], []⟩ := by
  rcases h with ⟨cs, rfl, h⟩ | ⟨rfl, rfl⟩
  · simp [kLen1, isLs_len h]
  · rfl
/-- An element of a list. -/
def atI (xs : List Int) (k : Nat) : Int := xs.getD k 0
theorem isL_idx {a : AV} {xs : List Int} (h : isL a xs) {k : Nat} (hk : k < xs.length) {ro : Ro} {a1 : Nat} {a2 : Bool} {a3 : List Value} {e : Nat} {a5 : List (Nat × Nat)} {a6 : Option IntKind} {a7 a8 : Bool} : kIdx (some ⟨a1, a2, a3, some e, a5, a6, a7, a8⟩) ro a (i64 (k : Int)) = some ⟨.iptr [i64 (atI xs k)], none, [], []⟩ := by
  rcases h with rfl | ⟨rfl, rfl⟩
  · simp [kIdx, atI, hk]
  · simp at hk
/-- The element of a list of lists. -/
def atA (a : AV) (k : Nat) : AV := match a with
  | .imm cs => cs.getD k .dead
  | _ => .dead
theorem isLL_idx {a : AV} {xss : List (List Int)} (h : isLL a xss) {k : Nat} (hk : k < xss.length) {ro : Ro} {a1 : Nat} {a2 : Bool} {a3 : List Value} {e : Nat} {a5 : List (Nat × Nat)} {a6 : Option IntKind} {a7 a8 : Bool} : kIdx (some ⟨a1, a2, a3, some e, a5, a6, a7, a8⟩) ro a (i64 (k : Int)) = some ⟨.iptr [atA a k], none, [], []⟩ := by
  rcases h with ⟨cs, rfl, h⟩ | ⟨rfl, rfl⟩
  · obtain ⟨c, h1, h2⟩ := isLs_get h hk
    simp [kIdx, h1, atA]
  · simp at hk
theorem isLL_at {a : AV} {xss : List (List Int)} (h : isLL a xss) {k : Nat} (hk : k < xss.length) : isL (atA a k) (xss.getD k []) := by
  rcases h with ⟨cs, rfl, h⟩ | ⟨rfl, rfl⟩
  · obtain ⟨c, h1, h2⟩ := isLs_get h hk
    simpa [atA, h1] using h2
  · simp at hk

theorem zfg (sl : Nat → AV) (ro : Ro) (gn : Nat → Nat) (v : AV) (ws : List (Nat × Nat)) (s : Nat) (a : AV) : (⟨sl, ro, gn⟩ : St).eff ⟨v, none, ws, [(s, a)]⟩ = ⟨sl, upr (ro.dl ws) s (gn s + 1) a, upg gn s (gn s + 1)⟩ := nr _
theorem zfq (sl : Nat → AV) (ro : Ro) (gn : Nat → Nat) (v : AV) (ws : List (Nat × Nat)) (l : List (Nat × AV)) : (⟨sl, ro, gn⟩ : St).eff ⟨v, none, ws, l⟩ = (⟨sl, ro.dl ws, gn⟩ : St).al l := nr _
theorem zfr (st : St) : st.al [] = st := nr _
theorem zfs (sl : Nat → AV) (ro : Ro) (gn : Nat → Nat) (s : Nat) (a : AV) (l : List (Nat × AV)) : (⟨sl, ro, gn⟩ : St).al ((s, a) :: l) = (⟨sl, upr ro s (gn s + 1) a, upg gn s (gn s + 1)⟩ : St).al l := nr _
theorem zfh (s g : Nat) (p : List Nat) (s' g' : Nat) (p' : List Nat) (o n : Nat) : lift s g p (.ref s' g' p' o n) = .ref s' g' p' o n := nr _
theorem zft {ti : Nat → Option TI} {b : Nat} {ro : Ro} {gn : Nat → Nat} {ev : Operand → AV} (t : TypeId) (x : Operand) : opC ti b ro gn ev (.load t x) = zcp (ti t) ro (ev x) := nr _

def bxO : Option AV → Bool
  | some (.bx _) => true
  | _ => false
theorem zew (cs : List AV) : bxO (some (.row cs)) = false := nr _
theorem zex (cs : List AV) : bxO (some (.bx cs)) = true := nr _
theorem zev (ro : Ro) (s g : Nat) : isBxAt ro s g [] = bxO (ro s g) := by
  unfold isBxAt bxO Ro.at
  cases ro s g with
  | none => rfl
  | some a => cases a <;> rfl
def wrN (o : Option AV) (ro : Ro) (s g i : Nat) (vs : List AV) : Ro := match o with
  | some a => upr ro s g (putR (setL i vs) [] a)
  | none => ro
theorem zfb (ro : Ro) (s g i : Nat) (vs : List AV) : ro.wr ⟨s, g, [], i, vs⟩ = wrN (ro s g) ro s g i vs := by
  unfold wrN Ro.wr
  cases ro s g <;> rfl
theorem zfc (cs : List AV) (ro : Ro) (s g i : Nat) (vs : List AV) : wrN (some (.row cs)) ro s g i vs = upr ro s g (.row (setL i vs cs)) := nr _
theorem zfd (cs : List AV) (ro : Ro) (s g i : Nat) (vs : List AV) : wrN (some (.bx cs)) ro s g i vs = upr ro s g (.bx (setL i vs cs)) := nr _

/-! ### Rows by a rule -/
def rws {α : Type} (f : Nat → α) (n : Nat) : List α := (List.range n).map f
theorem zfe {α : Type} (f : Nat → α) (n : Nat) : (rws f n).length = n := by simp [rws]
theorem zff {α : Type} (f : Nat → α) (n : Nat) : (rws f n).take n = rws f n := List.take_of_length_le (by simp [rws])
theorem rws_succ {α : Type} (f : Nat → α) (n : Nat) : rws f (n + 1) = rws f n ++ [f n] := by simp [rws, List.range_succ]
theorem zfm {α : Type} (f : Nat → α) (n : Nat) : rws f n ++ [f n] = rws f (n + 1) := (rws_succ f n).symm
theorem rws_zero {α : Type} (f : Nat → α) : rws f 0 = [] := rfl

/-! ### Calls -/

section
variable {X : WX} {K : List Fr} {Q : Exit → St → Prop} {sl : Nat → AV} {ro : Ro} {gn : Nat → Nat}

theorem CLL_pure {f : Nat} {args : List AV} {rid : Nat} {ops : Array Oper} {o : Oper} {rest : List Oper} {i : Nat} (r : AV) (h : CallOK X.P f args r) (hp : pureL args = true) (hi : X.isIn f = false) (ho : impOK r = true)
    (hk : WO X rid ops rest (i + 1) K Q (((⟨sl, ro, gn⟩ : St).eff (impE (site rid i) gn r)).put o.dst (impE (site rid i) gn r).v)) : CLL (some (f, args)) X rid ops o rest i K Q ⟨sl, ro, gn⟩ := by
  refine CLL_call hi r ?_ (by simp [okR, ho, hp]) hk
  simpa only [argsX, hp, if_true] using h

theorem CLL_args {f : Nat} {args args' : List AV} {rid : Nat} {ops : Array Oper} {o : Oper} {rest : List Oper} {i : Nat} (r : AV) (h : CallOK X.P f args' r) (ha : argsX ro args = args') (hi : X.isIn f = false) (ho : impOK r = true) (hn : noI r = true)
    (hk : WO X rid ops rest (i + 1) K Q (((⟨sl, ro, gn⟩ : St).eff (impE (site rid i) gn r)).put o.dst (impE (site rid i) gn r).v)) : CLL (some (f, args)) X rid ops o rest i K Q ⟨sl, ro, gn⟩ := by
  refine CLL_call hi r ?_ (by simp [okR, ho, hn]) hk
  rw [← ha] at h; exact h

theorem CLLD_pure {f : Nat} {args : List AV} {rd : Option (List Nat)} {rid : Nat} {ops : Array Oper} {o : Oper} {rest : List Oper} {i : Nat} {acc : List FP} (r : AV) (h : CallOK X.P f args r) (hp : pureL args = true) (ho : impOK r = true)
    (hk : WD X rid ops rest (i + 1) (⟨rd, (impE (site rid i) gn r).sites⟩ :: acc) K Q (((⟨sl, ro, gn⟩ : St).eff (impE (site rid i) gn r)).put o.dst (impE (site rid i) gn r).v)) : CLLD (some (f, args)) rd X rid ops o rest i acc K Q ⟨sl, ro, gn⟩ := by
  refine CLLD_call r ?_ (by simp [okR, ho, hp]) hk
  simpa only [argsX, hp, if_true] using h

theorem CLLD_args {f : Nat} {args args' : List AV} {rd : Option (List Nat)} {rid : Nat} {ops : Array Oper} {o : Oper} {rest : List Oper} {i : Nat} {acc : List FP} (r : AV) (h : CallOK X.P f args' r) (ha : argsX ro args = args') (ho : impOK r = true) (hn : noI r = true)
    (hk : WD X rid ops rest (i + 1) (⟨rd, (impE (site rid i) gn r).sites⟩ :: acc) K Q (((⟨sl, ro, gn⟩ : St).eff (impE (site rid i) gn r)).put o.dst (impE (site rid i) gn r).v)) : CLLD (some (f, args)) rd X rid ops o rest i acc K Q ⟨sl, ro, gn⟩ := by
  refine CLLD_call r ?_ (by simp [okR, ho, hn]) hk
  rw [← ha] at h; exact h

theorem zej (b : Nat) (v : Value) : impE b gn (.sc v) = ⟨.sc v, none, [], []⟩ := nr _
theorem impE_row (b : Nat) (cs : List AV) : impE b gn (.row cs) = ⟨.ref b (gn b + 1) [] 0 cs.length, none, [], [(b, .row cs)]⟩ := nr _
end
def kSlice (i : Option TI) (ro : Ro) (x : AV) (lo hi : Option AV) : Option Eff := match i with
   | some inf => match x with
    | .ref s g p off n => if inf.elem.isSome then
      match (match lo with | none => some 0 | some y => evInt y), (match hi with | none => some (n : Int) | some y => evInt y) with
      | some l, some h => if 0 ≤ l ∧ l ≤ h ∧ h ≤ n ∧ (ro.cells s g p).isSome then some ⟨.ref s g p (off + l.toNat) (h - l).toNat, none, [], []⟩ else none
      | _, _ => none
      else none
    | .imm cs => if inf.elem.isSome then
      match (match lo with | none => some 0 | some y => evInt y), (match hi with | none => some (cs.length : Int) | some y => evInt y) with
      | some l, some h => if 0 ≤ l ∧ l ≤ h ∧ h ≤ cs.length then some ⟨.imm ((cs.drop l.toNat).take (h - l).toNat), none, [], []⟩ else none
      | _, _ => none
      else none
    | .sc (.string s) => if inf.str then
      match (match lo with | none => some 0 | some y => evInt y), (match hi with | none => some (s.size : Int) | some y => evInt y) with
      | some l, some h => if 0 ≤ l ∧ l ≤ h ∧ h ≤ s.size then some ⟨.sc (.string (s.extract l.toNat h.toNat)), none, [], []⟩ else none
      | _, _ => none
      else none
    | _ => none
   | none => none
theorem zfw {ti : Nat → Option TI} {b : Nat} {ro : Ro} {gn : Nat → Nat} {ev : Operand → AV} (t : TypeId) (x : Operand) (lo hi : Option Operand) : opK ti b ro gn ev (.slice t x lo hi none) = kSlice (ti t) ro (ev x) (lo.map ev) (hi.map ev) := by
  cases lo <;> cases hi <;> exact nr _
theorem zfx {ro : Ro} {s g : Nat} {p : List Nat} {off n : Nat} {l : Int} {a1 : Nat} {a2 : Bool} {a3 : List Value} {e : Nat} {a5 : List (Nat × Nat)} {a6 : Option IntKind} {a7 a8 : Bool} : kSlice (some ⟨a1, a2, a3, some e, a5, a6, a7, a8⟩) ro (.ref s g p off n) (some (i64 l)) none = if 0 ≤ l ∧ l ≤ n ∧ (ro.cells s g p).isSome = true then some ⟨.ref s g p (off + l.toNat) (n - l).toNat, none, [], []⟩ else none := by
  simp only [kSlice, evInt, Int.le_refl, true_and, Option.isSome_some, if_true]
theorem zfy {ro : Ro} {a b : Bool} {a1 : Nat} {a2 : Bool} {a3 : List Value} {a4 : Option Nat} {a5 : List (Nat × Nat)} {a6 : Option IntKind} {a7 : Bool} : kBin0 (some ⟨a1, a2, a3, a4, a5, a6, a7, true⟩) ro .neq (bo a) (bo b) = some ⟨bo (!(a == b)), none, [], []⟩ := nr _
theorem zfz {ro : Ro} {a b : Bool} {a1 : Nat} {a2 : Bool} {a3 : List Value} {a4 : Option Nat} {a5 : List (Nat × Nat)} {a6 : Option IntKind} {a7 : Bool} : kBin0 (some ⟨a1, a2, a3, a4, a5, a6, a7, true⟩) ro .eql (bo a) (bo b) = some ⟨bo (a == b), none, [], []⟩ := nr _

def kFunc (f : Nat) (first : Bool) (caps : List AV) : Option Eff := if first then some ⟨.fn f caps, none, [], []⟩ else none
theorem zga {ti : Nat → Option TI} {b : Nat} {ro : Ro} {gn : Nat → Nat} {ev : Operand → AV} (f : Nat) (caps : Array Operand) : opK ti b ro gn ev (.makeFunc (.func f) #[] caps) = some ⟨.fn f (caps.toList.map ev), none, [], []⟩ := nr _
theorem zgb {ev : Operand → AV} (f : Fn) (first caps : Array Operand) : rdS ev (.makeFunc f first caps) = some [] := nr _

section
variable {ev : Operand → AV} {ro : Ro}
theorem zgc (x : Operand) : rdR ro ev (.move x) = some [] := rdR_some (zdc ..)
theorem zgd (x : Operand) : rdR ro ev (.assign x) = some [] := rdR_some (zdd ..)
theorem zge (c x y : Operand) : rdR ro ev (.pick c x y) = some [] := rdR_some (zde ..)
theorem zgg (op : UnOp) (t : TypeId) (x : Operand) : rdR ro ev (.unOp op t x) = some [] := rdR_some (zdg ..)
theorem zgk (t : TypeId) (x : Operand) (f : Nat) : rdR ro ev (.field t x f) = some [] := rdR_some (zdk ..)
theorem zgm (t : TypeId) (x ix : Operand) : rdR ro ev (.index t x ix) = some [] := rdR_some (zdm ..)
theorem zgn (t : TypeId) : rdR ro ev (.alloc t) = some [] := rdR_some (zdn ..)
theorem zgr (t : TypeId) (l c : Operand) : rdR ro ev (.makeSlice t l c) = some [] := rdR_some (zdr ..)
theorem zgt (x : Operand) (i : Nat) : rdR ro ev (.extract x i) = some [] := rdR_some (zdt ..)
theorem zgu (s d : TypeId) (x : Operand) : rdR ro ev (.convert s d x) = some [] := rdR_some (zdu ..)
theorem zgf (op : BinOp) (t : TypeId) (x y : Operand) (z) : rdR ro ev (.binOp op t x y z) = some (zdy (ev x)) := rdR_some (zdf ..)
theorem zgh (t : TypeId) (x : Operand) : rdR ro ev (.load t x) = some (zdy (ev x)) := rdR_some (zdh ..)
theorem zgi (t : TypeId) (x y : Operand) : rdR ro ev (.store t x y) = some (zdy (ev x) ++ zdy (ev y)) := rdR_some (zdi ..)
theorem zgj (t : TypeId) (x : Operand) (f : Nat) : rdR ro ev (.fieldAddr t x f) = some (zdy (ev x)) := rdR_some (zdj ..)
theorem zgl (t : TypeId) (x ix : Operand) : rdR ro ev (.indexAddr t x ix) = some (zdy (ev x)) := rdR_some (zdl ..)
theorem zgs (t : TypeId) (x : Operand) (a b c : Option Operand) : rdR ro ev (.slice t x a b c) = some (zdy (ev x)) := rdR_some (zds ..)
theorem zgo (t : TypeId) (x : Operand) : rdR ro ev (.box t x) = some (zdy (ev x)) := rdR_some (zdo ..)
theorem zgp (t : TypeId) (p : Array (Nat × Operand)) : rdR ro ev (.build t p) = some (rdP ev p.toList) := rdR_some (zdp ..)
theorem zgq (t : TypeId) (n : Nat) (p : Array (Nat × Operand)) : rdR ro ev (.buildSlice t n p) = some (rdP ev p.toList) := rdR_some (zdq ..)
theorem zgv (b : Builtin) (args : Array Operand) (ts : Array TypeId) : rdR ro ev (.call ⟨.builtin b, args, ts⟩) = some (rdA ev args.toList) := rdR_some (zdv ..)
theorem zgy (f : Fn) (first caps : Array Operand) : rdR ro ev (.makeFunc f first caps) = some [] := rdR_some (zgb ..)
def rdCR (ro : Ro) (a : AV) (args : List AV) : Option (List Nat) := match a with
  | .fn _ caps => if pureL (args ++ caps) then some [] else if shL ro (args ++ caps) then some (zdz (args ++ caps)) else none
  | _ => some []
theorem zgx (f : Nat) (caps args : List AV) : rdCR ro (.fn f caps) args = if pureL (args ++ caps) then some [] else if shL ro (args ++ caps) then some (zdz (args ++ caps)) else none := nr _
theorem zgw (f : Operand) (args : Array Operand) (ts : Array TypeId) : rdR ro ev (.call ⟨.value f, args, ts⟩) = rdCR ro (ev f) (args.toList.map ev) := by
  unfold rdR rdCR
  rw [zdw]
  unfold rdC
  cases hf : ev f <;> simp only [hf]
  rename_i g caps
  split
  · rename_i r hr
    split at hr
    · rename_i hp
      rw [if_pos hp]
      exact hr.symm
    · cases hr
  · rename_i hr
    split at hr
    · cases hr
    · rename_i hp
      rw [if_neg hp]
      simp only [rdX, hf]
end
def shO : Option (List AV) → Bool
  | some cs => noRefL cs
  | none => true
theorem zgz (cs : List AV) : shO (some cs) = noRefL cs := nr _
theorem zha (ro : Ro) : shL ro [] = true := by simp only [shL]
theorem zhb (ro : Ro) (a : AV) (l : List AV) : shL ro (a :: l) = (shA ro a && shL ro l) := by simp only [shL]
theorem zhc (ro : Ro) (s g : Nat) (p : List Nat) (o n : Nat) : shA ro (.ref s g p o n) = shO (ro.cells s g p) := by
  simp only [shA, shO]; cases ro.cells s g p <;> rfl
theorem zhd (ro : Ro) (s g : Nat) (p : List Nat) (i : Nat) : shA ro (.ptr s g p i) = shO (ro.cells s g p) := by
  simp only [shA, shO]; cases ro.cells s g p <;> rfl
theorem zhe (ro : Ro) (cs : List AV) : shA ro (.agg cs) = shL ro cs := by simp only [shA]
theorem zhf (ro : Ro) (f : Nat) (cs : List AV) : shA ro (.fn f cs) = shL ro cs := by simp only [shA]
theorem zhg (ro : Ro) (v : Value) : shA ro (.sc v) = true := by simp only [shA]
theorem zhh (ro : Ro) (cs : List AV) : shA ro (.imm cs) = noRefL cs := by simp only [shA]
theorem zhi (xs : List Int) : noRefL (xs.map i64) = true := by
  induction xs with
  | nil => rfl
  | cons x xs ih => simp only [List.map_cons, noRefL, noRef, ih, Bool.and_self]
theorem zhj (xss : List (List Int)) : noRefL (xss.map fun xs => .row (xs.map i64)) = true := by
  induction xss with
  | nil => rfl
  | cons x xs ih => simp only [List.map_cons, noRefL, noRef, zhi, ih, Bool.and_self]
theorem isL_sh {a : AV} {xs : List Int} (ro : Ro) (h : isL a xs) : shA ro a = true := by
  rcases h with rfl | ⟨_, rfl⟩
  · rw [zhh]; exact zhi xs
  · exact zhg _ _
theorem isLs_nr : ∀ {cs : List AV} {xss : List (List Int)}, isLs cs xss → noRefL cs = true
  | [], [], _ => rfl
  | a :: cs, x :: xs, h => by
    have h1 : noRef a = true := by
      rcases h.1 with rfl | ⟨_, rfl⟩
      · simpa only [noRef] using zhi x
      · rfl
    simp only [noRefL, h1, isLs_nr h.2, Bool.and_self]
  | [], _ :: _, h => h.elim
  | _ :: _, [], h => h.elim
theorem isLL_sh {a : AV} {xss : List (List Int)} (ro : Ro) (h : isLL a xss) : shA ro a = true := by
  rcases h with ⟨cs, rfl, h⟩ | ⟨_, rfl⟩
  · rw [zhh]; exact isLs_nr h
  · exact zhg _ _

attribute [go_sem] zaa zab zac zad zae zaf zag zah zai zaj zak zal zam decide_true decide_false zan zao zap zaq zar zas zat zau zav zaw zax zay zaz zba zbb zbc zbd zbe zbf zbg zbh zbi zbj zbk zbl zbm zbn zbo zbp zbq zbr zbs zbt zbu zbv zbw zbx zby zbz zca zcb zcc zcd zce zcf zcg zch zci zcj zck zcl zcm kBin zcn zco kInt zcp zcq zcr St.ev zcs zct zcu zcv zcw zcx zcy zcz zda zdb zgc zgd zge zgf zgg zgh zgi zgj zgk zgl zgm zgn zgo zgp zgq zgr zgs zgt zgu zgv zgw zgx rdP rdA zdy zdz Eff.sites ne_eq not_false_eq_true eq_self and_true true_and and_self forall_const true_implies false_implies implies_true Bool.true_eq_false Bool.false_eq_true zea zeb List.nil_append List.append_nil List.map_nil List.map_cons rvA List.cons_append Option.bind_some Bool.not_true Bool.not_false decide_eq_true_eq decide_eq_false_iff_not Bool.not_eq_eq_eq_not zec zed zee zef zeg zeh zei Option.isSome_some List.getElem?_cons_zero List.getElem?_cons_succ site Nat.zero_add Nat.add_zero Bool.and_self Bool.and_true Bool.true_and List.length_cons List.length_nil zej kBox zek zel zem List.all_cons List.all_nil and_false false_and zen zeo zep List.getElem?_toArray beqT beqF zeq zer zes zet List.replicate List.set_cons_zero List.set_cons_succ kApp zeu zev zew zex zey zez oneV zfa setL zfb zfc zfd zfe zff List.drop_zero List.take_zero List.drop_succ_cons List.take_succ_cons zfg Ro.wrO Ro.dl St.al zfh zfi Bool.or_true Bool.true_or Bool.or_false Bool.false_or zfj zfk zfl Nat.zero_lt_one Nat.lt_add_one zfm zfn zfo zfp maxN zfq zfr zfs zfw zfx zfy zfz zga zgy zgz zha zhb zhc zhd zhe zhf zhg zhh zhi zhj

end Go.Proofs.Ytifgeenipinnmaa
