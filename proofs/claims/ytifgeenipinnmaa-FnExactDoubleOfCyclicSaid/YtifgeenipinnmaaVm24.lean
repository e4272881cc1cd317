/- Laws of the operations, for rewriting. -/
import Derived.Test.YtifgeenipinnmaaVm23
set_option linter.all false
namespace Go.Proofs.Ytifgeenipinnmaa
open Go.RowKit

theorem upd_ap (f : Nat → AV) (k : Nat) (v : AV) (j : Nat) : upd f k v j = if j = k then v else f j := nr _
theorem upd_eqs (f : Nat → AV) (k : Nat) (v : AV) : upd f k v k = v := upd_same f k v
theorem upg_ap (f : Nat → Nat) (k v j : Nat) : upg f k v j = if j = k then v else f j := nr _
theorem upr_ap (f : Ro) (s g : Nat) (a : AV) (s' g' : Nat) : upr f s g a s' g' = if s' = s ∧ g' = g then some a else f s' g' := nr _
theorem seff_pure (st : St) (v : AV) : st.eff ⟨v, none, [], []⟩ = st := nr _
theorem seff_al (sl : Nat → AV) (ro : Ro) (gn : Nat → Nat) (v : AV) (s : Nat) (a : AV) : (⟨sl, ro, gn⟩ : St).eff ⟨v, none, [], [(s, a)]⟩ = ⟨sl, upr ro s (gn s + 1) a, upg gn s (gn s + 1)⟩ := nr _
theorem seff_wr (sl : Nat → AV) (ro : Ro) (gn : Nat → Nat) (v : AV) (x : Wr) : (⟨sl, ro, gn⟩ : St).eff ⟨v, some x, [], []⟩ = ⟨sl, ro.wr x, gn⟩ := nr _
theorem sput_some (sl : Nat → AV) (ro : Ro) (gn : Nat → Nat) (d : Tmp) (v : AV) : (⟨sl, ro, gn⟩ : St).put (some d) v = ⟨upd sl d v, ro, gn⟩ := nr _
theorem sput_none (st : St) (v : AV) : st.put none v = st := nr _

def kAlloc (i : Option TI) (b : Nat) (gn : Nat → Nat) : Option Eff := match i with
  | some inf => some ⟨.ptr b (gn b + 1) [] 0, none, [], [(b, .bx (inf.zero.map .sc))]⟩
  | none => none
def kBox (b : Nat) (ro : Ro) (gn : Nat → Nat) (x : AV) : Option Eff :=
  if (cellsA x).all (cellOkB ro) then (if (cellsA x).length ≤ 65536 then some ⟨.ptr b (gn b + 1) [] 0, none, [], [(b, .bx (cellsA x))]⟩ else none) else none
def kBuild (ti : Nat → Option TI) (i : Option TI) (ro : Ro) (ev : Operand → AV) (parts : List (Nat × Operand)) : Option Eff := match i with
  | some inf => if inf.isAgg then (match buildParts ti ro inf.flds ev (inf.zero.map .sc) parts with
      | some cs => some ⟨.agg cs, none, [], []⟩
      | none => none) else none
  | none => none
def kBuildS (ti : Nat → Option TI) (b : Nat) (i : Option TI) (ro : Ro) (gn : Nat → Nat) (ev : Operand → AV) (n : Nat) (parts : List (Nat × Operand)) : Option Eff := match i with
  | some inf => match inf.elem with
    | some e => match ti e with
      | some ie => match moveParts ro ev parts with
        | some (as, ws) => if n ≤ 65536 ∧ as.all (fun p => decide (p.1 < n)) then some ⟨.ref b (gn b + 1) [] 0 n, none, ws, [(b, .row (fillAt (List.replicate n (.sc (ie.zero.getD 0 undef))) as))]⟩ else none
        | none => none
      | none => none
    | none => none
  | none => none
def kMake (ti : Nat → Option TI) (b : Nat) (i : Option TI) (gn : Nat → Nat) (l c : AV) : Option Eff := match i with
  | some inf => match inf.elem with
    | some e => match ti e, l, c with
      | some ie, .sc (.int .i64 n), .sc (.int .i64 m) => if 0 ≤ n ∧ n ≤ m ∧ m ≤ maxN then
          some ⟨.ref b (gn b + 1) [] 0 n.toNat, none, [], [(b, .row (List.replicate n.toNat (.sc (ie.zero.getD 0 undef))))]⟩ else none
      | _, _, _ => none
    | none => none
  | none => none
def kExtract (x : AV) (i : Nat) : Option Eff := match x with
  | .tup cs => match cs[i]? with
    | some c => some ⟨c, none, [], []⟩
    | none => none
  | _ => none
def kUn (op : UnOp) (x : AV) : Option Eff := match x with
  | .sc v => match semPure (Op.unary op v) with
    | some v => some ⟨.sc v, none, [], []⟩
    | none => none
  | _ => none
def kFieldV (ti : Nat → Option TI) (i : Option TI) (x : AV) (f : Nat) : Option Eff := match i with
  | some inf => match inf.flds[f]? with
    | some (off, ft) => match ti ft, x with
      | some fi, .agg cs => if inf.isAgg ∧ off + fi.size ≤ cs.length then
          (if fi.isAgg then some ⟨.agg ((cs.drop off).take fi.size), none, [], []⟩ else match cs[off]? with
            | some c => some ⟨c, none, [], []⟩
            | none => none)
        else none
      | _, _ => none
    | none => none
  | none => none
def kConv (i j : Option TI) (x : AV) : Option Eff := match i, j, x with
  | some i, some j, .sc (.int _ n) => match i.ik, j.ik with
    | some _, some k => match semPure (Conv.intToInt k n) with
      | some v => some ⟨.sc v, none, [], []⟩
      | none => none
    | _, _ => none
  | _, _, _ => none
def kApp (i : Option TI) (tt : Prop) [Decidable tt] (b : Nat) (ro : Ro) (gn : Nat → Nat) (x y : AV) : Option Eff :=
  if tt ∧ (i.bind (·.elem)).isSome then match appSrc ro y with
    | some (el, ws) => match x with
      | .sc (.slice none 0 0) => if el.length = 0 then some ⟨.sc (.slice none 0 0), none, [], []⟩
          else if el.length ≤ maxN then some ⟨.ref b (gn b + 1) [] 0 el.length, none, ws, [(b, .row el)]⟩ else none
      | .ref s g [] off n => match (ro.dl ws) s g with
        | some (.row cs) => if n + el.length ≤ maxN then
            some ⟨.ref s (gn s + 1) [] 0 (n + el.length), none, ws ++ [(s, g)], [(s, .row ((cs.drop off).take n ++ el))]⟩ else none
        | _ => none
      | _ => none
    | none => none
    else none

def kLen1 (i : Option TI) (ro : Ro) (x : AV) : Option Eff := match i with
  | some inf => match x with
    | .ref s g p _ n => if inf.elem.isSome ∧ (ro.cells s g p).isSome then some ⟨.sc (.int .i64 n), none, [], []⟩ else none
    | .imm cs => if inf.elem.isSome then some ⟨.sc (.int .i64 cs.length), none, [], []⟩ else none
    | .sc (.string s) => if inf.str then some ⟨.sc (.int .i64 s.size), none, [], []⟩ else none
    | .sc (.slice none 0 0) => if inf.elem.isSome then some ⟨.sc (.int .i64 0), none, [], []⟩ else none
    | _ => none
  | none => none
def kMax (x y : AV) : Option Eff := match x, y with
  | .sc (.int k n), .sc (.int k' m) => if k = k' then some ⟨.sc (.int k (if m > n then m else n)), none, [], []⟩ else none
  | _, _ => none
def kMin (x y : AV) : Option Eff := match x, y with
  | .sc (.int k n), .sc (.int k' m) => if k = k' then some ⟨.sc (.int k (if m < n then m else n)), none, [], []⟩ else none
  | _, _ => none

section
variable {ti : Nat → Option TI} {b : Nat} {ro : Ro} {gn : Nat → Nat} {ev : Operand → AV}
theorem opK_move (x : Operand) : opK ti b ro gn ev (.move x) = some ⟨ev x, none, [], []⟩ := nr _
theorem opK_assign (x : Operand) : opK ti b ro gn ev (.assign x) = some ⟨ev x, none, [], []⟩ := nr _
theorem opK_pick (c x y : Operand) : opK ti b ro gn ev (.pick c x y) = kPick (ev c) (ev x) (ev y) := nr _
theorem opK_binOp (op : BinOp) (t : TypeId) (x y : Operand) (z) : opK ti b ro gn ev (.binOp op t x y z) = kBin (ti t) ro op (ev x) (ev y) := nr _
theorem opK_unOp (op : UnOp) (t : TypeId) (x : Operand) : opK ti b ro gn ev (.unOp op t x) = kUn op (ev x) := nr _
theorem opK_load (t : TypeId) (x : Operand) : opK ti b ro gn ev (.load t x) = kLoad (ti t) ro (ev x) := nr _
theorem opK_store (t : TypeId) (x y : Operand) : opK ti b ro gn ev (.store t x y) = kStore (ti t) ro (ev x) (ev y) := nr _
theorem opK_fieldAddr (t : TypeId) (x : Operand) (f : Nat) : opK ti b ro gn ev (.fieldAddr t x f) = kField (ti t) ro (ev x) f := nr _
theorem opK_field (t : TypeId) (x : Operand) (f : Nat) : opK ti b ro gn ev (.field t x f) = kFieldV ti (ti t) (ev x) f := nr _
theorem opK_indexAddr (t : TypeId) (x ix : Operand) : opK ti b ro gn ev (.indexAddr t x ix) = kIdx (ti t) ro (ev x) (ev ix) := nr _
theorem opK_alloc (t : TypeId) : opK ti b ro gn ev (.alloc t) = kAlloc (ti t) b gn := nr _
theorem opK_box (t : TypeId) (x : Operand) : opK ti b ro gn ev (.box t x) = kBox b ro gn (ev x) := nr _
theorem opK_build (t : TypeId) (p : Array (Nat × Operand)) : opK ti b ro gn ev (.build t p) = kBuild ti (ti t) ro ev p.toList := nr _
theorem opK_buildSlice (t : TypeId) (n : Nat) (p : Array (Nat × Operand)) : opK ti b ro gn ev (.buildSlice t n p) = kBuildS ti b (ti t) ro gn ev n p.toList := nr _
theorem opK_makeSlice (t : TypeId) (l c : Operand) : opK ti b ro gn ev (.makeSlice t l c) = kMake ti b (ti t) gn (ev l) (ev c) := nr _
theorem opK_extract (x : Operand) (i : Nat) : opK ti b ro gn ev (.extract x i) = kExtract (ev x) i := nr _
theorem opK_convert (s d : TypeId) (x : Operand) : opK ti b ro gn ev (.convert s d x) = kConv (ti s) (ti d) (ev x) := nr _
theorem opK_call (c : Call) : opK ti b ro gn ev (.call c) = kCall ti b ro gn ev c := nr _
theorem kCall_len (x : Operand) (t : TypeId) : kCall ti b ro gn ev ⟨.builtin .len, #[x], #[t]⟩ = kLen1 (ti t) ro (ev x) := nr _
theorem kCall_app (x y : Operand) (t t' : TypeId) : kCall ti b ro gn ev ⟨.builtin .append, #[x, y], #[t, t']⟩ = kApp (ti t) (t = t') b ro gn (ev x) (ev y) := nr _
theorem kCall_max (x y : Operand) (ts : Array TypeId) : kCall ti b ro gn ev ⟨.builtin .max, #[x, y], ts⟩ = kMax (ev x) (ev y) := nr _
theorem kCall_min (x y : Operand) (ts : Array TypeId) : kCall ti b ro gn ev ⟨.builtin .min, #[x, y], ts⟩ = kMin (ev x) (ev y) := nr _
end

theorem kUn_not (b : Bool) : kUn .not (bo b) = some ⟨bo (!b), none, [], []⟩ := nr _
theorem kUn_neg (n : Int) : kUn .neg (i64 n) = some ⟨i64 (wrF (0 - n)), none, [], []⟩ := by rw [wrF_eq]; rfl
theorem kConv_i64 {n : Int} {k1 : IntKind} {a1 c1 : Nat} {a2 c2 : Bool} {a3 c3 : List Value} {e f : Option Nat} {a5 c5 : List (Nat × Nat)} {a7 a8 c7 c8 : Bool} : kConv (some ⟨a1, a2, a3, e, a5, some k1, a7, a8⟩) (some ⟨c1, c2, c3, f, c5, some .i64, c7, c8⟩) (i64 n) = some ⟨i64 (wrF n), none, [], []⟩ := by rw [wrF_eq]; rfl

theorem i64c {a b : Int} (h : a = b) : i64 a = i64 b := by rw [h]

theorem kIdx_ref {ro : Ro} {s g : Nat} {p : List Nat} {off n k : Nat} {a1 : Nat} {a2 : Bool} {a3 : List Value} {e : Nat} {a5 : List (Nat × Nat)} {a6 : Option IntKind} {a7 a8 : Bool} : kIdx (some ⟨a1, a2, a3, some e, a5, a6, a7, a8⟩) ro (.ref s g p off n) (i64 (k : Int)) = if k < n ∧ (ro.cells s g p).isSome = true then some ⟨.ptr s g p (off + k), none, [], []⟩ else none := by
  simp only [kIdx, Int.natCast_nonneg, true_and, Int.ofNat_lt, Int.toNat_natCast]
theorem cellOkB_ref (ro : Ro) (s g o n : Nat) : cellOkB ro (.ref s g [] o n) = (ro.cells s g []).isSome := nr _
theorem cellOkB_sc (ro : Ro) (v : Value) : cellOkB ro (.sc v) = oneV v := nr _
theorem cellOkB_imm (ro : Ro) (cs : List AV) : cellOkB ro (.imm cs) = true := nr _
theorem cellOkB_ptr (ro : Ro) (s g i : Nat) : cellOkB ro (.ptr s g [] i) = (ro.cells s g []).isSome := nr _
theorem lift_sc (s g : Nat) (p : List Nat) (v : Value) : lift s g p (.sc v) = .sc v := nr _
theorem lift_imm (s g : Nat) (p : List Nat) (cs : List AV) : lift s g p (.imm cs) = .imm cs := nr _
theorem lift_row (s g : Nat) (p : List Nat) (cs : List AV) : lift s g p (.row cs) = .ref s g p 0 cs.length := nr _
def rdP (ev : Operand → AV) : List (Nat × Operand) → List Nat
  | [] => []
  | (_, x) :: r => sitesA (ev x) ++ rdP ev r
def rdA (ev : Operand → AV) : List Operand → List Nat
  | [] => []
  | x :: r => sitesA (ev x) ++ rdA ev r
theorem rdP_eq (ev : Operand → AV) (l : List (Nat × Operand)) : (l.flatMap fun p => sitesA (ev p.2)) = rdP ev l := by
  induction l with
  | nil => rfl
  | cons x l ih => obtain ⟨i, x⟩ := x; simp only [List.flatMap_cons, ih, rdP]
theorem rdA_eq (ev : Operand → AV) (l : List Operand) : (l.flatMap fun p => sitesA (ev p)) = rdA ev l := by
  induction l with
  | nil => rfl
  | cons x l ih => simp only [List.flatMap_cons, ih, rdA]
def rdC (a : AV) (args : List AV) : Option (List Nat) := match a with
  | .fn _ caps => if pureL (args ++ caps) then some [] else none
  | _ => some []
theorem rdC_fn (f : Nat) (caps args : List AV) : rdC (.fn f caps) args = if pureL (args ++ caps) then some [] else none := nr _
section
variable {ev : Operand → AV}
theorem rdS_move (x : Operand) : rdS ev (.move x) = some [] := nr _
theorem rdS_assign (x : Operand) : rdS ev (.assign x) = some [] := nr _
theorem rdS_pick (c x y : Operand) : rdS ev (.pick c x y) = some [] := nr _
theorem rdS_unOp (op : UnOp) (t : TypeId) (x : Operand) : rdS ev (.unOp op t x) = some [] := nr _
theorem rdS_field (t : TypeId) (x : Operand) (f : Nat) : rdS ev (.field t x f) = some [] := nr _
theorem rdS_index (t : TypeId) (x ix : Operand) : rdS ev (.index t x ix) = some [] := nr _
theorem rdS_alloc (t : TypeId) : rdS ev (.alloc t) = some [] := nr _
theorem rdS_makeSlice (t : TypeId) (l c : Operand) : rdS ev (.makeSlice t l c) = some [] := nr _
theorem rdS_extract (x : Operand) (i : Nat) : rdS ev (.extract x i) = some [] := nr _
theorem rdS_convert (s d : TypeId) (x : Operand) : rdS ev (.convert s d x) = some [] := nr _
theorem rdS_binOp (op : BinOp) (t : TypeId) (x y : Operand) (z) : rdS ev (.binOp op t x y z) = some (sitesA (ev x)) := nr _
theorem rdS_load (t : TypeId) (x : Operand) : rdS ev (.load t x) = some (sitesA (ev x)) := nr _
theorem rdS_store (t : TypeId) (x y : Operand) : rdS ev (.store t x y) = some (sitesA (ev x) ++ sitesA (ev y)) := nr _
theorem rdS_fieldAddr (t : TypeId) (x : Operand) (f : Nat) : rdS ev (.fieldAddr t x f) = some (sitesA (ev x)) := nr _
theorem rdS_indexAddr (t : TypeId) (x ix : Operand) : rdS ev (.indexAddr t x ix) = some (sitesA (ev x)) := nr _
theorem rdS_slice (t : TypeId) (x : Operand) (a b c : Option Operand) : rdS ev (.slice t x a b c) = some (sitesA (ev x)) := nr _
theorem rdS_box (t : TypeId) (x : Operand) : rdS ev (.box t x) = some (sitesA (ev x)) := nr _
theorem rdS_build (t : TypeId) (p : Array (Nat × Operand)) : rdS ev (.build t p) = some (rdP ev p.toList) := by rw [← rdP_eq]; rfl
theorem rdS_buildSlice (t : TypeId) (n : Nat) (p : Array (Nat × Operand)) : rdS ev (.buildSlice t n p) = some (rdP ev p.toList) := by rw [← rdP_eq]; rfl
theorem rdS_builtin (b : Builtin) (args : Array Operand) (ts : Array TypeId) : rdS ev (.call ⟨.builtin b, args, ts⟩) = some (rdA ev args.toList) := by rw [← rdA_eq]; rfl
theorem rdS_value (f : Operand) (args : Array Operand) (ts : Array TypeId) : rdS ev (.call ⟨.value f, args, ts⟩) = rdC (ev f) (args.toList.map ev) := by
  simp only [rdS, rdC]
  cases ev f <;> rfl
end
theorem isub (a b : Int) : Int.sub a b = a - b := nr _
theorem beqT (b : Bool) : (b == true) = b := by cases b <;> rfl
theorem beqF (b : Bool) : (b == false) = !b := by cases b <;> rfl
def blkO : Option AV → Option (List AV)
  | some (.row cs) => some cs
  | some (.bx cs) => some cs
  | _ => none
theorem blkO_row (cs : List AV) : blkO (some (.row cs)) = some cs := nr _
theorem blkO_bx (cs : List AV) : blkO (some (.bx cs)) = some cs := nr _
theorem cells_nil (ro : Ro) (s g : Nat) : ro.cells s g [] = blkO (ro s g) := by
  unfold Ro.cells blkO
  cases ro s g with
  | none => rfl
  | some a => cases a <;> rfl
def rowO : Option AV → Option (List AV)
  | some (.row cs) => some cs
  | _ => none
def inO (i : Nat) : Option AV → Option (List AV)
  | some (.row cs) => rowO cs[i]?
  | _ => none
theorem inO_row (i : Nat) (cs : List AV) : inO i (some (.row cs)) = rowO cs[i]? := nr _
theorem rowO_row (cs : List AV) : rowO (some (.row cs)) = some cs := nr _
theorem cells_one (ro : Ro) (s g i : Nat) : ro.cells s g [i] = inO i (ro s g) := by
  unfold Ro.cells inO Ro.at
  cases h : ro s g with
  | none => rfl
  | some a =>
    cases a <;> try rfl
    rename_i cs
    simp only [ath]
    cases h2 : cs[i]? with
    | none => rfl
    | some c => cases c <;> rfl

/-! ### Lists of numbers -/

abbrev nilA : AV := .sc (.slice none 0 0)
/-- The value reads as a list of numbers (nil, or read only memory). -/
def isL (a : AV) (xs : List Int) : Prop := a = .imm (xs.map i64) ∨ (xs = [] ∧ a = nilA)
def isLs : List AV → List (List Int) → Prop
  | [], [] => True
  | a :: as, x :: xs => isL a x ∧ isLs as xs
  | _, _ => False
def isLL (a : AV) (xss : List (List Int)) : Prop := (∃ cs, a = .imm cs ∧ isLs cs xss) ∨ (xss = [] ∧ a = nilA)

theorem isL_imm (xs : List Int) : isL (.imm (xs.map i64)) xs := .inl rfl
theorem isLs_len : ∀ {cs : List AV} {xss : List (List Int)}, isLs cs xss → cs.length = xss.length
  | [], [], _ => rfl
  | a :: as, x :: xs, h => by simp only [List.length_cons]; rw [isLs_len h.2]
  | [], _ :: _, h => h.elim
  | _ :: _, [], h => h.elim
theorem isLs_get : ∀ {cs : List AV} {xss : List (List Int)} {k : Nat}, isLs cs xss → k < xss.length → ∃ c, cs[k]? = some c ∧ isL c (xss.getD k [])
  | a :: as, x :: xs, 0, h, _ => ⟨a, rfl, h.1⟩
  | a :: as, x :: xs, k + 1, h, hk => by
    obtain ⟨c, h1, h2⟩ := isLs_get (k := k) h.2 (by simpa using hk)
    exact ⟨c, by simpa using h1, by simpa using h2⟩
  | [], [], k, _, hk => by simp at hk
  | [], _ :: _, _, h, _ => h.elim
  | _ :: _, [], _, h, _ => h.elim
theorem isLs_map (xss : List (List Int)) : isLs (xss.map fun xs => .imm (xs.map i64)) xss := by
  induction xss with
  | nil => trivial
  | cons x xs ih => exact ⟨isL_imm x, ih⟩
theorem isLL_imm (xss : List (List Int)) : isLL (.imm (xss.map fun xs => .imm (xs.map i64))) xss := .inl ⟨_, rfl, isLs_map xss⟩

theorem pureL_map (xs : List Int) : pureL (xs.map i64) = true := by
  induction xs with
  | nil => rfl
  | cons x xs ih => simp [pureL, pureA, ih]
theorem isL_pure {a : AV} {xs : List Int} (h : isL a xs) : pureA a = true := by
  rcases h with rfl | ⟨_, rfl⟩
  · simp [pureA, pureL_map]
  · rfl
theorem isLs_pure : ∀ {cs : List AV} {xss : List (List Int)}, isLs cs xss → pureL cs = true
  | [], [], _ => rfl
  | a :: as, x :: xs, h => by simp [pureL, isL_pure h.1, isLs_pure h.2]
  | [], _ :: _, h => h.elim
  | _ :: _, [], h => h.elim
theorem isLL_pure {a : AV} {xss : List (List Int)} (h : isLL a xss) : pureA a = true := by
  rcases h with ⟨cs, rfl, h⟩ | ⟨_, rfl⟩
  · simp [pureA, isLs_pure h]
  · rfl
theorem isL_sites {a : AV} {xs : List Int} (h : isL a xs) : sitesA a = [] := by
  rcases h with rfl | ⟨_, rfl⟩ <;> rfl
theorem isLL_sites {a : AV} {xss : List (List Int)} (h : isLL a xss) : sitesA a = [] := by
  rcases h with ⟨cs, rfl, h⟩ | ⟨_, rfl⟩ <;> rfl
theorem isL_cell {a : AV} {xs : List Int} (h : isL a xs) : cellOk a = true := by
  rcases h with rfl | ⟨_, rfl⟩ <;> rfl
theorem isLL_cell {a : AV} {xss : List (List Int)} (h : isLL a xss) : cellOk a = true := by
  rcases h with ⟨cs, rfl, h⟩ | ⟨_, rfl⟩ <;> rfl
theorem isL_cellB {a : AV} {xs : List Int} (ro : Ro) (h : isL a xs) : cellOkB ro a = true := by
  rcases h with rfl | ⟨_, rfl⟩ <;> rfl
theorem isLL_cellB {a : AV} {xss : List (List Int)} (ro : Ro) (h : isLL a xss) : cellOkB ro a = true := by
  rcases h with ⟨cs, rfl, h⟩ | ⟨_, rfl⟩ <;> rfl
theorem isL_lift {a : AV} {xs : List Int} (s g : Nat) (p : List Nat) (h : isL a xs) : lift s g p a = a := by
  rcases h with rfl | ⟨_, rfl⟩ <;> rfl
theorem isLL_lift {a : AV} {xss : List (List Int)} (s g : Nat) (p : List Nat) (h : isLL a xss) : lift s g p a = a := by
  rcases h with ⟨cs, rfl, h⟩ | ⟨_, rfl⟩ <;> rfl
theorem ex_map (ro : Ro) (k : Nat) (xs : List Int) : (xs.map i64).map (ex ro (k + 1)) = xs.map i64 := by
  rw [List.map_map]; exact List.map_congr_left fun x _ => rfl
theorem isL_ex {a : AV} {xs : List Int} (ro : Ro) (k : Nat) (h : isL a xs) : ex ro (k + 2) a = a := by
  rcases h with rfl | ⟨_, rfl⟩
  · show AV.imm ((xs.map i64).map (ex ro (k + 1))) = _
    rw [ex_map]
  · rfl
theorem isL_len {a : AV} {xs : List Int} (h : isL a xs) {ro : Ro} {a1 : Nat} {a2 : Bool} {a3 : List Value} {e : Nat} {a5 : List (Nat × Nat)} {a6 : Option IntKind} {a7 a8 : Bool} : kLen1 (some ⟨a1, a2, a3, some e, a5, a6, a7, a8⟩) ro a = some ⟨i64 xs.length, none, [], []⟩ := by
  rcases h with rfl | ⟨rfl, rfl⟩
  · simp [kLen1]
  · rfl
theorem isLL_len {a : AV} {xss : List (List Int)} (h : isLL a xss) {ro : Ro} {a1 : Nat} {a2 : Bool} {a3 : List Value} {e : Nat} {a5 : List (Nat × Nat)} {a6 : Option IntKind} {a7 a8 : Bool} : kLen1 (some ⟨a1, a2, a3, some e, a5, a6, a7, a8⟩) ro a = some ⟨i64 xss.length, none, [], []⟩ := by
  rcases h with ⟨cs, rfl, h⟩ | ⟨rfl, rfl⟩
  · simp [kLen1, isLs_len h]
  · rfl
/-- An element of a list. -/
def atI (xs : List Int) (k : Nat) : Int := xs.getD k 0
theorem isL_idx {a : AV} {xs : List Int} (h : isL a xs) {k : Nat} (hk : k < xs.length) {ro : Ro} {a1 : Nat} {a2 : Bool} {a3 : List Value} {e : Nat} {a5 : List (Nat × Nat)} {a6 : Option IntKind} {a7 a8 : Bool} : kIdx (some ⟨a1, a2, a3, some e, a5, a6, a7, a8⟩) ro a (i64 (k : Int)) = some ⟨.iptr [i64 (atI xs k)], none, [], []⟩ := by
  rcases h with rfl | ⟨rfl, rfl⟩
  · simp [kIdx, atI, hk]
  · simp at hk
/-- The element of a list of lists. -/
def atA (a : AV) (k : Nat) : AV := match a with
  | .imm cs => cs.getD k .dead
  | _ => .dead
theorem isLL_idx {a : AV} {xss : List (List Int)} (h : isLL a xss) {k : Nat} (hk : k < xss.length) {ro : Ro} {a1 : Nat} {a2 : Bool} {a3 : List Value} {e : Nat} {a5 : List (Nat × Nat)} {a6 : Option IntKind} {a7 a8 : Bool} : kIdx (some ⟨a1, a2, a3, some e, a5, a6, a7, a8⟩) ro a (i64 (k : Int)) = some ⟨.iptr [atA a k], none, [], []⟩ := by
  rcases h with ⟨cs, rfl, h⟩ | ⟨rfl, rfl⟩
  · obtain ⟨c, h1, h2⟩ := isLs_get h hk
    simp [kIdx, h1, atA]
  · simp at hk
theorem isLL_at {a : AV} {xss : List (List Int)} (h : isLL a xss) {k : Nat} (hk : k < xss.length) : isL (atA a k) (xss.getD k []) := by
  rcases h with ⟨cs, rfl, h⟩ | ⟨rfl, rfl⟩
  · obtain ⟨c, h1, h2⟩ := isLs_get h hk
    simpa [atA, h1] using h2
  · simp at hk

theorem seff_all (sl : Nat → AV) (ro : Ro) (gn : Nat → Nat) (v : AV) (ws : List (Nat × Nat)) (s : Nat) (a : AV) : (⟨sl, ro, gn⟩ : St).eff ⟨v, none, ws, [(s, a)]⟩ = ⟨sl, upr (ro.dl ws) s (gn s + 1) a, upg gn s (gn s + 1)⟩ := nr _
theorem seff_none (sl : Nat → AV) (ro : Ro) (gn : Nat → Nat) (v : AV) (ws : List (Nat × Nat)) (l : List (Nat × AV)) : (⟨sl, ro, gn⟩ : St).eff ⟨v, none, ws, l⟩ = (⟨sl, ro.dl ws, gn⟩ : St).al l := nr _
theorem sal_nil (st : St) : st.al [] = st := nr _
theorem sal_cons (sl : Nat → AV) (ro : Ro) (gn : Nat → Nat) (s : Nat) (a : AV) (l : List (Nat × AV)) : (⟨sl, ro, gn⟩ : St).al ((s, a) :: l) = (⟨sl, upr ro s (gn s + 1) a, upg gn s (gn s + 1)⟩ : St).al l := nr _
theorem lift_ref (s g : Nat) (p : List Nat) (s' g' : Nat) (p' : List Nat) (o n : Nat) : lift s g p (.ref s' g' p' o n) = .ref s' g' p' o n := nr _
theorem opC_load {ti : Nat → Option TI} {b : Nat} {ro : Ro} {gn : Nat → Nat} {ev : Operand → AV} (t : TypeId) (x : Operand) : opC ti b ro gn ev (.load t x) = kLoad (ti t) ro (ev x) := nr _

def bxO : Option AV → Bool
  | some (.bx _) => true
  | _ => false
theorem bxO_row (cs : List AV) : bxO (some (.row cs)) = false := nr _
theorem bxO_bx (cs : List AV) : bxO (some (.bx cs)) = true := nr _
theorem isBx_nil (ro : Ro) (s g : Nat) : isBxAt ro s g [] = bxO (ro s g) := by
  unfold isBxAt bxO Ro.at
  cases ro s g with
  | none => rfl
  | some a => cases a <;> rfl
def wrN (o : Option AV) (ro : Ro) (s g i : Nat) (vs : List AV) : Ro := match o with
  | some a => upr ro s g (putR (setL i vs) [] a)
  | none => ro
theorem wr_nil (ro : Ro) (s g i : Nat) (vs : List AV) : ro.wr ⟨s, g, [], i, vs⟩ = wrN (ro s g) ro s g i vs := by
  unfold wrN Ro.wr
  cases ro s g <;> rfl
theorem wrN_row (cs : List AV) (ro : Ro) (s g i : Nat) (vs : List AV) : wrN (some (.row cs)) ro s g i vs = upr ro s g (.row (setL i vs cs)) := nr _
theorem wrN_bx (cs : List AV) (ro : Ro) (s g i : Nat) (vs : List AV) : wrN (some (.bx cs)) ro s g i vs = upr ro s g (.bx (setL i vs cs)) := nr _

/-! ### Rows by a rule -/
def rws {α : Type} (f : Nat → α) (n : Nat) : List α := (List.range n).map f
theorem rws_len {α : Type} (f : Nat → α) (n : Nat) : (rws f n).length = n := by simp [rws]
theorem rws_take {α : Type} (f : Nat → α) (n : Nat) : (rws f n).take n = rws f n := List.take_of_length_le (by simp [rws])
theorem rws_succ {α : Type} (f : Nat → α) (n : Nat) : rws f (n + 1) = rws f n ++ [f n] := by simp [rws, List.range_succ]
theorem rws_app {α : Type} (f : Nat → α) (n : Nat) : rws f n ++ [f n] = rws f (n + 1) := (rws_succ f n).symm
theorem rws_zero {α : Type} (f : Nat → α) : rws f 0 = [] := rfl

/-! ### Calls -/

section
variable {X : WX} {K : List Fr} {Q : Exit → St → Prop} {sl : Nat → AV} {ro : Ro} {gn : Nat → Nat}

theorem CLL_pure {f : Nat} {args : List AV} {rid : Nat} {ops : Array Oper} {o : Oper} {rest : List Oper} {i : Nat} (r : AV) (h : CallOK X.P f args r) (hp : pureL args = true) (hi : X.isIn f = false) (ho : impOK r = true)
    (hk : WO X rid ops rest (i + 1) K Q (((⟨sl, ro, gn⟩ : St).eff (impE (site rid i) gn r)).put o.dst (impE (site rid i) gn r).v)) : CLL (some (f, args)) X rid ops o rest i K Q ⟨sl, ro, gn⟩ := by
  refine CLL_call hi r ?_ (by simp [okR, ho, hp]) hk
  simpa only [argsX, hp, if_true] using h

theorem CLL_args {f : Nat} {args args' : List AV} {rid : Nat} {ops : Array Oper} {o : Oper} {rest : List Oper} {i : Nat} (r : AV) (h : CallOK X.P f args' r) (ha : argsX ro args = args') (hi : X.isIn f = false) (ho : impOK r = true) (hn : noI r = true)
    (hk : WO X rid ops rest (i + 1) K Q (((⟨sl, ro, gn⟩ : St).eff (impE (site rid i) gn r)).put o.dst (impE (site rid i) gn r).v)) : CLL (some (f, args)) X rid ops o rest i K Q ⟨sl, ro, gn⟩ := by
  refine CLL_call hi r ?_ (by simp [okR, ho, hn]) hk
  rw [← ha] at h; exact h

theorem CLLD_pure {f : Nat} {args : List AV} {rd : Option (List Nat)} {rid : Nat} {ops : Array Oper} {o : Oper} {rest : List Oper} {i : Nat} {acc : List FP} (r : AV) (h : CallOK X.P f args r) (hp : pureL args = true) (ho : impOK r = true)
    (hk : WD X rid ops rest (i + 1) (⟨rd, (impE (site rid i) gn r).sites⟩ :: acc) K Q (((⟨sl, ro, gn⟩ : St).eff (impE (site rid i) gn r)).put o.dst (impE (site rid i) gn r).v)) : CLLD (some (f, args)) rd X rid ops o rest i acc K Q ⟨sl, ro, gn⟩ := by
  refine CLLD_call r ?_ (by simp [okR, ho, hp]) hk
  simpa only [argsX, hp, if_true] using h

theorem CLLD_args {f : Nat} {args args' : List AV} {rd : Option (List Nat)} {rid : Nat} {ops : Array Oper} {o : Oper} {rest : List Oper} {i : Nat} {acc : List FP} (r : AV) (h : CallOK X.P f args' r) (ha : argsX ro args = args') (ho : impOK r = true) (hn : noI r = true)
    (hk : WD X rid ops rest (i + 1) (⟨rd, (impE (site rid i) gn r).sites⟩ :: acc) K Q (((⟨sl, ro, gn⟩ : St).eff (impE (site rid i) gn r)).put o.dst (impE (site rid i) gn r).v)) : CLLD (some (f, args)) rd X rid ops o rest i acc K Q ⟨sl, ro, gn⟩ := by
  refine CLLD_call r ?_ (by simp [okR, ho, hn]) hk
  rw [← ha] at h; exact h

theorem impE_sc (b : Nat) (v : Value) : impE b gn (.sc v) = ⟨.sc v, none, [], []⟩ := nr _
theorem impE_row (b : Nat) (cs : List AV) : impE b gn (.row cs) = ⟨.ref b (gn b + 1) [] 0 cs.length, none, [], [(b, .row cs)]⟩ := nr _
end
end Go.Proofs.Ytifgeenipinnmaa
