/- Texts joined: K1 K2 K3 K3b K4a K4 K5 K6 K7 D1 D2 D3 D4 D5 D6. -/
import Derived.Test.YthfgjapmgjhccaaProg
import Derived.Test.YthfgjapmgjhccaaChecked
import Derived.Test.YthfgjapmgjhccaaMc
set_option linter.all false
/- Powers: impl.power and spec.l01Pow. -/
namespace Go.Proofs.Ythfgjapmgjhccaa
open Go.RowKit
noncomputable abbrev ti0 : Nat → Option TI := tiG Try.prog
theorem ti2 : ti0 2 = some ⟨1, false, [Value.int .i64 0], none, [], some .i64, false, false, none, none⟩ := by kernel_rfl
variable {E : EC} {l : List AV} {hp : List (Nat × Nat × AV)} {gn : List (Nat × Nat)}
def pwK (a k : Int) : Option AV := match a, k with
 | .ofNat m, .ofNat n => cond (Nat.blt m 55441 && Nat.blt n 9223372036854775808) (some (i64 (.ofNat (m ^ n % 55441)))) none
 | _, _ => none
theorem mixed0 : Try.prog.follows .mixedOrders = true := by kernel_rfl
def KP (f : Nat) (args : List AV) : Option AV := cond (Nat.beq f 999999 || Nat.beq f 999999) (match args with
 | [.sc (.int .i64 a), .sc (.int .i64 k)] => pwK a k
 | _ => none) none
end Go.Proofs.Ythfgjapmgjhccaa
/- The laws' comparing functions. -/
namespace Go.Proofs.Ythfgjapmgjhccaa
open Go.RowKit
noncomputable abbrev XX : WX := ⟨Try.prog, ti0, fun f => Nat.beq f 999999 || Nat.beq f 999999 || Nat.beq f 999999 || Nat.beq f 999999 || Nat.beq f 999999 || Nat.beq f 999999 || Nat.beq f 999999 || Nat.beq f 999999 || Nat.beq f 999999 || Nat.beq f 999999 || Nat.beq f 999999 || Nat.beq f 999999 || Nat.beq f 999999 || Nat.beq f 999999 || Nat.beq f 999999 || Nat.beq f 999999 || Nat.beq f 33 || Nat.beq f 18 || Nat.beq f 999999 || Nat.beq f 999999 || Nat.beq f 42 || Nat.beq f 43 || Nat.beq f 77 || Nat.beq f 999999 || Nat.beq f 999999 || Nat.beq f 999999 || Nat.beq f 999999 || Nat.beq f 999999 || Nat.beq f 999999 || Nat.beq f 999999 || Nat.beq f 999999 || Nat.beq f 999999 || Nat.beq f 999999 || Nat.beq f 999999 || Nat.beq f 999999 || Nat.beq f 999999 || Nat.beq f 999999 || Nat.beq f 999999 || Nat.beq f 999999 || Nat.beq f 999999 || Nat.beq f 999999 || Nat.beq f 999999 || Nat.beq f 999999 || Nat.beq f 999999 || Nat.beq f 999999 || Nat.beq f 999999 || Nat.beq f 999999 || Nat.beq f 999999 || Nat.beq f 999999 || Nat.beq f 999999 || Nat.beq f 999999 || Nat.beq f 999999 || Nat.beq f 999999 || Nat.beq f 999999 || Nat.beq f 999999 || Nat.beq f 999999 || Nat.beq f 999999 || Nat.beq f 999999 || Nat.beq f 999999 || Nat.beq f 999999 || Nat.beq f 999999 || Nat.beq f 59 || Nat.beq f 41 || Nat.beq f 61 || Nat.beq f 19 || Nat.beq f 999999 || Nat.beq f 999999 || Nat.beq f 999999 || Nat.beq f 999999 || Nat.beq f 999999 || Nat.beq f 999999 || Nat.beq f 66 || Nat.beq f 5 || Nat.beq f 20 || Nat.beq f 21 || Nat.beq f 9 || Nat.beq f 14 || Nat.beq f 40 || Nat.beq f 36⟩
theorem call_of {f : Nat} {fn : Func} {code : Code} {args : List AV} {r : AV} (hf : Try.prog.funcs[f]? = some fn) (hb : fn.body = some code)
  (hok : (!(fn.name == "runtime.NumGoroutine") && dstOK fn.ntmps code && decide (args.length ≤ fn.ntmps)) = true) (hn : noRef r = true)
  (h : ∀ sl : Nat → AV, (∀ k, sl k = args.getD k (.sc undef)) → WK XX code [] (RET ti0 fn.results.toList r) ⟨sl, fun _ _ => none, fun _ => 0⟩) : CallOK Try.prog f args r :=
 call_ofG _ (tiG_ok _) mixed0 hf hb hok hn h
theorem ti3 : ti0 3 = some ⟨1, false, [Value.int .i64 0], none, [], some .i64, false, false, none, none⟩ := by kernel_rfl
theorem ti4 : ti0 4 = some ⟨1, false, [Value.bool false], none, [], none, false, true, none, none⟩ := by kernel_rfl
theorem ti22 : ti0 36 = some ⟨1, false, [Value.slice none 0 0], some 27, [], none, false, false, none, none⟩ := by kernel_rfl
theorem ti23 : ti0 27 = some ⟨1, false, [Value.slice none 0 0], some 2, [], none, false, false, none, none⟩ := by kernel_rfl
theorem eq_of_atI {xs ys : List Int} (hl : xs.length = ys.length) (h : ∀ j, j < xs.length → atI xs j = atI ys j) : xs = ys := by
 refine List.ext_getElem hl fun i h1 h2 => ?_
 have := h i h1
 simpa [atI, h1, h2] using this
theorem isLs_inj : ∀ {xs ys : List (List Int)}, xs.length = ys.length → (∀ j, j < xs.length → xs.getD j [] = ys.getD j []) → xs = ys := by
 intro xs ys hl h
 refine List.ext_getElem hl fun i h1 h2 => ?_
 have := h i h1
 simpa [h1, h2] using this
def iota (k : Int) : Nat → List Int
 | 0 => []
 | n + 1 => iota k n ++ [k + n]
def sumN : List Nat → Nat
 | [] => 0
 | n :: ns => n + sumN ns
def labs (k : Int) : List Nat → List (List Int)
 | [] => []
 | n :: ns => iota k n :: labs (k + n) ns
theorem in_of {f : Nat} {fn : Func} {code : Code} {args : List AV} {r : AV} {ro ro' : Ro} {gn gn' : Nat → Nat} (hf : Try.prog.funcs[f]? = some fn) (hb : fn.body = some code)
  (hok : (!(fn.name == "runtime.NumGoroutine") && dstOK fn.ntmps code && decide (args.length ≤ fn.ntmps)) = true)
  (h : ∀ sl : Nat → AV, (∀ k, sl k = args.getD k (.sc undef)) → WK XX code [] (RETI ti0 fn.results.toList r ro' gn') ⟨sl, ro, gn⟩) : InOK Try.prog f args ro gn r ro' gn' :=
 in_ofG _ (tiG_ok _) mixed0 hf hb hok h
structure Plc (s g : Nat) (p : List Nat) (W : List AV → AV) : Prop where
 cells : ∀ (ro : Ro) cs, ro s g = some (W cs) → ro.cells s g p = some cs
 notBx : ∀ (ro : Ro) cs, ro s g = some (W cs) → isBxAt ro s g p = false
 put : ∀ f cs, putR f p (W cs) = W (f cs)
theorem upr_upr (ro : Ro) (s g : Nat) (a b : AV) : upr (upr ro s g a) s g b = upr ro s g b := by
 funext s' g'; simp only [zdb]; split <;> rfl
theorem upr_id (ro : Ro) (s g : Nat) (a : AV) (h : ro s g = some a) : upr ro s g a = ro := by
 funext s' g'; simp only [zdb]; split
 ·rename_i h2; obtain ⟨rfl, rfl⟩ := h2; exact h.symm
 ·rfl
theorem upr_same (ro : Ro) (s g : Nat) (a : AV) : upr ro s g a s g = some a := by simp [zdb]
def mkd (k : Int) (j : Nat) (cs : List AV) : List AV := (iota k j).map i64 ++ cs.drop j
def rowsOf (css : List (List AV)) : List AV := css.map .row
def labsA (k : Int) (ns : List Nat) : List AV := (labs k ns).map fun xs => .row (xs.map i64)
def mkr (k : Int) (j : Nat) (css : List (List AV)) : List AV := labsA k ((css.map List.length).take j) ++ (css.drop j).map .row
set_option maxRecDepth 1000000 in
theorem c40 {a b c : Int} : CallOK Try.prog 23 [i64 a, i64 b, i64 c] (bo (decide (b ≤ a ∧ a ≤ c))) := by
 refine call_of (fn := Try.f23) (code := bodyOf Try.f23) Try.func23 rfl (by kernel_rfl) rfl ?_
 intro sl hs
 have s0 : sl 0 = i64 a := hs 0
 have s1 : sl 1 = i64 b := hs 1
 have s2 : sl 2 = i64 c := hs 2
 rcases Int.lt_or_le a b with h | h
 ·have h' : ¬ (b ≤ a) := by omega
  simp (disch := first | omega | assumption) only [Try.f23, bodyOf, Option.getD, go_sem, ↓reduceIte, Nat.reduceEqDiff, Nat.reduceAdd, Nat.reduceMul, ti2, s0, s1, s2, h, h']
  exact Yaa
 ·have h' : ¬ (a < b) := by omega
  simp (disch := first | omega | assumption) only [Try.f23, bodyOf, Option.getD, go_sem, ↓reduceIte, Nat.reduceEqDiff, Nat.reduceAdd, Nat.reduceMul, ti2, s0, s1, s2, h, h']
  exact Ydg
set_option maxRecDepth 1000000 in
theorem c38 {a b c : Int} : CallOK Try.prog 27 [i64 a, i64 b, i64 c] (bo (decide (b ≤ a ∧ a ≤ c))) := by
 refine call_of (fn := Try.f27) (code := bodyOf Try.f27) Try.func27 rfl (by kernel_rfl) rfl ?_
 intro sl hs
 have s0 : sl 0 = i64 a := hs 0
 have s1 : sl 1 = i64 b := hs 1
 have s2 : sl 2 = i64 c := hs 2
 rcases Int.lt_or_le a b with h | h
 ·have h' : ¬ (b ≤ a) := by omega
  simp (disch := first | omega | assumption) only [Try.f27, bodyOf, Option.getD, go_sem, ↓reduceIte, Nat.reduceEqDiff, Nat.reduceAdd, Nat.reduceMul, ti2, s0, s1, s2, h, h']
  exact Yaa
 ·have h' : ¬ (a < b) := by omega
  simp (disch := first | omega | assumption) only [Try.f27, bodyOf, Option.getD, go_sem, ↓reduceIte, Nat.reduceEqDiff, Nat.reduceAdd, Nat.reduceMul, ti2, s0, s1, s2, h, h']
  exact Ydg
def pw (a : Int) (k : Int) : Int := a ^ k.toNat % 55441
def qt (a b : Int) : Int := a * pw b 55439 % 55441
def pwz (a k : Int) : Int := if k < 0 then qt 1 (pw a (-k)) else pw a k
theorem mulB {x y X Y : Int} (h1 : 0 ≤ x) (h2 : x ≤ X) (h3 : 0 ≤ y) (h4 : y ≤ Y) : 0 ≤ x * y ∧ x * y ≤ X * Y :=
 ⟨Int.mul_nonneg h1 h3, Int.mul_le_mul h2 h4 h3 (by omega)⟩
theorem noRefL_map {α : Type} (f : α → AV) (h : ∀ i, noRef (f i) = true) : ∀ l : List α, noRefL (l.map f) = true
 | [] => rfl
 | a :: l => by simp only [List.map_cons, noRefL, h, noRefL_map f h l, Bool.and_self]
theorem noRefL_rws (f : Nat → AV) (n : Nat) (h : ∀ i, noRef (f i) = true) : noRefL (rws f n) = true := noRefL_map f h _
theorem noRef_row (cs : List AV) (h : noRefL cs = true) : noRef (.row cs) = true := by simpa only [noRef] using h
def dE (n k : Int) (i j : Nat) : Int := n * ((i : Int) / n * ((j : Int) % n) + (j : Int) / n * ((i : Int) % n)) + 2 * k * ((i : Int) / n) * ((j : Int) / n)
def dT (n k : Int) (i : Nat) : Int := n * ((i : Int) / n) * ((i : Int) % n) + k * ((i : Int) / n) * ((i : Int) / n)
def dz (n : Int) : Int := pw 38 (55440 / (n * n))
theorem rws_congr {α : Type} {f g : Nat → α} {n : Nat} (h : ∀ i, i < n → f i = g i) : rws f n = rws g n := by
 unfold rws
 exact List.map_congr_left fun i hi => h i (List.mem_range.1 hi)
theorem rws_map {α β : Type} (f : Nat → α) (g : α → β) (n : Nat) : (rws f n).map g = rws (fun i => g (f i)) n := by simp [rws, Function.comp_def]
def dS (n k : Int) : List (List Int) := rws (fun i => rws (fun j => pw (pw (dz n) 55439) (dE n k i j)) (n * n).toNat) (n * n).toNat
def dTs (n k : Int) : List Int := rws (fun i => pw (dz n) (dT n k i)) (n * n).toNat
abbrev rowL (xs : List Int) : AV := .row (xs.map i64)
abbrev rowLL (xss : List (List Int)) : AV := .row (xss.map rowL)
abbrev immL (xs : List Int) : AV := .imm (xs.map i64)
abbrev immLL (xss : List (List Int)) : AV := .imm (xss.map immL)
theorem exLL (ro : Ro) (k : Nat) (xss : List (List Int)) : (xss.map rowL).map (ex ro (k + 2)) = xss.map immL := by
 rw [List.map_map]
 refine List.map_congr_left fun xs _ => ?_
 show AV.imm ((xs.map i64).map (ex ro (k + 1))) = _
 rw [ex_map]
theorem ex_refLL {ro : Ro} {s g : Nat} {xss : List (List Int)} (h : ro s g = some (rowLL xss)) (k : Nat) : ex ro (k + 3) (.ref s g [] 0 xss.length) = immLL xss := by
 show (match ro.cells s g [] with | some cs => AV.imm (((cs.drop 0).take xss.length).map (ex ro (k + 2))) | none => .dead) = _
 rw [zef, h]
 simp only [zeh, List.drop_zero]
 rw [List.take_of_length_le (by simp), exLL]
theorem ex_refL {ro : Ro} {s g : Nat} {xs : List Int} (h : ro s g = some (rowL xs)) (k : Nat) : ex ro (k + 2) (.ref s g [] 0 xs.length) = immL xs := by
 show (match ro.cells s g [] with | some cs => AV.imm (((cs.drop 0).take xs.length).map (ex ro (k + 1))) | none => .dead) = _
 rw [zef, h]
 simp only [zeh, List.drop_zero]
 rw [List.take_of_length_le (by simp), ex_map]
def num (x : Int) : Prop := 0 ≤ x ∧ x < 55441
def numL (xs : List Int) : Prop := ∀ j, num (atI xs j)
def row (S : List (List Int)) (i : Nat) : List Int := S.getD i []
def numLL (S : List (List Int)) : Prop := ∀ i, numL (row S i)
def sm (f : Nat → Int) : Nat → Int
 | 0 => 0
 | n + 1 => sm f n + f n
theorem sm_bnd {f : Nat → Int} {B : Int} (h : ∀ j, 0 ≤ f j ∧ f j ≤ B) : ∀ n : Nat, 0 ≤ sm f n ∧ sm f n ≤ n * B
 | 0 => by simp [sm]
 | n + 1 => by
  have ih := sm_bnd h n
  have h1 := h n
  simp only [sm, Int.natCast_add, Int.natCast_one, Int.add_mul, Int.one_mul]
  omega
theorem sm_congr {f g : Nat → Int} : ∀ {n : Nat}, (∀ j, j < n → f j = g j) → sm f n = sm g n
 | 0, _ => rfl
 | n + 1, h => by simp only [sm]; rw [sm_congr fun j hj => h j (by omega), h n (by omega)]
theorem isL_idx0 {a : AV} {xs : List Int} (h : isL a xs) (hk : 0 < xs.length) {ro : Ro} {a1 : Nat} {a2 : Bool} {a3 : List Value} {e : Nat} {a5 : List (Nat × Nat)} {a6 : Option IntKind} {a7 a8 : Bool} {a9 a10 : Option (Nat × Nat)} : kIdx (some ⟨a1, a2, a3, some e, a5, a6, a7, a8, a9, a10⟩) ro a (.sc (.int .i64 0)) = some ⟨.iptr [i64 (atI xs 0)], none, [], []⟩ := isL_idx h hk
def ix : List Int → Int → Nat → Int
 | [], _, _ => -1
 | x :: xs, n, k => if x = n then k else ix xs n (k + 1)
theorem noRef_rowL (xs : List Int) : noRef (rowL xs) = true := noRef_row _ (noRefL_map _ (fun _ => rfl) _)
theorem noRef_rowLL (xss : List (List Int)) : noRef (rowLL xss) = true := noRef_row _ (noRefL_map _ (fun xs => noRef_rowL xs) _)
theorem noIL_map {α : Type} (f : α → AV) (h : ∀ i, noI (f i) = true) : ∀ l : List α, noIL (l.map f) = true
 | [] => rfl
 | a :: l => by simp only [List.map_cons, noIL, h, noIL_map f h l, Bool.and_self]
theorem noI_row (cs : List AV) (h : noIL cs = true) : noI (.row cs) = true := by simpa only [noI] using h
theorem noI_rowL (xs : List Int) : noI (rowL xs) = true := noI_row _ (noIL_map _ (fun _ => rfl) _)
theorem noI_rowLL (xss : List (List Int)) : noI (rowLL xss) = true := noI_row _ (noIL_map _ (fun xs => noI_rowL xs) _)
theorem isLL_row {a : AV} {xss : List (List Int)} (h : isLL a xss) {k : Nat} (hk : k < xss.length) : isL (atA a k) (row xss k) := isLL_at h hk
def whl (S : List (List Int)) (n : Nat) : Int := sm (fun j => atI (row S 0) j * atI (row S 0) j) n % 55441
def tmE (A B : List (List Int)) (i j : Nat) : Int := sm (fun k => atI (row A i) k * atI (row B k) j) B.length % 55441
def tms (A B : List (List Int)) : List (List Int) := rws (fun i => rws (fun j => tmE A B i j) B.length) A.length
theorem rep_rws {α : Type} (x : α) (n : Nat) : List.replicate n x = rws (fun _ => x) n := by
 unfold rws
 apply List.ext_getElem <;> simp
theorem rws_set {α : Type} (f : Nat → α) (n j : Nat) (x : α) : (rws f n).set j x = rws (fun i => if i = j then x else f i) n := by
 unfold rws
 apply List.ext_getElem
 ·simp
 ·intro i h1 h2
  simp [List.getElem_set]
  split <;> split <;> first | rfl | omega
theorem rws_get {α : Type} (f : Nat → α) (n j : Nat) (h : j < n) : (rws f n)[j]? = some (f j) := by simp [rws, h]
def wr1 (o : Option AV) (ro : Ro) (s g j i : Nat) (vs : List AV) : Ro := match o with
 | some a => upr ro s g (putR (setL i vs) [j] a)
 | none => ro
def bx1 (o : Option AV) (j : Nat) : Bool := match o with
 | some (.row rows) => match rows[j]? with
  | some (.bx _) => true
  | _ => false
 | _ => false
def apl (A : List (List Int)) (v : List Int) : List Int := rws (fun i => sm (fun j => atI (row A i) j * atI v j) (row A i).length % 55441) A.length
def trp (A : List (List Int)) : List (List Int) := rws (fun j => rws (fun i => atI (row A i) j) A.length) (row A 0).length
def mul (A B : List (List Int)) : List (List Int) := rws (fun i => apl (trp B) (row A i)) A.length
theorem row_rws (f : Nat → List Int) {n k : Nat} (h : k < n) : row (rws f n) k = f k := by
 unfold row; rw [List.getD_eq_getElem?_getD, rws_get f n k h]; rfl
theorem atI_rws (f : Nat → Int) {n k : Nat} (h : k < n) : atI (rws f n) k = f k := by
 unfold atI; rw [List.getD_eq_getElem?_getD, rws_get f n k h]; rfl
theorem row_out {A : List (List Int)} {k : Nat} (h : A.length ≤ k) : row A k = [] := by
 unfold row; rw [List.getD_eq_getElem?_getD, List.getElem?_eq_none h]; rfl
theorem atI_out {xs : List Int} {k : Nat} (h : xs.length ≤ k) : atI xs k = 0 := by
 unfold atI; rw [List.getD_eq_getElem?_getD, List.getElem?_eq_none h]; rfl
theorem isL_ex8 {a : AV} {xs : List Int} (ro : Ro) (h : isL a xs) : ex ro 8 a = a := isL_ex ro 6 h
theorem ti31 : ti0 24 = some ⟨1, false, [Value.slice none 0 0], some 36, [], none, false, false, none, none⟩ := by kernel_rfl
theorem ti33 : ti0 26 = some ⟨1, true, [Value.slice none 0 0], none, [(0, 24)], none, false, false, none, none⟩ := by kernel_rfl
theorem ti77 : ti0 58 = some ⟨1, false, [Value.slice none 0 0], some 3, [], none, false, false, none, none⟩ := by kernel_rfl
def ixp (p : Int → Bool) : List Int → Nat → Int
 | [], _ => -1
 | x :: xs, k => if p x then k else ixp p xs (k + 1)
theorem ixp_some {p : Int → Bool} : ∀ {xs : List Int} {k : Nat} (b : Nat), k < xs.length → p (atI xs k) = true → (∀ j, j < k → p (atI xs j) = false) → ixp p xs b = (b + k : Nat)
 | x :: xs, 0, b, _, h, _ => by simp [atI] at h; simp [ixp, h]
 | x :: xs, k + 1, b, hk, h, hn => by
  have h0 : p x = false := by simpa [atI] using hn 0 (by omega)
  have := ixp_some (xs := xs) (k := k) (b + 1) (by simpa using hk) (by simpa [atI] using h) (fun j hj => by simpa [atI] using hn (j + 1) (by omega))
  simp only [ixp, h0, Bool.false_eq_true, if_false, this]; omega
 | [], _, _, hk, _, _ => by simp at hk
theorem ixp_none {p : Int → Bool} : ∀ {xs : List Int} (b : Nat), (∀ j, j < xs.length → p (atI xs j) = false) → ixp p xs b = -1
 | [], _, _ => rfl
 | x :: xs, b, hn => by
  have h0 : p x = false := by simpa [atI] using hn 0 (by simp)
  simp only [ixp, h0, Bool.false_eq_true, if_false]
  exact ixp_none (b + 1) fun j hj => by simpa [atI] using hn (j + 1) (by simpa using hj)
set_option maxRecDepth 1000000 in
theorem c93 {a : AV} {xs : List Int} {g : Nat} {caps : List AV} {p : Int → Bool} (ha : isL a xs) (hx : xs.length ≤ maxN) (hi : XX.isIn g = false) (hcp : pureL caps = true) (hc : ∀ x, CallOK Try.prog g (i64 x :: caps) (bo (p x))) : CallOK Try.prog 88 [a, .fn g caps] (i64 (ixp p xs 0)) := by
 refine call_of (fn := Try.f88) (code := bodyOf Try.f88) Try.func88 rfl (by kernel_rfl) rfl ?_
 intro sl hs
 have s0 : sl 0 = a := hs 0
 have s1 : sl 1 = .fn g caps := hs 1
 have hx' : xs.length ≤ 4294967296 := hx
 simp only [Try.f88, bodyOf, Option.getD, go_sem, ↓reduceIte, Nat.reduceEqDiff, Nat.reduceAdd, Nat.reduceMul, ti2, ti3, ti4, ti23, s0, s1, isL_len ha]
 refine WK_for (fun k st => st.sl 0 = a ∧ st.sl 1 = .fn g caps ∧ st.sl 7 = i64 (xs.length : Int) ∧ st.sl 8 = i64 (k : Int) ∧ ∀ j, j < k → p (atI xs j) = false) xs.length ?_ ?_ ?_
 ·simp only [↓za, ↓reduceIte, Nat.reduceEqDiff, zb, reduceCtorEq, s0, s1]
  exact ⟨rfl, fun j hj => absurd hj (Nat.not_lt_zero _)⟩
 ·rintro k sl ro gn hk ⟨s0, s1, s7, s8, hp⟩
  dsimp only at s0 s1 s7 s8
  have hk' : (k : Int) < xs.length := by omega
  simp (disch := first | omega | assumption) only [go_sem, ↓reduceIte, Nat.reduceEqDiff, Nat.reduceAdd, Nat.reduceMul, zc, ti2, ti3, ti4, ti23, s0, s1, s7, s8, isL_idx ha hk, hk']
  refine CLL_pure _ (hc (atI xs k)) (by simp only [pureL, pureA, hcp, Bool.and_self]) hi rfl ?_
  cases hpx : p (atI xs k) with
  | true =>
   simp (disch := first | omega | assumption) only [go_sem, ↓reduceIte, Nat.reduceEqDiff, Nat.reduceAdd, Nat.reduceMul, zc, ti2, ti3, ti4, ti23, s0, s1, s7, s8]
   refine Yab ?_
   have := ixp_some 0 hk hpx hp
   rw [this]; omega
  | false =>
   simp (disch := first | omega | assumption) only [go_sem, ↓reduceIte, Nat.reduceEqDiff, Nat.reduceAdd, Nat.reduceMul, zc, ti2, ti3, ti4, ti23, s0, s1, s7, s8]
   refine ⟨i64c (by omega), fun j hj => ?_⟩
   rcases Nat.lt_or_ge j k with h | h
   ·exact hp j h
   ·have : j = k := by omega
    subst this; exact hpx
 ·rintro sl ro gn ⟨s0, s1, s7, s8, hp⟩
  dsimp only at s0 s1 s7 s8
  have hk' : ¬ (xs.length : Int) < xs.length := by omega
  simp (disch := first | omega | assumption) only [go_sem, ↓reduceIte, Nat.reduceEqDiff, Nat.reduceAdd, Nat.reduceMul, zc, ti2, ti3, ti4, ti23, s0, s1, s7, s8, hk']
  refine Yab ?_
  rw [ixp_none 0 hp]
set_option maxRecDepth 1000000 in
theorem c95 {a : AV} {xs : List Int} {g : Nat} {caps : List AV} {p : Int → Bool} (ha : isL a xs) (hx : xs.length ≤ maxN) (hi : XX.isIn g = false) (hcp : pureL caps = true) (hc : ∀ x, CallOK Try.prog g (i64 x :: caps) (bo (p x))) : CallOK Try.prog 64 [a, .fn g caps] (bo (decide (0 ≤ ixp p xs 0))) := by
 refine call_of (fn := Try.f64) (code := bodyOf Try.f64) Try.func64 rfl (by kernel_rfl) rfl ?_
 intro sl hs
 have s0 : sl 0 = a := hs 0
 have s1 : sl 1 = .fn g caps := hs 1
 simp only [Try.f64, bodyOf, Option.getD, go_sem, ↓reduceIte, Nat.reduceEqDiff, Nat.reduceAdd, Nat.reduceMul, ti2, ti3, ti4, ti23, s0, s1]
 refine CLL_pure _ (c93 ha hx hi hcp hc) (by simp only [pureL, isL_pure ha, pureA, hcp, Bool.and_self]) rfl rfl ?_
 simp (disch := first | omega | assumption) only [go_sem, ↓reduceIte, Nat.reduceEqDiff, Nat.reduceAdd, Nat.reduceMul, zc, ti3, ti4, s0, s1]
 exact Ydg
theorem kIdx_ref0 {ro : Ro} {s g : Nat} {p : List Nat} {off n : Nat} {a1 : Nat} {a2 : Bool} {a3 : List Value} {e : Nat} {a5 : List (Nat × Nat)} {a6 : Option IntKind} {a7 a8 : Bool} {a9 a10 : Option (Nat × Nat)} : kIdx (some ⟨a1, a2, a3, some e, a5, a6, a7, a8, a9, a10⟩) ro (.ref s g p off n) (.sc (.int .i64 0)) = if 0 < n ∧ (ro.cells s g p).isSome = true then some ⟨.ptr s g p off, none, [], []⟩ else none := zen (k := 0)
section
variable (S : List (List Int)) (T : List Int)
def cjA (i : Nat) : Int := ix (row (tms S S) i) (whl S T.length) 0
def cjOk (i : Nat) : Prop := (∀ k, k < T.length → (k : Int) ≠ cjA S T i → atI (row (tms S S) i) k = 0) ∧ 0 ≤ cjA S T i ∧ (∀ j, j < i → cjA S T j ≠ cjA S T i) ∧ atI T (cjA S T i).toNat = atI T i
def CjP : Prop := (∀ i, i < T.length → cjOk S T i) ∧ cjA S T 0 = 0
def cjL : List Int := rws (cjA S T) T.length
end
structure Shp (S : List (List Int)) (T : List Int) : Prop where
 pos : 0 < T.length
 max : T.length ≤ maxN
 lS : S.length = T.length
 lR : ∀ i, i < T.length → (row S i).length = T.length
 nS : numLL S
 nT : numL T
theorem tms_len (A B : List (List Int)) : (tms A B).length = A.length := zfe _ _
def nz (x : Int) : Bool := decide (x ≠ 0)
theorem ixp_cases (p : Int → Bool) (xs : List Int) : (ixp p xs 0 = -1 ∧ ∀ j, j < xs.length → p (atI xs j) = false) ∨ ∃ m : Nat, ixp p xs 0 = m ∧ m < xs.length ∧ p (atI xs m) = true ∧ ∀ j, j < m → p (atI xs j) = false := by
 by_cases h : ∃ m : Nat, m < xs.length ∧ p (atI xs m) = true
 ·right
  have : ∃ m : Nat, m < xs.length ∧ p (atI xs m) = true ∧ ∀ j, j < m → p (atI xs j) = false := by
   obtain ⟨m, h1, h2⟩ := h
   induction m using Nat.strongRecOn with
   | ind m ih =>
    by_cases h3 : ∃ j, j < m ∧ p (atI xs j) = true
    ·obtain ⟨j, h4, h5⟩ := h3; exact ih j h4 (by omega) h5
    ·refine ⟨m, h1, h2, fun j hj => ?_⟩
     cases he : p (atI xs j) with
     | false => rfl
     | true => exact absurd ⟨j, hj, he⟩ h3
  obtain ⟨m, h1, h2, h3⟩ := this
  exact ⟨m, by rw [ixp_some 0 h1 h2 h3]; omega, h1, h2, h3⟩
 ·left
  have h' : ∀ j, j < xs.length → p (atI xs j) = false := fun j hj => by
   cases he : p (atI xs j) with
   | false => rfl
   | true => exact absurd ⟨j, hj, he⟩ h
  exact ⟨ixp_none 0 h', h'⟩
theorem ixp_neg {p : Int → Bool} {xs : List Int} : 0 ≤ ixp p xs 0 ↔ ∃ m, m < xs.length ∧ p (atI xs m) = true := by
 rcases ixp_cases p xs with ⟨h, h2⟩ | ⟨m, h, h1, h2, h3⟩
 ·rw [h]
  refine ⟨fun h => absurd h (by decide), ?_⟩
  rintro ⟨m, h3, h4⟩; rw [h2 m h3] at h4; cases h4
 ·rw [h]; exact ⟨fun _ => ⟨m, h1, h2⟩, fun _ => by omega⟩
section
variable (S : List (List Int)) (T : List Int)
def djA (i : Nat) : Int := ixp nz (row (tms S S) i) 0
def djOk (i : Nat) : Prop := 0 ≤ djA S i ∧ atI (row (tms S S) i) (djA S i).toNat = whl S T.length ∧ (∀ k, k < T.length → djA S i < k → atI (row (tms S S) i) k = 0) ∧ (∀ j, j < i → djA S j ≠ djA S i) ∧
 atI T (djA S i).toNat = atI T i ∧ ((i : Int) = 0 ↔ djA S i = 0)
end
end Go.Proofs.Ythfgjapmgjhccaa
