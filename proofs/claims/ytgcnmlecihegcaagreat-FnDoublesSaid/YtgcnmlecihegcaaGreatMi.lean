/- Texts joined: F0 F1 F2. -/
import Derived.Test.YtgcnmlecihegcaaGreatMh
set_option linter.all false
/- Readings of lists of lists of lists; first finds; laws that find their own facts. -/
namespace Go.Proofs.YtgcnmlecihegcaaGreat
open Go.RowKit
def isLLs : List AV → List (List (List Int)) → Prop
 | [], [] => True
 | a :: bs, x :: xs => isLL a x ∧ isLLs bs xs
 | _, _ => False
def isLLL (a : AV) (T : List (List (List Int))) : Prop := (∃ cs, a = .imm cs ∧ isLLs cs T) ∨ (T = [] ∧ a = nilA)
def mat (T : List (List (List Int))) (i : Nat) : List (List Int) := T.getD i []
abbrev at3 (T : List (List (List Int))) (i j k : Nat) : Int := atI (row (mat T i) j) k
theorem isLLs_len : ∀ {cs : List AV} {T : List (List (List Int))}, isLLs cs T → cs.length = T.length
 | [], [], _ => rfl
 | a :: bs, x :: xs, h => by simp only [List.length_cons]; rw [isLLs_len h.2]
 | [], _ :: _, h => h.elim
 | _ :: _, [], h => h.elim
theorem isLLs_get : ∀ {cs : List AV} {T : List (List (List Int))} {k : Nat}, isLLs cs T → k < T.length → ∃ c, cs[k]? = some c ∧ isLL c (T.getD k [])
 | a :: bs, x :: xs, 0, h, _ => ⟨a, rfl, h.1⟩
 | a :: bs, x :: xs, k + 1, h, hk => by
   obtain ⟨c, h1, h2⟩ := isLLs_get (k := k) h.2 (by simpa using hk)
   exact ⟨c, by simpa using h1, by simpa using h2⟩
 | [], [], k, _, hk => by simp at hk
 | [], _ :: _, _, h, _ => h.elim
 | _ :: _, [], _, h, _ => h.elim
theorem isLLs_pure : ∀ {cs : List AV} {T : List (List (List Int))}, isLLs cs T → pureL cs = true
 | [], [], _ => rfl
 | a :: bs, x :: xs, h => by simp [pureL, isLL_pure h.1, isLLs_pure h.2]
 | [], _ :: _, h => h.elim
 | _ :: _, [], h => h.elim
theorem isLLL_pure {a : AV} {T : List (List (List Int))} (h : isLLL a T) : pureA a = true := by
 rcases h with ⟨cs, rfl, h⟩ | ⟨_, rfl⟩
 · simp [pureA, isLLs_pure h]
 · rfl
theorem isLLL_sites {a : AV} {T : List (List (List Int))} (h : isLLL a T) : zdy a = [] := by
 rcases h with ⟨cs, rfl, h⟩ | ⟨_, rfl⟩ <;> rfl
theorem isLLL_cellB {a : AV} {T : List (List (List Int))} (ro : Ro) (h : isLLL a T) : cellOkB ro a = true := by
 rcases h with ⟨cs, rfl, h⟩ | ⟨_, rfl⟩ <;> rfl
theorem isLLL_lift {a : AV} {T : List (List (List Int))} (s g : Nat) (p : List Nat) (h : isLLL a T) : lift s g p a = a := by
 rcases h with ⟨cs, rfl, h⟩ | ⟨_, rfl⟩ <;> rfl
theorem isLLL_len {a : AV} {T : List (List (List Int))} (h : isLLL a T) {ro : Ro} {a1 : Nat} {a2 : Bool} {a3 : List Value} {e : Nat} {a5 : List (Nat × Nat)} {a6 : Option IntKind} {a7 a8 : Bool} : kLen1 (some ⟨a1, a2, a3, some e, a5, a6, a7, a8⟩) ro a = some ⟨i64 T.length, none, [], []⟩ := by
 rcases h with ⟨cs, rfl, h⟩ | ⟨rfl, rfl⟩
 · simp [kLen1, isLLs_len h]
 · rfl
theorem isLLL_idx {a : AV} {T : List (List (List Int))} (h : isLLL a T) {k : Nat} (hk : k < T.length) {ro : Ro} {a1 : Nat} {a2 : Bool} {a3 : List Value} {e : Nat} {a5 : List (Nat × Nat)} {a6 : Option IntKind} {a7 a8 : Bool} : kIdx (some ⟨a1, a2, a3, some e, a5, a6, a7, a8⟩) ro a (i64 (k : Int)) = some ⟨.iptr [atA a k], none, [], []⟩ := by
 rcases h with ⟨cs, rfl, h⟩ | ⟨rfl, rfl⟩
 · obtain ⟨c, h1, h2⟩ := isLLs_get h hk
   simp [kIdx, h1, atA]
 · simp at hk
theorem isLLL_idx0 {a : AV} {T : List (List (List Int))} (h : isLLL a T) (hk : 0 < T.length) {ro : Ro} {a1 : Nat} {a2 : Bool} {a3 : List Value} {e : Nat} {a5 : List (Nat × Nat)} {a6 : Option IntKind} {a7 a8 : Bool} : kIdx (some ⟨a1, a2, a3, some e, a5, a6, a7, a8⟩) ro a (.sc (.int .i64 0)) = some ⟨.iptr [atA a 0], none, [], []⟩ := isLLL_idx h hk
theorem isLLL_mat {a : AV} {T : List (List (List Int))} (h : isLLL a T) {k : Nat} (hk : k < T.length) : isLL (atA a k) (mat T k) := by
 rcases h with ⟨cs, rfl, h⟩ | ⟨rfl, rfl⟩
 · obtain ⟨c, h1, h2⟩ := isLLs_get h hk
   simpa [atA, h1, mat] using h2
 · simp at hk
theorem isLL_ex {a : AV} {S : List (List Int)} (ro : Ro) (k : Nat) (h : isLL a S) : ex ro (k + 3) a = a := by
 rcases h with ⟨cs, rfl, h⟩ | ⟨_, rfl⟩
 · show AV.imm (cs.map (ex ro (k + 2))) = _
   have : ∀ {cs : List AV} {xss : List (List Int)}, isLs cs xss → cs.map (ex ro (k + 2)) = cs := by
     intro cs
     induction cs with
     | nil => intros; rfl
     | cons c cs ih =>
       intro xss h
       cases xss with
       | nil => exact h.elim
       | cons x xss => rw [List.map_cons, isL_ex ro k h.1, ih h.2]
   rw [this h]
 · rfl
theorem isLLL_ex {a : AV} {T : List (List (List Int))} (ro : Ro) (k : Nat) (h : isLLL a T) : ex ro (k + 4) a = a := by
 rcases h with ⟨cs, rfl, h⟩ | ⟨_, rfl⟩
 · show AV.imm (cs.map (ex ro (k + 3))) = _
   have : ∀ {cs : List AV} {xss : List (List (List Int))}, isLLs cs xss → cs.map (ex ro (k + 3)) = cs := by
     intro cs
     induction cs with
     | nil => intros; rfl
     | cons c cs ih =>
       intro xss h
       cases xss with
       | nil => exact h.elim
       | cons x xss => rw [List.map_cons, isLL_ex ro k h.1, ih h.2]
   rw [this h]
 · rfl
theorem isLLs_nr : ∀ {cs : List AV} {T : List (List (List Int))}, isLLs cs T → noRefL cs = true
 | [], [], _ => rfl
 | a :: cs, x :: xs, h => by
   have h1 : noRef a = true := by
     rcases h.1 with ⟨ds, rfl, hd⟩ | ⟨_, rfl⟩
     · simpa only [noRef] using isLs_nr hd
     · rfl
   simp only [noRefL, h1, isLLs_nr h.2, Bool.and_self]
 | [], _ :: _, h => h.elim
 | _ :: _, [], h => h.elim
theorem isLLL_sh {a : AV} {T : List (List (List Int))} (ro : Ro) (h : isLLL a T) : shA ro a = true := by
 rcases h with ⟨cs, rfl, h⟩ | ⟨_, rfl⟩
 · rw [zhh]; exact isLLs_nr h
 · exact zhg _ _
def cubeL (F : Nat → Nat → Nat → Int) (n : Nat) : List (List (List Int)) := rws (fun i => rws (fun j => rws (fun k => F i j k) n) n) n
theorem mat_cube {F : Nat → Nat → Nat → Int} {n i : Nat} (h : i < n) : mat (cubeL F n) i = rws (fun j => rws (fun k => F i j k) n) n := by
 unfold mat cubeL; simp [rws, h]
theorem at3_cube {F : Nat → Nat → Nat → Int} {n i j k : Nat} (hi : i < n) (hj : j < n) (hk : k < n) : at3 (cubeL F n) i j k = F i j k := by
 unfold at3; rw [mat_cube hi, row_rws _ hj, atI_rws _ hk]
theorem isLLs_rws {f : Nat → AV} {g : Nat → List (List Int)} (h : ∀ i, isLL (f i) (g i)) : ∀ l : List Nat, isLLs (l.map f) (l.map g)
 | [] => trivial
 | i :: l => ⟨h i, isLLs_rws h l⟩
theorem isLs_rws {f : Nat → AV} {g : Nat → List Int} (h : ∀ i, isL (f i) (g i)) : ∀ l : List Nat, isLs (l.map f) (l.map g)
 | [] => trivial
 | i :: l => ⟨h i, isLs_rws h l⟩
theorem isLLL_immC (F : Nat → Nat → Nat → Int) (n : Nat) : isLLL (immC F n) (cubeL F n) := by
 refine .inl ⟨_, rfl, isLLs_rws (fun i => .inl ⟨_, rfl, isLs_rws (fun j => .inl ?_) _⟩) _⟩
 simp only [rws, List.map_map]; rfl
theorem isL_idxI {a : AV} {xs : List Int} (h : isL a xs) {z : Int} (h0 : 0 ≤ z) (hz : z < xs.length) {ro : Ro} {a1 : Nat} {a2 : Bool} {a3 : List Value} {e : Nat} {a5 : List (Nat × Nat)} {a6 : Option IntKind} {a7 a8 : Bool} : kIdx (some ⟨a1, a2, a3, some e, a5, a6, a7, a8⟩) ro a (i64 z) = some ⟨.iptr [i64 (atI xs z.toNat)], none, [], []⟩ := by
 obtain ⟨k, rfl⟩ := Int.eq_ofNat_of_zero_le h0
 rw [isL_idx h (by omega)]; rfl
theorem isLL_idxI {a : AV} {xs : List (List Int)} (h : isLL a xs) {z : Int} (h0 : 0 ≤ z) (hz : z < xs.length) {ro : Ro} {a1 : Nat} {a2 : Bool} {a3 : List Value} {e : Nat} {a5 : List (Nat × Nat)} {a6 : Option IntKind} {a7 a8 : Bool} : kIdx (some ⟨a1, a2, a3, some e, a5, a6, a7, a8⟩) ro a (i64 z) = some ⟨.iptr [atA a z.toNat], none, [], []⟩ := by
 obtain ⟨k, rfl⟩ := Int.eq_ofNat_of_zero_le h0
 rw [isLL_idx h (by omega)]; rfl
theorem isLLL_idxI {a : AV} {T : List (List (List Int))} (h : isLLL a T) {z : Int} (h0 : 0 ≤ z) (hz : z < T.length) {ro : Ro} {a1 : Nat} {a2 : Bool} {a3 : List Value} {e : Nat} {a5 : List (Nat × Nat)} {a6 : Option IntKind} {a7 a8 : Bool} : kIdx (some ⟨a1, a2, a3, some e, a5, a6, a7, a8⟩) ro a (i64 z) = some ⟨.iptr [atA a z.toNat], none, [], []⟩ := by
 obtain ⟨k, rfl⟩ := Int.eq_ofNat_of_zero_le h0
 rw [isLLL_idx h (by omega)]; rfl
def fnd {α : Type} : Nat → (Nat → Option α) → Option α
 | 0, _ => none
 | n + 1, p => match fnd n p with
   | some v => some v
   | none => p n
theorem fnd_none {α : Type} {p : Nat → Option α} : ∀ {n : Nat}, fnd n p = none ↔ ∀ k, k < n → p k = none
 | 0 => by simp [fnd]
 | n + 1 => by
   have ih := fnd_none (p := p) (n := n)
   simp only [fnd]
   cases hf : fnd n p with
   | some v =>
     simp only [reduceCtorEq, false_iff]
     intro h
     rw [ih.2 fun k hk => h k (by omega)] at hf
     cases hf
   | none =>
     refine ⟨fun h k hk => ?_, fun h => h n (by omega)⟩
     rcases Nat.lt_or_ge k n with h2 | h2
     · exact ih.1 hf k h2
     · have : k = n := by omega
       subst this; exact h
theorem fnd_some {α : Type} {p : Nat → Option α} {k : Nat} {v : α} (hv : p k = some v) (h : ∀ j, j < k → p j = none) : ∀ {n : Nat}, k < n → fnd n p = some v
 | 0, hk => by omega
 | n + 1, hk => by
   simp only [fnd]
   rcases Nat.lt_or_ge k n with h2 | h2
   · rw [fnd_some hv h h2]
   · have : k = n := by omega
     subst this
     rw [fnd_none.2 h]; exact hv
def optA : Option (List Int) → AV
 | none => nilA
 | some xs => rowL xs
theorem noRef_optA (o : Option (List Int)) : noRef (optA o) = true := by cases o; rfl; exact noRef_rowL _
theorem noI_optA (o : Option (List Int)) : noI (optA o) = true := by cases o; rfl; exact noI_rowL _
def exq (n : Nat) (ro : Ro) (a a' : AV) : Prop := (∀ k, n ≤ k → ex ro k a = a') ∧ (pureA a = true → a' = a)
inductive exqL (n : Nat) (ro : Ro) : List AV → List AV → Prop
 | nil : exqL n ro [] []
 | cons {a a' : AV} {bs bs' : List AV} : exq n ro a a' → exqL n ro bs bs' → exqL n ro (a :: bs) (a' :: bs')
theorem exqL.mapE {n : Nat} {ro : Ro} {bs bs' : List AV} (h : exqL n ro bs bs') : ∀ k, n ≤ k → bs.map (ex ro k) = bs' := by
 intro k hk
 induction h with
 | nil => rfl
 | cons h1 _ ih => rw [List.map_cons, h1.1 k hk, ih]
theorem exqL.pureE {n : Nat} {ro : Ro} {bs bs' : List AV} (h : exqL n ro bs bs') : pureL bs = true → bs' = bs := by
 induction h with
 | nil => intro _; rfl
 | cons h1 _ ih =>
   intro hp
   simp only [pureL, Bool.and_eq_true] at hp
   rw [h1.2 hp.1, ih hp.2]
theorem argsX_q {ro : Ro} {bs bs' : List AV} (h : exqL 8 ro bs bs') : argsX ro bs = bs' := by
 unfold argsX
 split
 · rename_i hp; exact (h.pureE hp).symm
 · exact h.mapE 8 (Nat.le_refl _)
theorem exq_sc (n : Nat) (ro : Ro) (v : Value) (h : 1 ≤ n) : exq n ro (.sc v) (.sc v) := by
 refine ⟨fun k hk => ?_, fun _ => rfl⟩
 obtain ⟨j, rfl⟩ : ∃ j, k = j + 1 := ⟨k - 1, by omega⟩
 rfl
theorem exq_L {n : Nat} {ro : Ro} {a : AV} {xs : List Int} (ha : isL a xs) (h : 2 ≤ n) : exq n ro a a := by
 refine ⟨fun k hk => ?_, fun _ => rfl⟩
 obtain ⟨j, rfl⟩ : ∃ j, k = j + 2 := ⟨k - 2, by omega⟩
 exact isL_ex ro j ha
theorem exq_LL {n : Nat} {ro : Ro} {a : AV} {xs : List (List Int)} (ha : isLL a xs) (h : 3 ≤ n) : exq n ro a a := by
 refine ⟨fun k hk => ?_, fun _ => rfl⟩
 obtain ⟨j, rfl⟩ : ∃ j, k = j + 3 := ⟨k - 3, by omega⟩
 exact isLL_ex ro j ha
theorem exq_LLL {n : Nat} {ro : Ro} {a : AV} {xs : List (List (List Int))} (ha : isLLL a xs) (h : 4 ≤ n) : exq n ro a a := by
 refine ⟨fun k hk => ?_, fun _ => rfl⟩
 obtain ⟨j, rfl⟩ : ∃ j, k = j + 4 := ⟨k - 4, by omega⟩
 exact isLLL_ex ro j ha
theorem exq_refL {n : Nat} {ro : Ro} {s g m : Nat} {xs : List Int} (h : ro s g = some (rowL xs)) (hm : m = xs.length) (hn : 2 ≤ n) : exq n ro (.ref s g [] 0 m) (immL xs) := by
 refine ⟨fun k hk => ?_, fun hp => by simp [pureA] at hp⟩
 subst hm
 obtain ⟨j, rfl⟩ : ∃ j, k = j + 2 := ⟨k - 2, by omega⟩
 exact ex_refL h j
theorem exq_refLL {n : Nat} {ro : Ro} {s g m : Nat} {xs : List (List Int)} (h : ro s g = some (rowLL xs)) (hm : m = xs.length) (hn : 3 ≤ n) : exq n ro (.ref s g [] 0 m) (immLL xs) := by
 refine ⟨fun k hk => ?_, fun hp => by simp [pureA] at hp⟩
 subst hm
 obtain ⟨j, rfl⟩ : ∃ j, k = j + 3 := ⟨k - 3, by omega⟩
 exact ex_refLL h j
theorem exq_cube {n : Nat} {ro : Ro} {s g m : Nat} {F : Nat → Nat → Nat → Int} (h : ro s g = some (cubeA F m)) (hn : 4 ≤ n) : exq n ro (.ref s g [] 0 m) (immC F m) := by
 refine ⟨fun k hk => ?_, fun hp => by simp [pureA] at hp⟩
 obtain ⟨j, rfl⟩ : ∃ j, k = j + 4 := ⟨k - 4, by omega⟩
 exact ex_cube h j
theorem exq_agg {n : Nat} {ro : Ro} {cs cs' : List AV} (h : exqL n ro cs cs') : exq (n + 1) ro (.agg cs) (.agg cs') := by
 refine ⟨fun k hk => ?_, fun hp => by rw [h.pureE (by simpa only [pureA] using hp)]⟩
 obtain ⟨j, rfl⟩ : ∃ j, k = j + 1 := ⟨k - 1, by omega⟩
 show AV.agg (cs.map (ex ro j)) = _
 rw [h.mapE j (by omega)]
section
variable {X : WX} {K : List Fr} {Q : Exit → St → Prop} {sl : Nat → AV} {ro : Ro} {gn : Nat → Nat}
theorem CLL_q {f : Nat} {args args' : List AV} {rid : Nat} {ops : Array Oper} {o : Oper} {rest : List Oper} {i : Nat} (r : AV) (h : CallOK X.P f args' r) (ha : exqL 8 ro args args') (hi : X.isIn f = false) (ho : impOK r = true) (hn : noI r = true)
   (hk : WO X rid ops rest (i + 1) K Q (((⟨sl, ro, gn⟩ : St).eff (impE (site rid i) gn r)).put o.dst (impE (site rid i) gn r).v)) : CLL (some (f, args)) X rid ops o rest i K Q ⟨sl, ro, gn⟩ := CLL_args r h (argsX_q ha) hi ho hn hk
theorem CLLD_q {f : Nat} {args args' : List AV} {rd : Option (List Nat)} {rid : Nat} {ops : Array Oper} {o : Oper} {rest : List Oper} {i : Nat} {acc : List FP} (r : AV) (h : CallOK X.P f args' r) (ha : exqL 8 ro args args') (ho : impOK r = true) (hn : noI r = true)
   (hk : WD X rid ops rest (i + 1) (⟨rd, (impE (site rid i) gn r).sites⟩ :: acc) K Q (((⟨sl, ro, gn⟩ : St).eff (impE (site rid i) gn r)).put o.dst (impE (site rid i) gn r).v)) : CLLD (some (f, args)) rd X rid ops o rest i acc K Q ⟨sl, ro, gn⟩ := CLLD_args r h (argsX_q ha) ho hn hk
end
def DuQ (f : Nat → Int) (n j : Nat) : Prop := j < n ∧ f j = 1 ∧ ∀ k, k < n → k ≠ j → f k = 0
open Classical in
noncomputable def du (f : Nat → Int) (n : Nat) : Int := if h : ∃ j, DuQ f n j then (Classical.choose h : Nat) else -1
theorem du_is {f : Nat → Int} {n j : Nat} (h : DuQ f n j) : du f n = j := by
 have he : ∃ j, DuQ f n j := ⟨j, h⟩
 unfold du
 rw [dif_pos he]
 have hs := Classical.choose_spec he
 by_cases e : Classical.choose he = j
 · rw [e]
 · have := h.2.2 _ hs.1 e
   rw [hs.2.1] at this; omega
theorem du_no {f : Nat → Int} {n : Nat} (h : ¬ ∃ j, DuQ f n j) : du f n = -1 := by unfold du; rw [dif_neg h]
theorem du_cases (f : Nat → Int) (n : Nat) : (∃ j, DuQ f n j ∧ du f n = j) ∨ ((¬ ∃ j, DuQ f n j) ∧ du f n = -1) := by
 by_cases h : ∃ j, DuQ f n j
 · obtain ⟨j, hj⟩ := h
   exact .inl ⟨j, hj, du_is hj⟩
 · exact .inr ⟨h, du_no h⟩
theorem decT {p : Prop} [Decidable p] (h : p) : decide p = true := decide_eq_true h
theorem decF {p : Prop} [Decidable p] (h : ¬ p) : decide p = false := decide_eq_false h
theorem all1 {ro : Ro} {a : AV} (h : cellOkB ro a = true) : [a].all (cellOkB ro) = true := by simp only [List.all_cons, List.all_nil, h, Bool.and_self]
theorem bnd2 {a b x y : Int} (ha : 0 ≤ a) (ha' : a ≤ x) (hb : 0 ≤ b) (hb' : b ≤ y) : 0 ≤ a * b ∧ a * b ≤ x * y := ⟨Int.mul_nonneg ha hb, Int.mul_le_mul ha' hb' hb (by omega)⟩
attribute [go_sem] ti2 ti3 ti4 ti22 ti23 ti25 ti31 ti33 ti77
attribute [go_sem] isL_len isLL_len isLLL_len isL_idx isLL_idx isLLL_idx isL_idx0 isLL_idx0 isLLL_idx0 isL_lift isLL_lift isLLL_lift isL_cellB isLL_cellB isLLL_cellB isL_sites isLL_sites isLLL_sites
theorem iteT {α : Type} {p : Prop} [Decidable p] {a b : α} (h : p) : (if p then a else b) = a := if_pos h
attribute [go_sem] rws_get rwsm_take rwsm_app zfe
attribute [go_sem] iteT decT decF isL_idxI isLL_idxI isLLL_idxI Int.toNat_natCast
set_option maxRecDepth 1000000 in
def CubeP (T : List (List (List Int))) : Prop := 1 ≤ T.length ∧ T.length ≤ 16 ∧ ∀ i, i < T.length → (mat T i).length = T.length ∧ ∀ j, j < T.length → (row (mat T i) j).length = T.length ∧ ∀ k, k < T.length → 0 ≤ at3 T i j k ∧ at3 T i j k ≤ 1000
end Go.Proofs.YtgcnmlecihegcaaGreat
/- The reference's cubes and rings. -/
namespace Go.Proofs.YtgcnmlecihegcaaGreat
open Go.RowKit
set_option maxRecDepth 1000000 in
theorem c130 {a : AV} {T : List (List (List Int))} (ha : isLLL a T) {t : Bool} (ht : t = true ↔ CubeP T) : CallOK Tryz.prog 62 [a] (bo t) := by
 refine call_of (fn := Tryz.f62) (code := bodyOf Tryz.f62) Tryz.func62 rfl (by kernel_rfl) rfl ?_
 intro sl hs
 have s0 : sl 0 = a := hs 0
 by_cases h1 : (T.length : Int) < 1
 · dsimp only [Tryz.f62, bodyOf, Option.getD]
   simp (maxSteps := 10000000) (disch := first | assumption | omega) only [go_sem, ↓reduceIte, Nat.reduceEqDiff, reduceCtorEq, Nat.reduceAdd, Nat.reduceMul, Nat.reduceLeDiff, zfu, Int.mul_def, Int.add_def, zfv, cond_false, cond_true, isub, Int.reduceToNat, s0, h1]
   simp only [zbj, zbk, retR, resL, outT, zes, zez, oneV, ↓zcy, ↓zcz, ↓reduceIte, Nat.reduceEqDiff, Option.some.injEq, AV.sc.injEq, Value.bool.injEq, Value.int.injEq, outL, outT, zft, zcp, zed, zef, zei, zeh, List.length_cons, List.length_nil, Nat.reduceAdd, Nat.zero_add, Nat.reduceLeDiff, List.drop_zero, List.take_succ_cons, List.take_zero, zfi, zfh, Ro.dl, zdb, zda, zfe, and_self, and_true, true_and, eq_self, List.append_nil, List.nil_append, List.cons_append, ne_eq, not_false_eq_true, and_false, false_and, Bool.false_eq_true, St.ev, zes, zfn, zhk]
   exact bool_false ht fun h => by have := h.1; omega
 by_cases h2 : (16 : Int) < T.length
 · dsimp only [Tryz.f62, bodyOf, Option.getD]
   simp (maxSteps := 10000000) (disch := first | assumption | omega) only [go_sem, ↓reduceIte, Nat.reduceEqDiff, reduceCtorEq, Nat.reduceAdd, Nat.reduceMul, Nat.reduceLeDiff, zfu, Int.mul_def, Int.add_def, zfv, cond_false, cond_true, isub, Int.reduceToNat, s0, h1, h2]
   simp only [zbj, zbk, retR, resL, outT, zes, zez, oneV, ↓zcy, ↓zcz, ↓reduceIte, Nat.reduceEqDiff, Option.some.injEq, AV.sc.injEq, Value.bool.injEq, Value.int.injEq, outL, outT, zft, zcp, zed, zef, zei, zeh, List.length_cons, List.length_nil, Nat.reduceAdd, Nat.zero_add, Nat.reduceLeDiff, List.drop_zero, List.take_succ_cons, List.take_zero, zfi, zfh, Ro.dl, zdb, zda, zfe, and_self, and_true, true_and, eq_self, List.append_nil, List.nil_append, List.cons_append, ne_eq, not_false_eq_true, and_false, false_and, Bool.false_eq_true, St.ev, zes, zfn, zhk]
   exact bool_false ht fun h => by have := h.2.1; omega
 dsimp only [Tryz.f62, bodyOf, Option.getD]
 simp (maxSteps := 10000000) (disch := first | assumption | omega) only [go_sem, ↓reduceIte, Nat.reduceEqDiff, reduceCtorEq, Nat.reduceAdd, Nat.reduceMul, Nat.reduceLeDiff, zfu, Int.mul_def, Int.add_def, zfv, cond_false, cond_true, isub, Int.reduceToNat, s0, h1, h2]
 refine WK_for (fun i st => st.sl 0 = a ∧ st.sl 3 = i64 (T.length : Int) ∧ st.sl 4 = i64 (i : Int) ∧ ∀ x, x < i → (mat T x).length = T.length ∧ ∀ j, j < T.length → (row (mat T x) j).length = T.length ∧ ∀ k, k < T.length → 0 ≤ at3 T x j k ∧ at3 T x j k ≤ 1000) T.length ?_ ?_ ?_
 · simp only [↓zcy, ↓zcz, ↓zda, ↓zdb, ↓reduceIte, Nat.reduceEqDiff, and_true, true_and, and_self, ne_eq, not_false_eq_true, eq_self, false_and, and_false, reduceCtorEq, s0]
   exact ⟨rfl, fun j hj => absurd hj (Nat.not_lt_zero _)⟩
 · rintro i sl ro gn hi ⟨s0, s3, s4, hp⟩
   dsimp only at s0 s3 s4
   have hi' : (i : Int) < T.length := by omega
   have hm := isLLL_mat ha hi
   simp (maxSteps := 10000000) (disch := first | assumption | omega) only [go_sem, ↓reduceIte, Nat.reduceEqDiff, reduceCtorEq, Nat.reduceAdd, Nat.reduceMul, Nat.reduceLeDiff, zfu, Int.mul_def, Int.add_def, zfv, cond_false, cond_true, isub, Int.reduceToNat, s0, s3, s4, hi']
   refine ⟨fun h => ?_, fun h => ?_⟩; rotate_left
   · simp only [zbj, zbk, retR, resL, outT, zes, zez, oneV, ↓zcy, ↓zcz, ↓reduceIte, Nat.reduceEqDiff, Option.some.injEq, AV.sc.injEq, Value.bool.injEq, Value.int.injEq, outL, outT, zft, zcp, zed, zef, zei, zeh, List.length_cons, List.length_nil, Nat.reduceAdd, Nat.zero_add, Nat.reduceLeDiff, List.drop_zero, List.take_succ_cons, List.take_zero, zfi, zfh, Ro.dl, zdb, zda, zfe, and_self, and_true, true_and, eq_self, List.append_nil, List.nil_append, List.cons_append, ne_eq, not_false_eq_true, and_false, false_and, Bool.false_eq_true, St.ev, zes, zfn, zhk]
     exact bool_false ht fun hc => by have := (hc.2.2 i hi).1; omega
   have hl : (mat T i).length = T.length := by omega
   refine WK_for (fun j st => st.sl 0 = a ∧ st.sl 3 = i64 (T.length : Int) ∧ st.sl 4 = i64 (i : Int) ∧ st.sl 5 = i64 (j : Int) ∧ ∀ y, y < j → (row (mat T i) y).length = T.length ∧ ∀ k, k < T.length → 0 ≤ at3 T i y k ∧ at3 T i y k ≤ 1000) T.length ?_ ?_ ?_
   · simp only [↓zcy, ↓zcz, ↓zda, ↓zdb, ↓reduceIte, Nat.reduceEqDiff, and_true, true_and, and_self, ne_eq, not_false_eq_true, eq_self, false_and, and_false, reduceCtorEq, s0, s3, s4]
     exact ⟨rfl, fun j hj => absurd hj (Nat.not_lt_zero _)⟩
   · rintro j sl ro gn hj ⟨s0, s3, s4, s5, hq⟩
     dsimp only at s0 s3 s4 s5
     have hj' : (j : Int) < T.length := by omega
     have hr := isLL_row hm (k := j) (by omega)
     simp (maxSteps := 10000000) (disch := first | assumption | omega) only [go_sem, ↓reduceIte, Nat.reduceEqDiff, reduceCtorEq, Nat.reduceAdd, Nat.reduceMul, Nat.reduceLeDiff, zfu, Int.mul_def, Int.add_def, zfv, cond_false, cond_true, isub, Int.reduceToNat, s0, s3, s4, s5, hj']
     refine ⟨fun h => ?_, fun h => ?_⟩; rotate_left
     · simp only [zbj, zbk, retR, resL, outT, zes, zez, oneV, ↓zcy, ↓zcz, ↓reduceIte, Nat.reduceEqDiff, Option.some.injEq, AV.sc.injEq, Value.bool.injEq, Value.int.injEq, outL, outT, zft, zcp, zed, zef, zei, zeh, List.length_cons, List.length_nil, Nat.reduceAdd, Nat.zero_add, Nat.reduceLeDiff, List.drop_zero, List.take_succ_cons, List.take_zero, zfi, zfh, Ro.dl, zdb, zda, zfe, and_self, and_true, true_and, eq_self, List.append_nil, List.nil_append, List.cons_append, ne_eq, not_false_eq_true, and_false, false_and, Bool.false_eq_true, St.ev, zes, zfn, zhk]
       exact bool_false ht fun hc => by have := ((hc.2.2 i hi).2 j hj).1; omega
     have hl2 : (row (mat T i) j).length = T.length := by omega
     refine WK_for (fun k st => st.sl 0 = a ∧ st.sl 3 = i64 (T.length : Int) ∧ st.sl 4 = i64 (i : Int) ∧ st.sl 5 = i64 (j : Int) ∧ st.sl 6 = i64 (k : Int) ∧ ∀ z, z < k → 0 ≤ at3 T i j z ∧ at3 T i j z ≤ 1000) T.length ?_ ?_ ?_
     · simp only [↓zcy, ↓zcz, ↓zda, ↓zdb, ↓reduceIte, Nat.reduceEqDiff, and_true, true_and, and_self, ne_eq, not_false_eq_true, eq_self, false_and, and_false, reduceCtorEq, s0, s3, s4, s5]
       exact ⟨rfl, fun j hj => absurd hj (Nat.not_lt_zero _)⟩
     · rintro k sl ro gn hk ⟨s0, s3, s4, s5, s6, hz⟩
       dsimp only at s0 s3 s4 s5 s6
       have hk' : (k : Int) < T.length := by omega
       simp (maxSteps := 10000000) (disch := first | assumption | omega) only [go_sem, ↓reduceIte, Nat.reduceEqDiff, reduceCtorEq, Nat.reduceAdd, Nat.reduceMul, Nat.reduceLeDiff, zfu, Int.mul_def, Int.add_def, zfv, cond_false, cond_true, isub, Int.reduceToNat, s0, s3, s4, s5, s6, hk']
       refine CLL_pure _ c38 rfl rfl rfl ?_
       simp (maxSteps := 10000000) (disch := first | assumption | omega) only [go_sem, ↓reduceIte, Nat.reduceEqDiff, reduceCtorEq, Nat.reduceAdd, Nat.reduceMul, Nat.reduceLeDiff, zfu, Int.mul_def, Int.add_def, zfv, cond_false, cond_true, isub, Int.reduceToNat, s0, s3, s4, s5, s6]
       refine ⟨fun h => ?_, fun h => ?_⟩; rotate_left
       · simp only [zbj, zbk, retR, resL, outT, zes, zez, oneV, ↓zcy, ↓zcz, ↓reduceIte, Nat.reduceEqDiff, Option.some.injEq, AV.sc.injEq, Value.bool.injEq, Value.int.injEq, outL, outT, zft, zcp, zed, zef, zei, zeh, List.length_cons, List.length_nil, Nat.reduceAdd, Nat.zero_add, Nat.reduceLeDiff, List.drop_zero, List.take_succ_cons, List.take_zero, zfi, zfh, Ro.dl, zdb, zda, zfe, and_self, and_true, true_and, eq_self, List.append_nil, List.nil_append, List.cons_append, ne_eq, not_false_eq_true, and_false, false_and, Bool.false_eq_true, St.ev, zes, zfn, zhk]
         exact bool_false ht fun hc => h (((hc.2.2 i hi).2 j hj).2 k hk)
       · refine ⟨i64c (by omega), fun z hz' => ?_⟩
         rcases Nat.lt_or_ge z k with h' | h'
         · exact hz z h'
         · have : z = k := by omega
           subst this; exact h
     · rintro sl ro gn ⟨s0, s3, s4, s5, s6, hz⟩
       dsimp only at s0 s3 s4 s5 s6
       have hk' : ¬ (T.length : Int) < T.length := by omega
       simp (maxSteps := 10000000) (disch := first | assumption | omega) only [go_sem, ↓reduceIte, Nat.reduceEqDiff, reduceCtorEq, Nat.reduceAdd, Nat.reduceMul, Nat.reduceLeDiff, zfu, Int.mul_def, Int.add_def, zfv, cond_false, cond_true, isub, Int.reduceToNat, s0, s3, s4, s5, s6, hk']
       refine ⟨i64c (by omega), fun y hy => ?_⟩
       rcases Nat.lt_or_ge y j with h' | h'
       · exact hq y h'
       · have : y = j := by omega
         subst this; exact ⟨hl2, hz⟩
   · rintro sl ro gn ⟨s0, s3, s4, s5, hq⟩
     dsimp only at s0 s3 s4 s5
     have hj' : ¬ (T.length : Int) < T.length := by omega
     simp (maxSteps := 10000000) (disch := first | assumption | omega) only [go_sem, ↓reduceIte, Nat.reduceEqDiff, reduceCtorEq, Nat.reduceAdd, Nat.reduceMul, Nat.reduceLeDiff, zfu, Int.mul_def, Int.add_def, zfv, cond_false, cond_true, isub, Int.reduceToNat, s0, s3, s4, s5, hj']
     refine ⟨i64c (by omega), fun y hy => ?_⟩
     rcases Nat.lt_or_ge y i with h' | h'
     · exact hp y h'
     · have : y = i := by omega
       subst this; exact ⟨hl, hq⟩
 · rintro sl ro gn ⟨s0, s3, s4, hp⟩
   dsimp only at s0 s3 s4
   have hi' : ¬ (T.length : Int) < T.length := by omega
   simp (maxSteps := 10000000) (disch := first | assumption | omega) only [go_sem, ↓reduceIte, Nat.reduceEqDiff, reduceCtorEq, Nat.reduceAdd, Nat.reduceMul, Nat.reduceLeDiff, zfu, Int.mul_def, Int.add_def, zfv, cond_false, cond_true, isub, Int.reduceToNat, s0, s3, s4, hi']
   simp only [zbj, zbk, retR, resL, outT, zes, zez, oneV, ↓zcy, ↓zcz, ↓reduceIte, Nat.reduceEqDiff, Option.some.injEq, AV.sc.injEq, Value.bool.injEq, Value.int.injEq, outL, outT, zft, zcp, zed, zef, zei, zeh, List.length_cons, List.length_nil, Nat.reduceAdd, Nat.zero_add, Nat.reduceLeDiff, List.drop_zero, List.take_succ_cons, List.take_zero, zfi, zfh, Ro.dl, zdb, zda, zfe, and_self, and_true, true_and, eq_self, List.append_nil, List.nil_append, List.cons_append, ne_eq, not_false_eq_true, and_false, false_and, Bool.false_eq_true, St.ev, zes, zfn, zhk]
   exact (ht.2 ⟨by omega, by omega, hp⟩).symm
set_option maxRecDepth 1000000
noncomputable def dlT (T : List (List (List Int))) (i : Nat) : Int := du (fun j => at3 T i j 0) T.length
theorem dlT_nat {T : List (List (List Int))} {i : Nat} (h : ¬ dlT T i < 0) : ∃ m : Nat, dlT T i = m ∧ m < T.length := by
 rcases du_cases (fun j => at3 T i j 0) T.length with ⟨j, h1, h2⟩ | ⟨_, h2⟩
 · exact ⟨j, h2, h1.1⟩
 · exact absurd (by unfold dlT; omega) h
theorem dlT_rng (T : List (List (List Int))) (i : Nat) : -1 ≤ dlT T i ∧ dlT T i ≤ T.length := by
 rcases du_cases (fun j => at3 T i j 0) T.length with ⟨j, h1, h2⟩ | ⟨_, h2⟩
 · have := h1.1; unfold dlT; omega
 · unfold dlT; omega
theorem c150 {a : AV} {T : List (List (List Int))} (ha : isLLL a T) (hc : CubeP T) {i : Nat} (hi : i < T.length) : CallOK Tryz.prog 107 [a, i64 i] (i64 (dlT T i)) := by
 obtain ⟨h1, h2, h3⟩ := hc
 obtain ⟨hl, hr⟩ := h3 i hi
 have hm := isLLL_mat ha hi
 refine call_of (fn := Tryz.f107) (code := bodyOf Tryz.f107) Tryz.func107 rfl (by kernel_rfl) (rfl) ?_
 intro sl hs
 have s0 : sl 0 = a := hs 0
 have s1 : sl 1 = i64 i := hs 1
 dsimp only [Tryz.f107, bodyOf, Option.getD]
 simp (maxSteps := 10000000) (disch := first | assumption | omega) only [go_sem, ↓reduceIte, Nat.reduceEqDiff, reduceCtorEq, Nat.reduceAdd, Nat.reduceMul, Nat.reduceLeDiff, zfu, Int.mul_def, Int.add_def, zfv, cond_false, cond_true, isub, Int.reduceToNat, s0, s1]
 refine WK_for (fun j st => st.sl 0 = a ∧ st.sl 1 = i64 i ∧ st.sl 6 = i64 (j : Int) ∧ ((st.sl 5 = i64 (-1) ∧ ∀ k, k < j → at3 T i k 0 = 0) ∨ ∃ x : Nat, st.sl 5 = i64 x ∧ x < j ∧ at3 T i x 0 = 1 ∧ ∀ k, k < j → k ≠ x → at3 T i k 0 = 0)) T.length ?_ ?_ ?_
 · simp only [↓zcy, ↓zcz, ↓zda, ↓zdb, ↓reduceIte, Nat.reduceEqDiff, and_true, true_and, and_self, ne_eq, not_false_eq_true, eq_self, false_and, and_false, reduceCtorEq, rws_zero, s0, s1]
   exact ⟨rfl, .inl fun j hj => absurd hj (Nat.not_lt_zero _)⟩
 · rintro j sl ro gn hj ⟨s0, s1, s6, q⟩
   dsimp only at s0 s1 s6
   have hj' : (j : Int) < (T.length : Nat) := by omega
   dsimp only at q
   have hl2 := (hr j hj).1
   have hrow := isLL_row hm (k := j) (by omega)
   have hpos : 0 < (row (mat T i) j).length := by omega
   rcases q with ⟨s5, hq⟩ | ⟨x, s5, hx, hx1, hq⟩
   · by_cases hf : atI (row (mat T i) j) 0 = 1
     · skip
       simp (maxSteps := 10000000) (disch := first | assumption | omega) only [go_sem, ↓reduceIte, Nat.reduceEqDiff, reduceCtorEq, Nat.reduceAdd, Nat.reduceMul, Nat.reduceLeDiff, zfu, Int.mul_def, Int.add_def, zfv, cond_false, cond_true, isub, Int.reduceToNat, s0, s1, s6, hj', hj, hf, s5]
       exact ⟨i64c (by omega), .inr ⟨j, rfl, by omega, hf, fun k hk hne => hq k (by omega)⟩⟩
     · skip
       simp (maxSteps := 10000000) (disch := first | assumption | omega) only [go_sem, ↓reduceIte, Nat.reduceEqDiff, reduceCtorEq, Nat.reduceAdd, Nat.reduceMul, Nat.reduceLeDiff, zfu, Int.mul_def, Int.add_def, zfv, cond_false, cond_true, isub, Int.reduceToNat, s0, s1, s6, hj', hj, hf, s5]
       refine ⟨fun h0 => ?_, fun h0 => ?_⟩; rotate_left
       · skip
         simp only [zbj, zbk, retR, resL, outT, zes, zez, oneV, ↓zcy, ↓zcz, ↓reduceIte, Nat.reduceEqDiff, Option.some.injEq, AV.sc.injEq, Value.bool.injEq, Value.int.injEq, outL, outT, zft, zcp, zed, zef, zei, zeh, List.length_cons, List.length_nil, Nat.reduceAdd, Nat.zero_add, Nat.reduceLeDiff, List.drop_zero, List.take_succ_cons, List.take_zero, zfi, zfh, Ro.dl, zdb, zda, zfe, and_self, and_true, true_and, eq_self, List.append_nil, List.nil_append, List.cons_append, ne_eq, not_false_eq_true, and_false, false_and, Bool.false_eq_true, St.ev, zes, zfn, zhk, List.length_map]
         refine (du_no ?_).symm
         rintro ⟨y, hy1, hy2, hy3⟩
         by_cases e : j = y
         · subst e; exact hf hy2
         · exact h0 (hy3 j hj e)
       · refine ⟨i64c (by omega), .inl fun k hk => ?_⟩
         rcases Nat.lt_or_ge k j with h | h
         · exact hq k h
         · have : k = j := by omega
           subst this; exact h0
   · have hx0 : ¬ (x : Int) < 0 := by omega
     by_cases hf : atI (row (mat T i) j) 0 = 0
     · have hf1 : ¬ atI (row (mat T i) j) 0 = 1 := by omega
       simp (maxSteps := 10000000) (disch := first | assumption | omega) only [go_sem, ↓reduceIte, Nat.reduceEqDiff, reduceCtorEq, Nat.reduceAdd, Nat.reduceMul, Nat.reduceLeDiff, zfu, Int.mul_def, Int.add_def, zfv, cond_false, cond_true, isub, Int.reduceToNat, s0, s1, s6, hj', hj, hf, s5, hx0]
       refine ⟨i64c (by omega), .inr ⟨x, rfl, by omega, hx1, fun k hk hne => ?_⟩⟩
       rcases Nat.lt_or_ge k j with h | h
       · exact hq k h hne
       · have : k = j := by omega
         subst this; exact hf
     · have e : dlT T i = -1 := by
         refine du_no ?_
         rintro ⟨y, hy1, hy2, hy3⟩
         by_cases e : j = y
         · subst e
           have h9 : at3 T i x 0 = 0 := hy3 x (by omega) (by omega)
           omega
         · exact hf (hy3 j hj e)
       by_cases hf1 : atI (row (mat T i) j) 0 = 1
       · skip
         simp (maxSteps := 10000000) (disch := first | assumption | omega) only [go_sem, ↓reduceIte, Nat.reduceEqDiff, reduceCtorEq, Nat.reduceAdd, Nat.reduceMul, Nat.reduceLeDiff, zfu, Int.mul_def, Int.add_def, zfv, cond_false, cond_true, isub, Int.reduceToNat, s0, s1, s6, hj', hj, hf1, s5, hx0]
         simp only [zbj, zbk, retR, resL, outT, zes, zez, oneV, ↓zcy, ↓zcz, ↓reduceIte, Nat.reduceEqDiff, Option.some.injEq, AV.sc.injEq, Value.bool.injEq, Value.int.injEq, outL, outT, zft, zcp, zed, zef, zei, zeh, List.length_cons, List.length_nil, Nat.reduceAdd, Nat.zero_add, Nat.reduceLeDiff, List.drop_zero, List.take_succ_cons, List.take_zero, zfi, zfh, Ro.dl, zdb, zda, zfe, and_self, and_true, true_and, eq_self, List.append_nil, List.nil_append, List.cons_append, ne_eq, not_false_eq_true, and_false, false_and, Bool.false_eq_true, St.ev, zes, zfn, zhk, List.length_map, e]
       · skip
         simp (maxSteps := 10000000) (disch := first | assumption | omega) only [go_sem, ↓reduceIte, Nat.reduceEqDiff, reduceCtorEq, Nat.reduceAdd, Nat.reduceMul, Nat.reduceLeDiff, zfu, Int.mul_def, Int.add_def, zfv, cond_false, cond_true, isub, Int.reduceToNat, s0, s1, s6, hj', hj, hf, hf1, s5, hx0]
         simp only [zbj, zbk, retR, resL, outT, zes, zez, oneV, ↓zcy, ↓zcz, ↓reduceIte, Nat.reduceEqDiff, Option.some.injEq, AV.sc.injEq, Value.bool.injEq, Value.int.injEq, outL, outT, zft, zcp, zed, zef, zei, zeh, List.length_cons, List.length_nil, Nat.reduceAdd, Nat.zero_add, Nat.reduceLeDiff, List.drop_zero, List.take_succ_cons, List.take_zero, zfi, zfh, Ro.dl, zdb, zda, zfe, and_self, and_true, true_and, eq_self, List.append_nil, List.nil_append, List.cons_append, ne_eq, not_false_eq_true, and_false, false_and, Bool.false_eq_true, St.ev, zes, zfn, zhk, List.length_map, e]
 · rintro sl ro gn ⟨s0, s1, s6, q⟩
   dsimp only at s0 s1 s6
   have hj' : ¬ ((T.length : Nat) : Int) < (T.length : Nat) := by omega
   dsimp only at q
   rcases q with ⟨s5, hq⟩ | ⟨x, s5, hx, hx1, hq⟩
   · skip
     simp (maxSteps := 10000000) (disch := first | assumption | omega) only [go_sem, ↓reduceIte, Nat.reduceEqDiff, reduceCtorEq, Nat.reduceAdd, Nat.reduceMul, Nat.reduceLeDiff, zfu, Int.mul_def, Int.add_def, zfv, cond_false, cond_true, isub, Int.reduceToNat, s0, s1, s6, hj', s5]
     simp only [zbj, zbk, retR, resL, outT, zes, zez, oneV, ↓zcy, ↓zcz, ↓reduceIte, Nat.reduceEqDiff, Option.some.injEq, AV.sc.injEq, Value.bool.injEq, Value.int.injEq, outL, outT, zft, zcp, zed, zef, zei, zeh, List.length_cons, List.length_nil, Nat.reduceAdd, Nat.zero_add, Nat.reduceLeDiff, List.drop_zero, List.take_succ_cons, List.take_zero, zfi, zfh, Ro.dl, zdb, zda, zfe, and_self, and_true, true_and, eq_self, List.append_nil, List.nil_append, List.cons_append, ne_eq, not_false_eq_true, and_false, false_and, Bool.false_eq_true, St.ev, zes, zfn, zhk, List.length_map]
     refine (du_no ?_).symm
     rintro ⟨y, hy1, hy2, hy3⟩
     have h9 : at3 T i y 0 = 1 := hy2
     have := hq y hy1
     omega
   · skip
     simp (maxSteps := 10000000) (disch := first | assumption | omega) only [go_sem, ↓reduceIte, Nat.reduceEqDiff, reduceCtorEq, Nat.reduceAdd, Nat.reduceMul, Nat.reduceLeDiff, zfu, Int.mul_def, Int.add_def, zfv, cond_false, cond_true, isub, Int.reduceToNat, s0, s1, s6, hj', s5]
     simp only [zbj, zbk, retR, resL, outT, zes, zez, oneV, ↓zcy, ↓zcz, ↓reduceIte, Nat.reduceEqDiff, Option.some.injEq, AV.sc.injEq, Value.bool.injEq, Value.int.injEq, outL, outT, zft, zcp, zed, zef, zei, zeh, List.length_cons, List.length_nil, Nat.reduceAdd, Nat.zero_add, Nat.reduceLeDiff, List.drop_zero, List.take_succ_cons, List.take_zero, zfi, zfh, Ro.dl, zdb, zda, zfe, and_self, and_true, true_and, eq_self, List.append_nil, List.nil_append, List.cons_append, ne_eq, not_false_eq_true, and_false, false_and, Bool.false_eq_true, St.ev, zes, zfn, zhk, List.length_map]
     exact (du_is (f := fun j => at3 T i j 0) ⟨hx, hx1, hq⟩).symm
section
variable (T : List (List (List Int)))
def dlt (i k : Nat) : Int := if i = k then 1 else 0
def p1 (i k : Nat) : Option (List Int) := if at3 T 0 i k = dlt i k ∧ at3 T i 0 k = dlt i k then none else some [0, i, k]
noncomputable def p2 (i : Nat) : Option (List Int) := if dlT T i < 0 ∨ dlT T (dlT T i).toNat ≠ i then some [1, i] else none
noncomputable def p3 (i j k : Nat) : Option (List Int) := if at3 T i j k = at3 T (dlT T i).toNat k j ∧ at3 T i j k = at3 T k (dlT T j).toNat i then none else some [2, i, j, k]
def lft (i j k l : Nat) (m : Nat) : Int := at3 T i j m * at3 T m k l
def rgt (i j k l : Nat) (m : Nat) : Int := at3 T j k m * at3 T i m l
def p4 (i j k l : Nat) : Option (List Int) := if sm (lft T i j k l) T.length = sm (rgt T i j k l) T.length then none else some [3, i, j, k, l]
def F1 : Option (List Int) := fnd T.length fun i => fnd T.length fun k => p1 T i k
noncomputable def F2 : Option (List Int) := fnd T.length fun i => p2 T i
noncomputable def F3 : Option (List Int) := fnd T.length fun i => fnd T.length fun j => fnd T.length fun k => p3 T i j k
def F4 : Option (List Int) := fnd T.length fun i => fnd T.length fun j => fnd T.length fun k => fnd T.length fun l => p4 T i j k l
noncomputable def RF : Option (List Int) := match F1 T with
 | some v => some v
 | none => match F2 T with
   | some v => some v
   | none => match F3 T with
     | some v => some v
     | none => F4 T
end
theorem RF1 {T : List (List (List Int))} {v : List Int} (h : F1 T = some v) : RF T = some v := by unfold RF; rw [h]
theorem RF2 {T : List (List (List Int))} {v : List Int} (h1 : F1 T = none) (h : F2 T = some v) : RF T = some v := by unfold RF; rw [h1, h]
theorem RF3 {T : List (List (List Int))} {v : List Int} (h1 : F1 T = none) (h2 : F2 T = none) (h : F3 T = some v) : RF T = some v := by unfold RF; rw [h1, h2, h]
theorem RF4 {T : List (List (List Int))} (h1 : F1 T = none) (h2 : F2 T = none) (h3 : F3 T = none) : RF T = F4 T := by unfold RF; rw [h1, h2, h3]
theorem ltS {p : Nat → Prop} {k : Nat} (h : ∀ j, j < k → p j) (hk : p k) : ∀ j, j < k + 1 → p j := fun j hj => by
 rcases Nat.lt_or_ge j k with h' | h'
 · exact h j h'
 · have : j = k := by omega
   subst this; exact hk
theorem lt0 {p : Nat → Prop} : ∀ j, j < 0 → p j := fun _ h => absurd h (Nat.not_lt_zero _)
theorem at3_bnd {T : List (List (List Int))} (hc : CubeP T) (i j k : Nat) : 0 ≤ at3 T i j k ∧ at3 T i j k ≤ 1000 := by
 obtain ⟨h1, h2, h3⟩ := hc
 rcases Nat.lt_or_ge i T.length with hi | hi
 · obtain ⟨h4, h5⟩ := h3 i hi
   rcases Nat.lt_or_ge j T.length with hj | hj
   · obtain ⟨h6, h7⟩ := h5 j hj
     rcases Nat.lt_or_ge k T.length with hk | hk
     · exact h7 k hk
     · unfold at3; rw [atI_out (by omega)]; decide
   · unfold at3; rw [row_out (by omega), atI_out (by simp)]; decide
 · have : mat T i = [] := by unfold mat; simp [List.getD_eq_getElem?_getD, List.getElem?_eq_none hi]
   unfold at3; rw [this, row_out (by simp), atI_out (by simp)]; decide
theorem lft_bnd {T : List (List (List Int))} (hc : CubeP T) (i j k l m : Nat) : 0 ≤ lft T i j k l m ∧ lft T i j k l m ≤ 1000000 := by
 have h1 := at3_bnd hc i j m
 have h2 := at3_bnd hc m k l
 have := bnd2 h1.1 h1.2 h2.1 h2.2
 exact ⟨this.1, by simpa [lft, rgt] using this.2⟩
theorem rgt_bnd {T : List (List (List Int))} (hc : CubeP T) (i j k l m : Nat) : 0 ≤ rgt T i j k l m ∧ rgt T i j k l m ≤ 1000000 := by
 have h1 := at3_bnd hc j k m
 have h2 := at3_bnd hc i m l
 have := bnd2 h1.1 h1.2 h2.1 h2.2
 exact ⟨this.1, by simpa [lft, rgt] using this.2⟩
set_option maxHeartbeats 4000000 in
theorem c131 {a : AV} {T : List (List (List Int))} (ha : isLLL a T) (hc : CubeP T) : CallOK Tryz.prog 63 [a] (optA (RF T)) := by
 have hc0 := hc
 obtain ⟨h1, h2, h3⟩ := hc
 refine call_of (fn := Tryz.f63) (code := bodyOf Tryz.f63) Tryz.func63 rfl (by kernel_rfl) (noRef_optA _) ?_
 intro sl hs
 have s0 : sl 0 = a := hs 0
 dsimp only [Tryz.f63, bodyOf, Option.getD]
 simp (maxSteps := 10000000) (disch := first | assumption | omega) only [go_sem, ↓reduceIte, Nat.reduceEqDiff, reduceCtorEq, Nat.reduceAdd, Nat.reduceMul, Nat.reduceLeDiff, zfu, Int.mul_def, Int.add_def, zfv, cond_false, cond_true, isub, Int.reduceToNat, s0]
 have hT0 : 0 < T.length := by omega
 have hm0 := isLLL_mat ha hT0
 refine WK_for (fun i st => st.sl 0 = a ∧ st.sl 2 = nilA ∧ st.sl 3 = i64 (T.length : Int) ∧ st.sl 4 = i64 (i : Int) ∧ (∀ x, x < i → (fnd T.length fun k => p1 T x k) = none)) T.length ?_ ?_ ?_
 · simp only [↓zcy, ↓zcz, ↓zda, ↓zdb, ↓reduceIte, Nat.reduceEqDiff, and_true, true_and, and_self, ne_eq, not_false_eq_true, eq_self, false_and, and_false, reduceCtorEq, rws_zero, s0]
   exact ⟨rfl, lt0⟩
 · rintro i sl ro gn hi ⟨s0, s2, s3, s4, q⟩
   dsimp only at s0 s2 s3 s4
   have hi' : (i : Int) < (T.length : Nat) := by omega
   simp (maxSteps := 10000000) (disch := first | assumption | omega) only [go_sem, ↓reduceIte, Nat.reduceEqDiff, reduceCtorEq, Nat.reduceAdd, Nat.reduceMul, Nat.reduceLeDiff, zfu, Int.mul_def, Int.add_def, zfv, cond_false, cond_true, isub, Int.reduceToNat, s0, s2, s3, s4, hi', hi]
   obtain ⟨hli, hri⟩ := h3 i hi
   have hmi := isLLL_mat ha hi
   refine WK_for (fun k st => st.sl 0 = a ∧ st.sl 2 = nilA ∧ st.sl 3 = i64 (T.length : Int) ∧ st.sl 4 = i64 (i : Int) ∧ st.sl 5 = i64 (k : Int) ∧ (∀ x, x < k → p1 T i x = none)) T.length ?_ ?_ ?_
   · simp only [↓zcy, ↓zcz, ↓zda, ↓zdb, ↓reduceIte, Nat.reduceEqDiff, and_true, true_and, and_self, ne_eq, not_false_eq_true, eq_self, false_and, and_false, reduceCtorEq, rws_zero, s0, s2, s3, s4, hi', hi]
     exact ⟨rfl, lt0⟩
   · rintro k sl ro gn hk ⟨s0, s2, s3, s4, s5, qq⟩
     dsimp only at s0 s2 s3 s4 s5
     have hk' : (k : Int) < (T.length : Nat) := by omega
     have hr0 := isLL_row hm0 (k := i) (by rw [(h3 0 hT0).1]; exact hi)
     have hr1 := isLL_row hmi (k := 0) (by omega)
     have hl0 : (row (mat T 0) i).length = T.length := ((h3 0 hT0).2 i hi).1
     have hl1 : (row (mat T i) 0).length = T.length := (hri 0 hT0).1
     have hlm : (mat T 0).length = T.length := (h3 0 hT0).1
     have hd : ∀ x, x = dlt i k → (at3 T 0 i k = x ∧ at3 T i 0 k = x → p1 T i k = none) ∧ (¬ (at3 T 0 i k = x ∧ at3 T i 0 k = x) → RF T = some [0, (i : Int), (k : Int)]) := by
       rintro x rfl
       refine ⟨fun h => if_pos h, fun h => RF1 (fnd_some (k := i) (fnd_some (k := k) (if_neg h) qq hk) q hi)⟩
     by_cases hik : i = k
     · have hik' : (i : Int) = k := by omega
       obtain ⟨hd1, hd2⟩ := hd 1 (if_pos hik).symm
       by_cases ha1 : atI (row (mat T 0) i) k = 1
       · by_cases hb1 : atI (row (mat T i) 0) k = 1
         · skip
           simp (maxSteps := 10000000) (disch := first | assumption | omega) only [go_sem, ↓reduceIte, Nat.reduceEqDiff, reduceCtorEq, Nat.reduceAdd, Nat.reduceMul, Nat.reduceLeDiff, zfu, Int.mul_def, Int.add_def, zfv, cond_false, cond_true, isub, Int.reduceToNat, s0, s2, s3, s4, s5, hk', hk, ha1, hb1]
           exact ⟨i64c (by omega), ltS qq (hd1 ⟨ha1, hb1⟩)⟩
         · skip
           simp (maxSteps := 10000000) (disch := first | assumption | omega) only [go_sem, ↓reduceIte, Nat.reduceEqDiff, reduceCtorEq, Nat.reduceAdd, Nat.reduceMul, Nat.reduceLeDiff, zfu, Int.mul_def, Int.add_def, zfv, cond_false, cond_true, isub, Int.reduceToNat, s0, s2, s3, s4, s5, hk', hk, ha1, hb1]
           simp only [zbj, zbk, retR, resL, outT, zes, zez, oneV, ↓zcy, ↓zcz, ↓reduceIte, Nat.reduceEqDiff, Option.some.injEq, AV.sc.injEq, Value.bool.injEq, Value.int.injEq, outL, outT, zft, zcp, zed, zef, zei, zeh, List.length_cons, List.length_nil, Nat.reduceAdd, Nat.zero_add, Nat.reduceLeDiff, List.drop_zero, List.take_succ_cons, List.take_zero, zfi, zfh, Ro.dl, zdb, zda, zfe, and_self, and_true, true_and, eq_self, List.append_nil, List.nil_append, List.cons_append, ne_eq, not_false_eq_true, and_false, false_and, Bool.false_eq_true, St.ev, zes, zfn, zhk, List.length_map, hd2 (fun h => hb1 h.2)]
           rfl
       · skip
         simp (maxSteps := 10000000) (disch := first | assumption | omega) only [go_sem, ↓reduceIte, Nat.reduceEqDiff, reduceCtorEq, Nat.reduceAdd, Nat.reduceMul, Nat.reduceLeDiff, zfu, Int.mul_def, Int.add_def, zfv, cond_false, cond_true, isub, Int.reduceToNat, s0, s2, s3, s4, s5, hk', hk, ha1]
         simp only [zbj, zbk, retR, resL, outT, zes, zez, oneV, ↓zcy, ↓zcz, ↓reduceIte, Nat.reduceEqDiff, Option.some.injEq, AV.sc.injEq, Value.bool.injEq, Value.int.injEq, outL, outT, zft, zcp, zed, zef, zei, zeh, List.length_cons, List.length_nil, Nat.reduceAdd, Nat.zero_add, Nat.reduceLeDiff, List.drop_zero, List.take_succ_cons, List.take_zero, zfi, zfh, Ro.dl, zdb, zda, zfe, and_self, and_true, true_and, eq_self, List.append_nil, List.nil_append, List.cons_append, ne_eq, not_false_eq_true, and_false, false_and, Bool.false_eq_true, St.ev, zes, zfn, zhk, List.length_map, hd2 (fun h => ha1 h.1)]
         rfl
     · have hik' : ¬ (i : Int) = k := by omega
       obtain ⟨hd1, hd2⟩ := hd 0 (if_neg hik).symm
       by_cases ha1 : atI (row (mat T 0) i) k = 0
       · by_cases hb1 : atI (row (mat T i) 0) k = 0
         · skip
           simp (maxSteps := 10000000) (disch := first | assumption | omega) only [go_sem, ↓reduceIte, Nat.reduceEqDiff, reduceCtorEq, Nat.reduceAdd, Nat.reduceMul, Nat.reduceLeDiff, zfu, Int.mul_def, Int.add_def, zfv, cond_false, cond_true, isub, Int.reduceToNat, s0, s2, s3, s4, s5, hk', hk, ha1, hb1]
           exact ⟨i64c (by omega), ltS qq (hd1 ⟨ha1, hb1⟩)⟩
         · skip
           simp (maxSteps := 10000000) (disch := first | assumption | omega) only [go_sem, ↓reduceIte, Nat.reduceEqDiff, reduceCtorEq, Nat.reduceAdd, Nat.reduceMul, Nat.reduceLeDiff, zfu, Int.mul_def, Int.add_def, zfv, cond_false, cond_true, isub, Int.reduceToNat, s0, s2, s3, s4, s5, hk', hk, ha1, hb1]
           simp only [zbj, zbk, retR, resL, outT, zes, zez, oneV, ↓zcy, ↓zcz, ↓reduceIte, Nat.reduceEqDiff, Option.some.injEq, AV.sc.injEq, Value.bool.injEq, Value.int.injEq, outL, outT, zft, zcp, zed, zef, zei, zeh, List.length_cons, List.length_nil, Nat.reduceAdd, Nat.zero_add, Nat.reduceLeDiff, List.drop_zero, List.take_succ_cons, List.take_zero, zfi, zfh, Ro.dl, zdb, zda, zfe, and_self, and_true, true_and, eq_self, List.append_nil, List.nil_append, List.cons_append, ne_eq, not_false_eq_true, and_false, false_and, Bool.false_eq_true, St.ev, zes, zfn, zhk, List.length_map, hd2 (fun h => hb1 h.2)]
           rfl
       · skip
         simp (maxSteps := 10000000) (disch := first | assumption | omega) only [go_sem, ↓reduceIte, Nat.reduceEqDiff, reduceCtorEq, Nat.reduceAdd, Nat.reduceMul, Nat.reduceLeDiff, zfu, Int.mul_def, Int.add_def, zfv, cond_false, cond_true, isub, Int.reduceToNat, s0, s2, s3, s4, s5, hk', hk, ha1]
         simp only [zbj, zbk, retR, resL, outT, zes, zez, oneV, ↓zcy, ↓zcz, ↓reduceIte, Nat.reduceEqDiff, Option.some.injEq, AV.sc.injEq, Value.bool.injEq, Value.int.injEq, outL, outT, zft, zcp, zed, zef, zei, zeh, List.length_cons, List.length_nil, Nat.reduceAdd, Nat.zero_add, Nat.reduceLeDiff, List.drop_zero, List.take_succ_cons, List.take_zero, zfi, zfh, Ro.dl, zdb, zda, zfe, and_self, and_true, true_and, eq_self, List.append_nil, List.nil_append, List.cons_append, ne_eq, not_false_eq_true, and_false, false_and, Bool.false_eq_true, St.ev, zes, zfn, zhk, List.length_map, hd2 (fun h => ha1 h.1)]
         rfl
   · rintro sl ro gn ⟨s0, s2, s3, s4, s5, qq⟩
     dsimp only at s0 s2 s3 s4 s5
     have hk' : ¬ ((T.length : Nat) : Int) < (T.length : Nat) := by omega
     simp (maxSteps := 10000000) (disch := first | assumption | omega) only [go_sem, ↓reduceIte, Nat.reduceEqDiff, reduceCtorEq, Nat.reduceAdd, Nat.reduceMul, Nat.reduceLeDiff, zfu, Int.mul_def, Int.add_def, zfv, cond_false, cond_true, isub, Int.reduceToNat, s0, s2, s3, s4, s5, hk']
     exact ⟨i64c (by omega), ltS q (fnd_none.2 qq)⟩
 · rintro sl ro gn ⟨s0, s2, s3, s4, q⟩
   dsimp only at s0 s2 s3 s4
   have hi' : ¬ ((T.length : Nat) : Int) < (T.length : Nat) := by omega
   have hF1 : F1 T = none := fnd_none.2 q
   clear q
   simp (maxSteps := 10000000) (disch := first | assumption | omega) only [go_sem, ↓reduceIte, Nat.reduceEqDiff, reduceCtorEq, Nat.reduceAdd, Nat.reduceMul, Nat.reduceLeDiff, zfu, Int.mul_def, Int.add_def, zfv, cond_false, cond_true, isub, Int.reduceToNat, s0, s2, s3, s4, hi']
   refine WK_for (fun i st => st.sl 0 = a ∧ st.sl 2 = nilA ∧ st.sl 3 = i64 (T.length : Int) ∧ st.sl 8 = i64 (i : Int) ∧ st.sl 7 = .ref 57344 (st.gn 57344) [] 0 i ∧ st.ro 57344 (st.gn 57344) = some (.row (rws (fun x => i64 (dlT T x)) i))) T.length ?_ ?_ ?_
   · simp only [↓zcy, ↓zcz, ↓zda, ↓zdb, ↓reduceIte, Nat.reduceEqDiff, and_true, true_and, and_self, ne_eq, not_false_eq_true, eq_self, false_and, and_false, reduceCtorEq, rws_zero, s0, s2, s3, s4, hi']
     rfl
   · rintro i sl ro gn hi ⟨s0, s2, s3, s8, s7, r57344⟩
     dsimp only at s0 s2 s3 s8 s7 r57344
     have hi' : (i : Int) < (T.length : Nat) := by omega
     simp (maxSteps := 10000000) (disch := first | assumption | omega) only [go_sem, ↓reduceIte, Nat.reduceEqDiff, reduceCtorEq, Nat.reduceAdd, Nat.reduceMul, Nat.reduceLeDiff, zfu, Int.mul_def, Int.add_def, zfv, cond_false, cond_true, isub, Int.reduceToNat, s0, s2, s3, s8, s7, r57344, hi', hi]
     refine CLL_pure _ (c150 ha hc0 hi) (by simp only [pureL, isLLL_pure ha, pureA, Bool.and_self]) rfl rfl ?_
     simp (maxSteps := 10000000) (disch := first | assumption | omega) only [go_sem, ↓reduceIte, Nat.reduceEqDiff, reduceCtorEq, Nat.reduceAdd, Nat.reduceMul, Nat.reduceLeDiff, zfu, Int.mul_def, Int.add_def, zfv, cond_false, cond_true, isub, Int.reduceToNat, s0, s2, s3, s8, s7, r57344, hi', hi]
     exact i64c (by omega)
   · rintro sl ro gn ⟨s0, s2, s3, s8, s7, r57344⟩
     dsimp only at s0 s2 s3 s8 s7 r57344
     have hi' : ¬ ((T.length : Nat) : Int) < (T.length : Nat) := by omega
     simp (maxSteps := 10000000) (disch := first | assumption | omega) only [go_sem, ↓reduceIte, Nat.reduceEqDiff, reduceCtorEq, Nat.reduceAdd, Nat.reduceMul, Nat.reduceLeDiff, zfu, Int.mul_def, Int.add_def, zfv, cond_false, cond_true, isub, Int.reduceToNat, s0, s2, s3, s8, s7, r57344, hi']
     refine WK_for (fun i st => st.sl 0 = a ∧ st.sl 2 = nilA ∧ st.sl 3 = i64 (T.length : Int) ∧ st.sl 7 = .ref 57344 (st.gn 57344) [] 0 T.length ∧ st.ro 57344 (st.gn 57344) = some (.row (rws (fun x => i64 (dlT T x)) T.length)) ∧ st.sl 9 = i64 (i : Int) ∧ (∀ x, x < i → p2 T x = none)) T.length ?_ ?_ ?_
     · simp only [↓zcy, ↓zcz, ↓zda, ↓zdb, ↓reduceIte, Nat.reduceEqDiff, and_true, true_and, and_self, ne_eq, not_false_eq_true, eq_self, false_and, and_false, reduceCtorEq, rws_zero, s0, s2, s3, s8, s7, r57344, hi']
       exact ⟨rfl, lt0⟩
     · rintro i sl ro gn hi ⟨s0, s2, s3, s7, r57344, s9, q⟩
       dsimp only at s0 s2 s3 s7 r57344 s9
       have hi' : (i : Int) < (T.length : Nat) := by omega
       by_cases hd : dlT T i < 0
       · have e := RF2 hF1 (fnd_some (k := i) (if_pos (.inl hd)) q hi)
         simp (maxSteps := 10000000) (disch := first | assumption | omega) only [go_sem, ↓reduceIte, Nat.reduceEqDiff, reduceCtorEq, Nat.reduceAdd, Nat.reduceMul, Nat.reduceLeDiff, zfu, Int.mul_def, Int.add_def, zfv, cond_false, cond_true, isub, Int.reduceToNat, s0, s2, s3, s7, r57344, s9, hi', hi, hd]
         simp only [zbj, zbk, retR, resL, outT, zes, zez, oneV, ↓zcy, ↓zcz, ↓reduceIte, Nat.reduceEqDiff, Option.some.injEq, AV.sc.injEq, Value.bool.injEq, Value.int.injEq, outL, outT, zft, zcp, zed, zef, zei, zeh, List.length_cons, List.length_nil, Nat.reduceAdd, Nat.zero_add, Nat.reduceLeDiff, List.drop_zero, List.take_succ_cons, List.take_zero, zfi, zfh, Ro.dl, zdb, zda, zfe, and_self, and_true, true_and, eq_self, List.append_nil, List.nil_append, List.cons_append, ne_eq, not_false_eq_true, and_false, false_and, Bool.false_eq_true, St.ev, zes, zfn, zhk, List.length_map, e]
         rfl
       · obtain ⟨m, hm, hmT⟩ := dlT_nat hd
         by_cases hd2 : dlT T m = i
         · have e : p2 T i = none := if_neg (by rw [hm, Int.toNat_natCast]; intro h; rcases h with h | h; omega; exact h hd2)
           simp (maxSteps := 10000000) (disch := first | assumption | omega) only [go_sem, ↓reduceIte, Nat.reduceEqDiff, reduceCtorEq, Nat.reduceAdd, Nat.reduceMul, Nat.reduceLeDiff, zfu, Int.mul_def, Int.add_def, zfv, cond_false, cond_true, isub, Int.reduceToNat, s0, s2, s3, s7, r57344, s9, hi', hi, hm, hd2]
           exact ⟨i64c (by omega), ltS q e⟩
         · have e := RF2 hF1 (fnd_some (k := i) (if_pos (.inr (by rw [hm, Int.toNat_natCast]; exact hd2))) q hi)
           simp (maxSteps := 10000000) (disch := first | assumption | omega) only [go_sem, ↓reduceIte, Nat.reduceEqDiff, reduceCtorEq, Nat.reduceAdd, Nat.reduceMul, Nat.reduceLeDiff, zfu, Int.mul_def, Int.add_def, zfv, cond_false, cond_true, isub, Int.reduceToNat, s0, s2, s3, s7, r57344, s9, hi', hi, hm, hd2]
           simp only [zbj, zbk, retR, resL, outT, zes, zez, oneV, ↓zcy, ↓zcz, ↓reduceIte, Nat.reduceEqDiff, Option.some.injEq, AV.sc.injEq, Value.bool.injEq, Value.int.injEq, outL, outT, zft, zcp, zed, zef, zei, zeh, List.length_cons, List.length_nil, Nat.reduceAdd, Nat.zero_add, Nat.reduceLeDiff, List.drop_zero, List.take_succ_cons, List.take_zero, zfi, zfh, Ro.dl, zdb, zda, zfe, and_self, and_true, true_and, eq_self, List.append_nil, List.nil_append, List.cons_append, ne_eq, not_false_eq_true, and_false, false_and, Bool.false_eq_true, St.ev, zes, zfn, zhk, List.length_map, e]
           rfl
     · rintro sl ro gn ⟨s0, s2, s3, s7, r57344, s9, q⟩
       dsimp only at s0 s2 s3 s7 r57344 s9
       have hi' : ¬ ((T.length : Nat) : Int) < (T.length : Nat) := by omega
       have hF2 : F2 T = none := fnd_none.2 q
       have hdl : ∀ i, i < T.length → ∃ m : Nat, dlT T i = m ∧ m < T.length := fun i hi => by
         refine dlT_nat fun h => ?_
         have := q i hi
         unfold p2 at this
         rw [if_pos (.inl h)] at this
         cases this
       clear q
       simp (maxSteps := 10000000) (disch := first | assumption | omega) only [go_sem, ↓reduceIte, Nat.reduceEqDiff, reduceCtorEq, Nat.reduceAdd, Nat.reduceMul, Nat.reduceLeDiff, zfu, Int.mul_def, Int.add_def, zfv, cond_false, cond_true, isub, Int.reduceToNat, s0, s2, s3, s7, r57344, s9, hi']
       refine WK_for (fun i st => st.sl 0 = a ∧ st.sl 2 = nilA ∧ st.sl 3 = i64 (T.length : Int) ∧ st.sl 7 = .ref 57344 (st.gn 57344) [] 0 T.length ∧ st.ro 57344 (st.gn 57344) = some (.row (rws (fun x => i64 (dlT T x)) T.length)) ∧ st.sl 10 = i64 (i : Int) ∧ (∀ x, x < i → (fnd T.length fun j => fnd T.length fun k => p3 T x j k) = none)) T.length ?_ ?_ ?_
       · simp only [↓zcy, ↓zcz, ↓zda, ↓zdb, ↓reduceIte, Nat.reduceEqDiff, and_true, true_and, and_self, ne_eq, not_false_eq_true, eq_self, false_and, and_false, reduceCtorEq, rws_zero, s0, s2, s3, s7, r57344, s9, hi']
         exact ⟨rfl, lt0⟩
       · rintro i sl ro gn hi ⟨s0, s2, s3, s7, r57344, s10, q⟩
         dsimp only at s0 s2 s3 s7 r57344 s10
         have hi' : (i : Int) < (T.length : Nat) := by omega
         simp (maxSteps := 10000000) (disch := first | assumption | omega) only [go_sem, ↓reduceIte, Nat.reduceEqDiff, reduceCtorEq, Nat.reduceAdd, Nat.reduceMul, Nat.reduceLeDiff, zfu, Int.mul_def, Int.add_def, zfv, cond_false, cond_true, isub, Int.reduceToNat, s0, s2, s3, s7, r57344, s10, hi', hi]
         refine WK_for (fun j st => st.sl 0 = a ∧ st.sl 2 = nilA ∧ st.sl 3 = i64 (T.length : Int) ∧ st.sl 7 = .ref 57344 (st.gn 57344) [] 0 T.length ∧ st.ro 57344 (st.gn 57344) = some (.row (rws (fun x => i64 (dlT T x)) T.length)) ∧ st.sl 10 = i64 (i : Int) ∧ st.sl 11 = i64 (j : Int) ∧ (∀ x, x < j → (fnd T.length fun k => p3 T i x k) = none)) T.length ?_ ?_ ?_
         · simp only [↓zcy, ↓zcz, ↓zda, ↓zdb, ↓reduceIte, Nat.reduceEqDiff, and_true, true_and, and_self, ne_eq, not_false_eq_true, eq_self, false_and, and_false, reduceCtorEq, rws_zero, s0, s2, s3, s7, r57344, s10, hi', hi]
           exact ⟨rfl, lt0⟩
         · rintro j sl ro gn hj ⟨s0, s2, s3, s7, r57344, s10, s11, qq⟩
           dsimp only at s0 s2 s3 s7 r57344 s10 s11
           have hj' : (j : Int) < (T.length : Nat) := by omega
           simp (maxSteps := 10000000) (disch := first | assumption | omega) only [go_sem, ↓reduceIte, Nat.reduceEqDiff, reduceCtorEq, Nat.reduceAdd, Nat.reduceMul, Nat.reduceLeDiff, zfu, Int.mul_def, Int.add_def, zfv, cond_false, cond_true, isub, Int.reduceToNat, s0, s2, s3, s7, r57344, s10, s11, hj', hj]
           refine WK_for (fun k st => st.sl 0 = a ∧ st.sl 2 = nilA ∧ st.sl 3 = i64 (T.length : Int) ∧ st.sl 7 = .ref 57344 (st.gn 57344) [] 0 T.length ∧ st.ro 57344 (st.gn 57344) = some (.row (rws (fun x => i64 (dlT T x)) T.length)) ∧ st.sl 10 = i64 (i : Int) ∧ st.sl 11 = i64 (j : Int) ∧ st.sl 12 = i64 (k : Int) ∧ (∀ x, x < k → p3 T i j x = none)) T.length ?_ ?_ ?_
           · simp only [↓zcy, ↓zcz, ↓zda, ↓zdb, ↓reduceIte, Nat.reduceEqDiff, and_true, true_and, and_self, ne_eq, not_false_eq_true, eq_self, false_and, and_false, reduceCtorEq, rws_zero, s0, s2, s3, s7, r57344, s10, s11, hj', hj]
             exact ⟨rfl, lt0⟩
           · rintro k sl ro gn hk ⟨s0, s2, s3, s7, r57344, s10, s11, s12, qqq⟩
             dsimp only at s0 s2 s3 s7 r57344 s10 s11 s12
             have hk' : (k : Int) < (T.length : Nat) := by omega
             obtain ⟨di, hdi, hdi2⟩ := hdl i hi
             obtain ⟨dj, hdj, hdj2⟩ := hdl j hj
             have hA := isLLL_mat ha hi
             have hB := isLLL_mat ha hdi2
             have hC := isLLL_mat ha hk
             have hA1 := (h3 i hi).1
             have hB1 := (h3 di hdi2).1
             have hC1 := (h3 k hk).1
             have hA2 := isLL_row hA (k := j) (by omega)
             have hB2 := isLL_row hB (k := k) (by omega)
             have hC2 := isLL_row hC (k := dj) (by omega)
             have hA3 := ((h3 i hi).2 j hj).1
             have hB3 := ((h3 di hdi2).2 k hk).1
             have hC3 := ((h3 k hk).2 dj hdj2).1
             have hd : (at3 T i j k = at3 T di k j ∧ at3 T i j k = at3 T k dj i → p3 T i j k = none) ∧ (¬ (at3 T i j k = at3 T di k j ∧ at3 T i j k = at3 T k dj i) → RF T = some [2, (i : Int), (j : Int), (k : Int)]) := by
               have e1 : (dlT T i).toNat = di := by omega
               have e2 : (dlT T j).toNat = dj := by omega
               refine ⟨fun h => if_pos (by rw [e1, e2]; exact h), fun h => RF3 hF1 hF2 (fnd_some (k := i) (fnd_some (k := j) (fnd_some (k := k) (if_neg (by rw [e1, e2]; exact h)) qqq hk) qq hj) q hi)⟩
             obtain ⟨hd1, hd2⟩ := hd
             by_cases ha1 : atI (row (mat T i) j) k = atI (row (mat T di) k) j
             · have ha1' := eq_true ha1
               by_cases hb1 : atI (row (mat T i) j) k = atI (row (mat T k) dj) i
               · have hb1' := eq_true hb1
                 simp (maxSteps := 10000000) (disch := first | assumption | omega) only [go_sem, ↓reduceIte, Nat.reduceEqDiff, reduceCtorEq, Nat.reduceAdd, Nat.reduceMul, Nat.reduceLeDiff, zfu, Int.mul_def, Int.add_def, zfv, cond_false, cond_true, isub, Int.reduceToNat, s0, s2, s3, s7, r57344, s10, s11, s12, hk', hk, ha1', hb1', hdi, hdj]
                 refine FIN_of (by kernel_rfl) ?_
                 simp (maxSteps := 10000000) (disch := first | assumption | omega) only [go_sem, ↓reduceIte, Nat.reduceEqDiff, reduceCtorEq, Nat.reduceAdd, Nat.reduceMul, Nat.reduceLeDiff, zfu, Int.mul_def, Int.add_def, zfv, cond_false, cond_true, isub, Int.reduceToNat, s0, s2, s3, s7, r57344, s10, s11, s12, hk', hk]
                 exact ⟨i64c (by omega), ltS qqq (hd1 ⟨ha1, hb1⟩)⟩
               · skip
                 simp (maxSteps := 10000000) (disch := first | assumption | omega) only [go_sem, ↓reduceIte, Nat.reduceEqDiff, reduceCtorEq, Nat.reduceAdd, Nat.reduceMul, Nat.reduceLeDiff, zfu, Int.mul_def, Int.add_def, zfv, cond_false, cond_true, isub, Int.reduceToNat, s0, s2, s3, s7, r57344, s10, s11, s12, hk', hk, ha1', hb1, hdi, hdj]
                 refine FIN_of (by kernel_rfl) ?_
                 simp (maxSteps := 10000000) (disch := first | assumption | omega) only [go_sem, ↓reduceIte, Nat.reduceEqDiff, reduceCtorEq, Nat.reduceAdd, Nat.reduceMul, Nat.reduceLeDiff, zfu, Int.mul_def, Int.add_def, zfv, cond_false, cond_true, isub, Int.reduceToNat, s0, s2, s3, s7, r57344, s10, s11, s12, hk', hk]
                 simp only [zbj, zbk, retR, resL, outT, zes, zez, oneV, ↓zcy, ↓zcz, ↓reduceIte, Nat.reduceEqDiff, Option.some.injEq, AV.sc.injEq, Value.bool.injEq, Value.int.injEq, outL, outT, zft, zcp, zed, zef, zei, zeh, List.length_cons, List.length_nil, Nat.reduceAdd, Nat.zero_add, Nat.reduceLeDiff, List.drop_zero, List.take_succ_cons, List.take_zero, zfi, zfh, Ro.dl, zdb, zda, zfe, and_self, and_true, true_and, eq_self, List.append_nil, List.nil_append, List.cons_append, ne_eq, not_false_eq_true, and_false, false_and, Bool.false_eq_true, St.ev, zes, zfn, zhk, List.length_map, hd2 (fun h => hb1 h.2)]
                 rfl
             · skip
               simp (maxSteps := 10000000) (disch := first | assumption | omega) only [go_sem, ↓reduceIte, Nat.reduceEqDiff, reduceCtorEq, Nat.reduceAdd, Nat.reduceMul, Nat.reduceLeDiff, zfu, Int.mul_def, Int.add_def, zfv, cond_false, cond_true, isub, Int.reduceToNat, s0, s2, s3, s7, r57344, s10, s11, s12, hk', hk, ha1, hdi, hdj]
               refine FIN_of (by kernel_rfl) ?_
               simp (maxSteps := 10000000) (disch := first | assumption | omega) only [go_sem, ↓reduceIte, Nat.reduceEqDiff, reduceCtorEq, Nat.reduceAdd, Nat.reduceMul, Nat.reduceLeDiff, zfu, Int.mul_def, Int.add_def, zfv, cond_false, cond_true, isub, Int.reduceToNat, s0, s2, s3, s7, r57344, s10, s11, s12, hk', hk]
               simp only [zbj, zbk, retR, resL, outT, zes, zez, oneV, ↓zcy, ↓zcz, ↓reduceIte, Nat.reduceEqDiff, Option.some.injEq, AV.sc.injEq, Value.bool.injEq, Value.int.injEq, outL, outT, zft, zcp, zed, zef, zei, zeh, List.length_cons, List.length_nil, Nat.reduceAdd, Nat.zero_add, Nat.reduceLeDiff, List.drop_zero, List.take_succ_cons, List.take_zero, zfi, zfh, Ro.dl, zdb, zda, zfe, and_self, and_true, true_and, eq_self, List.append_nil, List.nil_append, List.cons_append, ne_eq, not_false_eq_true, and_false, false_and, Bool.false_eq_true, St.ev, zes, zfn, zhk, List.length_map, hd2 (fun h => ha1 h.1)]
               rfl
           · rintro sl ro gn ⟨s0, s2, s3, s7, r57344, s10, s11, s12, qqq⟩
             dsimp only at s0 s2 s3 s7 r57344 s10 s11 s12
             have hk' : ¬ ((T.length : Nat) : Int) < (T.length : Nat) := by omega
             simp (maxSteps := 10000000) (disch := first | assumption | omega) only [go_sem, ↓reduceIte, Nat.reduceEqDiff, reduceCtorEq, Nat.reduceAdd, Nat.reduceMul, Nat.reduceLeDiff, zfu, Int.mul_def, Int.add_def, zfv, cond_false, cond_true, isub, Int.reduceToNat, s0, s2, s3, s7, r57344, s10, s11, s12, hk']
             exact ⟨i64c (by omega), ltS qq (fnd_none.2 qqq)⟩
         · rintro sl ro gn ⟨s0, s2, s3, s7, r57344, s10, s11, qq⟩
           dsimp only at s0 s2 s3 s7 r57344 s10 s11
           have hj' : ¬ ((T.length : Nat) : Int) < (T.length : Nat) := by omega
           simp (maxSteps := 10000000) (disch := first | assumption | omega) only [go_sem, ↓reduceIte, Nat.reduceEqDiff, reduceCtorEq, Nat.reduceAdd, Nat.reduceMul, Nat.reduceLeDiff, zfu, Int.mul_def, Int.add_def, zfv, cond_false, cond_true, isub, Int.reduceToNat, s0, s2, s3, s7, r57344, s10, s11, hj']
           exact ⟨i64c (by omega), ltS q (fnd_none.2 qq)⟩
       · rintro sl ro gn ⟨s0, s2, s3, s7, r57344, s10, q⟩
         dsimp only at s0 s2 s3 s7 r57344 s10
         have hi' : ¬ ((T.length : Nat) : Int) < (T.length : Nat) := by omega
         have hF3 : F3 T = none := fnd_none.2 q
         have hRF : RF T = F4 T := RF4 hF1 hF2 hF3
         clear q
         simp (maxSteps := 10000000) (disch := first | assumption | omega) only [go_sem, ↓reduceIte, Nat.reduceEqDiff, reduceCtorEq, Nat.reduceAdd, Nat.reduceMul, Nat.reduceLeDiff, zfu, Int.mul_def, Int.add_def, zfv, cond_false, cond_true, isub, Int.reduceToNat, s0, s2, s3, s7, r57344, s10, hi']
         refine WK_for (fun i st => st.sl 0 = a ∧ st.sl 2 = nilA ∧ st.sl 3 = i64 (T.length : Int) ∧ st.sl 13 = i64 (i : Int) ∧ (∀ x, x < i → (fnd T.length fun j => fnd T.length fun k => fnd T.length fun l => p4 T x j k l) = none)) T.length ?_ ?_ ?_
         · simp only [↓zcy, ↓zcz, ↓zda, ↓zdb, ↓reduceIte, Nat.reduceEqDiff, and_true, true_and, and_self, ne_eq, not_false_eq_true, eq_self, false_and, and_false, reduceCtorEq, rws_zero, s0, s2, s3, s7, r57344, s10, hi']
           exact ⟨rfl, lt0⟩
         · rintro i sl ro gn hi ⟨s0, s2, s3, s13, q⟩
           dsimp only at s0 s2 s3 s13
           have hi' : (i : Int) < (T.length : Nat) := by omega
           simp (maxSteps := 10000000) (disch := first | assumption | omega) only [go_sem, ↓reduceIte, Nat.reduceEqDiff, reduceCtorEq, Nat.reduceAdd, Nat.reduceMul, Nat.reduceLeDiff, zfu, Int.mul_def, Int.add_def, zfv, cond_false, cond_true, isub, Int.reduceToNat, s0, s2, s3, s13, hi', hi]
           refine WK_for (fun j st => st.sl 0 = a ∧ st.sl 2 = nilA ∧ st.sl 3 = i64 (T.length : Int) ∧ st.sl 13 = i64 (i : Int) ∧ st.sl 14 = i64 (j : Int) ∧ (∀ x, x < j → (fnd T.length fun k => fnd T.length fun l => p4 T i x k l) = none)) T.length ?_ ?_ ?_
           · simp only [↓zcy, ↓zcz, ↓zda, ↓zdb, ↓reduceIte, Nat.reduceEqDiff, and_true, true_and, and_self, ne_eq, not_false_eq_true, eq_self, false_and, and_false, reduceCtorEq, rws_zero, s0, s2, s3, s13, hi', hi]
             exact ⟨rfl, lt0⟩
           · rintro j sl ro gn hj ⟨s0, s2, s3, s13, s14, qq⟩
             dsimp only at s0 s2 s3 s13 s14
             have hj' : (j : Int) < (T.length : Nat) := by omega
             simp (maxSteps := 10000000) (disch := first | assumption | omega) only [go_sem, ↓reduceIte, Nat.reduceEqDiff, reduceCtorEq, Nat.reduceAdd, Nat.reduceMul, Nat.reduceLeDiff, zfu, Int.mul_def, Int.add_def, zfv, cond_false, cond_true, isub, Int.reduceToNat, s0, s2, s3, s13, s14, hj', hj]
             refine WK_for (fun k st => st.sl 0 = a ∧ st.sl 2 = nilA ∧ st.sl 3 = i64 (T.length : Int) ∧ st.sl 13 = i64 (i : Int) ∧ st.sl 14 = i64 (j : Int) ∧ st.sl 15 = i64 (k : Int) ∧ (∀ x, x < k → (fnd T.length fun l => p4 T i j x l) = none)) T.length ?_ ?_ ?_
             · simp only [↓zcy, ↓zcz, ↓zda, ↓zdb, ↓reduceIte, Nat.reduceEqDiff, and_true, true_and, and_self, ne_eq, not_false_eq_true, eq_self, false_and, and_false, reduceCtorEq, rws_zero, s0, s2, s3, s13, s14, hj', hj]
               exact ⟨rfl, lt0⟩
             · rintro k sl ro gn hk ⟨s0, s2, s3, s13, s14, s15, q3⟩
               dsimp only at s0 s2 s3 s13 s14 s15
               have hk' : (k : Int) < (T.length : Nat) := by omega
               simp (maxSteps := 10000000) (disch := first | assumption | omega) only [go_sem, ↓reduceIte, Nat.reduceEqDiff, reduceCtorEq, Nat.reduceAdd, Nat.reduceMul, Nat.reduceLeDiff, zfu, Int.mul_def, Int.add_def, zfv, cond_false, cond_true, isub, Int.reduceToNat, s0, s2, s3, s13, s14, s15, hk', hk]
               refine WK_for (fun l st => st.sl 0 = a ∧ st.sl 2 = nilA ∧ st.sl 3 = i64 (T.length : Int) ∧ st.sl 13 = i64 (i : Int) ∧ st.sl 14 = i64 (j : Int) ∧ st.sl 15 = i64 (k : Int) ∧ st.sl 16 = i64 (l : Int) ∧ (∀ x, x < l → p4 T i j k x = none)) T.length ?_ ?_ ?_
               · simp only [↓zcy, ↓zcz, ↓zda, ↓zdb, ↓reduceIte, Nat.reduceEqDiff, and_true, true_and, and_self, ne_eq, not_false_eq_true, eq_self, false_and, and_false, reduceCtorEq, rws_zero, s0, s2, s3, s13, s14, s15, hk', hk]
                 exact ⟨rfl, lt0⟩
               · rintro l sl ro gn hl ⟨s0, s2, s3, s13, s14, s15, s16, q4⟩
                 dsimp only at s0 s2 s3 s13 s14 s15 s16
                 have hl' : (l : Int) < (T.length : Nat) := by omega
                 simp (maxSteps := 10000000) (disch := first | assumption | omega) only [go_sem, ↓reduceIte, Nat.reduceEqDiff, reduceCtorEq, Nat.reduceAdd, Nat.reduceMul, Nat.reduceLeDiff, zfu, Int.mul_def, Int.add_def, zfv, cond_false, cond_true, isub, Int.reduceToNat, s0, s2, s3, s13, s14, s15, s16, hl', hl]
                 refine WK_for (fun m st => st.sl 0 = a ∧ st.sl 2 = nilA ∧ st.sl 3 = i64 (T.length : Int) ∧ st.sl 13 = i64 (i : Int) ∧ st.sl 14 = i64 (j : Int) ∧ st.sl 15 = i64 (k : Int) ∧ st.sl 16 = i64 (l : Int) ∧ st.sl 17 = i64 (sm (lft T i j k l) m) ∧ st.sl 18 = i64 (sm (rgt T i j k l) m) ∧ st.sl 19 = i64 (m : Int)) T.length ?_ ?_ ?_
                 · simp only [↓zcy, ↓zcz, ↓zda, ↓zdb, ↓reduceIte, Nat.reduceEqDiff, and_true, true_and, and_self, ne_eq, not_false_eq_true, eq_self, false_and, and_false, reduceCtorEq, rws_zero, s0, s2, s3, s13, s14, s15, s16, hl', hl]
                   exact ⟨rfl, rfl, rfl⟩
                 · rintro m sl ro gn hm ⟨s0, s2, s3, s13, s14, s15, s16, s17, s18, s19⟩
                   dsimp only at s0 s2 s3 s13 s14 s15 s16 s17 s18 s19
                   have hm' : (m : Int) < (T.length : Nat) := by omega
                   have hA := isLLL_mat ha hi
                   have hB := isLLL_mat ha hj
                   have hC := isLLL_mat ha hm
                   have hA1 := (h3 i hi).1
                   have hB1 := (h3 j hj).1
                   have hC1 := (h3 m hm).1
                   have hA2 := isLL_row hA (k := j) (by omega)
                   have hA3 := isLL_row hA (k := m) (by omega)
                   have hB2 := isLL_row hB (k := k) (by omega)
                   have hC2 := isLL_row hC (k := k) (by omega)
                   have hA4 := ((h3 i hi).2 j hj).1
                   have hA5 := ((h3 i hi).2 m hm).1
                   have hB4 := ((h3 j hj).2 k hk).1
                   have hC4 := ((h3 m hm).2 k hk).1
                   have b1 := sm_bnd (lft_bnd hc0 i j k l) m
                   have b2 := sm_bnd (rgt_bnd hc0 i j k l) m
                   have b3 : 0 ≤ atI (row (mat T i) j) m * atI (row (mat T m) k) l ∧ _ := lft_bnd hc0 i j k l m
                   have b4 : 0 ≤ atI (row (mat T j) k) m * atI (row (mat T i) m) l ∧ _ := rgt_bnd hc0 i j k l m
                   have b5 : atI (row (mat T i) j) m * atI (row (mat T m) k) l ≤ 1000000 := (lft_bnd hc0 i j k l m).2
                   have b6 : atI (row (mat T j) k) m * atI (row (mat T i) m) l ≤ 1000000 := (rgt_bnd hc0 i j k l m).2
                   simp (maxSteps := 10000000) (disch := first | assumption | omega) only [go_sem, ↓reduceIte, Nat.reduceEqDiff, reduceCtorEq, Nat.reduceAdd, Nat.reduceMul, Nat.reduceLeDiff, zfu, Int.mul_def, Int.add_def, zfv, cond_false, cond_true, isub, Int.reduceToNat, s0, s2, s3, s13, s14, s15, s16, s17, s18, s19, hm', hm]
                   refine FIN_of (by kernel_rfl) ?_
                   simp (maxSteps := 10000000) (disch := first | assumption | omega) only [go_sem, ↓reduceIte, Nat.reduceEqDiff, reduceCtorEq, Nat.reduceAdd, Nat.reduceMul, Nat.reduceLeDiff, zfu, Int.mul_def, Int.add_def, zfv, cond_false, cond_true, isub, Int.reduceToNat, s0, s2, s3, s13, s14, s15, s16, s17, s18, s19, hm', hm]
                   refine FIN_of (by kernel_rfl) ?_
                   simp (maxSteps := 10000000) (disch := first | assumption | omega) only [go_sem, ↓reduceIte, Nat.reduceEqDiff, reduceCtorEq, Nat.reduceAdd, Nat.reduceMul, Nat.reduceLeDiff, zfu, Int.mul_def, Int.add_def, zfv, cond_false, cond_true, isub, Int.reduceToNat, s0, s2, s3, s13, s14, s15, s16, s17, s18, s19, hm', hm]
                   exact ⟨i64c rfl, i64c rfl, i64c (by omega)⟩
                 · rintro sl ro gn ⟨s0, s2, s3, s13, s14, s15, s16, s17, s18, s19⟩
                   dsimp only at s0 s2 s3 s13 s14 s15 s16 s17 s18 s19
                   have hm' : ¬ ((T.length : Nat) : Int) < (T.length : Nat) := by omega
                   have hd : (sm (lft T i j k l) T.length = sm (rgt T i j k l) T.length → p4 T i j k l = none) ∧ (¬ sm (lft T i j k l) T.length = sm (rgt T i j k l) T.length → RF T = some [3, (i : Int), (j : Int), (k : Int), (l : Int)]) :=
                     ⟨fun h => if_pos h, fun h => hRF.trans (fnd_some (k := i) (fnd_some (k := j) (fnd_some (k := k) (fnd_some (k := l) (if_neg h) q4 hl) q3 hk) qq hj) q hi)⟩
                   simp (maxSteps := 10000000) (disch := first | assumption | omega) only [go_sem, ↓reduceIte, Nat.reduceEqDiff, reduceCtorEq, Nat.reduceAdd, Nat.reduceMul, Nat.reduceLeDiff, zfu, Int.mul_def, Int.add_def, zfv, cond_false, cond_true, isub, Int.reduceToNat, s0, s2, s3, s13, s14, s15, s16, s17, s18, s19, hm']
                   refine ⟨fun h => ?_, fun h => ?_⟩
                   · exact ⟨i64c (by omega), ltS q4 (hd.1 h)⟩
                   · skip
                     simp only [zbj, zbk, retR, resL, outT, zes, zez, oneV, ↓zcy, ↓zcz, ↓reduceIte, Nat.reduceEqDiff, Option.some.injEq, AV.sc.injEq, Value.bool.injEq, Value.int.injEq, outL, outT, zft, zcp, zed, zef, zei, zeh, List.length_cons, List.length_nil, Nat.reduceAdd, Nat.zero_add, Nat.reduceLeDiff, List.drop_zero, List.take_succ_cons, List.take_zero, zfi, zfh, Ro.dl, zdb, zda, zfe, and_self, and_true, true_and, eq_self, List.append_nil, List.nil_append, List.cons_append, ne_eq, not_false_eq_true, and_false, false_and, Bool.false_eq_true, St.ev, zes, zfn, zhk, List.length_map, hd.2 h]
                     rfl
               · rintro sl ro gn ⟨s0, s2, s3, s13, s14, s15, s16, q4⟩
                 dsimp only at s0 s2 s3 s13 s14 s15 s16
                 have hl' : ¬ ((T.length : Nat) : Int) < (T.length : Nat) := by omega
                 simp (maxSteps := 10000000) (disch := first | assumption | omega) only [go_sem, ↓reduceIte, Nat.reduceEqDiff, reduceCtorEq, Nat.reduceAdd, Nat.reduceMul, Nat.reduceLeDiff, zfu, Int.mul_def, Int.add_def, zfv, cond_false, cond_true, isub, Int.reduceToNat, s0, s2, s3, s13, s14, s15, s16, hl']
                 exact ⟨i64c (by omega), ltS q3 (fnd_none.2 q4)⟩
             · rintro sl ro gn ⟨s0, s2, s3, s13, s14, s15, q3⟩
               dsimp only at s0 s2 s3 s13 s14 s15
               have hk' : ¬ ((T.length : Nat) : Int) < (T.length : Nat) := by omega
               simp (maxSteps := 10000000) (disch := first | assumption | omega) only [go_sem, ↓reduceIte, Nat.reduceEqDiff, reduceCtorEq, Nat.reduceAdd, Nat.reduceMul, Nat.reduceLeDiff, zfu, Int.mul_def, Int.add_def, zfv, cond_false, cond_true, isub, Int.reduceToNat, s0, s2, s3, s13, s14, s15, hk']
               exact ⟨i64c (by omega), ltS qq (fnd_none.2 q3)⟩
           · rintro sl ro gn ⟨s0, s2, s3, s13, s14, qq⟩
             dsimp only at s0 s2 s3 s13 s14
             have hj' : ¬ ((T.length : Nat) : Int) < (T.length : Nat) := by omega
             simp (maxSteps := 10000000) (disch := first | assumption | omega) only [go_sem, ↓reduceIte, Nat.reduceEqDiff, reduceCtorEq, Nat.reduceAdd, Nat.reduceMul, Nat.reduceLeDiff, zfu, Int.mul_def, Int.add_def, zfv, cond_false, cond_true, isub, Int.reduceToNat, s0, s2, s3, s13, s14, hj']
             exact ⟨i64c (by omega), ltS q (fnd_none.2 qq)⟩
         · rintro sl ro gn ⟨s0, s2, s3, s13, q⟩
           dsimp only at s0 s2 s3 s13
           have hi' : ¬ ((T.length : Nat) : Int) < (T.length : Nat) := by omega
           have e : RF T = none := hRF.trans (fnd_none.2 q)
           simp (maxSteps := 10000000) (disch := first | assumption | omega) only [go_sem, ↓reduceIte, Nat.reduceEqDiff, reduceCtorEq, Nat.reduceAdd, Nat.reduceMul, Nat.reduceLeDiff, zfu, Int.mul_def, Int.add_def, zfv, cond_false, cond_true, isub, Int.reduceToNat, s0, s2, s3, s13, hi']
           simp only [zbj, zbk, retR, resL, outT, zes, zez, oneV, ↓zcy, ↓zcz, ↓reduceIte, Nat.reduceEqDiff, Option.some.injEq, AV.sc.injEq, Value.bool.injEq, Value.int.injEq, outL, outT, zft, zcp, zed, zef, zei, zeh, List.length_cons, List.length_nil, Nat.reduceAdd, Nat.zero_add, Nat.reduceLeDiff, List.drop_zero, List.take_succ_cons, List.take_zero, zfi, zfh, Ro.dl, zdb, zda, zfe, and_self, and_true, true_and, eq_self, List.append_nil, List.nil_append, List.cons_append, ne_eq, not_false_eq_true, and_false, false_and, Bool.false_eq_true, St.ev, zes, zfn, zhk, List.length_map, e, s2]
           rfl
end Go.Proofs.YtgcnmlecihegcaaGreat
/- The program's shapes and comparisons of rows. -/
namespace Go.Proofs.YtgcnmlecihegcaaGreat
open Go.RowKit
set_option maxRecDepth 1000000
theorem NL_iff {xs : List Int} : allW xs 0 55440 = true ↔ NL xs := allW_iff
theorem isTF {t : Bool} {p : Prop} (h : t = true ↔ p) (hp : p) : t = true := h.2 hp
theorem c115 {a : AV} {xs : List Int} (ha : isL a xs) (hx : xs.length ≤ maxN) : CallOK Tryz.prog 102 [a] (bo (allW xs 0 55440)) := by
 refine call_of (fn := Tryz.f102) (code := bodyOf Tryz.f102) Tryz.func102 rfl (by kernel_rfl) (rfl) ?_
 intro sl hs
 have s0 : sl 0 = a := hs 0
 dsimp only [Tryz.f102, bodyOf, Option.getD]
 simp (maxSteps := 10000000) (disch := first | assumption | omega) only [go_sem, ↓reduceIte, Nat.reduceEqDiff, reduceCtorEq, Nat.reduceAdd, Nat.reduceMul, Nat.reduceLeDiff, zfu, Int.mul_def, Int.add_def, zfv, cond_false, cond_true, isub, Int.reduceToNat, s0]
 refine CLL_pure _ (c129 ha hx) (by simp (disch := assumption) only [pureL, pureA, isL_pure, isLL_pure, isLLL_pure, pureL_map, Bool.and_self, Bool.and_true]) rfl rfl ?_
 simp (maxSteps := 10000000) (disch := first | assumption | omega) only [go_sem, ↓reduceIte, Nat.reduceEqDiff, reduceCtorEq, Nat.reduceAdd, Nat.reduceMul, Nat.reduceLeDiff, zfu, Int.mul_def, Int.add_def, zfv, cond_false, cond_true, isub, Int.reduceToNat, s0]
 simp only [zbj, zbk, retR, resL, outT, zes, zez, oneV, ↓zcy, ↓zcz, ↓reduceIte, Nat.reduceEqDiff, Option.some.injEq, AV.sc.injEq, Value.bool.injEq, Value.int.injEq, outL, outT, zft, zcp, zed, zef, zei, zeh, List.length_cons, List.length_nil, Nat.reduceAdd, Nat.zero_add, Nat.reduceLeDiff, List.drop_zero, List.take_succ_cons, List.take_zero, zfi, zfh, Ro.dl, zdb, zda, zfe, and_self, and_true, true_and, eq_self, List.append_nil, List.nil_append, List.cons_append, ne_eq, not_false_eq_true, and_false, false_and, Bool.false_eq_true, St.ev, zes, zfn, zhk, List.length_map]
theorem c157 {a : AV} {xs : List Int} (ha : isL a xs) (hx : xs.length ≤ maxN) : CallOK Tryz.prog 157 [a] (bo (!allW xs 0 55440)) := by
 refine call_of (fn := Tryz.f157) (code := bodyOf Tryz.f157) Tryz.func157 rfl (by kernel_rfl) (rfl) ?_
 intro sl hs
 have s0 : sl 0 = a := hs 0
 dsimp only [Tryz.f157, bodyOf, Option.getD]
 simp (maxSteps := 10000000) (disch := first | assumption | omega) only [go_sem, ↓reduceIte, Nat.reduceEqDiff, reduceCtorEq, Nat.reduceAdd, Nat.reduceMul, Nat.reduceLeDiff, zfu, Int.mul_def, Int.add_def, zfv, cond_false, cond_true, isub, Int.reduceToNat, s0]
 refine CLL_pure _ (c115 ha hx) (by simp (disch := assumption) only [pureL, pureA, isL_pure, isLL_pure, isLLL_pure, pureL_map, Bool.and_self, Bool.and_true]) rfl rfl ?_
 simp (maxSteps := 10000000) (disch := first | assumption | omega) only [go_sem, ↓reduceIte, Nat.reduceEqDiff, reduceCtorEq, Nat.reduceAdd, Nat.reduceMul, Nat.reduceLeDiff, zfu, Int.mul_def, Int.add_def, zfv, cond_false, cond_true, isub, Int.reduceToNat, s0]
 simp only [zbj, zbk, retR, resL, outT, zes, zez, oneV, ↓zcy, ↓zcz, ↓reduceIte, Nat.reduceEqDiff, Option.some.injEq, AV.sc.injEq, Value.bool.injEq, Value.int.injEq, outL, outT, zft, zcp, zed, zef, zei, zeh, List.length_cons, List.length_nil, Nat.reduceAdd, Nat.zero_add, Nat.reduceLeDiff, List.drop_zero, List.take_succ_cons, List.take_zero, zfi, zfh, Ro.dl, zdb, zda, zfe, and_self, and_true, true_and, eq_self, List.append_nil, List.nil_append, List.cons_append, ne_eq, not_false_eq_true, and_false, false_and, Bool.false_eq_true, St.ev, zes, zfn, zhk, List.length_map]
def NLL (S : List (List Int)) : Prop := ∀ i, i < S.length → NL (row S i)
theorem c140 {a : AV} {S : List (List Int)} (ha : isLL a S) (hx : S.length ≤ maxN) (hr : ∀ i, i < S.length → (row S i).length ≤ maxN) {t : Bool} (ht : t = true ↔ NLL S) : CallOK Tryz.prog 142 [a] (bo t) := by
 refine call_of (fn := Tryz.f142) (code := bodyOf Tryz.f142) Tryz.func142 rfl (by kernel_rfl) (rfl) ?_
 intro sl hs
 have s0 : sl 0 = a := hs 0
 dsimp only [Tryz.f142, bodyOf, Option.getD]
 simp (maxSteps := 10000000) (disch := first | assumption | omega) only [go_sem, ↓reduceIte, Nat.reduceEqDiff, reduceCtorEq, Nat.reduceAdd, Nat.reduceMul, Nat.reduceLeDiff, zfu, Int.mul_def, Int.add_def, zfv, cond_false, cond_true, isub, Int.reduceToNat, s0]
 refine CLL_pure _ (c127 (g := 157) (caps := []) (p := fun k => !allW (row S k) 0 55440) (t := !t) ha hx rfl rfl (fun k hk => c157 (isLL_row ha hk) (hr k hk)) ?_) (by simp (disch := assumption) only [pureL, pureA, isL_pure, isLL_pure, isLLL_pure, pureL_map, Bool.and_self, Bool.and_true]) rfl rfl ?_
 · rw [Bool.not_eq_true', ← Bool.not_eq_true, ht]
   constructor
   · intro h
     simp only [NLL, Classical.not_forall] at h
     obtain ⟨i, hi, h⟩ := h
     refine ⟨i, hi, ?_⟩
     rw [Bool.not_eq_true', ← Bool.not_eq_true, NL_iff]
     exact h
   · rintro ⟨k, hk, h⟩ hn
     rw [Bool.not_eq_true', ← Bool.not_eq_true, NL_iff] at h
     exact h (hn k hk)
 simp (maxSteps := 10000000) (disch := first | assumption | omega) only [go_sem, ↓reduceIte, Nat.reduceEqDiff, reduceCtorEq, Nat.reduceAdd, Nat.reduceMul, Nat.reduceLeDiff, zfu, Int.mul_def, Int.add_def, zfv, cond_false, cond_true, isub, Int.reduceToNat, s0]
 simp only [zbj, zbk, retR, resL, outT, zes, zez, oneV, ↓zcy, ↓zcz, ↓reduceIte, Nat.reduceEqDiff, Option.some.injEq, AV.sc.injEq, Value.bool.injEq, Value.int.injEq, outL, outT, zft, zcp, zed, zef, zei, zeh, List.length_cons, List.length_nil, Nat.reduceAdd, Nat.zero_add, Nat.reduceLeDiff, List.drop_zero, List.take_succ_cons, List.take_zero, zfi, zfh, Ro.dl, zdb, zda, zfe, and_self, and_true, true_and, eq_self, List.append_nil, List.nil_append, List.cons_append, ne_eq, not_false_eq_true, and_false, false_and, Bool.false_eq_true, St.ev, zes, zfn, zhk, List.length_map, Bool.not_not]
def BlockP (S : List (List Int)) (m : Int) : Prop := (∀ i, i < S.length → 1 ≤ (row S i).length ∧ (row S i).length ≤ 16 ∧ (row S i).length = (row S 0).length) ∧ m ≤ S.length ∧ S.length ≤ 16
theorem c139 {a : AV} {S : List (List Int)} {m : Int} (ha : isLL a S) (hx : S.length ≤ maxN) {t : Bool} (ht : t = true ↔ BlockP S m) : CallOK Tryz.prog 141 [a, i64 m] (bo t) := by
 have hx' : S.length ≤ 4294967296 := hx
 refine call_of (fn := Tryz.f141) (code := bodyOf Tryz.f141) Tryz.func141 rfl (by kernel_rfl) (rfl) ?_
 intro sl hs
 have s0 : sl 0 = a := hs 0
 have s1 : sl 1 = i64 m := hs 1
 dsimp only [Tryz.f141, bodyOf, Option.getD]
 simp (maxSteps := 10000000) (disch := first | assumption | omega) only [go_sem, ↓reduceIte, Nat.reduceEqDiff, reduceCtorEq, Nat.reduceAdd, Nat.reduceMul, Nat.reduceLeDiff, zfu, Int.mul_def, Int.add_def, zfv, cond_false, cond_true, isub, Int.reduceToNat, s0, s1]
 refine WK_for (fun i st => st.sl 0 = a ∧ st.sl 1 = i64 m ∧ st.sl 7 = a ∧ st.sl 8 = i64 (S.length : Int) ∧ st.sl 9 = i64 (i : Int) ∧ (∀ x, x < i → 1 ≤ (row S x).length ∧ (row S x).length ≤ 16 ∧ (row S x).length = (row S 0).length)) S.length ?_ ?_ ?_
 · simp only [↓zcy, ↓zcz, ↓zda, ↓zdb, ↓reduceIte, Nat.reduceEqDiff, and_true, true_and, and_self, ne_eq, not_false_eq_true, eq_self, false_and, and_false, reduceCtorEq, rws_zero, s0, s1]
   exact ⟨rfl, lt0⟩
 · rintro i sl ro gn hi ⟨s0, s1, s7, s8, s9, q⟩
   dsimp only at s0 s1 s7 s8 s9
   have hi' : (i : Int) < (S.length : Nat) := by omega
   have h1 := isLL_row ha hi
   have h0 := isLL_row ha (k := 0) (by omega)
   have h00 : 0 < S.length := by omega
   by_cases hq1 : ((row S i).length : Int) < 1
   · skip
     simp (maxSteps := 10000000) (disch := first | assumption | omega) only [go_sem, ↓reduceIte, Nat.reduceEqDiff, reduceCtorEq, Nat.reduceAdd, Nat.reduceMul, Nat.reduceLeDiff, zfu, Int.mul_def, Int.add_def, zfv, cond_false, cond_true, isub, Int.reduceToNat, s0, s1, s7, s8, s9, hi', hi, hq1]
     simp only [zbj, zbk, retR, resL, outT, zes, zez, oneV, ↓zcy, ↓zcz, ↓reduceIte, Nat.reduceEqDiff, Option.some.injEq, AV.sc.injEq, Value.bool.injEq, Value.int.injEq, outL, outT, zft, zcp, zed, zef, zei, zeh, List.length_cons, List.length_nil, Nat.reduceAdd, Nat.zero_add, Nat.reduceLeDiff, List.drop_zero, List.take_succ_cons, List.take_zero, zfi, zfh, Ro.dl, zdb, zda, zfe, and_self, and_true, true_and, eq_self, List.append_nil, List.nil_append, List.cons_append, ne_eq, not_false_eq_true, and_false, false_and, Bool.false_eq_true, St.ev, zes, zfn, zhk, List.length_map]
     exact bool_false ht fun hc => by have := (hc.1 i hi).1; omega
   by_cases hq2 : (16 : Int) < (row S i).length
   · skip
     simp (maxSteps := 10000000) (disch := first | assumption | omega) only [go_sem, ↓reduceIte, Nat.reduceEqDiff, reduceCtorEq, Nat.reduceAdd, Nat.reduceMul, Nat.reduceLeDiff, zfu, Int.mul_def, Int.add_def, zfv, cond_false, cond_true, isub, Int.reduceToNat, s0, s1, s7, s8, s9, hi', hi, hq1, hq2]
     simp only [zbj, zbk, retR, resL, outT, zes, zez, oneV, ↓zcy, ↓zcz, ↓reduceIte, Nat.reduceEqDiff, Option.some.injEq, AV.sc.injEq, Value.bool.injEq, Value.int.injEq, outL, outT, zft, zcp, zed, zef, zei, zeh, List.length_cons, List.length_nil, Nat.reduceAdd, Nat.zero_add, Nat.reduceLeDiff, List.drop_zero, List.take_succ_cons, List.take_zero, zfi, zfh, Ro.dl, zdb, zda, zfe, and_self, and_true, true_and, eq_self, List.append_nil, List.nil_append, List.cons_append, ne_eq, not_false_eq_true, and_false, false_and, Bool.false_eq_true, St.ev, zes, zfn, zhk, List.length_map]
     exact bool_false ht fun hc => by have := (hc.1 i hi).2.1; omega
   by_cases hq3 : ((row S i).length : Int) = (row S 0).length
   · have hq3' := eq_true hq3
     simp (maxSteps := 10000000) (disch := first | assumption | omega) only [go_sem, ↓reduceIte, Nat.reduceEqDiff, reduceCtorEq, Nat.reduceAdd, Nat.reduceMul, Nat.reduceLeDiff, zfu, Int.mul_def, Int.add_def, zfv, cond_false, cond_true, isub, Int.reduceToNat, s0, s1, s7, s8, s9, hi', hi, hq1, hq2, hq3']
     exact ⟨i64c (by omega), ltS q ⟨by omega, by omega, by omega⟩⟩
   · skip
     simp (maxSteps := 10000000) (disch := first | assumption | omega) only [go_sem, ↓reduceIte, Nat.reduceEqDiff, reduceCtorEq, Nat.reduceAdd, Nat.reduceMul, Nat.reduceLeDiff, zfu, Int.mul_def, Int.add_def, zfv, cond_false, cond_true, isub, Int.reduceToNat, s0, s1, s7, s8, s9, hi', hi, hq1, hq2, hq3]
     simp only [zbj, zbk, retR, resL, outT, zes, zez, oneV, ↓zcy, ↓zcz, ↓reduceIte, Nat.reduceEqDiff, Option.some.injEq, AV.sc.injEq, Value.bool.injEq, Value.int.injEq, outL, outT, zft, zcp, zed, zef, zei, zeh, List.length_cons, List.length_nil, Nat.reduceAdd, Nat.zero_add, Nat.reduceLeDiff, List.drop_zero, List.take_succ_cons, List.take_zero, zfi, zfh, Ro.dl, zdb, zda, zfe, and_self, and_true, true_and, eq_self, List.append_nil, List.nil_append, List.cons_append, ne_eq, not_false_eq_true, and_false, false_and, Bool.false_eq_true, St.ev, zes, zfn, zhk, List.length_map]
     exact bool_false ht fun hc => by have := (hc.1 i hi).2.2; omega
 · rintro sl ro gn ⟨s0, s1, s7, s8, s9, q⟩
   dsimp only at s0 s1 s7 s8 s9
   have hi' : ¬ ((S.length : Nat) : Int) < (S.length : Nat) := by omega
   by_cases hm : m ≤ (S.length : Int)
   · by_cases hm2 : (S.length : Int) ≤ 16
     · skip
       simp (maxSteps := 10000000) (disch := first | assumption | omega) only [go_sem, ↓reduceIte, Nat.reduceEqDiff, reduceCtorEq, Nat.reduceAdd, Nat.reduceMul, Nat.reduceLeDiff, zfu, Int.mul_def, Int.add_def, zfv, cond_false, cond_true, isub, Int.reduceToNat, s0, s1, s7, s8, s9, hi', hm, hm2]
       simp only [zbj, zbk, retR, resL, outT, zes, zez, oneV, ↓zcy, ↓zcz, ↓reduceIte, Nat.reduceEqDiff, Option.some.injEq, AV.sc.injEq, Value.bool.injEq, Value.int.injEq, outL, outT, zft, zcp, zed, zef, zei, zeh, List.length_cons, List.length_nil, Nat.reduceAdd, Nat.zero_add, Nat.reduceLeDiff, List.drop_zero, List.take_succ_cons, List.take_zero, zfi, zfh, Ro.dl, zdb, zda, zfe, and_self, and_true, true_and, eq_self, List.append_nil, List.nil_append, List.cons_append, ne_eq, not_false_eq_true, and_false, false_and, Bool.false_eq_true, St.ev, zes, zfn, zhk, List.length_map]
       exact (ht.2 ⟨q, hm, by omega⟩).symm
     · skip
       simp (maxSteps := 10000000) (disch := first | assumption | omega) only [go_sem, ↓reduceIte, Nat.reduceEqDiff, reduceCtorEq, Nat.reduceAdd, Nat.reduceMul, Nat.reduceLeDiff, zfu, Int.mul_def, Int.add_def, zfv, cond_false, cond_true, isub, Int.reduceToNat, s0, s1, s7, s8, s9, hi', hm, hm2]
       simp only [zbj, zbk, retR, resL, outT, zes, zez, oneV, ↓zcy, ↓zcz, ↓reduceIte, Nat.reduceEqDiff, Option.some.injEq, AV.sc.injEq, Value.bool.injEq, Value.int.injEq, outL, outT, zft, zcp, zed, zef, zei, zeh, List.length_cons, List.length_nil, Nat.reduceAdd, Nat.zero_add, Nat.reduceLeDiff, List.drop_zero, List.take_succ_cons, List.take_zero, zfi, zfh, Ro.dl, zdb, zda, zfe, and_self, and_true, true_and, eq_self, List.append_nil, List.nil_append, List.cons_append, ne_eq, not_false_eq_true, and_false, false_and, Bool.false_eq_true, St.ev, zes, zfn, zhk, List.length_map]
       exact bool_false ht fun hc => by have := hc.2.2; omega
   · skip
     simp (maxSteps := 10000000) (disch := first | assumption | omega) only [go_sem, ↓reduceIte, Nat.reduceEqDiff, reduceCtorEq, Nat.reduceAdd, Nat.reduceMul, Nat.reduceLeDiff, zfu, Int.mul_def, Int.add_def, zfv, cond_false, cond_true, isub, Int.reduceToNat, s0, s1, s7, s8, s9, hi', hm]
     simp only [zbj, zbk, retR, resL, outT, zes, zez, oneV, ↓zcy, ↓zcz, ↓reduceIte, Nat.reduceEqDiff, Option.some.injEq, AV.sc.injEq, Value.bool.injEq, Value.int.injEq, outL, outT, zft, zcp, zed, zef, zei, zeh, List.length_cons, List.length_nil, Nat.reduceAdd, Nat.zero_add, Nat.reduceLeDiff, List.drop_zero, List.take_succ_cons, List.take_zero, zfi, zfh, Ro.dl, zdb, zda, zfe, and_self, and_true, true_and, eq_self, List.append_nil, List.nil_append, List.cons_append, ne_eq, not_false_eq_true, and_false, false_and, Bool.false_eq_true, St.ev, zes, zfn, zhk, List.length_map]
     exact bool_false ht fun hc => hm hc.2.1
theorem c114 {a : AV} {S : List (List Int)} (ha : isLL a S) (h0 : 0 < S.length) : CallOK Tryz.prog 101 [a] (bo (decide ((S.length : Int) = (row S 0).length))) := by
 have h1 := isLL_row ha h0
 refine call_of (fn := Tryz.f101) (code := bodyOf Tryz.f101) Tryz.func101 rfl (by kernel_rfl) (rfl) ?_
 intro sl hs
 have s0 : sl 0 = a := hs 0
 dsimp only [Tryz.f101, bodyOf, Option.getD]
 simp (maxSteps := 10000000) (disch := first | assumption | omega) only [go_sem, ↓reduceIte, Nat.reduceEqDiff, reduceCtorEq, Nat.reduceAdd, Nat.reduceMul, Nat.reduceLeDiff, zfu, Int.mul_def, Int.add_def, zfv, cond_false, cond_true, isub, Int.reduceToNat, s0]
 simp only [zbj, zbk, retR, resL, outT, zes, zez, oneV, ↓zcy, ↓zcz, ↓reduceIte, Nat.reduceEqDiff, Option.some.injEq, AV.sc.injEq, Value.bool.injEq, Value.int.injEq, outL, outT, zft, zcp, zed, zef, zei, zeh, List.length_cons, List.length_nil, Nat.reduceAdd, Nat.zero_add, Nat.reduceLeDiff, List.drop_zero, List.take_succ_cons, List.take_zero, zfi, zfh, Ro.dl, zdb, zda, zfe, and_self, and_true, true_and, eq_self, List.append_nil, List.nil_append, List.cons_append, ne_eq, not_false_eq_true, and_false, false_and, Bool.false_eq_true, St.ev, zes, zfn, zhk, List.length_map]
def MatP (S : List (List Int)) : Prop := BlockP S 1 ∧ NLL S
theorem c113 {a : AV} {S : List (List Int)} (ha : isLL a S) (hx : S.length ≤ maxN) (hr : ∀ i, i < S.length → (row S i).length ≤ maxN) {t : Bool} (ht : t = true ↔ MatP S) : CallOK Tryz.prog 100 [a] (bo t) := by
 refine call_of (fn := Tryz.f100) (code := bodyOf Tryz.f100) Tryz.func100 rfl (by kernel_rfl) (rfl) ?_
 intro sl hs
 have s0 : sl 0 = a := hs 0
 by_cases h1 : BlockP S 1
 · skip
   dsimp only [Tryz.f100, bodyOf, Option.getD]
   simp (maxSteps := 10000000) (disch := first | assumption | omega) only [go_sem, ↓reduceIte, Nat.reduceEqDiff, reduceCtorEq, Nat.reduceAdd, Nat.reduceMul, Nat.reduceLeDiff, zfu, Int.mul_def, Int.add_def, zfv, cond_false, cond_true, isub, Int.reduceToNat, s0]
   refine CLL_pure _ (c139 (t := true) ha hx (by simp [h1])) (by simp (disch := assumption) only [pureL, pureA, isL_pure, isLL_pure, isLLL_pure, pureL_map, Bool.and_self, Bool.and_true]) rfl rfl ?_
   simp (maxSteps := 10000000) (disch := first | assumption | omega) only [go_sem, ↓reduceIte, Nat.reduceEqDiff, reduceCtorEq, Nat.reduceAdd, Nat.reduceMul, Nat.reduceLeDiff, zfu, Int.mul_def, Int.add_def, zfv, cond_false, cond_true, isub, Int.reduceToNat, s0]
   refine CLL_pure _ (c140 (t := t) ha hx hr (by rw [ht]; exact ⟨fun h => h.2, fun h => ⟨h1, h⟩⟩)) (by simp (disch := assumption) only [pureL, pureA, isL_pure, isLL_pure, isLLL_pure, pureL_map, Bool.and_self, Bool.and_true]) rfl rfl ?_
   simp (maxSteps := 10000000) (disch := first | assumption | omega) only [go_sem, ↓reduceIte, Nat.reduceEqDiff, reduceCtorEq, Nat.reduceAdd, Nat.reduceMul, Nat.reduceLeDiff, zfu, Int.mul_def, Int.add_def, zfv, cond_false, cond_true, isub, Int.reduceToNat, s0]
   simp only [zbj, zbk, retR, resL, outT, zes, zez, oneV, ↓zcy, ↓zcz, ↓reduceIte, Nat.reduceEqDiff, Option.some.injEq, AV.sc.injEq, Value.bool.injEq, Value.int.injEq, outL, outT, zft, zcp, zed, zef, zei, zeh, List.length_cons, List.length_nil, Nat.reduceAdd, Nat.zero_add, Nat.reduceLeDiff, List.drop_zero, List.take_succ_cons, List.take_zero, zfi, zfh, Ro.dl, zdb, zda, zfe, and_self, and_true, true_and, eq_self, List.append_nil, List.nil_append, List.cons_append, ne_eq, not_false_eq_true, and_false, false_and, Bool.false_eq_true, St.ev, zes, zfn, zhk, List.length_map]
 · skip
   dsimp only [Tryz.f100, bodyOf, Option.getD]
   simp (maxSteps := 10000000) (disch := first | assumption | omega) only [go_sem, ↓reduceIte, Nat.reduceEqDiff, reduceCtorEq, Nat.reduceAdd, Nat.reduceMul, Nat.reduceLeDiff, zfu, Int.mul_def, Int.add_def, zfv, cond_false, cond_true, isub, Int.reduceToNat, s0]
   refine CLL_pure _ (c139 (t := false) ha hx (by simp [h1])) (by simp (disch := assumption) only [pureL, pureA, isL_pure, isLL_pure, isLLL_pure, pureL_map, Bool.and_self, Bool.and_true]) rfl rfl ?_
   simp (maxSteps := 10000000) (disch := first | assumption | omega) only [go_sem, ↓reduceIte, Nat.reduceEqDiff, reduceCtorEq, Nat.reduceAdd, Nat.reduceMul, Nat.reduceLeDiff, zfu, Int.mul_def, Int.add_def, zfv, cond_false, cond_true, isub, Int.reduceToNat, s0]
   simp only [zbj, zbk, retR, resL, outT, zes, zez, oneV, ↓zcy, ↓zcz, ↓reduceIte, Nat.reduceEqDiff, Option.some.injEq, AV.sc.injEq, Value.bool.injEq, Value.int.injEq, outL, outT, zft, zcp, zed, zef, zei, zeh, List.length_cons, List.length_nil, Nat.reduceAdd, Nat.zero_add, Nat.reduceLeDiff, List.drop_zero, List.take_succ_cons, List.take_zero, zfi, zfh, Ro.dl, zdb, zda, zfe, and_self, and_true, true_and, eq_self, List.append_nil, List.nil_append, List.cons_append, ne_eq, not_false_eq_true, and_false, false_and, Bool.false_eq_true, St.ev, zes, zfn, zhk, List.length_map]
   exact bool_false ht fun h => h1 h.1
theorem c89 {a b : AV} {S : List (List Int)} {T : List Int} (ha : isLL a S) (hb : isL b T) (hS : S.length ≤ maxN) (hT : T.length ≤ maxN) (hR : ∀ i, i < S.length → (row S i).length ≤ maxN) {t : Bool} (ht : t = true ↔ ShpP S T) : CallOK Tryz.prog 54 [.agg [a, b]] (bo t) := by
 have e0 : ShpP S T → MatP S ∧ (S.length : Int) = (row S 0).length ∧ (T.length : Int) = S.length ∧ NL T := by
   rintro ⟨h1, h2, h3, h4, h5⟩
   refine ⟨⟨⟨fun i hi => ?_, by omega, by omega⟩, fun i hi => (h5 i (by omega)).2⟩, ?_, by omega, h4⟩
   · have := (h5 i (by omega)).1
     have := (h5 0 (by omega)).1
     omega
   · have := (h5 0 (by omega)).1
     omega
 refine call_of (fn := Tryz.f54) (code := bodyOf Tryz.f54) Tryz.func54 rfl (by kernel_rfl) (rfl) ?_
 intro sl hs
 have s0 : sl 0 = .agg [a, b] := hs 0
 by_cases h1 : MatP S
 · have hpos : 0 < S.length := by have := h1.1.2.1; omega
   by_cases h2 : (S.length : Int) = (row S 0).length
   · have c2 := c114 ha hpos
     rw [decide_eq_true h2] at c2
     by_cases h3 : (T.length : Int) = S.length
     · have h3' := eq_true h3
       dsimp only [Tryz.f54, bodyOf, Option.getD]
       simp (maxSteps := 10000000) (disch := first | assumption | omega) only [go_sem, ↓reduceIte, Nat.reduceEqDiff, reduceCtorEq, Nat.reduceAdd, Nat.reduceMul, Nat.reduceLeDiff, zfu, Int.mul_def, Int.add_def, zfv, cond_false, cond_true, isub, Int.reduceToNat, s0]
       refine CLL_pure _ (c113 (t := true) ha hS hR (by simp [h1])) (by simp (disch := assumption) only [pureL, pureA, isL_pure, isLL_pure, isLLL_pure, pureL_map, Bool.and_self, Bool.and_true]) rfl rfl ?_
       simp (maxSteps := 10000000) (disch := first | assumption | omega) only [go_sem, ↓reduceIte, Nat.reduceEqDiff, reduceCtorEq, Nat.reduceAdd, Nat.reduceMul, Nat.reduceLeDiff, zfu, Int.mul_def, Int.add_def, zfv, cond_false, cond_true, isub, Int.reduceToNat, s0]
       refine CLL_pure _ c2 (by simp (disch := assumption) only [pureL, pureA, isL_pure, isLL_pure, isLLL_pure, pureL_map, Bool.and_self, Bool.and_true]) rfl rfl ?_
       simp (maxSteps := 10000000) (disch := first | assumption | omega) only [go_sem, ↓reduceIte, Nat.reduceEqDiff, reduceCtorEq, Nat.reduceAdd, Nat.reduceMul, Nat.reduceLeDiff, zfu, Int.mul_def, Int.add_def, zfv, cond_false, cond_true, isub, Int.reduceToNat, s0, h3']
       refine CLL_pure _ (c115 hb hT) (by simp (disch := assumption) only [pureL, pureA, isL_pure, isLL_pure, isLLL_pure, pureL_map, Bool.and_self, Bool.and_true]) rfl rfl ?_
       simp (maxSteps := 10000000) (disch := first | assumption | omega) only [go_sem, ↓reduceIte, Nat.reduceEqDiff, reduceCtorEq, Nat.reduceAdd, Nat.reduceMul, Nat.reduceLeDiff, zfu, Int.mul_def, Int.add_def, zfv, cond_false, cond_true, isub, Int.reduceToNat, s0]
       simp only [zbj, zbk, retR, resL, outT, zes, zez, oneV, ↓zcy, ↓zcz, ↓reduceIte, Nat.reduceEqDiff, Option.some.injEq, AV.sc.injEq, Value.bool.injEq, Value.int.injEq, outL, outT, zft, zcp, zed, zef, zei, zeh, List.length_cons, List.length_nil, Nat.reduceAdd, Nat.zero_add, Nat.reduceLeDiff, List.drop_zero, List.take_succ_cons, List.take_zero, zfi, zfh, Ro.dl, zdb, zda, zfe, and_self, and_true, true_and, eq_self, List.append_nil, List.nil_append, List.cons_append, ne_eq, not_false_eq_true, and_false, false_and, Bool.false_eq_true, St.ev, zes, zfn, zhk, List.length_map]
       have e : allW T 0 55440 = true ↔ t = true := by
         rw [NL_iff, ht]
         refine ⟨fun h => ⟨by omega, by have := h1.1.2.2; omega, by omega, h, fun i hi => ⟨?_, h1.2 i (by omega)⟩⟩, fun h => h.2.2.2.1⟩
         have := (h1.1.1 i (by omega)).2.2
         omega
       exact Bool.eq_iff_iff.2 e
     · skip
       dsimp only [Tryz.f54, bodyOf, Option.getD]
       simp (maxSteps := 10000000) (disch := first | assumption | omega) only [go_sem, ↓reduceIte, Nat.reduceEqDiff, reduceCtorEq, Nat.reduceAdd, Nat.reduceMul, Nat.reduceLeDiff, zfu, Int.mul_def, Int.add_def, zfv, cond_false, cond_true, isub, Int.reduceToNat, s0]
       refine CLL_pure _ (c113 (t := true) ha hS hR (by simp [h1])) (by simp (disch := assumption) only [pureL, pureA, isL_pure, isLL_pure, isLLL_pure, pureL_map, Bool.and_self, Bool.and_true]) rfl rfl ?_
       simp (maxSteps := 10000000) (disch := first | assumption | omega) only [go_sem, ↓reduceIte, Nat.reduceEqDiff, reduceCtorEq, Nat.reduceAdd, Nat.reduceMul, Nat.reduceLeDiff, zfu, Int.mul_def, Int.add_def, zfv, cond_false, cond_true, isub, Int.reduceToNat, s0]
       refine CLL_pure _ c2 (by simp (disch := assumption) only [pureL, pureA, isL_pure, isLL_pure, isLLL_pure, pureL_map, Bool.and_self, Bool.and_true]) rfl rfl ?_
       simp (maxSteps := 10000000) (disch := first | assumption | omega) only [go_sem, ↓reduceIte, Nat.reduceEqDiff, reduceCtorEq, Nat.reduceAdd, Nat.reduceMul, Nat.reduceLeDiff, zfu, Int.mul_def, Int.add_def, zfv, cond_false, cond_true, isub, Int.reduceToNat, s0, h3]
       simp only [zbj, zbk, retR, resL, outT, zes, zez, oneV, ↓zcy, ↓zcz, ↓reduceIte, Nat.reduceEqDiff, Option.some.injEq, AV.sc.injEq, Value.bool.injEq, Value.int.injEq, outL, outT, zft, zcp, zed, zef, zei, zeh, List.length_cons, List.length_nil, Nat.reduceAdd, Nat.zero_add, Nat.reduceLeDiff, List.drop_zero, List.take_succ_cons, List.take_zero, zfi, zfh, Ro.dl, zdb, zda, zfe, and_self, and_true, true_and, eq_self, List.append_nil, List.nil_append, List.cons_append, ne_eq, not_false_eq_true, and_false, false_and, Bool.false_eq_true, St.ev, zes, zfn, zhk, List.length_map]
       exact bool_false ht fun h => h3 (e0 h).2.2.1
   · have c2 := c114 ha hpos
     rw [decide_eq_false h2] at c2
     dsimp only [Tryz.f54, bodyOf, Option.getD]
     simp (maxSteps := 10000000) (disch := first | assumption | omega) only [go_sem, ↓reduceIte, Nat.reduceEqDiff, reduceCtorEq, Nat.reduceAdd, Nat.reduceMul, Nat.reduceLeDiff, zfu, Int.mul_def, Int.add_def, zfv, cond_false, cond_true, isub, Int.reduceToNat, s0]
     refine CLL_pure _ (c113 (t := true) ha hS hR (by simp [h1])) (by simp (disch := assumption) only [pureL, pureA, isL_pure, isLL_pure, isLLL_pure, pureL_map, Bool.and_self, Bool.and_true]) rfl rfl ?_
     simp (maxSteps := 10000000) (disch := first | assumption | omega) only [go_sem, ↓reduceIte, Nat.reduceEqDiff, reduceCtorEq, Nat.reduceAdd, Nat.reduceMul, Nat.reduceLeDiff, zfu, Int.mul_def, Int.add_def, zfv, cond_false, cond_true, isub, Int.reduceToNat, s0]
     refine CLL_pure _ c2 (by simp (disch := assumption) only [pureL, pureA, isL_pure, isLL_pure, isLLL_pure, pureL_map, Bool.and_self, Bool.and_true]) rfl rfl ?_
     simp (maxSteps := 10000000) (disch := first | assumption | omega) only [go_sem, ↓reduceIte, Nat.reduceEqDiff, reduceCtorEq, Nat.reduceAdd, Nat.reduceMul, Nat.reduceLeDiff, zfu, Int.mul_def, Int.add_def, zfv, cond_false, cond_true, isub, Int.reduceToNat, s0]
     simp only [zbj, zbk, retR, resL, outT, zes, zez, oneV, ↓zcy, ↓zcz, ↓reduceIte, Nat.reduceEqDiff, Option.some.injEq, AV.sc.injEq, Value.bool.injEq, Value.int.injEq, outL, outT, zft, zcp, zed, zef, zei, zeh, List.length_cons, List.length_nil, Nat.reduceAdd, Nat.zero_add, Nat.reduceLeDiff, List.drop_zero, List.take_succ_cons, List.take_zero, zfi, zfh, Ro.dl, zdb, zda, zfe, and_self, and_true, true_and, eq_self, List.append_nil, List.nil_append, List.cons_append, ne_eq, not_false_eq_true, and_false, false_and, Bool.false_eq_true, St.ev, zes, zfn, zhk, List.length_map]
     exact bool_false ht fun h => h2 (e0 h).2.1
 · skip
   dsimp only [Tryz.f54, bodyOf, Option.getD]
   simp (maxSteps := 10000000) (disch := first | assumption | omega) only [go_sem, ↓reduceIte, Nat.reduceEqDiff, reduceCtorEq, Nat.reduceAdd, Nat.reduceMul, Nat.reduceLeDiff, zfu, Int.mul_def, Int.add_def, zfv, cond_false, cond_true, isub, Int.reduceToNat, s0]
   refine CLL_pure _ (c113 (t := false) ha hS hR (by simp [h1])) (by simp (disch := assumption) only [pureL, pureA, isL_pure, isLL_pure, isLLL_pure, pureL_map, Bool.and_self, Bool.and_true]) rfl rfl ?_
   simp (maxSteps := 10000000) (disch := first | assumption | omega) only [go_sem, ↓reduceIte, Nat.reduceEqDiff, reduceCtorEq, Nat.reduceAdd, Nat.reduceMul, Nat.reduceLeDiff, zfu, Int.mul_def, Int.add_def, zfv, cond_false, cond_true, isub, Int.reduceToNat, s0]
   simp only [zbj, zbk, retR, resL, outT, zes, zez, oneV, ↓zcy, ↓zcz, ↓reduceIte, Nat.reduceEqDiff, Option.some.injEq, AV.sc.injEq, Value.bool.injEq, Value.int.injEq, outL, outT, zft, zcp, zed, zef, zei, zeh, List.length_cons, List.length_nil, Nat.reduceAdd, Nat.zero_add, Nat.reduceLeDiff, List.drop_zero, List.take_succ_cons, List.take_zero, zfi, zfh, Ro.dl, zdb, zda, zfe, and_self, and_true, true_and, eq_self, List.append_nil, List.nil_append, List.cons_append, ne_eq, not_false_eq_true, and_false, false_and, Bool.false_eq_true, St.ev, zes, zfn, zhk, List.length_map]
   exact bool_false ht fun h => h1 (e0 h).1
theorem c159 {a b : AV} {xs ys : List Int} (ha : isL a xs) (hb : isL b ys) (hx : xs.length ≤ maxN) : CallOK Tryz.prog 138 [a, b] (bo (decide (xs = ys))) := by
 have hx' : xs.length ≤ 4294967296 := hx
 refine call_of (fn := Tryz.f138) (code := bodyOf Tryz.f138) Tryz.func138 rfl (by kernel_rfl) (rfl) ?_
 intro sl hs
 have s0 : sl 0 = a := hs 0
 have s1 : sl 1 = b := hs 1
 by_cases hl : xs.length = ys.length
 · skip
   dsimp only [Tryz.f138, bodyOf, Option.getD]
   simp (maxSteps := 10000000) (disch := first | assumption | omega) only [go_sem, ↓reduceIte, Nat.reduceEqDiff, reduceCtorEq, Nat.reduceAdd, Nat.reduceMul, Nat.reduceLeDiff, zfu, Int.mul_def, Int.add_def, zfv, cond_false, cond_true, isub, Int.reduceToNat, s0, s1]
   refine WK_for (fun i st => st.sl 0 = a ∧ st.sl 1 = b ∧ st.sl 12 = i64 (xs.length : Int) ∧ st.sl 13 = i64 (i : Int) ∧ (∀ x, x < i → atI xs x = atI ys x)) xs.length ?_ ?_ ?_
   · simp only [↓zcy, ↓zcz, ↓zda, ↓zdb, ↓reduceIte, Nat.reduceEqDiff, and_true, true_and, and_self, ne_eq, not_false_eq_true, eq_self, false_and, and_false, reduceCtorEq, rws_zero, s0, s1]
     exact ⟨rfl, lt0⟩
   · rintro i sl ro gn hi ⟨s0, s1, s12, s13, q⟩
     dsimp only at s0 s1 s12 s13
     have hi' : (i : Int) < (xs.length : Nat) := by omega
     simp (maxSteps := 10000000) (disch := first | assumption | omega) only [go_sem, ↓reduceIte, Nat.reduceEqDiff, reduceCtorEq, Nat.reduceAdd, Nat.reduceMul, Nat.reduceLeDiff, zfu, Int.mul_def, Int.add_def, zfv, cond_false, cond_true, isub, Int.reduceToNat, s0, s1, s12, s13, hi', hi]
     refine FIN_of (by kernel_rfl) ?_
     simp (maxSteps := 10000000) (disch := first | assumption | omega) only [go_sem, ↓reduceIte, Nat.reduceEqDiff, reduceCtorEq, Nat.reduceAdd, Nat.reduceMul, Nat.reduceLeDiff, zfu, Int.mul_def, Int.add_def, zfv, cond_false, cond_true, isub, Int.reduceToNat, s0, s1, s12, s13, hi', hi]
     refine ⟨fun h => ⟨i64c (by omega), ltS q h⟩, fun h => ?_⟩
     simp only [zbj, zbk, retR, resL, outT, zes, zez, oneV, ↓zcy, ↓zcz, ↓reduceIte, Nat.reduceEqDiff, Option.some.injEq, AV.sc.injEq, Value.bool.injEq, Value.int.injEq, outL, outT, zft, zcp, zed, zef, zei, zeh, List.length_cons, List.length_nil, Nat.reduceAdd, Nat.zero_add, Nat.reduceLeDiff, List.drop_zero, List.take_succ_cons, List.take_zero, zfi, zfh, Ro.dl, zdb, zda, zfe, and_self, and_true, true_and, eq_self, List.append_nil, List.nil_append, List.cons_append, ne_eq, not_false_eq_true, and_false, false_and, Bool.false_eq_true, St.ev, zes, zfn, zhk, List.length_map]
     exact (decide_eq_false fun e => h (by rw [e])).symm
   · rintro sl ro gn ⟨s0, s1, s12, s13, q⟩
     dsimp only at s0 s1 s12 s13
     have hi' : ¬ ((xs.length : Nat) : Int) < (xs.length : Nat) := by omega
     simp (maxSteps := 10000000) (disch := first | assumption | omega) only [go_sem, ↓reduceIte, Nat.reduceEqDiff, reduceCtorEq, Nat.reduceAdd, Nat.reduceMul, Nat.reduceLeDiff, zfu, Int.mul_def, Int.add_def, zfv, cond_false, cond_true, isub, Int.reduceToNat, s0, s1, s12, s13, hi']
     simp only [zbj, zbk, retR, resL, outT, zes, zez, oneV, ↓zcy, ↓zcz, ↓reduceIte, Nat.reduceEqDiff, Option.some.injEq, AV.sc.injEq, Value.bool.injEq, Value.int.injEq, outL, outT, zft, zcp, zed, zef, zei, zeh, List.length_cons, List.length_nil, Nat.reduceAdd, Nat.zero_add, Nat.reduceLeDiff, List.drop_zero, List.take_succ_cons, List.take_zero, zfi, zfh, Ro.dl, zdb, zda, zfe, and_self, and_true, true_and, eq_self, List.append_nil, List.nil_append, List.cons_append, ne_eq, not_false_eq_true, and_false, false_and, Bool.false_eq_true, St.ev, zes, zfn, zhk, List.length_map]
     exact (decide_eq_true (eq_of_atI hl q)).symm
 · skip
   dsimp only [Tryz.f138, bodyOf, Option.getD]
   simp (maxSteps := 10000000) (disch := first | assumption | omega) only [go_sem, ↓reduceIte, Nat.reduceEqDiff, reduceCtorEq, Nat.reduceAdd, Nat.reduceMul, Nat.reduceLeDiff, zfu, Int.mul_def, Int.add_def, zfv, cond_false, cond_true, isub, Int.reduceToNat, s0, s1]
   simp only [zbj, zbk, retR, resL, outT, zes, zez, oneV, ↓zcy, ↓zcz, ↓reduceIte, Nat.reduceEqDiff, Option.some.injEq, AV.sc.injEq, Value.bool.injEq, Value.int.injEq, outL, outT, zft, zcp, zed, zef, zei, zeh, List.length_cons, List.length_nil, Nat.reduceAdd, Nat.zero_add, Nat.reduceLeDiff, List.drop_zero, List.take_succ_cons, List.take_zero, zfi, zfh, Ro.dl, zdb, zda, zfe, and_self, and_true, true_and, eq_self, List.append_nil, List.nil_append, List.cons_append, ne_eq, not_false_eq_true, and_false, false_and, Bool.false_eq_true, St.ev, zes, zfn, zhk, List.length_map]
   exact (decide_eq_false fun e => hl (by rw [e])).symm
theorem c158 {a b : AV} {xs ys : List (List Int)} (ha : isLL a xs) (hb : isLL b ys) (hx : xs.length ≤ maxN) (hr : ∀ i, i < xs.length → (row xs i).length ≤ maxN) : CallOK Tryz.prog 158 [a, b, .fn 138 []] (bo (decide (xs = ys))) := by
 have hx' : xs.length ≤ 4294967296 := hx
 refine call_of (fn := Tryz.f158) (code := bodyOf Tryz.f158) Tryz.func158 rfl (by kernel_rfl) (rfl) ?_
 intro sl hs
 have s0 : sl 0 = a := hs 0
 have s1 : sl 1 = b := hs 1
 have s2 : sl 2 = .fn 138 [] := hs 2
 by_cases hl : xs.length = ys.length
 · skip
   dsimp only [Tryz.f158, bodyOf, Option.getD]
   simp (maxSteps := 10000000) (disch := first | assumption | omega) only [go_sem, ↓reduceIte, Nat.reduceEqDiff, reduceCtorEq, Nat.reduceAdd, Nat.reduceMul, Nat.reduceLeDiff, zfu, Int.mul_def, Int.add_def, zfv, cond_false, cond_true, isub, Int.reduceToNat, s0, s1, s2]
   refine WK_for (fun i st => st.sl 0 = a ∧ st.sl 1 = b ∧ st.sl 2 = .fn 138 [] ∧ st.sl 15 = a ∧ st.sl 16 = i64 (xs.length : Int) ∧ st.sl 17 = i64 (i : Int) ∧ (∀ x, x < i → row xs x = row ys x)) xs.length ?_ ?_ ?_
   · simp only [↓zcy, ↓zcz, ↓zda, ↓zdb, ↓reduceIte, Nat.reduceEqDiff, and_true, true_and, and_self, ne_eq, not_false_eq_true, eq_self, false_and, and_false, reduceCtorEq, rws_zero, s0, s1, s2]
     exact ⟨rfl, lt0⟩
   · rintro i sl ro gn hi ⟨s0, s1, s2, s15, s16, s17, q⟩
     dsimp only at s0 s1 s2 s15 s16 s17
     have hi' : (i : Int) < (xs.length : Nat) := by omega
     have h1 := isLL_row ha hi
     have h2 := isLL_row hb (k := i) (by omega)
     simp (maxSteps := 10000000) (disch := first | assumption | omega) only [go_sem, ↓reduceIte, Nat.reduceEqDiff, reduceCtorEq, Nat.reduceAdd, Nat.reduceMul, Nat.reduceLeDiff, zfu, Int.mul_def, Int.add_def, zfv, cond_false, cond_true, isub, Int.reduceToNat, s0, s1, s2, s15, s16, s17, hi', hi]
     refine CLL_pure _ (c159 h1 h2 (hr i hi)) (by simp (disch := assumption) only [pureL, pureA, isL_pure, isLL_pure, isLLL_pure, pureL_map, Bool.and_self, Bool.and_true]) rfl rfl ?_
     simp (maxSteps := 10000000) (disch := first | assumption | omega) only [go_sem, ↓reduceIte, Nat.reduceEqDiff, reduceCtorEq, Nat.reduceAdd, Nat.reduceMul, Nat.reduceLeDiff, zfu, Int.mul_def, Int.add_def, zfv, cond_false, cond_true, isub, Int.reduceToNat, s0, s1, s2, s15, s16, s17, hi', hi]
     refine ⟨fun h => ⟨i64c (by omega), ltS q h⟩, fun h => ?_⟩
     simp only [zbj, zbk, retR, resL, outT, zes, zez, oneV, ↓zcy, ↓zcz, ↓reduceIte, Nat.reduceEqDiff, Option.some.injEq, AV.sc.injEq, Value.bool.injEq, Value.int.injEq, outL, outT, zft, zcp, zed, zef, zei, zeh, List.length_cons, List.length_nil, Nat.reduceAdd, Nat.zero_add, Nat.reduceLeDiff, List.drop_zero, List.take_succ_cons, List.take_zero, zfi, zfh, Ro.dl, zdb, zda, zfe, and_self, and_true, true_and, eq_self, List.append_nil, List.nil_append, List.cons_append, ne_eq, not_false_eq_true, and_false, false_and, Bool.false_eq_true, St.ev, zes, zfn, zhk, List.length_map]
     exact (decide_eq_false fun e => h (by rw [e])).symm
   · rintro sl ro gn ⟨s0, s1, s2, s15, s16, s17, q⟩
     dsimp only at s0 s1 s2 s15 s16 s17
     have hi' : ¬ ((xs.length : Nat) : Int) < (xs.length : Nat) := by omega
     simp (maxSteps := 10000000) (disch := first | assumption | omega) only [go_sem, ↓reduceIte, Nat.reduceEqDiff, reduceCtorEq, Nat.reduceAdd, Nat.reduceMul, Nat.reduceLeDiff, zfu, Int.mul_def, Int.add_def, zfv, cond_false, cond_true, isub, Int.reduceToNat, s0, s1, s2, s15, s16, s17, hi']
     simp only [zbj, zbk, retR, resL, outT, zes, zez, oneV, ↓zcy, ↓zcz, ↓reduceIte, Nat.reduceEqDiff, Option.some.injEq, AV.sc.injEq, Value.bool.injEq, Value.int.injEq, outL, outT, zft, zcp, zed, zef, zei, zeh, List.length_cons, List.length_nil, Nat.reduceAdd, Nat.zero_add, Nat.reduceLeDiff, List.drop_zero, List.take_succ_cons, List.take_zero, zfi, zfh, Ro.dl, zdb, zda, zfe, and_self, and_true, true_and, eq_self, List.append_nil, List.nil_append, List.cons_append, ne_eq, not_false_eq_true, and_false, false_and, Bool.false_eq_true, St.ev, zes, zfn, zhk, List.length_map]
     exact (decide_eq_true (isLs_inj hl q)).symm
 · skip
   dsimp only [Tryz.f158, bodyOf, Option.getD]
   simp (maxSteps := 10000000) (disch := first | assumption | omega) only [go_sem, ↓reduceIte, Nat.reduceEqDiff, reduceCtorEq, Nat.reduceAdd, Nat.reduceMul, Nat.reduceLeDiff, zfu, Int.mul_def, Int.add_def, zfv, cond_false, cond_true, isub, Int.reduceToNat, s0, s1, s2]
   simp only [zbj, zbk, retR, resL, outT, zes, zez, oneV, ↓zcy, ↓zcz, ↓reduceIte, Nat.reduceEqDiff, Option.some.injEq, AV.sc.injEq, Value.bool.injEq, Value.int.injEq, outL, outT, zft, zcp, zed, zef, zei, zeh, List.length_cons, List.length_nil, Nat.reduceAdd, Nat.zero_add, Nat.reduceLeDiff, List.drop_zero, List.take_succ_cons, List.take_zero, zfi, zfh, Ro.dl, zdb, zda, zfe, and_self, and_true, true_and, eq_self, List.append_nil, List.nil_append, List.cons_append, ne_eq, not_false_eq_true, and_false, false_and, Bool.false_eq_true, St.ev, zes, zfn, zhk, List.length_map]
   exact (decide_eq_false fun e => hl (by rw [e])).symm
theorem c141 {a b : AV} {xs ys : List (List Int)} (ha : isLL a xs) (hb : isLL b ys) (hx : xs.length ≤ maxN) (hr : ∀ i, i < xs.length → (row xs i).length ≤ maxN) : CallOK Tryz.prog 143 [a, b] (bo (decide (xs = ys))) := by
 refine call_of (fn := Tryz.f143) (code := bodyOf Tryz.f143) Tryz.func143 rfl (by kernel_rfl) (rfl) ?_
 intro sl hs
 have s0 : sl 0 = a := hs 0
 have s1 : sl 1 = b := hs 1
 dsimp only [Tryz.f143, bodyOf, Option.getD]
 simp (maxSteps := 10000000) (disch := first | assumption | omega) only [go_sem, ↓reduceIte, Nat.reduceEqDiff, reduceCtorEq, Nat.reduceAdd, Nat.reduceMul, Nat.reduceLeDiff, zfu, Int.mul_def, Int.add_def, zfv, cond_false, cond_true, isub, Int.reduceToNat, s0, s1]
 refine CLL_pure _ (c158 ha hb hx hr) (by simp (disch := assumption) only [pureL, pureA, isL_pure, isLL_pure, isLLL_pure, pureL_map, Bool.and_self, Bool.and_true]) rfl rfl ?_
 simp (maxSteps := 10000000) (disch := first | assumption | omega) only [go_sem, ↓reduceIte, Nat.reduceEqDiff, reduceCtorEq, Nat.reduceAdd, Nat.reduceMul, Nat.reduceLeDiff, zfu, Int.mul_def, Int.add_def, zfv, cond_false, cond_true, isub, Int.reduceToNat, s0, s1]
 simp only [zbj, zbk, retR, resL, outT, zes, zez, oneV, ↓zcy, ↓zcz, ↓reduceIte, Nat.reduceEqDiff, Option.some.injEq, AV.sc.injEq, Value.bool.injEq, Value.int.injEq, outL, outT, zft, zcp, zed, zef, zei, zeh, List.length_cons, List.length_nil, Nat.reduceAdd, Nat.zero_add, Nat.reduceLeDiff, List.drop_zero, List.take_succ_cons, List.take_zero, zfi, zfh, Ro.dl, zdb, zda, zfe, and_self, and_true, true_and, eq_self, List.append_nil, List.nil_append, List.cons_append, ne_eq, not_false_eq_true, and_false, false_and, Bool.false_eq_true, St.ev, zes, zfn, zhk, List.length_map]
theorem c160 {a : AV} {xs : List Int} {n : Int} (ha : isL a xs) (hx : xs.length ≤ maxN) : CallOK Tryz.prog 159 [a, i64 n] (i64 (ix xs n 0)) := by
 have hx' : xs.length ≤ 4294967296 := hx
 refine call_of (fn := Tryz.f159) (code := bodyOf Tryz.f159) Tryz.func159 rfl (by kernel_rfl) (rfl) ?_
 intro sl hs
 have s0 : sl 0 = a := hs 0
 have s1 : sl 1 = i64 n := hs 1
 dsimp only [Tryz.f159, bodyOf, Option.getD]
 simp (maxSteps := 10000000) (disch := first | assumption | omega) only [go_sem, ↓reduceIte, Nat.reduceEqDiff, reduceCtorEq, Nat.reduceAdd, Nat.reduceMul, Nat.reduceLeDiff, zfu, Int.mul_def, Int.add_def, zfv, cond_false, cond_true, isub, Int.reduceToNat, s0, s1]
 refine WK_for (fun k st => st.sl 0 = a ∧ st.sl 1 = i64 n ∧ st.sl 7 = i64 (xs.length : Int) ∧ st.sl 8 = i64 (k : Int) ∧ (∀ j, j < k → atI xs j ≠ n)) xs.length ?_ ?_ ?_
 · simp only [↓zcy, ↓zcz, ↓zda, ↓zdb, ↓reduceIte, Nat.reduceEqDiff, and_true, true_and, and_self, ne_eq, not_false_eq_true, eq_self, false_and, and_false, reduceCtorEq, rws_zero, s0, s1]
   exact ⟨rfl, lt0⟩
 · rintro k sl ro gn hk ⟨s0, s1, s7, s8, q⟩
   dsimp only at s0 s1 s7 s8
   have hk' : (k : Int) < (xs.length : Nat) := by omega
   simp (maxSteps := 10000000) (disch := first | assumption | omega) only [go_sem, ↓reduceIte, Nat.reduceEqDiff, reduceCtorEq, Nat.reduceAdd, Nat.reduceMul, Nat.reduceLeDiff, zfu, Int.mul_def, Int.add_def, zfv, cond_false, cond_true, isub, Int.reduceToNat, s0, s1, s7, s8, hk', hk]
   refine ⟨fun h => ?_, fun h => ⟨i64c (by omega), ltS q fun e => h e.symm⟩⟩
   simp only [zbj, zbk, retR, resL, outT, zes, zez, oneV, ↓zcy, ↓zcz, ↓reduceIte, Nat.reduceEqDiff, Option.some.injEq, AV.sc.injEq, Value.bool.injEq, Value.int.injEq, outL, outT, zft, zcp, zed, zef, zei, zeh, List.length_cons, List.length_nil, Nat.reduceAdd, Nat.zero_add, Nat.reduceLeDiff, List.drop_zero, List.take_succ_cons, List.take_zero, zfi, zfh, Ro.dl, zdb, zda, zfe, and_self, and_true, true_and, eq_self, List.append_nil, List.nil_append, List.cons_append, ne_eq, not_false_eq_true, and_false, false_and, Bool.false_eq_true, St.ev, zes, zfn, zhk, List.length_map]
   have := ix_some 0 hk h.symm q
   rw [this]; simp
 · rintro sl ro gn ⟨s0, s1, s7, s8, q⟩
   dsimp only at s0 s1 s7 s8
   have hk' : ¬ ((xs.length : Nat) : Int) < (xs.length : Nat) := by omega
   simp (maxSteps := 10000000) (disch := first | assumption | omega) only [go_sem, ↓reduceIte, Nat.reduceEqDiff, reduceCtorEq, Nat.reduceAdd, Nat.reduceMul, Nat.reduceLeDiff, zfu, Int.mul_def, Int.add_def, zfv, cond_false, cond_true, isub, Int.reduceToNat, s0, s1, s7, s8, hk']
   simp only [zbj, zbk, retR, resL, outT, zes, zez, oneV, ↓zcy, ↓zcz, ↓reduceIte, Nat.reduceEqDiff, Option.some.injEq, AV.sc.injEq, Value.bool.injEq, Value.int.injEq, outL, outT, zft, zcp, zed, zef, zei, zeh, List.length_cons, List.length_nil, Nat.reduceAdd, Nat.zero_add, Nat.reduceLeDiff, List.drop_zero, List.take_succ_cons, List.take_zero, zfi, zfh, Ro.dl, zdb, zda, zfe, and_self, and_true, true_and, eq_self, List.append_nil, List.nil_append, List.cons_append, ne_eq, not_false_eq_true, and_false, false_and, Bool.false_eq_true, St.ev, zes, zfn, zhk, List.length_map]
   exact (ix_none 0 q).symm
theorem c142 {a : AV} {xs : List Int} {n : Int} (ha : isL a xs) (hx : xs.length ≤ maxN) : CallOK Tryz.prog 145 [a, i64 n] (bo (decide (0 ≤ ix xs n 0))) := by
 refine call_of (fn := Tryz.f145) (code := bodyOf Tryz.f145) Tryz.func145 rfl (by kernel_rfl) (rfl) ?_
 intro sl hs
 have s0 : sl 0 = a := hs 0
 have s1 : sl 1 = i64 n := hs 1
 dsimp only [Tryz.f145, bodyOf, Option.getD]
 simp (maxSteps := 10000000) (disch := first | assumption | omega) only [go_sem, ↓reduceIte, Nat.reduceEqDiff, reduceCtorEq, Nat.reduceAdd, Nat.reduceMul, Nat.reduceLeDiff, zfu, Int.mul_def, Int.add_def, zfv, cond_false, cond_true, isub, Int.reduceToNat, s0, s1]
 refine CLL_pure _ (c160 ha hx) (by simp (disch := assumption) only [pureL, pureA, isL_pure, isLL_pure, isLLL_pure, pureL_map, Bool.and_self, Bool.and_true]) rfl rfl ?_
 simp (maxSteps := 10000000) (disch := first | assumption | omega) only [go_sem, ↓reduceIte, Nat.reduceEqDiff, reduceCtorEq, Nat.reduceAdd, Nat.reduceMul, Nat.reduceLeDiff, zfu, Int.mul_def, Int.add_def, zfv, cond_false, cond_true, isub, Int.reduceToNat, s0, s1]
 simp only [zbj, zbk, retR, resL, outT, zes, zez, oneV, ↓zcy, ↓zcz, ↓reduceIte, Nat.reduceEqDiff, Option.some.injEq, AV.sc.injEq, Value.bool.injEq, Value.int.injEq, outL, outT, zft, zcp, zed, zef, zei, zeh, List.length_cons, List.length_nil, Nat.reduceAdd, Nat.zero_add, Nat.reduceLeDiff, List.drop_zero, List.take_succ_cons, List.take_zero, zfi, zfh, Ro.dl, zdb, zda, zfe, and_self, and_true, true_and, eq_self, List.append_nil, List.nil_append, List.cons_append, ne_eq, not_false_eq_true, and_false, false_and, Bool.false_eq_true, St.ev, zes, zfn, zhk, List.length_map]
 rw [← decide_not]
 exact decide_eq_decide.2 (by omega)
end Go.Proofs.YtgcnmlecihegcaaGreat
