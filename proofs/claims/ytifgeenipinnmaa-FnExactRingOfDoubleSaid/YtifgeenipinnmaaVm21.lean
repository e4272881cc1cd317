/- The interpreter: laws for symbolic runs. -/
import Derived.Test.YtifgeenipinnmaaVm20
set_option linter.all false
namespace Go.Proofs.Ytifgeenipinnmaa
open Go.RowKit

abbrev i64 (n : Int) : AV := .sc (.int .i64 n)
abbrev bo (b : Bool) : AV := .sc (.bool b)

theorem slAt_slPut (l : List AV) (k j : Nat) (v : AV) : slAt (slPut l k v) j = if j = k then v else slAt l j := by
  rw [slAt_put]; rfl

theorem zfu {x : Int} (h1 : -9223372036854775808 ≤ x) (h2 : x ≤ 9223372036854775807) : wrF x = x := by
  have : inI64 x = true := by
    cases x with
    | ofNat m => simp only [inI64, Nat.ble_eq]; simp only [Int.ofNat_eq_natCast] at h2; omega
    | negSucc m => simp only [inI64, Nat.ble_eq]; omega
  simp [wrF, this]

theorem ltI_true {a b : Int} (h : a < b) : ltI a b = true := by rw [zea]; simp [h]
theorem ltI_false {a b : Int} (h : b ≤ a) : ltI a b = false := by rw [zea]; simp; exact h
theorem eqI_true {a b : Int} (h : a = b) : eqI a b = true := by rw [zeb]; simp [h]
theorem eqI_false {a b : Int} (h : a ≠ b) : eqI a b = false := by rw [zeb]; simp [h]
theorem zfv {b : Int} (h : b ≠ 0) : isZ b = false := by
  cases hb : isZ b with
  | false => rfl
  | true =>
    cases b with
    | ofNat m => simp only [isZ] at hb; have := Nat.eq_of_beq_eq_true hb; subst this; exact absurd rfl h
    | negSucc m => simp [isZ] at hb

def loopOf : Code → Code
  | .seq a b => match loopOf a with
    | .skip => loopOf b
    | c => c
  | .block _ c => loopOf c
  | .loop c => c
  | _ => .skip

def bodyOf (f : Func) : Code := f.body.getD .skip

/-- A part of the code, by its path. -/
def cAt : List Nat → Code → Code
  | [], c => c
  | 0 :: p, .seq a _ => cAt p a
  | _ :: p, .seq _ b => cAt p b
  | 0 :: p, .cond _ x _ => cAt p x
  | _ :: p, .cond _ _ y => cAt p y
  | _ :: p, .block _ c => cAt p c
  | _ :: p, .loop c => cAt p c
  | _ :: _, c => c

/-- The code writes slot j nowhere. -/
def notDst (j : Nat) : Code → Bool
  | .region _ ops _ => ops.toList.all fun o => match o.dst with
    | some d => !(Nat.beq d j)
    | none => true
  | .seq a b => notDst j a && notDst j b
  | .cond _ x y => notDst j x && notDst j y
  | .block _ c => notDst j c
  | .loop c => notDst j c
  | _ => true

section
variable {E : EC} {ti : Nat → Option TI} {j : Nat}

theorem HS.eff_sl (h : HS) (e : Eff) : (h.eff e).sl = h.sl := by
  have : ∀ (l : List (Nat × AV)) (h : HS), (alH h l).sl = h.sl := by
    intro l
    induction l with
    | nil => intro h; rfl
    | cons x l ih => intro h; obtain ⟨s, a⟩ := x; simp only [alH]; rw [ih]
  exact this _ _

theorem put_keep {h : HS} {d : Option Tmp} {v : AV} (hd : (match d with | some d => !(Nat.beq d j) | none => true) = true) : slAt (h.put d v).sl j = slAt h.sl j := by
  cases d with
  | none => rfl
  | some d =>
    simp only [HS.put, slAt_slPut]
    rw [if_neg]
    rintro rfl
    simp [Nat.beq_refl] at hd

theorem evOps_keep (rid : Nat) (ops : Array Oper) : ∀ (l : List Oper) (i : Nat) {h h' : HS}, (l.all fun o => match o.dst with | some d => !(Nat.beq d j) | none => true) = true → evOps E ti rid ops l i h = some h' → slAt h'.sl j = slAt h.sl j
  | [], i, h, h', _, he => by simp only [evOps, Option.some.injEq] at he; subst he; rfl
  | o :: rest, i, h, h', hd, he => by
    simp only [List.all_cons, Bool.and_eq_true] at hd
    simp only [evOps] at he
    cases hw : zbl ops o h.st with
    | none => simp [hw] at he
    | some t =>
      cases t
      · simp only [hw] at he
        rw [evOps_keep rid ops rest (i + 1) hd.2 he]; exact put_keep hd.1
      · simp only [hw] at he
        cases hif : inF E h o.op with
        | some f =>
          simp only [hif] at he
          cases hie : inE E f h o.op with
          | none => simp [hie] at he
          | some q =>
            obtain ⟨r, hp', gn'⟩ := q
            simp only [hie] at he
            rw [evOps_keep rid ops rest (i + 1) hd.2 he, put_keep hd.1]
        | none =>
         simp only [hif] at he
         cases ho : opE E.call ti (site rid i) h.st o.op with
         | none => simp [ho] at he
         | some e =>
           simp only [ho] at he
           rw [evOps_keep rid ops rest (i + 1) hd.2 he, put_keep hd.1, HS.eff_sl]

theorem evOpsD_keep (rid : Nat) (ops : Array Oper) : ∀ (l : List Oper) (i : Nat) {acc fp : List FP} {h h' : HS}, (l.all fun o => match o.dst with | some d => !(Nat.beq d j) | none => true) = true → evOpsD E ti rid ops l i acc h = some (h', fp) → slAt h'.sl j = slAt h.sl j
  | [], i, acc, fp, h, h', _, he => by simp only [evOpsD, Option.some.injEq, Prod.mk.injEq] at he; obtain ⟨rfl, _⟩ := he; rfl
  | o :: rest, i, acc, fp, h, h', hd, he => by
    simp only [List.all_cons, Bool.and_eq_true] at hd
    simp only [evOpsD] at he
    cases hw : zbl ops o h.st with
    | none => simp [hw] at he
    | some t =>
      cases t
      · simp only [hw] at he
        rw [evOpsD_keep rid ops rest (i + 1) hd.2 he]; exact put_keep hd.1
      · simp only [hw] at he
        cases ho : opE E.call ti (site rid i) h.st o.op with
        | none => simp [ho] at he
        | some e =>
          simp only [ho] at he
          rw [evOpsD_keep rid ops rest (i + 1) hd.2 he, put_keep hd.1, HS.eff_sl]

theorem evC_keep : ∀ (code : Code) {h h' : HS} {e : Exit}, notDst j code = true → evC E ti code h = some (e, h') → slAt h'.sl j = slAt h.sl j := by
  intro code
  induction code with
  | skip => intro h h' e _ he; simp only [evC, Option.some.injEq, Prod.mk.injEq] at he; rw [← he.2]
  | exit id => intro h h' e _ he; simp only [evC, Option.some.injEq, Prod.mk.injEq] at he; rw [← he.2]
  | ret => intro h h' e _ he; simp only [evC, Option.some.injEq, Prod.mk.injEq] at he; rw [← he.2]
  | region id ops d =>
    intro h h' e hd he
    cases d with
    | false =>
      simp only [evC] at he
      split at he
      · rename_i h1 hev
        simp only [Option.some.injEq, Prod.mk.injEq] at he
        obtain ⟨rfl, rfl⟩ := he
        exact evOps_keep id ops _ 0 hd hev
      · cases he
    | true =>
      simp only [evC] at he
      split at he
      · rename_i h1 fp hev
        split at he
        · simp only [Option.some.injEq, Prod.mk.injEq] at he
          obtain ⟨rfl, rfl⟩ := he
          exact evOpsD_keep id ops _ 0 hd hev
        · cases he
      · cases he
  | seq x y ihx ihy =>
    intro h h' e hd he
    simp only [notDst, Bool.and_eq_true] at hd
    simp only [evC] at he
    cases hx : evC E ti x h with
    | none => simp [hx] at he
    | some q =>
      obtain ⟨e1, h1⟩ := q
      have k1 := ihx hd.1 hx
      cases e1 with
      | normal => simp only [hx] at he; rw [ihy hd.2 he, k1]
      | _ => simp only [hx, Option.some.injEq, Prod.mk.injEq] at he; obtain ⟨rfl, rfl⟩ := he; exact k1
  | cond c x y ihx ihy =>
    intro h h' e hd he
    simp only [notDst, Bool.and_eq_true] at hd
    simp only [evC] at he
    split at he
    · exact ihx hd.1 he
    · exact ihy hd.2 he
    · cases he
  | block id x ih =>
    intro h h' e hd he
    simp only [notDst] at hd
    simp only [evC] at he
    cases hx : evC E ti x h with
    | none => simp [hx] at he
    | some q =>
      obtain ⟨e1, h1⟩ := q
      have k1 := ih hd hx
      cases e1 with
      | exit j =>
        simp only [hx] at he
        split at he <;> (simp only [Option.some.injEq, Prod.mk.injEq] at he; obtain ⟨rfl, rfl⟩ := he; exact k1)
      | _ => simp only [hx, Option.some.injEq, Prod.mk.injEq] at he; obtain ⟨rfl, rfl⟩ := he; exact k1
  | loop x ih =>
    intro h h' e hd he
    simp only [notDst] at hd
    simp only [evC] at he
    have : ∀ (n : Nat) {h : HS}, loopE (evC E ti x) n h = some (e, h') → slAt h'.sl j = slAt h.sl j := by
      intro n
      induction n with
      | zero => intro h hl; simp [loopE] at hl
      | succ n ihn =>
        intro h hl
        simp only [loopE] at hl
        cases hx : evC E ti x h with
        | none => simp [hx] at hl
        | some q =>
          obtain ⟨e1, h2⟩ := q
          have k1 := ih hd hx
          cases e1 with
          | normal => simp only [hx] at hl; rw [ihn hl, k1]
          | _ => simp only [hx, Option.some.injEq, Prod.mk.injEq] at hl; obtain ⟨rfl, rfl⟩ := hl; exact k1
    exact this _ he
  | _ => intro h h' e _ he; simp [evC] at he

theorem loop_keep (x : Code) (hd : notDst j x = true) : ∀ (n : Nat) {h h' : HS} {e : Exit}, loopE (evC E ti x) n h = some (e, h') → slAt h'.sl j = slAt h.sl j := by
  intro n
  induction n with
  | zero => intro h h' e hl; simp [loopE] at hl
  | succ n ihn =>
    intro h h' e hl
    simp only [loopE] at hl
    cases hx : evC E ti x h with
    | none => simp [hx] at hl
    | some q =>
      obtain ⟨e1, h2⟩ := q
      have k1 := evC_keep x hd hx
      cases e1 with
      | normal => simp only [hx] at hl; rw [ihn hl, k1]
      | _ => simp only [hx, Option.some.injEq, Prod.mk.injEq] at hl; obtain ⟨rfl, rfl⟩ := hl; exact k1

theorem loopE_mono {body : HS → Option (Exit × HS)} : ∀ {n m : Nat} {h : HS} {r : Exit × HS}, loopE body n h = some r → n ≤ m → loopE body m h = some r
  | 0, _, _, _, h, _ => by simp [loopE] at h
  | n + 1, 0, _, _, _, hm => by omega
  | n + 1, m + 1, h, r, hl, hm => by
    simp only [loopE] at hl ⊢
    cases hx : body h with
    | none => simp [hx] at hl
    | some q =>
      obtain ⟨e, h'⟩ := q
      cases e <;> simp only [hx] at hl ⊢
      case normal => exact loopE_mono hl (by omega)
      all_goals exact hl

theorem loopE_fuel {body : HS → Option (Exit × HS)} {n : Nat} {h : HS} {r : Exit × HS} (hl : loopE body n h = some r) (hn : n ≤ loopFuel) : loopE body loopFuel h = some r := loopE_mono hl hn

theorem bodyE_run {P : Program} {f : Nat} {fn : Func} {code : Code} {args : List AV} {h : HS} {r : AV} {e : Exit} (hf : P.funcs[f]? = some fn) (hb : fn.body = some code)
    (hok : (!(fn.name == "runtime.NumGoroutine") && dstOK fn.ntmps code && decide (args.length ≤ fn.ntmps)) = true) (hev : evC E ti code ⟨args, [], []⟩ = some (e, h)) (he : e = .normal ∨ e = .ret)
    (hr : retR ti fn.results.toList h.st = some r) (hn : noRef r = true) : bodyE P ti E f args = some r := by
  unfold bodyE
  simp only [hf, hb]
  rw [if_pos hok, hev]
  rcases he with rfl | rfl <;> simp [hr, hn]

end

end Go.Proofs.Ytifgeenipinnmaa
