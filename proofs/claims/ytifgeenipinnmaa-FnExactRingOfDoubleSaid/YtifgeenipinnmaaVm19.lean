/- The abstract machine, run: an interpreter; what it answers holds of the model. -/
import Derived.Test.YtifgeenipinnmaaVm18
import Derived.Test.YtifgeenipinnmaaVm18b
set_option linter.all false
namespace Go.Proofs.Ytifgeenipinnmaa
open Go.RowKit

/-- The machine's state, in lists. -/
structure HS where
  sl : List AV
  hp : List (Nat × Nat × AV)
  gn : List (Nat × Nat)

def hpAt : List (Nat × Nat × AV) → Ro
  | [], _, _ => none
  | (s, g, a) :: r, s', g' => cond (Nat.beq s s') (cond (Nat.beq g g') (some a) (hpAt r s' g')) (hpAt r s' g')

def gnAt : List (Nat × Nat) → Nat → Nat
  | [], _ => 0
  | (s, g) :: r, s' => cond (Nat.beq s s') g (gnAt r s')

def slAt : List AV → Nat → AV
  | [], _ => .sc undef
  | a :: _, 0 => a
  | _ :: r, k + 1 => slAt r k

def HS.st (h : HS) : St := ⟨slAt h.sl, hpAt h.hp, gnAt h.gn⟩

def slPut : List AV → Nat → AV → List AV
  | [], 0, v => [v]
  | [], k + 1, v => .sc undef :: slPut [] k v
  | _ :: r, 0, v => v :: r
  | a :: r, k + 1, v => a :: slPut r k v

def hpPut : List (Nat × Nat × AV) → Nat → Nat → AV → List (Nat × Nat × AV)
  | [], s, g, a => [(s, g, a)]
  | (s', g', a') :: r, s, g, a => cond (Nat.beq s s') (cond (Nat.beq g g') ((s', g', a) :: r) ((s', g', a') :: hpPut r s g a)) ((s', g', a') :: hpPut r s g a)

def gnPut : List (Nat × Nat) → Nat → Nat → List (Nat × Nat)
  | [], s, g => [(s, g)]
  | (s', g') :: r, s, g => cond (Nat.beq s s') ((s', g) :: r) ((s', g') :: gnPut r s g)

theorem beq_iff {a b : Nat} : Nat.beq a b = true ↔ a = b := ⟨Nat.eq_of_beq_eq_true, fun h => by subst h; exact Nat.beq_refl _⟩

theorem slAt_put : ∀ (l : List AV) (k : Nat) (v : AV), slAt (slPut l k v) = upd (slAt l) k v
  | [], 0, v => by funext j; cases j <;> simp [slPut, slAt, upd]
  | [], k + 1, v => by
    funext j
    cases j with
    | zero => simp [slPut, slAt, upd]
    | succ j =>
      simp only [slPut, slAt, slAt_put [] k v, upd]
      by_cases e : j = k <;> simp [e]
  | a :: r, 0, v => by funext j; cases j <;> simp [slPut, slAt, upd]
  | a :: r, k + 1, v => by
    funext j
    cases j with
    | zero => simp [slPut, slAt, upd]
    | succ j =>
      simp only [slPut, slAt, slAt_put r k v, upd]
      by_cases e : j = k <;> simp [e]

theorem hpAt_put : ∀ (l : List (Nat × Nat × AV)) (s g : Nat) (a : AV), hpAt (hpPut l s g a) = upr (hpAt l) s g a
  | [], s, g, a => by
    funext s' g'
    simp only [hpPut, hpAt, upr]
    by_cases h1 : s = s'
    · by_cases h2 : g = g'
      · simp [h1, h2, beq_iff.2]
      · have : Nat.beq g g' = false := by cases h : Nat.beq g g' with | false => rfl | true => exact absurd (beq_iff.1 h) h2
        simp [h1, this, Ne.symm h2]
    · have : Nat.beq s s' = false := by cases h : Nat.beq s s' with | false => rfl | true => exact absurd (beq_iff.1 h) h1
      simp [this, Ne.symm h1]
  | (s1, g1, a1) :: r, s, g, a => by
    funext s' g'
    have ih := congrFun (congrFun (hpAt_put r s g a) s') g'
    simp only [hpPut]
    cases h1 : Nat.beq s s1 with
    | true =>
      have := beq_iff.1 h1; subst this
      cases h2 : Nat.beq g g1 with
      | true =>
        have := beq_iff.1 h2; subst this
        simp only [cond_true, hpAt, upr]
        cases h3 : Nat.beq s s' with
        | true =>
          have := beq_iff.1 h3; subst this
          cases h4 : Nat.beq g g' with
          | true => have := beq_iff.1 h4; subst this; simp
          | false =>
            have : g' ≠ g := fun e => by rw [e, Nat.beq_refl] at h4; cases h4
            simp [this]
        | false =>
          have : s' ≠ s := fun e => by rw [e, Nat.beq_refl] at h3; cases h3
          simp [this]
      | false =>
        simp only [cond_true, cond_false, hpAt, ih, upr]
        cases h3 : Nat.beq s s' with
        | true =>
          have := beq_iff.1 h3; subst this
          cases h4 : Nat.beq g1 g' with
          | true =>
            have := beq_iff.1 h4; subst this
            have : g1 ≠ g := fun e => by rw [e, Nat.beq_refl] at h2; cases h2
            simp [this]
          | false => simp
        | false => simp
    | false =>
      simp only [cond_false, hpAt, ih, upr]
      cases h3 : Nat.beq s1 s' with
      | true =>
        have := beq_iff.1 h3; subst this
        have : s1 ≠ s := fun e => by rw [e, Nat.beq_refl] at h1; cases h1
        cases h4 : Nat.beq g1 g' <;> simp [this]
      | false => simp

theorem gnAt_put : ∀ (l : List (Nat × Nat)) (s g : Nat), gnAt (gnPut l s g) = upg (gnAt l) s g
  | [], s, g => by
    funext s'
    simp only [gnPut, gnAt, upg]
    by_cases h1 : s = s'
    · simp [h1, beq_iff.2]
    · have : Nat.beq s s' = false := by cases h : Nat.beq s s' with | false => rfl | true => exact absurd (beq_iff.1 h) h1
      simp [this, Ne.symm h1]
  | (s1, g1) :: r, s, g => by
    funext s'
    have ih := congrFun (gnAt_put r s g) s'
    simp only [gnPut]
    cases h1 : Nat.beq s s1 with
    | true =>
      have := beq_iff.1 h1; subst this
      simp only [cond_true, gnAt, upg]
      cases h3 : Nat.beq s s' with
      | true => have := beq_iff.1 h3; subst this; simp
      | false =>
        have : s' ≠ s := fun e => by rw [e, Nat.beq_refl] at h3; cases h3
        simp [this]
    | false =>
      simp only [cond_false, gnAt, ih, upg]
      cases h3 : Nat.beq s1 s' with
      | true =>
        have := beq_iff.1 h3; subst this
        have : s1 ≠ s := fun e => by rw [e, Nat.beq_refl] at h1; cases h1
        simp [this]
      | false => simp

def wrH (hp : List (Nat × Nat × AV)) (x : Wr) : List (Nat × Nat × AV) := match hpAt hp x.s x.g with
  | some a => hpPut hp x.s x.g (putR (setL x.i x.as) x.p a)
  | none => hp

def wrOH (hp : List (Nat × Nat × AV)) : Option Wr → List (Nat × Nat × AV)
  | none => hp
  | some x => wrH hp x

def dlH : List (Nat × Nat × AV) → List (Nat × Nat) → List (Nat × Nat × AV)
  | hp, [] => hp
  | hp, (s, g) :: r => dlH (hpPut hp s g .dead) r

def alH : HS → List (Nat × AV) → HS
  | h, [] => h
  | h, (s, a) :: r => alH { h with hp := (s, gnAt h.gn s + 1, a) :: h.hp, gn := gnPut h.gn s (gnAt h.gn s + 1) } r

def HS.eff (h : HS) (e : Eff) : HS := alH { h with hp := dlH (wrOH h.hp e.wr) e.dl } e.al

def HS.put (h : HS) (d : Option Tmp) (v : AV) : HS := match d with
  | some d => { h with sl := slPut h.sl d v }
  | none => h

theorem wrH_ok (hp : List (Nat × Nat × AV)) (x : Wr) : hpAt (wrH hp x) = (hpAt hp).wr x := by
  unfold wrH Ro.wr
  cases hpAt hp x.s x.g with
  | none => rfl
  | some a => exact hpAt_put _ _ _ _

theorem dlH_ok : ∀ (l : List (Nat × Nat)) (hp : List (Nat × Nat × AV)), hpAt (dlH hp l) = (hpAt hp).dl l
  | [], _ => rfl
  | (s, g) :: r, hp => by simp only [dlH, Ro.dl]; rw [dlH_ok r, hpAt_put]

theorem alH_ok : ∀ (l : List (Nat × AV)) (h : HS), (alH h l).st = h.st.al l
  | [], _ => rfl
  | (s, a) :: r, h => by
    simp only [alH, St.al]
    rw [alH_ok r]
    congr 1
    simp only [HS.st, gnAt_put]
    congr 1
    funext s' g'
    simp only [hpAt, upr]
    cases h1 : Nat.beq s s' with
    | true =>
      have := beq_iff.1 h1; subst this
      cases h2 : Nat.beq (gnAt h.gn s + 1) g' with
      | true => have := beq_iff.1 h2; subst this; simp
      | false =>
        have : g' ≠ gnAt h.gn s + 1 := fun e => by rw [e, Nat.beq_refl] at h2; cases h2
        simp [this]
    | false =>
      have : s' ≠ s := fun e => by rw [e, Nat.beq_refl] at h1; cases h1
      simp [this]

theorem HS.eff_ok (h : HS) (e : Eff) : (h.eff e).st = h.st.eff e := by
  unfold HS.eff St.eff
  rw [alH_ok]
  congr 1
  simp only [HS.st, dlH_ok]
  congr 2
  cases e.wr with
  | none => rfl
  | some x => exact wrH_ok _ _

theorem HS.put_ok (h : HS) (d : Option Tmp) (v : AV) : (h.put d v).st = h.st.put d v := by
  cases d with
  | none => rfl
  | some d => simp only [HS.put, HS.st, St.put, slAt_put]

/-! ### The interpreter -/

/-- What the interpreter is given: known functions; functions that work in their caller's memory, and which these are. -/
structure EC where
  call : Nat → List AV → Option AV
  inl : Nat → List AV → List (Nat × Nat × AV) → List (Nat × Nat) → Option (AV × List (Nat × Nat × AV) × List (Nat × Nat))
  isIn : Nat → Bool

def callE (call : Nat → List AV → Option AV) (b : Nat) (st : St) (f : Nat) (args : List AV) : Option Eff :=
  if pureL args then match call f args with
    | some r => if impOK r then some ⟨(imp b st.gn r).1, none, [], (imp b st.gn r).2⟩ else none
    | none => none
  else match call f (args.map (ex st.ro 8)) with
    | some r => if impOK r && noI r then some ⟨(imp b st.gn r).1, none, [], (imp b st.gn r).2⟩ else none
    | none => none

def opE (call : Nat → List AV → Option AV) (ti : Nat → Option TI) (b : Nat) (st : St) (op : Op) : Option Eff := match op with
  | .call c => match c.callee with
    | .value f => match st.ev f with
      | .fn f caps => callE call b st f (c.args.toList.map st.ev ++ caps)
      | _ => none
    | _ => kCall ti b st.ro st.gn st.ev c
  | op => opK ti b st.ro st.gn st.ev op

/-- Is the operation a call of a function that works in its caller's memory? -/
def inF (E : EC) (h : HS) (op : Op) : Option Nat := match op with
  | .call c => match c.callee with
    | .value f => match h.st.ev f with
      | .fn f _ => cond (E.isIn f) (some f) none
      | _ => none
    | _ => none
  | _ => none

def inE (E : EC) (f : Nat) (h : HS) (op : Op) : Option (AV × List (Nat × Nat × AV) × List (Nat × Nat)) := match op with
  | .call c => match c.callee with
    | .value x => match h.st.ev x with
      | .fn f' caps => if f' = f then E.inl f' (c.args.toList.map h.st.ev ++ caps) h.hp h.gn else none
      | _ => none
    | _ => none
  | _ => none

def evOps (E : EC) (ti : Nat → Option TI) (rid : Nat) (ops : Array Oper) : List Oper → Nat → HS → Option HS
  | [], _, h => some h
  | o :: rest, i, h => match zbl ops o h.st with
    | some true => match inF E h o.op with
     | some f => match inE E f h o.op with
      | some (r, hp', gn') => evOps E ti rid ops rest (i + 1) ((⟨h.sl, hp', gn'⟩ : HS).put o.dst r)
      | none => none
     | none => match opE E.call ti (site rid i) h.st o.op with
      | some e => evOps E ti rid ops rest (i + 1) ((h.eff e).put o.dst e.v)
      | none => none
    | some false => evOps E ti rid ops rest (i + 1) (h.put o.dst (.sc undef))
    | none => none

def evOpsD (E : EC) (ti : Nat → Option TI) (rid : Nat) (ops : Array Oper) : List Oper → Nat → List FP → HS → Option (HS × List FP)
  | [], _, acc, h => some (h, acc.reverse)
  | o :: rest, i, acc, h => match zbl ops o h.st with
    | some true => match opE E.call ti (site rid i) h.st o.op with
      | some e => evOpsD E ti rid ops rest (i + 1) (⟨rdR h.st.ro h.st.ev o.op, e.sites⟩ :: acc) ((h.eff e).put o.dst e.v)
      | none => none
    | some false => evOpsD E ti rid ops rest (i + 1) (⟨some [], []⟩ :: acc) (h.put o.dst (.sc undef))
    | none => none

def loopE (body : HS → Option (Exit × HS)) : Nat → HS → Option (Exit × HS)
  | 0, _ => none
  | n + 1, h => match body h with
    | some (.normal, h') => loopE body n h'
    | r => r

def loopFuel : Nat := 100000

def evC (E : EC) (ti : Nat → Option TI) : Code → HS → Option (Exit × HS)
  | .skip, h => some (.normal, h)
  | .region id ops false, h => match evOps E ti id ops ops.toList 0 h with
    | some h' => some (.normal, h')
    | none => none
  | .region id ops true, h => match evOpsD E ti id ops ops.toList 0 [] h with
    | some (h', fp) => if okD ops fp then some (.normal, h') else none
    | none => none
  | .seq a b, h => match evC E ti a h with
    | some (.normal, h') => evC E ti b h'
    | r => r
  | .cond c x y, h => match h.st.ev c with
    | .sc (.bool true) => evC E ti x h
    | .sc (.bool false) => evC E ti y h
    | _ => none
  | .block id c, h => match evC E ti c h with
    | some (.exit j, h') => if j = id then some (.normal, h') else some (.exit j, h')
    | r => r
  | .loop c, h => loopE (evC E ti c) loopFuel h
  | .exit id, h => some (.exit id, h)
  | .ret, h => some (.ret, h)
  | _, _ => none

def bodyE (P : Program) (ti : Nat → Option TI) (E : EC) (f : Nat) (args : List AV) : Option AV := match P.funcs[f]? with
  | some fn => match fn.body with
    | some code => if !(fn.name == "runtime.NumGoroutine") && dstOK fn.ntmps code && decide (args.length ≤ fn.ntmps) then (match evC E ti code ⟨args, [], []⟩ with
      | some (.normal, h) => match retR ti fn.results.toList h.st with
        | some r => if noRef r then some r else none
        | none => none
      | some (.ret, h) => match retR ti fn.results.toList h.st with
        | some r => if noRef r then some r else none
        | none => none
      | _ => none) else none
    | none => none
  | none => none

def bodyI (P : Program) (ti : Nat → Option TI) (E : EC) (f : Nat) (args : List AV) (hp : List (Nat × Nat × AV)) (gn : List (Nat × Nat)) : Option (AV × List (Nat × Nat × AV) × List (Nat × Nat)) := match P.funcs[f]? with
  | some fn => match fn.body with
    | some code => if !(fn.name == "runtime.NumGoroutine") && dstOK fn.ntmps code && decide (args.length ≤ fn.ntmps) then (match evC E ti code ⟨args, hp, gn⟩ with
      | some (.normal, h) => match resL ti h.st fn.results.toList with
        | some xs => some (oneOrA xs, h.hp, h.gn)
        | none => none
      | some (.ret, h) => match resL ti h.st fn.results.toList with
        | some xs => some (oneOrA xs, h.hp, h.gn)
        | none => none
      | _ => none) else none
    | none => none
  | none => none

/-- The known functions K first; then those that the calls' depth leaves. -/
def callB (P : Program) (ti : Nat → Option TI) (K : Nat → List AV → Option AV) (isIn : Nat → Bool) : Nat → EC
  | 0 => ⟨K, fun _ _ _ _ => none, isIn⟩
  | n + 1 => ⟨fun f args => match K f args with
    | some r => some r
    | none => bodyE P ti (callB P ti K isIn n) f args, fun f args hp gn => bodyI P ti (callB P ti K isIn n) f args hp gn, isIn⟩

def callF (P : Program) (ti : Nat → Option TI) (K : Nat → List AV → Option AV) (isIn : Nat → Bool) (n : Nat) : Nat → List AV → Option AV := (callB P ti K isIn n).call

section
variable {C : Cfg} {call : Nat → List AV → Option AV} {E : EC}

theorem opE_ok (hc : ∀ f args r, call f args = some r → CallOK C.P f args r) {b : Nat} {st : St} {op : Op} {e : Eff} (h : opE call C.ti b st op = some e) : opR C b st op e := by
  unfold opE at h
  unfold opR
  split at h
  · rename_i cl
    split at h
    · rename_i f hf
      simp only [hf]
      split at h
      · rename_i f' caps hfe
        simp only [hfe]
        unfold callE at h
        unfold callR
        split at h
        · rename_i hp
          rw [if_pos hp]
          split at h
          · rename_i r hr
            split at h
            · rename_i hi
              exact ⟨r, hc _ _ _ hr, hi, (Option.some.inj h).symm⟩
            · cases h
          · cases h
        · rename_i hp
          rw [if_neg hp]
          split at h
          · rename_i r hr
            split at h
            · rename_i hi
              simp only [Bool.and_eq_true] at hi
              exact ⟨r, hc _ _ _ hr, hi.1, hi.2, (Option.some.inj h).symm⟩
            · cases h
          · cases h
      · cases h
    · rename_i hne
      simp only
      have hk : kCall C.ti b st.ro st.gn st.ev cl = opC C.ti b st.ro st.gn st.ev (.call cl) := opK_eq C.ti b st.ro st.gn st.ev (.call cl)
      rw [hk] at h
      cases hcl : cl.callee with
      | value f => exact absurd hcl (hne f)
      | invoke r m => exact h
      | builtin bi => exact h
  · rename_i hne
    rw [opK_eq] at h
    split
    · rename_i cl; exact absurd rfl (hne cl)
    · exact h

theorem evOps_ok (hc : ∀ f args r, E.call f args = some r → CallOK C.P f args r) (hi : ∀ f args hp gn r hp' gn', E.inl f args hp gn = some (r, hp', gn') → C.inl f args (hpAt hp) (gnAt gn) r (hpAt hp') (gnAt gn')) (rid : Nat) (ops : Array Oper) : ∀ (l : List Oper) (i : Nat) {h h' : HS} {Q : St → Prop}, evOps E C.ti rid ops l i h = some h' → Q h'.st → opsW C rid ops l i Q h.st
  | [], i, h, h', Q, he, hq => by simp only [evOps, Option.some.injEq] at he; subst he; exact hq
  | o :: rest, i, h, h', Q, he, hq => by
    simp only [evOps] at he
    simp only [opsW]
    cases hw : zbl ops o h.st with
    | none => simp [hw] at he
    | some t =>
      cases t
      · simp only [hw] at he
        simp only
        rw [← HS.put_ok]
        exact evOps_ok hc hi rid ops rest (i + 1) he hq
      · simp only [hw] at he
        cases hif : inF E h o.op with
        | some f =>
          simp only [hif] at he
          cases hie : inE E f h o.op with
          | none => simp [hie] at he
          | some q =>
            obtain ⟨r, hp', gn'⟩ := q
            simp only [hie] at he
            refine .inr ⟨r, hpAt hp', gnAt gn', ?_, ?_⟩
            · unfold inE at hie
              unfold inR
              split at hie
              · rename_i cl hcl
                simp only [hcl]
                split at hie
                · rename_i x hx
                  simp only [hx]
                  split at hie
                  · rename_i f' caps hfe
                    simp only [hfe]
                    split at hie
                    · exact hi _ _ _ _ _ _ _ hie
                    · cases hie
                  · cases hie
                · cases hie
              · cases hie
            · have e1 : (⟨h.st.sl, hpAt hp', gnAt gn'⟩ : St) = (⟨h.sl, hp', gn'⟩ : HS).st := rfl
              rw [e1, ← HS.put_ok]
              exact evOps_ok hc hi rid ops rest (i + 1) he hq
        | none =>
         simp only [hif] at he
         cases ho : opE E.call C.ti (site rid i) h.st o.op with
         | none => simp [ho] at he
         | some e =>
           simp only [ho] at he
           refine .inl ⟨e, opE_ok hc ho, ?_⟩
           rw [← HS.eff_ok, ← HS.put_ok]
           exact evOps_ok hc hi rid ops rest (i + 1) he hq

theorem evOpsD_ok (hc : ∀ f args r, E.call f args = some r → CallOK C.P f args r) (hi : ∀ f args hp gn r hp' gn', E.inl f args hp gn = some (r, hp', gn') → C.inl f args (hpAt hp) (gnAt gn) r (hpAt hp') (gnAt gn')) (rid : Nat) (ops : Array Oper) : ∀ (l : List Oper) (i : Nat) {acc fp : List FP} {h h' : HS} {Q : St → List FP → Prop}, evOpsD E C.ti rid ops l i acc h = some (h', fp) → Q h'.st fp → opsD C rid ops l i acc Q h.st
  | [], i, acc, fp, h, h', Q, he, hq => by
    simp only [evOpsD, Option.some.injEq, Prod.mk.injEq] at he
    obtain ⟨rfl, rfl⟩ := he
    exact hq
  | o :: rest, i, acc, fp, h, h', Q, he, hq => by
    simp only [evOpsD] at he
    simp only [opsD]
    cases hw : zbl ops o h.st with
    | none => simp [hw] at he
    | some t =>
      cases t
      · simp only [hw] at he
        simp only
        rw [← HS.put_ok]
        exact evOpsD_ok hc hi rid ops rest (i + 1) he hq
      · simp only [hw] at he
        cases ho : opE E.call C.ti (site rid i) h.st o.op with
        | none => simp [ho] at he
        | some e =>
          simp only [ho] at he
          refine ⟨e, opE_ok hc ho, ?_⟩
          rw [← HS.eff_ok, ← HS.put_ok]
          exact evOpsD_ok hc hi rid ops rest (i + 1) he hq

theorem codeW_mono : ∀ (code : Code) {Q Q' : Exit → St → Prop} {st : St}, (∀ e st, Q e st → Q' e st) → codeW C code Q st → codeW C code Q' st := by
  have hops : ∀ (rid : Nat) (ops : Array Oper) (l : List Oper) (i : Nat) {Q Q' : St → Prop} {st : St}, (∀ st, Q st → Q' st) → opsW C rid ops l i Q st → opsW C rid ops l i Q' st := by
    intro rid ops l
    induction l with
    | nil => intro i Q Q' st hq h; exact hq _ h
    | cons o l ih =>
      intro i Q Q' st hq h
      simp only [opsW] at h ⊢
      revert h
      cases zbl ops o st with
      | none => exact fun h => h
      | some t =>
        cases t
        · exact fun h => ih _ hq h
        · rintro (⟨e, h1, h2⟩ | ⟨r, ro', gn', h1, h2⟩)
          · exact .inl ⟨e, h1, ih _ hq h2⟩
          · exact .inr ⟨r, ro', gn', h1, ih _ hq h2⟩
  have hopsD : ∀ (rid : Nat) (ops : Array Oper) (l : List Oper) (i : Nat) (acc : List FP) {Q Q' : St → List FP → Prop} {st : St}, (∀ st fp, Q st fp → Q' st fp) → opsD C rid ops l i acc Q st → opsD C rid ops l i acc Q' st := by
    intro rid ops l
    induction l with
    | nil => intro i acc Q Q' st hq h; exact hq _ _ h
    | cons o l ih =>
      intro i acc Q Q' st hq h
      simp only [opsD] at h ⊢
      revert h
      cases zbl ops o st with
      | none => exact fun h => h
      | some t =>
        cases t
        · exact fun h => ih _ _ hq h
        · rintro ⟨e, h1, h2⟩; exact ⟨e, h1, ih _ _ hq h2⟩
  intro code
  induction code with
  | region id ops d =>
    intro Q Q' st hq h
    cases d with
    | false => exact hops _ _ _ _ (fun st h => hq _ _ h) h
    | true => exact hopsD _ _ _ _ _ (fun st fp h => ⟨h.1, hq _ _ h.2⟩) h
  | seq x y ihx ihy =>
    intro Q Q' st hq h
    refine ihx ?_ h
    intro e st h
    cases e <;> first | exact ihy hq h | exact hq _ _ h
  | cond c x y ihx ihy =>
    intro Q Q' st hq h
    obtain ⟨t, h1, h2, h3⟩ := h
    exact ⟨t, h1, fun ht => ihx hq (h2 ht), fun ht => ihy hq (h3 ht)⟩
  | block id x ih =>
    intro Q Q' st hq h
    refine ih ?_ h
    intro e st h
    cases e with
    | exit j => simp only at h ⊢; split <;> rename_i hj <;> (first | rw [if_pos hj] at h | rw [if_neg hj] at h) <;> exact hq _ _ h
    | _ => exact hq _ _ h
  | loop x ih =>
    intro Q Q' st hq h
    obtain ⟨I, n, h1, h2⟩ := h
    refine ⟨I, n, h1, fun n st' hI => ih ?_ (h2 n st' hI)⟩
    intro e st h
    cases e <;> first | exact h | exact hq _ _ h
  | skip => intro Q Q' st hq h; exact hq _ _ h
  | exit id => intro Q Q' st hq h; exact hq _ _ h
  | ret => intro Q Q' st hq h; exact hq _ _ h
  | _ => intros; first | assumption | (rename_i h; exact h.elim)

theorem evC_ok (hc : ∀ f args r, E.call f args = some r → CallOK C.P f args r) (hi : ∀ f args hp gn r hp' gn', E.inl f args hp gn = some (r, hp', gn') → C.inl f args (hpAt hp) (gnAt gn) r (hpAt hp') (gnAt gn')) : ∀ (code : Code) {h h' : HS} {e : Exit} {Q : Exit → St → Prop}, evC E C.ti code h = some (e, h') → Q e h'.st → codeW C code Q h.st := by
  intro code
  induction code with
  | skip => intro h h' e Q he hq; simp only [evC, Option.some.injEq, Prod.mk.injEq] at he; obtain ⟨rfl, rfl⟩ := he; exact hq
  | exit id => intro h h' e Q he hq; simp only [evC, Option.some.injEq, Prod.mk.injEq] at he; obtain ⟨rfl, rfl⟩ := he; exact hq
  | ret => intro h h' e Q he hq; simp only [evC, Option.some.injEq, Prod.mk.injEq] at he; obtain ⟨rfl, rfl⟩ := he; exact hq
  | region id ops d =>
    intro h h' e Q he hq
    cases d with
    | false =>
      simp only [evC] at he
      split at he
      · rename_i h1 hev
        simp only [Option.some.injEq, Prod.mk.injEq] at he
        obtain ⟨rfl, rfl⟩ := he
        exact evOps_ok hc hi id ops _ 0 hev hq
      · cases he
    | true =>
      simp only [evC] at he
      split at he
      · rename_i h1 fp hev
        split at he
        · rename_i hok
          simp only [Option.some.injEq, Prod.mk.injEq] at he
          obtain ⟨rfl, rfl⟩ := he
          exact evOpsD_ok hc hi id ops _ 0 hev ⟨hok, hq⟩
        · cases he
      · cases he
  | seq x y ihx ihy =>
    intro h h' e Q he hq
    simp only [evC] at he
    cases hx : evC E C.ti x h with
    | none => simp [hx] at he
    | some q =>
      obtain ⟨e1, h1⟩ := q
      cases e1 with
      | normal => simp only [hx] at he; exact ihx hx (ihy he hq)
      | _ => simp only [hx, Option.some.injEq, Prod.mk.injEq] at he; obtain ⟨rfl, rfl⟩ := he; exact ihx hx hq
  | cond c x y ihx ihy =>
    intro h h' e Q he hq
    simp only [evC] at he
    split at he
    · rename_i hc'; exact ⟨true, hc', fun _ => ihx he hq, fun h => by cases h⟩
    · rename_i hc'; exact ⟨false, hc', fun h => (by cases h), fun _ => ihy he hq⟩
    · cases he
  | block id x ih =>
    intro h h' e Q he hq
    simp only [evC] at he
    cases hx : evC E C.ti x h with
    | none => simp [hx] at he
    | some q =>
      obtain ⟨e1, h1⟩ := q
      cases e1 with
      | exit j =>
        simp only [hx] at he
        refine ih hx ?_
        simp only
        split at he
        · rename_i hj
          simp only [Option.some.injEq, Prod.mk.injEq] at he; obtain ⟨rfl, rfl⟩ := he
          rw [if_pos hj]; exact hq
        · rename_i hj
          simp only [Option.some.injEq, Prod.mk.injEq] at he; obtain ⟨rfl, rfl⟩ := he
          rw [if_neg hj]; exact hq
      | _ => simp only [hx, Option.some.injEq, Prod.mk.injEq] at he; obtain ⟨rfl, rfl⟩ := he; exact ih hx hq
  | loop x ih =>
    intro h h' e Q he hq
    simp only [evC] at he
    refine ⟨fun k st => ∃ h1, h1.st = st ∧ loopE (evC E C.ti x) k h1 = some (e, h'), loopFuel, ⟨h, rfl, he⟩, ?_⟩
    rintro k st ⟨h1, rfl, hl⟩
    cases k with
    | zero => simp [loopE] at hl
    | succ k =>
      simp only [loopE] at hl
      cases hx : evC E C.ti x h1 with
      | none => simp [hx] at hl
      | some q =>
        obtain ⟨e1, h2⟩ := q
        cases e1 with
        | normal => simp only [hx] at hl; exact ih hx ⟨k, Nat.lt_succ_self k, h2, rfl, hl⟩
        | _ => simp only [hx, Option.some.injEq, Prod.mk.injEq] at hl; obtain ⟨rfl, rfl⟩ := hl; exact ih hx hq
  | _ => intro h h' e Q he hq; simp [evC] at he

theorem slAt_eq (l : List AV) : slAt l = fun k => l.getD k (.sc undef) := by
  induction l with
  | nil => funext k; cases k <;> rfl
  | cons a l ih => funext k; cases k with
    | zero => rfl
    | succ k => simp only [slAt, ih]; rfl

theorem bodyE_ok (T : TOK C.P C.ti) (hI : InlOK C) (hm : C.P.follows .mixedOrders = true) (hc : ∀ f args r, E.call f args = some r → CallOK C.P f args r) (hi : ∀ f args hp gn r hp' gn', E.inl f args hp gn = some (r, hp', gn') → C.inl f args (hpAt hp) (gnAt gn) r (hpAt hp') (gnAt gn')) {f : Nat} {args : List AV} {r : AV} (h : bodyE C.P C.ti E f args = some r) : CallOK C.P f args r := by
  unfold bodyE at h
  cases hf : C.P.funcs[f]? with
  | none => simp [hf] at h
  | some fn =>
    cases hb : fn.body with
    | none => simp [hf, hb] at h
    | some code =>
      simp only [hf, hb] at h
      split at h
      · rename_i hcnd
        simp only [Bool.and_eq_true, Bool.not_eq_true', decide_eq_true_eq] at hcnd
        obtain ⟨⟨h1, h2⟩, h3⟩ := hcnd
        have hst : (⟨args, [], []⟩ : HS).st = st0 args := by
          simp only [HS.st, st0, slAt_eq]; rfl
        have fin : ∀ e h', (e = .normal ∨ e = .ret) → evC E C.ti code ⟨args, [], []⟩ = some (e, h') → (match retR C.ti fn.results.toList h'.st with | some r => if noRef r = true then some r else none | none => none) = some r → CallOK C.P f args r := by
          intro e h' he hev hr
          cases hrr : retR C.ti fn.results.toList h'.st with
          | none => simp [hrr] at hr
          | some r' =>
            simp only [hrr] at hr
            split at hr
            · rename_i hn
              simp only [Option.some.injEq] at hr
              subst hr
              refine call_sound T hI hm hf hb h1 h2 h3 hn ?_
              rw [← hst]
              exact evC_ok hc hi code hev ⟨he, hrr⟩
            · cases hr
        split at h
        · rename_i h' hev; exact fin _ _ (.inl rfl) hev h
        · rename_i h' hev; exact fin _ _ (.inr rfl) hev h
        · cases h
      · cases h

theorem bodyI_ok (T : TOK C.P C.ti) (hI : InlOK C) (hm : C.P.follows .mixedOrders = true) (hc : ∀ f args r, E.call f args = some r → CallOK C.P f args r) (hi : ∀ f args hp gn r hp' gn', E.inl f args hp gn = some (r, hp', gn') → C.inl f args (hpAt hp) (gnAt gn) r (hpAt hp') (gnAt gn'))
    {f : Nat} {args : List AV} {hp hp' : List (Nat × Nat × AV)} {gn gn' : List (Nat × Nat)} {r : AV} (h : bodyI C.P C.ti E f args hp gn = some (r, hp', gn')) : InOK C.P f args (hpAt hp) (gnAt gn) r (hpAt hp') (gnAt gn') := by
  unfold bodyI at h
  cases hf : C.P.funcs[f]? with
  | none => simp [hf] at h
  | some fn =>
    cases hb : fn.body with
    | none => simp [hf, hb] at h
    | some code =>
      simp only [hf, hb] at h
      split at h
      · rename_i hcnd
        simp only [Bool.and_eq_true, Bool.not_eq_true', decide_eq_true_eq] at hcnd
        obtain ⟨⟨h1, h2⟩, h3⟩ := hcnd
        have hst : (⟨args, hp, gn⟩ : HS).st = ⟨fun k => args.getD k (.sc undef), hpAt hp, gnAt gn⟩ := by
          simp only [HS.st, slAt_eq]
        have fin : ∀ e h', (e = .normal ∨ e = .ret) → evC E C.ti code ⟨args, hp, gn⟩ = some (e, h') → (match resL C.ti h'.st fn.results.toList with | some xs => some (oneOrA xs, h'.hp, h'.gn) | none => none) = some (r, hp', gn') → InOK C.P f args (hpAt hp) (gnAt gn) r (hpAt hp') (gnAt gn') := by
          intro e h' he hev hr
          cases hrr : resL C.ti h'.st fn.results.toList with
          | none => simp [hrr] at hr
          | some xs =>
            simp only [hrr, Option.some.injEq, Prod.mk.injEq] at hr
            obtain ⟨rfl, rfl, rfl⟩ := hr
            refine in_sound T hI hm hf hb h1 h2 h3 ?_
            rw [← hst]
            exact evC_ok hc hi code hev ⟨he, ⟨xs, hrr, rfl⟩, rfl, rfl⟩
        split at h
        · rename_i h' hev; exact fin _ _ (.inl rfl) hev h
        · rename_i h' hev; exact fin _ _ (.inr rfl) hev h
        · cases h
      · cases h

/-- The configuration whose calls in the caller's memory are those that hold. -/
def cfgOf (P : Program) (ti : Nat → Option TI) : Cfg := ⟨P, ti, fun f args ro gn r ro' gn' => InOK P f args ro gn r ro' gn'⟩

theorem cfgOf_inl (P : Program) (ti : Nat → Option TI) : InlOK (cfgOf P ti) := fun _ _ _ _ _ _ _ h => h

theorem callB_ok {P : Program} {ti : Nat → Option TI} (T : TOK P ti) (hm : P.follows .mixedOrders = true) {K : Nat → List AV → Option AV} {isIn : Nat → Bool} (hK : ∀ f args r, K f args = some r → CallOK P f args r) : ∀ (n : Nat),
    (∀ f args r, (callB P ti K isIn n).call f args = some r → CallOK P f args r) ∧ (∀ f args hp gn r hp' gn', (callB P ti K isIn n).inl f args hp gn = some (r, hp', gn') → InOK P f args (hpAt hp) (gnAt gn) r (hpAt hp') (gnAt gn'))
  | 0 => ⟨hK, fun _ _ _ _ _ _ _ h => by cases h⟩
  | n + 1 => by
    have ih := callB_ok T hm (isIn := isIn) hK n
    refine ⟨fun f args r h => ?_, fun f args hp gn r hp' gn' h => ?_⟩
    · simp only [callB] at h
      cases hk : K f args with
      | some r' => simp only [hk, Option.some.injEq] at h; subst h; exact hK _ _ _ hk
      | none => simp only [hk] at h; exact bodyE_ok (C := cfgOf P ti) T (cfgOf_inl P ti) hm ih.1 ih.2 h
    · exact bodyI_ok (C := cfgOf P ti) T (cfgOf_inl P ti) hm ih.1 ih.2 h

theorem callF_ok {P : Program} {ti : Nat → Option TI} (T : TOK P ti) (hm : P.follows .mixedOrders = true) {K : Nat → List AV → Option AV} {isIn : Nat → Bool} (hK : ∀ f args r, K f args = some r → CallOK P f args r) {n f : Nat} {args : List AV} {r : AV} (h : callF P ti K isIn n f args = some r) : CallOK P f args r :=
  (callB_ok T hm hK n).1 _ _ _ h

end

end Go.Proofs.Ytifgeenipinnmaa
