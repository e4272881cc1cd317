/- A weakest precondition for proofs by rewriting: code, with the code that comes after as data. -/
import Derived.Test.YtifgeenipinnmaaVm22
set_option linter.all false
namespace Go.Proofs.Ytifgeenipinnmaa
open Go.RowKit

/-- Equal (no law for the definitional simplifier). -/
theorem nr {α : Type} (a : α) : a = a := rfl

structure WX where
  P : Program
  ti : Nat → Option TI
  isIn : Nat → Bool

def zbm (ev : Operand → AV) : Op → Option (Nat × List AV)
  | .call c => match c.callee with
    | .value f => match ev f with
      | .fn f caps => some (f, c.args.toList.map ev ++ caps)
      | _ => none
    | _ => none
  | _ => none

def argsX (ro : Ro) (args : List AV) : List AV := if pureL args then args else args.map (ex ro 8)
def okR (args : List AV) (r : AV) : Bool := impOK r && (pureL args || noI r)
def impE (b : Nat) (gn : Nat → Nat) (r : AV) : Eff := ⟨(imp b gn r).1, none, [], (imp b gn r).2⟩

def wo (X : WX) (rid : Nat) (ops : Array Oper) : List Oper → Nat → (St → Prop) → St → Prop
  | [], _, Q, st => Q st
  | o :: rest, i, Q, st => match zbl ops o st with
    | some true => match zbm st.ev o.op with
      | some (f, args) => cond (X.isIn f)
          (∃ r ro' gn', InOK X.P f args st.ro st.gn r ro' gn' ∧ wo X rid ops rest (i + 1) Q ((⟨st.sl, ro', gn'⟩ : St).put o.dst r))
          (∃ r, CallOK X.P f (argsX st.ro args) r ∧ okR args r = true ∧ wo X rid ops rest (i + 1) Q ((st.eff (impE (site rid i) st.gn r)).put o.dst (impE (site rid i) st.gn r).v))
      | none => match opK X.ti (site rid i) st.ro st.gn st.ev o.op with
        | some e => wo X rid ops rest (i + 1) Q ((st.eff e).put o.dst e.v)
        | none => False
    | some false => wo X rid ops rest (i + 1) Q (st.put o.dst (.sc undef))
    | none => False

def woD (X : WX) (rid : Nat) (ops : Array Oper) : List Oper → Nat → List FP → (St → List FP → Prop) → St → Prop
  | [], _, acc, Q, st => Q st acc.reverse
  | o :: rest, i, acc, Q, st => match zbl ops o st with
    | some true => match zbm st.ev o.op with
      | some (f, args) => ∃ r, CallOK X.P f (argsX st.ro args) r ∧ okR args r = true ∧ woD X rid ops rest (i + 1) (⟨rdR st.ro st.ev o.op, (impE (site rid i) st.gn r).sites⟩ :: acc) Q ((st.eff (impE (site rid i) st.gn r)).put o.dst (impE (site rid i) st.gn r).v)
      | none => match opK X.ti (site rid i) st.ro st.gn st.ev o.op with
        | some e => woD X rid ops rest (i + 1) (⟨rdR st.ro st.ev o.op, e.sites⟩ :: acc) Q ((st.eff e).put o.dst e.v)
        | none => False
    | some false => woD X rid ops rest (i + 1) (⟨some [], []⟩ :: acc) Q (st.put o.dst (.sc undef))
    | none => False

def wk (X : WX) : Code → (Exit → St → Prop) → St → Prop
  | .skip, Q, st => Q .normal st
  | .region id ops false, Q, st => wo X id ops ops.toList 0 (Q .normal) st
  | .region id ops true, Q, st => woD X id ops ops.toList 0 [] (fun st fp => okD ops fp = true ∧ Q .normal st) st
  | .seq a b, Q, st => wk X a (fun e st' => match e with
    | .normal => wk X b Q st'
    | e => Q e st') st
  | .cond c x y, Q, st => match st.ev c with
    | .sc (.bool t) => (t = true → wk X x Q st) ∧ (t = false → wk X y Q st)
    | _ => False
  | .block id c, Q, st => wk X c (fun e st' => match e with
    | .exit j => if j = id then Q .normal st' else Q (.exit j) st'
    | e => Q e st') st
  | .loop c, Q, st => ∃ (I : Nat → St → Prop) (n : Nat), I n st ∧ ∀ n st', I n st' → wk X c (fun e st'' => match e with
    | .normal => ∃ m, m < n ∧ I m st''
    | e => Q e st'') st'
  | .exit id, Q, st => Q (.exit id) st
  | .ret, Q, st => Q .ret st
  | _, _, _ => False

def WX.cfg (X : WX) : Cfg := cfgOf X.P X.ti

section
variable {X : WX}

theorem opR_of_call {b : Nat} {st : St} {op : Op} {f : Nat} {args : List AV} {r : AV} (hc : zbm st.ev op = some (f, args)) (h : CallOK X.P f (argsX st.ro args) r) (ho : okR args r = true) : opR X.cfg b st op (impE b st.gn r) := by
  unfold zbm at hc
  split at hc
  · rename_i c
    split at hc
    · rename_i f0 hf0
      split at hc
      · rename_i f1 caps hf1
        simp only [Option.some.injEq, Prod.mk.injEq] at hc
        obtain ⟨rfl, rfl⟩ := hc
        simp only [opR, hf0, hf1, callR]
        simp only [okR, Bool.and_eq_true, Bool.or_eq_true] at ho
        unfold argsX at h
        split
        · rename_i hp
          rw [if_pos hp] at h
          exact ⟨r, h, ho.1, rfl⟩
        · rename_i hp
          rw [if_neg hp] at h
          exact ⟨r, h, ho.1, ho.2.resolve_left hp, rfl⟩
      · cases hc
    · cases hc
  · cases hc

theorem opR_of_opK {b : Nat} {st : St} {op : Op} {e : Eff} (hc : zbm st.ev op = none) (h : opK X.ti b st.ro st.gn st.ev op = some e) : opR X.cfg b st op e := by
  rw [opK_eq] at h
  unfold opR
  split
  · rename_i c
    split
    · rename_i f hf
      simp only [zbm, hf] at hc
      split
      · rename_i hfe
        simp [hfe] at hc
      · simp only [opC, hf] at h
        cases h
    · exact h
  · exact h

theorem inR_of_call {st : St} {op : Op} {f : Nat} {args : List AV} {r : AV} {ro' : Ro} {gn' : Nat → Nat} (hc : zbm st.ev op = some (f, args)) (h : InOK X.P f args st.ro st.gn r ro' gn') : inR X.cfg st op r ro' gn' := by
  unfold zbm at hc
  split at hc
  · rename_i c
    split at hc
    · rename_i f0 hf0
      split at hc
      · rename_i f1 caps hf1
        simp only [Option.some.injEq, Prod.mk.injEq] at hc
        obtain ⟨rfl, rfl⟩ := hc
        simp only [inR, hf0, hf1]
        exact h
      · cases hc
    · cases hc
  · cases hc

theorem wo_ok (rid : Nat) (ops : Array Oper) : ∀ (l : List Oper) (i : Nat) {Q : St → Prop} {st : St}, wo X rid ops l i Q st → opsW X.cfg rid ops l i Q st
  | [], _, _, _, h => h
  | o :: rest, i, Q, st, h => by
    simp only [wo] at h
    simp only [opsW]
    cases hw : zbl ops o st with
    | none => simp [hw] at h
    | some t =>
      cases t
      · simp only [hw] at h
        exact wo_ok rid ops rest (i + 1) h
      · simp only [hw] at h
        cases hc : zbm st.ev o.op with
        | none =>
          simp only [hc] at h
          cases ho : opK X.ti (site rid i) st.ro st.gn st.ev o.op with
          | none => simp [ho] at h
          | some e =>
            simp only [ho] at h
            exact .inl ⟨e, opR_of_opK hc ho, wo_ok rid ops rest (i + 1) h⟩
        | some q =>
          obtain ⟨f, args⟩ := q
          simp only [hc] at h
          cases hi : X.isIn f with
          | true =>
            simp only [hi, cond_true] at h
            obtain ⟨r, ro', gn', h1, h2⟩ := h
            exact .inr ⟨r, ro', gn', inR_of_call hc h1, wo_ok rid ops rest (i + 1) h2⟩
          | false =>
            simp only [hi, cond_false] at h
            obtain ⟨r, h1, h2, h3⟩ := h
            exact .inl ⟨_, opR_of_call hc h1 h2, wo_ok rid ops rest (i + 1) h3⟩

theorem woD_ok (rid : Nat) (ops : Array Oper) : ∀ (l : List Oper) (i : Nat) {acc : List FP} {Q : St → List FP → Prop} {st : St}, woD X rid ops l i acc Q st → opsD X.cfg rid ops l i acc Q st
  | [], _, _, _, _, h => h
  | o :: rest, i, acc, Q, st, h => by
    simp only [woD] at h
    simp only [opsD]
    cases hw : zbl ops o st with
    | none => simp [hw] at h
    | some t =>
      cases t
      · simp only [hw] at h
        exact woD_ok rid ops rest (i + 1) h
      · simp only [hw] at h
        cases hc : zbm st.ev o.op with
        | none =>
          simp only [hc] at h
          cases ho : opK X.ti (site rid i) st.ro st.gn st.ev o.op with
          | none => simp [ho] at h
          | some e =>
            simp only [ho] at h
            exact ⟨e, opR_of_opK hc ho, woD_ok rid ops rest (i + 1) h⟩
        | some q =>
          obtain ⟨f, args⟩ := q
          simp only [hc] at h
          obtain ⟨r, h1, h2, h3⟩ := h
          exact ⟨_, opR_of_call hc h1 h2, woD_ok rid ops rest (i + 1) h3⟩

theorem opsD_mono {C : Cfg} (rid : Nat) (ops : Array Oper) : ∀ (l : List Oper) (i : Nat) {acc : List FP} {Q Q' : St → List FP → Prop} {st : St}, (∀ st fp, Q st fp → Q' st fp) → opsD C rid ops l i acc Q st → opsD C rid ops l i acc Q' st
  | [], _, _, _, _, _, hq, h => hq _ _ h
  | o :: rest, i, acc, Q, Q', st, hq, h => by
    simp only [opsD] at h ⊢
    revert h
    cases zbl ops o st with
    | none => exact fun h => h
    | some t =>
      cases t
      · exact fun h => opsD_mono rid ops rest (i + 1) hq h
      · rintro ⟨e, h1, h2⟩; exact ⟨e, h1, opsD_mono rid ops rest (i + 1) hq h2⟩

theorem wk_ok : ∀ (code : Code) {Q : Exit → St → Prop} {st : St}, wk X code Q st → codeW X.cfg code Q st := by
  intro code
  induction code with
  | region id ops d =>
    intro Q st h
    cases d with
    | false => exact wo_ok _ _ _ _ h
    | true => exact woD_ok _ _ _ _ h
  | seq x y ihx ihy =>
    intro Q st h
    refine codeW_mono x ?_ (ihx h)
    intro e st h
    cases e <;> first | exact ihy h | exact h
  | cond c x y ihx ihy =>
    intro Q st h
    simp only [wk] at h
    split at h
    · rename_i t ht
      exact ⟨t, ht, fun e => ihx (h.1 e), fun e => ihy (h.2 e)⟩
    · exact h.elim
  | block id x ih => intro Q st h; exact ih h
  | loop x ih =>
    intro Q st h
    obtain ⟨I, n, h1, h2⟩ := h
    exact ⟨I, n, h1, fun n st' hI => ih (h2 n st' hI)⟩
  | skip => intro Q st h; exact h
  | exit id => intro Q st h; exact h
  | ret => intro Q st h; exact h
  | _ => intros; rename_i h; exact h.elim

theorem wk_mono : ∀ (code : Code) {Q Q' : Exit → St → Prop} {st : St}, (∀ e st, Q e st → Q' e st) → wk X code Q st → wk X code Q' st := by
  have hops : ∀ (rid : Nat) (ops : Array Oper) (l : List Oper) (i : Nat) {Q Q' : St → Prop} {st : St}, (∀ st, Q st → Q' st) → wo X rid ops l i Q st → wo X rid ops l i Q' st := by
    intro rid ops l
    induction l with
    | nil => intro i Q Q' st hq h; exact hq _ h
    | cons o l ih =>
      intro i Q Q' st hq h
      simp only [wo] at h ⊢
      cases hw : zbl ops o st with
      | none => simp [hw] at h
      | some t =>
        cases t
        · simp only [hw] at h ⊢; exact ih _ hq h
        · simp only [hw] at h ⊢
          cases hc : zbm st.ev o.op with
          | none =>
            simp only [hc] at h ⊢
            cases ho : opK X.ti (site rid i) st.ro st.gn st.ev o.op with
            | none => simp [ho] at h
            | some e => simp only [ho] at h ⊢; exact ih _ hq h
          | some q =>
            obtain ⟨f, args⟩ := q
            simp only [hc] at h ⊢
            cases hi : X.isIn f with
            | true => simp only [hi, cond_true] at h ⊢; obtain ⟨r, ro', gn', h1, h2⟩ := h; exact ⟨r, ro', gn', h1, ih _ hq h2⟩
            | false => simp only [hi, cond_false] at h ⊢; obtain ⟨r, h1, h2, h3⟩ := h; exact ⟨r, h1, h2, ih _ hq h3⟩
  have hopsD : ∀ (rid : Nat) (ops : Array Oper) (l : List Oper) (i : Nat) (acc : List FP) {Q Q' : St → List FP → Prop} {st : St}, (∀ st fp, Q st fp → Q' st fp) → woD X rid ops l i acc Q st → woD X rid ops l i acc Q' st := by
    intro rid ops l
    induction l with
    | nil => intro i acc Q Q' st hq h; exact hq _ _ h
    | cons o l ih =>
      intro i acc Q Q' st hq h
      simp only [woD] at h ⊢
      cases hw : zbl ops o st with
      | none => simp [hw] at h
      | some t =>
        cases t
        · simp only [hw] at h ⊢; exact ih _ _ hq h
        · simp only [hw] at h ⊢
          cases hc : zbm st.ev o.op with
          | none =>
            simp only [hc] at h ⊢
            cases ho : opK X.ti (site rid i) st.ro st.gn st.ev o.op with
            | none => simp [ho] at h
            | some e => simp only [ho] at h ⊢; exact ih _ _ hq h
          | some q =>
            obtain ⟨f, args⟩ := q
            simp only [hc] at h ⊢
            obtain ⟨r, h1, h2, h3⟩ := h; exact ⟨r, h1, h2, ih _ _ hq h3⟩
  intro code
  induction code with
  | region id ops d =>
    intro Q Q' st hq h
    cases d with
    | false => exact hops _ _ _ _ (fun st h => hq _ _ h) h
    | true => exact hopsD _ _ _ _ _ (fun st fp h => ⟨h.1, hq _ _ h.2⟩) h
  | seq x y ihx ihy =>
    intro Q Q' st hq h
    refine ihx ?_ h
    intro e st h
    cases e <;> first | exact ihy hq h | exact hq _ _ h
  | cond c x y ihx ihy =>
    intro Q Q' st hq h
    simp only [wk] at h ⊢
    split at h
    · rename_i t ht
      try simp only [ht]
      exact ⟨fun e => ihx hq (h.1 e), fun e => ihy hq (h.2 e)⟩
    · exact h.elim
  | block id x ih =>
    intro Q Q' st hq h
    refine ih ?_ h
    intro e st h
    cases e with
    | exit j => simp only at h ⊢; split <;> rename_i hj <;> (first | rw [if_pos hj] at h | rw [if_neg hj] at h) <;> exact hq _ _ h
    | _ => exact hq _ _ h
  | loop x ih =>
    intro Q Q' st hq h
    obtain ⟨I, n, h1, h2⟩ := h
    refine ⟨I, n, h1, fun n st' hI => ih ?_ (h2 n st' hI)⟩
    intro e st h
    cases e <;> first | exact h | exact hq _ _ h
  | skip => intro Q Q' st hq h; exact hq _ _ h
  | exit id => intro Q Q' st hq h; exact hq _ _ h
  | ret => intro Q Q' st hq h; exact hq _ _ h
  | _ => intros; first | assumption | (rename_i h; exact h.elim)

end

/-! ### What comes after, as data -/

inductive Fr where
  | sq (c : Code)
  | blk (id : Nat)
  | lp (P : St → Prop)

def AFT (X : WX) : List Fr → (Exit → St → Prop) → Exit → St → Prop
  | [], Q, e, st => Q e st
  | .sq c :: K, Q, e, st => match e with
    | .normal => wk X c (AFT X K Q) st
    | e => AFT X K Q e st
  | .blk id :: K, Q, e, st => match e with
    | .exit j => if j = id then AFT X K Q .normal st else AFT X K Q (.exit j) st
    | e => AFT X K Q e st
  | .lp P :: K, Q, e, st => match e with
    | .normal => P st
    | e => AFT X K Q e st

def WK (X : WX) (c : Code) (K : List Fr) (Q : Exit → St → Prop) (st : St) : Prop := wk X c (AFT X K Q) st
def WO (X : WX) (rid : Nat) (ops : Array Oper) (l : List Oper) (i : Nat) (K : List Fr) (Q : Exit → St → Prop) (st : St) : Prop := wo X rid ops l i (AFT X K Q .normal) st
def WD (X : WX) (rid : Nat) (ops : Array Oper) (l : List Oper) (i : Nat) (acc : List FP) (K : List Fr) (Q : Exit → St → Prop) (st : St) : Prop :=
  woD X rid ops l i acc (fun st fp => okD ops fp = true ∧ AFT X K Q .normal st) st
/-- The end of a drawn region. -/
def FIN (X : WX) (ops : Array Oper) (fp : List FP) (K : List Fr) (Q : Exit → St → Prop) (st : St) : Prop := okD ops fp = true ∧ AFT X K Q .normal st

/-- One of two ways. -/
def CNB (t : Bool) (X : WX) (x y : Code) (K : List Fr) (Q : Exit → St → Prop) (st : St) : Prop := (t = true → WK X x K Q st) ∧ (t = false → WK X y K Q st)
def CND (a : AV) (X : WX) (x y : Code) (K : List Fr) (Q : Exit → St → Prop) (st : St) : Prop := match a with
  | .sc (.bool t) => CNB t X x y K Q st
  | _ => False
def OPE (e : Option Eff) (X : WX) (rid : Nat) (ops : Array Oper) (d : Option Tmp) (rest : List Oper) (i : Nat) (K : List Fr) (Q : Exit → St → Prop) (st : St) : Prop := match e with
  | some e => WO X rid ops rest (i + 1) K Q ((st.eff e).put d e.v)
  | none => False
def CLL (c : Option (Nat × List AV)) (X : WX) (rid : Nat) (ops : Array Oper) (o : Oper) (rest : List Oper) (i : Nat) (K : List Fr) (Q : Exit → St → Prop) (st : St) : Prop := match c with
  | some (f, args) => cond (X.isIn f)
          (∃ r ro' gn', InOK X.P f args st.ro st.gn r ro' gn' ∧ WO X rid ops rest (i + 1) K Q ((⟨st.sl, ro', gn'⟩ : St).put o.dst r))
          (∃ r, CallOK X.P f (argsX st.ro args) r ∧ okR args r = true ∧ WO X rid ops rest (i + 1) K Q ((st.eff (impE (site rid i) st.gn r)).put o.dst (impE (site rid i) st.gn r).v))
  | none => OPE (opK X.ti (site rid i) st.ro st.gn st.ev o.op) X rid ops o.dst rest i K Q st
def STP (w : Option Bool) (X : WX) (rid : Nat) (ops : Array Oper) (o : Oper) (rest : List Oper) (i : Nat) (K : List Fr) (Q : Exit → St → Prop) (st : St) : Prop := match w with
  | some true => CLL (zbm st.ev o.op) X rid ops o rest i K Q st
  | some false => WO X rid ops rest (i + 1) K Q (st.put o.dst (.sc undef))
  | none => False
def OPED (e : Option Eff) (rd : Option (List Nat)) (X : WX) (rid : Nat) (ops : Array Oper) (d : Option Tmp) (rest : List Oper) (i : Nat) (acc : List FP) (K : List Fr) (Q : Exit → St → Prop) (st : St) : Prop := match e with
  | some e => WD X rid ops rest (i + 1) (⟨rd, e.sites⟩ :: acc) K Q ((st.eff e).put d e.v)
  | none => False
def CLLD (c : Option (Nat × List AV)) (rd : Option (List Nat)) (X : WX) (rid : Nat) (ops : Array Oper) (o : Oper) (rest : List Oper) (i : Nat) (acc : List FP) (K : List Fr) (Q : Exit → St → Prop) (st : St) : Prop := match c with
  | some (f, args) => ∃ r, CallOK X.P f (argsX st.ro args) r ∧ okR args r = true ∧ WD X rid ops rest (i + 1) (⟨rd, (impE (site rid i) st.gn r).sites⟩ :: acc) K Q ((st.eff (impE (site rid i) st.gn r)).put o.dst (impE (site rid i) st.gn r).v)
  | none => OPED (opK X.ti (site rid i) st.ro st.gn st.ev o.op) rd X rid ops o.dst rest i acc K Q st
def STPD (w : Option Bool) (X : WX) (rid : Nat) (ops : Array Oper) (o : Oper) (rest : List Oper) (i : Nat) (acc : List FP) (K : List Fr) (Q : Exit → St → Prop) (st : St) : Prop := match w with
  | some true => CLLD (zbm st.ev o.op) (rdR st.ro st.ev o.op) X rid ops o rest i acc K Q st
  | some false => WD X rid ops rest (i + 1) (⟨some [], []⟩ :: acc) K Q (st.put o.dst (.sc undef))
  | none => False

def rvA : List FP → List FP → List FP
  | [], r => r
  | a :: l, r => rvA l (a :: r)
theorem rvA_eq : ∀ (l r : List FP), rvA l r = l.reverse ++ r
  | [], r => rfl
  | a :: l, r => by simp [rvA, rvA_eq l]

section
variable {X : WX} {K : List Fr} {Q : Exit → St → Prop} {st : St}

theorem zav (e : Exit) : AFT X [] Q e st = Q e st := nr _
theorem zaw (c : Code) : AFT X (.sq c :: K) Q .normal st = WK X c K Q st := nr _
theorem zax (c : Code) (j : Nat) : AFT X (.sq c :: K) Q (.exit j) st = AFT X K Q (.exit j) st := nr _
theorem zay (c : Code) : AFT X (.sq c :: K) Q .ret st = AFT X K Q .ret st := nr _
theorem zaz (id : Nat) : AFT X (.blk id :: K) Q .normal st = AFT X K Q .normal st := nr _
theorem zba (id j : Nat) : AFT X (.blk id :: K) Q (.exit j) st = if j = id then AFT X K Q .normal st else AFT X K Q (.exit j) st := nr _
theorem zbb (id : Nat) : AFT X (.blk id :: K) Q .ret st = AFT X K Q .ret st := nr _
theorem zbc (P : St → Prop) : AFT X (.lp P :: K) Q .normal st = P st := nr _
theorem zbd (P : St → Prop) (j : Nat) : AFT X (.lp P :: K) Q (.exit j) st = AFT X K Q (.exit j) st := nr _
theorem zbe (P : St → Prop) : AFT X (.lp P :: K) Q .ret st = AFT X K Q .ret st := nr _

theorem zaq : WK X .skip K Q st = AFT X K Q .normal st := nr _
theorem zar (id : Nat) : WK X (.exit id) K Q st = AFT X K Q (.exit id) st := nr _
theorem zas : WK X .ret K Q st = AFT X K Q .ret st := nr _
theorem zan (a b : Code) : WK X (.seq a b) K Q st = WK X a (.sq b :: K) Q st := by
  unfold WK
  simp only [wk]
  congr 1
theorem zao (id : Nat) (c : Code) : WK X (.block id c) K Q st = WK X c (.blk id :: K) Q st := by
  unfold WK
  simp only [wk]
  congr 1
theorem zap (c : Operand) (x y : Code) : WK X (.cond c x y) K Q st = CND (st.ev c) X x y K Q st := nr _
theorem zaa (t : Bool) (x y : Code) : CND (.sc (.bool t)) X x y K Q st = CNB t X x y K Q st := nr _
theorem zab (x y : Code) : CNB true X x y K Q st = WK X x K Q st := by simp [CNB]
theorem zac (x y : Code) : CNB false X x y K Q st = WK X y K Q st := by simp [CNB]
theorem zad (p : Prop) [Decidable p] (x y : Code) : CNB (decide p) X x y K Q st = ((p → WK X x K Q st) ∧ (¬ p → WK X y K Q st)) := by simp [CNB]
theorem zae (t : Bool) (x y : Code) : CNB (!t) X x y K Q st = CNB t X y x K Q st := by cases t <;> simp [CNB]
theorem zat (id : Nat) (ops : Array Oper) : WK X (.region id ops false) K Q st = WO X id ops ops.toList 0 K Q st := nr _
theorem zau (id : Nat) (ops : Array Oper) : WK X (.region id ops true) K Q st = WD X id ops ops.toList 0 [] K Q st := nr _

theorem zbf (rid : Nat) (ops : Array Oper) (i : Nat) : WO X rid ops [] i K Q st = AFT X K Q .normal st := nr _
theorem zbg (rid : Nat) (ops : Array Oper) (o : Oper) (rest : List Oper) (i : Nat) : WO X rid ops (o :: rest) i K Q st = STP (zbl ops o st) X rid ops o rest i K Q st := nr _
theorem zaf (rid : Nat) (ops : Array Oper) (o : Oper) (rest : List Oper) (i : Nat) : STP (some true) X rid ops o rest i K Q st = CLL (zbm st.ev o.op) X rid ops o rest i K Q st := nr _
theorem zag (rid : Nat) (ops : Array Oper) (o : Oper) (rest : List Oper) (i : Nat) : STP (some false) X rid ops o rest i K Q st = WO X rid ops rest (i + 1) K Q (st.put o.dst (.sc undef)) := nr _
theorem zah (rid : Nat) (ops : Array Oper) (o : Oper) (rest : List Oper) (i : Nat) : CLL none X rid ops o rest i K Q st = OPE (opK X.ti (site rid i) st.ro st.gn st.ev o.op) X rid ops o.dst rest i K Q st := nr _
theorem zai (e : Eff) (rid : Nat) (ops : Array Oper) (d : Option Tmp) (rest : List Oper) (i : Nat) : OPE (some e) X rid ops d rest i K Q st = WO X rid ops rest (i + 1) K Q ((st.eff e).put d e.v) := nr _
theorem CLL_call {f : Nat} {args : List AV} {rid : Nat} {ops : Array Oper} {o : Oper} {rest : List Oper} {i : Nat} (hi : X.isIn f = false) (r : AV) (h : CallOK X.P f (argsX st.ro args) r) (ho : okR args r = true)
    (hk : WO X rid ops rest (i + 1) K Q ((st.eff (impE (site rid i) st.gn r)).put o.dst (impE (site rid i) st.gn r).v)) : CLL (some (f, args)) X rid ops o rest i K Q st := by
  simp only [CLL, hi, cond_false]; exact ⟨r, h, ho, hk⟩
theorem CLL_in {f : Nat} {args : List AV} {rid : Nat} {ops : Array Oper} {o : Oper} {rest : List Oper} {i : Nat} (hi : X.isIn f = true) (r : AV) (ro' : Ro) (gn' : Nat → Nat) (h : InOK X.P f args st.ro st.gn r ro' gn')
    (hk : WO X rid ops rest (i + 1) K Q ((⟨st.sl, ro', gn'⟩ : St).put o.dst r)) : CLL (some (f, args)) X rid ops o rest i K Q st := by
  simp only [CLL, hi, cond_true]; exact ⟨r, ro', gn', h, hk⟩
theorem zbh (rid : Nat) (ops : Array Oper) (i : Nat) (acc : List FP) : WD X rid ops [] i acc K Q st = FIN X ops (rvA acc []) K Q st := by rw [rvA_eq, List.append_nil]; exact nr _
theorem zbi (rid : Nat) (ops : Array Oper) (o : Oper) (rest : List Oper) (i : Nat) (acc : List FP) : WD X rid ops (o :: rest) i acc K Q st = STPD (zbl ops o st) X rid ops o rest i acc K Q st := nr _
theorem zaj (rid : Nat) (ops : Array Oper) (o : Oper) (rest : List Oper) (i : Nat) (acc : List FP) : STPD (some true) X rid ops o rest i acc K Q st = CLLD (zbm st.ev o.op) (rdR st.ro st.ev o.op) X rid ops o rest i acc K Q st := nr _
theorem zak (rid : Nat) (ops : Array Oper) (o : Oper) (rest : List Oper) (i : Nat) (acc : List FP) : STPD (some false) X rid ops o rest i acc K Q st = WD X rid ops rest (i + 1) (⟨some [], []⟩ :: acc) K Q (st.put o.dst (.sc undef)) := nr _
theorem zal (rd : Option (List Nat)) (rid : Nat) (ops : Array Oper) (o : Oper) (rest : List Oper) (i : Nat) (acc : List FP) : CLLD none rd X rid ops o rest i acc K Q st = OPED (opK X.ti (site rid i) st.ro st.gn st.ev o.op) rd X rid ops o.dst rest i acc K Q st := nr _
theorem zam (e : Eff) (rd : Option (List Nat)) (rid : Nat) (ops : Array Oper) (d : Option Tmp) (rest : List Oper) (i : Nat) (acc : List FP) : OPED (some e) rd X rid ops d rest i acc K Q st = WD X rid ops rest (i + 1) (⟨rd, e.sites⟩ :: acc) K Q ((st.eff e).put d e.v) := nr _
theorem CLLD_call {f : Nat} {args : List AV} {rd : Option (List Nat)} {rid : Nat} {ops : Array Oper} {o : Oper} {rest : List Oper} {i : Nat} {acc : List FP} (r : AV) (h : CallOK X.P f (argsX st.ro args) r) (ho : okR args r = true)
    (hk : WD X rid ops rest (i + 1) (⟨rd, (impE (site rid i) st.gn r).sites⟩ :: acc) K Q ((st.eff (impE (site rid i) st.gn r)).put o.dst (impE (site rid i) st.gn r).v)) : CLLD (some (f, args)) rd X rid ops o rest i acc K Q st := ⟨r, h, ho, hk⟩
theorem FIN_of {ops : Array Oper} {fp : List FP} (h : okD ops fp = true) (h2 : AFT X K Q .normal st) : FIN X ops fp K Q st := ⟨h, h2⟩

/-- A loop whose rounds are counted. -/
theorem WK_loop {c : Code} (I : Nat → St → Prop) (N : Nat) (h0 : I 0 st) (h : ∀ k sl ro gn, k ≤ N → I k ⟨sl, ro, gn⟩ → WK X c (.lp (fun st => k < N ∧ I (k + 1) st) :: K) Q ⟨sl, ro, gn⟩) : WK X (.loop c) K Q st := by
  refine ⟨fun m st => ∃ k, k ≤ N ∧ m = N - k ∧ I k st, N, ⟨0, Nat.zero_le _, rfl, h0⟩, ?_⟩
  rintro m ⟨sl, ro, gn⟩ ⟨k, hk, rfl, hI⟩
  refine wk_mono c ?_ (h k sl ro gn hk hI)
  intro e st' ha
  cases e with
  | normal =>
    simp only [zbc] at ha
    exact ⟨N - (k + 1), by omega, k + 1, by omega, rfl, ha.2⟩
  | _ => exact ha

/-- The same, the rounds and the end apart. -/
theorem WK_for {c : Code} (I : Nat → St → Prop) (N : Nat) (h0 : I 0 st) (h : ∀ k sl ro gn, k < N → I k ⟨sl, ro, gn⟩ → WK X c (.lp (fun st => I (k + 1) st) :: K) Q ⟨sl, ro, gn⟩) (he : ∀ sl ro gn, I N ⟨sl, ro, gn⟩ → WK X c (.lp (fun _ => False) :: K) Q ⟨sl, ro, gn⟩) : WK X (.loop c) K Q st := by
  refine WK_loop I N h0 fun k sl ro gn hk hI => ?_
  rcases Nat.lt_or_ge k N with hlt | hge
  · refine wk_mono c ?_ (h k sl ro gn hlt hI)
    intro e st' ha
    cases e with
    | normal => exact ⟨hlt, ha⟩
    | _ => exact ha
  · have : k = N := by omega
    subst this
    refine wk_mono c ?_ (he sl ro gn hI)
    intro e st' ha
    cases e with
    | normal => exact ha.elim
    | _ => exact ha

/-- A loop with a measure. -/
theorem WK_loopM {c : Code} (I : Nat → St → Prop) (n : Nat) (h0 : I n st) (h : ∀ n sl ro gn, I n ⟨sl, ro, gn⟩ → WK X c (.lp (fun st => ∃ m, m < n ∧ I m st) :: K) Q ⟨sl, ro, gn⟩) : WK X (.loop c) K Q st := by
  refine ⟨I, n, h0, ?_⟩
  rintro m ⟨sl, ro, gn⟩ hI
  refine wk_mono c ?_ (h m sl ro gn hI)
  intro e st' ha
  cases e <;> exact ha

end

/-- What is left at a function's end. -/
def RET (ti : Nat → Option TI) (rs : List ResultVar) (r : AV) (e : Exit) (st : St) : Prop := (e = .normal ∨ e = .ret) ∧ retR ti rs st = some r
theorem zbj {ti : Nat → Option TI} {rs : List ResultVar} {r : AV} {st : St} : RET ti rs r .normal st = (retR ti rs st = some r) := by simp [RET]
theorem zbk {ti : Nat → Option TI} {rs : List ResultVar} {r : AV} {st : St} : RET ti rs r .ret st = (retR ti rs st = some r) := by simp [RET]

theorem call_ofG {P : Program} {ti : Nat → Option TI} (isIn : Nat → Bool) (T : TOK P ti) (hm : P.follows .mixedOrders = true) {f : Nat} {fn : Func} {code : Code} {args : List AV} {r : AV} (hf : P.funcs[f]? = some fn) (hb : fn.body = some code)
    (hok : (!(fn.name == "runtime.NumGoroutine") && dstOK fn.ntmps code && decide (args.length ≤ fn.ntmps)) = true) (hn : noRef r = true)
    (h : ∀ sl : Nat → AV, (∀ k, sl k = args.getD k (.sc undef)) → WK ⟨P, ti, isIn⟩ code [] (RET ti fn.results.toList r) ⟨sl, fun _ _ => none, fun _ => 0⟩) : CallOK P f args r := by
  simp only [Bool.and_eq_true, Bool.not_eq_true', decide_eq_true_eq] at hok
  obtain ⟨⟨h1, h2⟩, h3⟩ := hok
  exact call_sound (C := (⟨P, ti, isIn⟩ : WX).cfg) T (cfgOf_inl P ti) hm hf hb h1 h2 h3 hn (wk_ok code (h _ fun _ => rfl))

def RETI (ti : Nat → Option TI) (rs : List ResultVar) (r : AV) (ro' : Ro) (gn' : Nat → Nat) (e : Exit) (st : St) : Prop := (e = .normal ∨ e = .ret) ∧ (∃ xs, resL ti st rs = some xs ∧ r = oneOrA xs) ∧ st.ro = ro' ∧ st.gn = gn'

theorem in_ofG {P : Program} {ti : Nat → Option TI} (isIn : Nat → Bool) (T : TOK P ti) (hm : P.follows .mixedOrders = true) {f : Nat} {fn : Func} {code : Code} {args : List AV} {r : AV} {ro ro' : Ro} {gn gn' : Nat → Nat} (hf : P.funcs[f]? = some fn) (hb : fn.body = some code)
    (hok : (!(fn.name == "runtime.NumGoroutine") && dstOK fn.ntmps code && decide (args.length ≤ fn.ntmps)) = true)
    (h : ∀ sl : Nat → AV, (∀ k, sl k = args.getD k (.sc undef)) → WK ⟨P, ti, isIn⟩ code [] (RETI ti fn.results.toList r ro' gn') ⟨sl, ro, gn⟩) : InOK P f args ro gn r ro' gn' := by
  simp only [Bool.and_eq_true, Bool.not_eq_true', decide_eq_true_eq] at hok
  obtain ⟨⟨h1, h2⟩, h3⟩ := hok
  exact in_sound (C := (⟨P, ti, isIn⟩ : WX).cfg) T (cfgOf_inl P ti) hm hf hb h1 h2 h3 (wk_ok code (h _ fun _ => rfl))

end Go.Proofs.Ytifgeenipinnmaa
