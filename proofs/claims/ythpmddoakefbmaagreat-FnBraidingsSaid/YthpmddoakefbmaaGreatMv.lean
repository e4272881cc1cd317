/- Texts joined: W0 W1. -/
import Derived.OrdersIn
import Derived.TacticsIn
import Derived.ControlIn
import Derived.RangeFuncBox
import Derived.RangeFuncLeaves
import Derived.Shelf.Abstract
import Derived.WalkKit
import Derived.OwnWalkIn
import Derived.TacticsInMore
import Derived.LoopNIn
import Derived.LoopIn
import Derived.Test.YthpmddoakefbmaaGreatProg
import Derived.Test.YthpmddoakefbmaaGreatMc
set_option linter.all false
/- The abstract machine inside a round of a range over a function: code that calls no function of the program. -/
namespace Go.Proofs.YthpmddoakefbmaaGreat
open Go.RowKit
def calmO : Op → Bool
 | .move _ => true
 | .assign _ => true
 | .pick .. => true
 | .load .. => true
 | .store .. => true
 | .binOp .. => true
 | .unOp .. => true
 | .convert .. => true
 | .fieldAddr .. => true
 | .field .. => true
 | .indexAddr .. => true
 | .alloc .. => true
 | .box .. => true
 | .extract .. => true
 | _ => false
theorem exec_calm {o : Oper} (h : calmO o.op = true) (ρ : Operand → Value) : (∃ v, execOp ρ o = pure (.value v)) ∨ (∃ (s : Sem Value) (g : Value → Next), execOp ρ o = (do let x ← s; pure (g x)) ∧ ∀ x, (∃ v, g x = .value v)) ∨ (∃ (s : Sem Unit), execOp ρ o = (do s; pure .skip)) ∨ (∃ (s : Sem Bool) (g : Bool → Value), execOp ρ o = (do let x ← s; pure (.value (g x)))) := by
 unfold execOp
 cases ho : o.op <;> simp only [ho, calmO, Bool.false_eq_true] at h ⊢
 all_goals first
  | exact .inl ⟨_, rfl⟩
  | exact .inr (.inl ⟨_, fun x => .value x, rfl, fun x => ⟨x, rfl⟩⟩)
  | exact .inr (.inr (.inl ⟨_, rfl⟩))
  | exact .inr (.inr (.inr ⟨_, _, rfl⟩))
  | trivial
theorem run_calm {o : Oper} (h : calmO o.op = true) (ρ : Operand → Value) (P : Program) (w : World) : (∃ v w', (execOp ρ o).run P w = .ok (.value v) w') ∨ (∃ w', (execOp ρ o).run P w = .ok .skip w') ∨ (∃ x w', (execOp ρ o).run P w = .halt x w') := by
 rcases exec_calm h ρ with ⟨v, e⟩ | ⟨s, g, e, hg⟩ | ⟨s, e⟩ | ⟨s, g, e⟩
 ·exact .inl ⟨v, w, by rw [e]; rfl⟩
 ·rw [e, Sem.run_bind]
  cases hr : s.run P w with
  | ok x w' =>
   obtain ⟨v, hv⟩ := hg x
   exact .inl ⟨v, w', by simp only [Result.andThen_ok, Sem.run_pure, hv]⟩
  | halt x w' => exact .inr (.inr ⟨x, w', rfl⟩)
 ·rw [e, Sem.run_bind]
  cases hr : s.run P w with
  | ok x w' => exact .inr (.inl ⟨w', rfl⟩)
  | halt x w' => exact .inr (.inr ⟨x, w', rfl⟩)
 ·rw [e, Sem.run_bind]
  cases hr : s.run P w with
  | ok x w' => exact .inl ⟨g x, w', rfl⟩
  | halt x w' => exact .inr (.inr ⟨x, w', rfl⟩)
theorem about_calm {o : Oper} (h : calmO o.op = true) {P : Program} {w : World} {ρ : Operand → Value} {p : Nat → Prop} : ∀ f, o.about P w ρ = some f → p f := by
 intro f hf
 unfold Oper.about at hf
 cases ho : o.op <;> simp only [ho, calmO, Bool.false_eq_true, reduceCtorEq] at h hf
theorem wpIn_calm {o : Oper} {P : Program} {F : Fence} {m : Nat} {a : Act} {w : World} {K : Act → World → Prop} {Q : Exit → Act → World → Prop} (h : calmO o.op = true) (hw : o.wp P a w K Q) : o.wpIn F m P a w K Q := by
 refine ⟨about_calm h, ?_⟩
 rw [Oper.semAt_eq _ _ _ (fun c hc => by rw [hc] at h; cases h)]
 unfold Oper.wp at hw
 rcases run_calm h a.eval P w with ⟨v, w', e⟩ | ⟨w', e⟩ | ⟨x, w', e⟩
 ·rw [e] at hw ⊢; exact hw
 ·rw [e] at hw ⊢; exact hw
 ·rw [e] at hw ⊢
  cases x <;> exact hw
section
variable {C : Cfg} {rid : Nat} {ops : Array Oper} {w0 : World} {A0 : Nat → Prop} {F0 : List Nat} {cS : Cx} {n : Nat} {Fc : Fence} {m : Nat}
theorem any_in (hcalm : ∀ o, o ∈ ops.toList → calmO o.op = true) (T : TOK C.P C.ti) {X : Nat → Option Eff} {G : Nat → FP} {Q : Exit → Act → World → Prop} (hdst : ∀ o, o ∈ ops.toList → ∀ t, o.dst = some t → t < n)
  (hbk : ∀ i o, ops[i]? = some o → ∀ e, e ∈ o.after → Region.binds .any e = true → e.on < i)
  (hok : ∀ i j o p, j < i → ops[j]? = some o → ops[i]? = some p → (o.apart ops p = true ∧ (G j).apart (G i) = true) ∨ befB ops ops.size j i = true) {stE : St}
  (hQ : ∀ a c Φ, SR w0 A0 F0 cS n stE a c Φ → Q .normal a c.w) : ∀ (fuel : Nat) (L : List Nat) (listed : Array Bool) {st : St} {a : Act} {c : Cx} {Φ : Nat → Nat → List Nat}, L.length = fuel → listed.size = ops.size → L.Pairwise (· < ·) →
  (∀ i, i ∈ L ↔ i < ops.size ∧ listed.getD i false = false) → (∀ k o, ops[k]? = some o → listed.getD k false = true → ∀ e, e ∈ o.after → Region.binds .any e = true → listed.getD e.on false = true) →
  TrD C rid ops X G L st stE → SR w0 A0 F0 cS n st a c Φ → wpAnyIn Fc m C.P .any ops Q fuel listed a c.w
 | 0, L, listed, st, a, c, Φ, hlen, hsz, hpw, hL, hcl, ht, hs => by
  obtain rfl := List.length_eq_zero_iff.1 hlen
  refine ⟨?_, ?_⟩
  ·unfold Region.ready
   rw [List.filter_eq_nil_iff]
   intro i hi
   have hi' : i < ops.size := by simpa using hi
   have : listed.getD i false = true := by
    cases hb : listed.getD i false with
    | true => rfl
    | false => have := (hL i).2 ⟨hi', hb⟩; cases this
   have h2 : listed.getD i true = true := by
    have hlt : i < listed.size := by omega
    simp only [Array.getD, hlt, dif_pos] at this ⊢; exact this
   simp [h2]
  ·have : stE = st := ht
   subst this
   exact hQ _ _ _ hs
 | fuel + 1, L, listed, st, a, c, Φ, hlen, hsz, hpw, hL, hcl, ht, hs => by
  have hready : ∀ i, i ∈ Region.ready .any ops listed ↔ i ∈ L ∧ ∀ o, ops[i]? = some o → ∀ e, e ∈ o.after → Region.binds .any e = true → listed.getD e.on false = true := by
   intro i
   unfold Region.ready
   rw [List.mem_filter, hL, List.mem_range]
   constructor
   ·rintro ⟨hi, h⟩
    simp only [Bool.and_eq_true, Bool.not_eq_true'] at h
    refine ⟨⟨hi, ?_⟩, ?_⟩
    ·have hlt : i < listed.size := by omega
     have := h.1
     simp only [Array.getD, hlt, dif_pos] at this ⊢; exact this
    ·intro o ho e he hb
     have h2 := h.2
     rw [ho] at h2
     simp only [Option.map_some, Option.getD_some, Array.all_eq_true_iff_forall_mem, Bool.or_eq_true, Bool.not_eq_true'] at h2
     rcases h2 e he with h3 | h3
     ·rw [hb] at h3; cases h3
     ·exact h3
   ·rintro ⟨⟨hi, h1⟩, h2⟩
    refine ⟨hi, ?_⟩
    simp only [Bool.and_eq_true, Bool.not_eq_true']
    refine ⟨?_, ?_⟩
    ·have hlt : i < listed.size := by omega
     simp only [Array.getD, hlt, dif_pos] at h1 ⊢; exact h1
    ·have ho : ops[i]? = some ops[i] := by simp [hi]
     rw [ho]
     simp only [Option.map_some, Option.getD_some, Array.all_eq_true_iff_forall_mem, Bool.or_eq_true, Bool.not_eq_true']
     intro e he
     cases hb : Region.binds .any e with
     | false => exact .inl rfl
     | true => exact .inr (h2 _ ho e he hb)
  refine ⟨fun hnil => ?_, fun i hi => ?_⟩
  ·exfalso
   cases L with
   | nil => simp at hlen
   | cons x t =>
    have hx : x ∈ Region.ready .any ops listed := by
     rw [hready]
     refine ⟨by simp, fun o ho e he hb => ?_⟩
     have hlt := hbk x o ho e he hb
     have hxs : x < ops.size := ((hL x).1 (by simp)).1
     cases hl : listed.getD e.on false with
     | true => rfl
     | false =>
      have hm := (hL e.on).2 ⟨by omega, hl⟩
      rcases List.mem_cons.1 hm with h | h
      ·omega
      ·have := (List.pairwise_cons.1 hpw).1 _ h; omega
    rw [hnil] at hx; cases hx
  ·obtain ⟨hiL, hie⟩ := (hready i).1 hi
   have his := ((hL i).1 hiL).1
   have hio : ops[i]? = some ops[i] := by simp [his]
   obtain ⟨l1, l2, rfl⟩ := List.append_of_mem hiL
   have hpw' := List.pairwise_append.1 hpw
   have hb := bubble hio l1 l2 (fun j hj => by
    have hji : j < i := hpw'.2.2 j hj i (by simp)
    have hjs : j < ops.size := by omega
    have hjo : ops[j]? = some ops[j] := by simp [hjs]
    refine ⟨_, hjo, ?_⟩
    rcases hok i j _ _ hji hjo hio with h | h
    ·exact h
    ·have h1 := befB_closed hcl _ _ _ h hie
     have h2 := ((hL j).1 (by simp [hj])).2
     rw [h1] at h2; cases h2) ht
   obtain ⟨o, ho, hc, ht'⟩ := hb
   rw [hio] at ho
   obtain rfl := Option.some.inj ho
   have hrec : ∀ a' c' Φ', SR w0 A0 F0 cS n (doD ops[i] st (X i)) a' c' Φ' → wpAnyIn Fc m C.P .any ops Q fuel (listed.setIfInBounds i true) a' c'.w := fun a' c' Φ' h' =>
    any_in hcalm T hdst hbk hok hQ fuel (l1 ++ l2) (listed.setIfInBounds i true) (by simp at hlen ⊢; omega) (by simp [hsz])
     (hpw.sublist (List.Sublist.append (List.Sublist.refl _) (List.sublist_cons_self _ _)))
     (fun k => by
      have hk := hL k
      have hnd := hpw.imp (fun {a b} (h : a < b) => Nat.ne_of_lt h)
      have hil : i < listed.size := by omega
      by_cases e : k = i
      ·subst e
       have h1 : k ∉ l1 ++ l2 := by
        intro hm
        rcases List.mem_append.1 hm with hm | hm
        ·exact absurd (hpw'.2.2 k hm k (by simp)) (by omega)
        ·exact absurd ((List.pairwise_cons.1 hpw'.2.1).1 k hm) (by omega)
       refine ⟨fun h => absurd h h1, fun h => ?_⟩
       have := h.2
       simp [Array.getD_eq_getD_getElem?, hil] at this
      ·have h1 : (k ∈ l1 ++ l2) ↔ k ∈ l1 ++ i :: l2 := by simp [e]
       rw [h1, hk]
       have : (listed.setIfInBounds i true).getD k false = listed.getD k false := by
        simp only [Array.getD_eq_getD_getElem?, Array.getElem?_setIfInBounds_ne (fun h => e h.symm)]
       rw [this])
     (fun k o2 hok2 hk e he hb' => by
      have hil : i < listed.size := by omega
      have hmono : ∀ m, listed.getD m false = true → (listed.setIfInBounds i true).getD m false = true := by
       intro m hm
       by_cases e : m = i
       ·subst e; simp [Array.getD_eq_getD_getElem?, hil]
       ·simp only [Array.getD_eq_getD_getElem?, Array.getElem?_setIfInBounds_ne (fun h => e h.symm)] at hm ⊢; exact hm
      by_cases ek : k = i
      ·subst ek
       exact hmono _ (hie o2 hok2 e he hb')
      ·refine hmono _ (hcl k o2 hok2 ?_ e he hb')
       simp only [Array.getD_eq_getD_getElem?, Array.getElem?_setIfInBounds_ne (fun h => ek h.symm)] at hk ⊢; exact hk)
     ht' h'
   have hst := step_ok T hs (hdst ops[i] (by simp)) (canD_step hc) (K := wpAnyIn Fc m C.P .any ops Q fuel (listed.setIfInBounds i true)) (Q := Q) hrec
   unfold wpOpIn
   simp only [hio]
   split
   ·rename_i hw; rw [if_pos hw] at hst; exact wpIn_calm (hcalm _ (by simp)) hst
   ·rename_i hw; rw [if_neg hw] at hst; exact ⟨about_calm (hcalm _ (by simp)), hst⟩
theorem opsD_in (hcalm : ∀ o, o ∈ ops.toList → calmO o.op = true) (T : TOK C.P C.ti) (hm : C.P.follows .mixedOrders = true) {K : Exit → Act → World → Prop} {Q : St → Prop} {st : St} {a : Act} {c : Cx} {Φ : Nat → Nat → List Nat} (h : SR w0 A0 F0 cS n st a c Φ)
  (hdst : ∀ o, o ∈ ops.toList → ∀ t, o.dst = some t → t < n) (hq : opsD C rid ops ops.toList 0 [] (fun st fp => okD ops fp = true ∧ Q st) st)
  (hK : ∀ st' a' c' Φ', SR w0 A0 F0 cS n st' a' c' Φ' → Q st' → K .normal a' c'.w) : (Code.region rid ops true).wpIn Fc m C.P K a c.w := by
 obtain ⟨X, fps, stE, hlen, ht, hok, hQ⟩ := opsD_tr ops.toList 0 (fun k o hk => by simpa using hk) hq
 simp only [List.reverse_nil, List.nil_append] at hok
 obtain ⟨c', Φ', hw', hs'⟩ := h.drawn (c.w.drawn + 1)
 refine wpIn_region_any hm ?_
 rw [← hw']
 simp only [Nat.sub_zero] at ht
 unfold okD at hok
 rw [List.all_eq_true] at hok
 have hlen' : fps.length = ops.size := by simpa using hlen
 refine any_in hcalm (X := X) (G := fun k => fps.getD k fp0) (stE := stE) T hdst ?_ ?_ (fun a' c' Φ' h' => hK _ _ _ _ h' hQ) ops.size (List.range' 0 ops.toList.length) _ (by simp) (by simp) (List.pairwise_lt_range' ..) ?_ ?_ ht hs'
 ·intro i o ho e he hb
  have hi : i < ops.size := by
   rcases Nat.lt_or_ge i ops.size with h | h
   ·exact h
   ·rw [Array.getElem?_eq_none h] at ho; cases ho
  have := hok i (by simpa using hi)
  simp only [ho, Bool.and_eq_true] at this
  have := List.all_eq_true.1 this.1 e (by simpa using he)
  simpa [hb] using this
 ·intro i j o p hji hj hi
  have his : i < ops.size := by
   rcases Nat.lt_or_ge i ops.size with h | h
   ·exact h
   ·rw [Array.getElem?_eq_none h] at hi; cases hi
  have := hok i (by simpa using his)
  simp only [hi, Bool.and_eq_true] at this
  have := List.all_eq_true.1 this.2 j (by simpa using hji)
  unfold okPair at this
  have e1 : fps[j]? = some (fps[j]'(by omega)) := List.getElem?_eq_getElem _
  have e2 : fps[i]? = some (fps[i]'(by omega)) := List.getElem?_eq_getElem _
  simp only [hi, hj, e1, e2, Bool.or_eq_true, Bool.and_eq_true] at this
  simp only [List.getD_eq_getElem?_getD, e1, e2, Option.getD_some]
  exact this
 ·intro i
  rw [List.mem_range'_1]
  simp only [Array.length_toList, Array.getD_eq_getD_getElem?, Array.getElem?_replicate]
  constructor
  ·intro h; exact ⟨by omega, by split <;> rfl⟩
  ·intro h; omega
 ·intro k o _ hk
  simp only [Array.getD_eq_getD_getElem?, Array.getElem?_replicate] at hk
  split at hk <;> cases hk
theorem opsW_in (T : TOK C.P C.ti) (rid : Nat) (ops : Array Oper) {K : Exit → Act → World → Prop} : ∀ (l : List Oper) (i : Nat) {Q : St → Prop} {st : St} {a : Act} {c : Cx} {Φ : Nat → Nat → List Nat}, (∀ o, o ∈ l → calmO o.op = true) → SR w0 A0 F0 cS n st a c Φ →
  (∀ o, o ∈ l → ∀ t, o.dst = some t → t < n) → opsW C rid ops l i Q st → (∀ st' a' c' Φ', SR w0 A0 F0 cS n st' a' c' Φ' → Q st' → K .normal a' c'.w) → wpListIn Fc m C.P ops K l a c.w
 | [], i, Q, st, a, c, Φ, _, h, _, hq, hK => hK _ _ _ _ h hq
 | o :: rest, i, Q, st, a, c, Φ, hcalm, h, hd, hq, hK => by
  have main : ∀ st', stepR C rid ops i o st st' → opsW C rid ops rest (i + 1) Q st' → wpListIn Fc m C.P ops K (o :: rest) a c.w := by
   intro st' hs hrest
   have := step_ok (w0 := w0) (A0 := A0) (F0 := F0) T h (hd o (by simp)) hs (K := wpListIn Fc m C.P ops K rest) (Q := K) (fun a' c' Φ' h' => opsW_in T rid ops rest (i + 1) (fun o ho => hcalm o (by simp [ho])) h' (fun o ho => hd o (by simp [ho])) hrest hK)
   unfold wpListIn
   split
   ·rename_i hw; rw [if_pos hw] at this; exact wpIn_calm (hcalm o (by simp)) this
   ·rename_i hw; rw [if_neg hw] at this; exact ⟨about_calm (hcalm o (by simp)), this⟩
  simp only [opsW] at hq
  cases hw : zbl ops o st with
  | none => simp [hw] at hq
  | some t =>
   cases t
   ·simp only [hw] at hq; exact main _ (by unfold stepR; rw [hw]) hq
   ·simp only [hw] at hq
    rcases hq with ⟨e, h1, h2⟩ | ⟨Po, h1, h2⟩
    ·exact main _ (by unfold stepR; rw [hw]; exact ⟨e, h1, rfl⟩) h2
    ·exfalso
     have hc := hcalm o (by simp)
     unfold inR at h1
     cases ho : o.op <;> simp only [ho, calmO, Bool.false_eq_true] at hc h1
def calmC : Code → Bool
 | .skip => true
 | .region _ ops _ => ops.toList.all fun o => calmO o.op
 | .seq a b => calmC a && calmC b
 | .cond _ x y => calmC x && calmC y
 | .block _ c => calmC c
 | .exit _ => true
 | .ret => true
 | _ => false
theorem calm_noV {op : Op} (h : isV op = true) : ¬ calmO op = true := by
 cases op <;> simp_all [isV, calmO]
theorem codeW_in (T : TOK C.P C.ti) (hm : C.P.follows .mixedOrders = true) : ∀ (code : Code) {Q : Exit → St → Prop} {st : St} {a : Act} {c : Cx} {Φ : Nat → Nat → List Nat}, calmC code = true → SR w0 A0 F0 cS n st a c Φ → dstOK n code = true → codeW C code Q st →
  code.wpIn Fc m C.P (PostOf w0 A0 F0 cS n Q) a c.w := by
 intro code
 induction code with
 | skip => intro Q st a c Φ _ h _ hq; exact wpIn_skip ⟨st, c, Φ, rfl, h, hq⟩
 | region id ops d =>
  intro Q st a c Φ hk h hd hq
  have hdst : ∀ o, o ∈ ops.toList → ∀ t, o.dst = some t → t < n := by
   intro o ho t ht
   simp only [dstOK] at hd
   have := List.all_eq_true.1 hd o ho
   simpa [ht] using this
  have hkc : ∀ o, o ∈ ops.toList → calmO o.op = true := fun o ho => by
   simp only [calmC] at hk
   exact List.all_eq_true.1 hk o ho
  cases d with
  | false => exact wpIn_region_list (opsW_in T id ops ops.toList 0 hkc h hdst hq fun st' a' c' Φ' h' hq' => ⟨st', c', Φ', rfl, h', hq'⟩)
  | true =>
   rcases hq with hq | ⟨hv, _⟩
   ·exact opsD_in hkc T hm h hdst hq fun st' a' c' Φ' h' hq' => ⟨st', c', Φ', rfl, h', hq'⟩
   ·obtain ⟨o, ho, hv⟩ := List.any_eq_true.1 hv
    exact absurd (hkc o ho) (calm_noV hv)
 | seq x y ihx ihy =>
  intro Q st a c Φ hk h hd hq
  simp only [dstOK, Bool.and_eq_true] at hd
  simp only [calmC, Bool.and_eq_true] at hk
  refine wpIn_seq (wpIn_mono (ihx hk.1 h hd.1 hq) ?_)
  rintro e a' w' ⟨st', c', Φ', rfl, h', hq'⟩
  cases e with
  | normal => exact ihy hk.2 h' hd.2 hq'
  | exit _ => exact ⟨st', c', Φ', rfl, h', hq'⟩
  | goto _ => exact ⟨st', c', Φ', rfl, h', hq'⟩
  | ret => exact ⟨st', c', Φ', rfl, h', hq'⟩
  | panic _ => exact ⟨st', c', Φ', rfl, h', hq'⟩
  | outgrown => exact ⟨st', c', Φ', rfl, h', hq'⟩
 | cond x t e iht ihe =>
  intro Q st a c Φ hk h hd hq
  simp only [dstOK, Bool.and_eq_true] at hd
  simp only [calmC, Bool.and_eq_true] at hk
  obtain ⟨b, hb, h1, h2⟩ := hq
  have hv := h.ev x
  rw [hb] at hv
  obtain ⟨hv, _⟩ := Rel.sc_inv hv
  refine wpIn_cond_split hv ?_ ?_
  ·intro ht; exact iht hk.1 h hd.1 (h1 ht)
  ·intro ht; exact ihe hk.2 h hd.2 (h2 ht)
 | block id x ih =>
  intro Q st a c Φ hk h hd hq
  simp only [dstOK] at hd
  simp only [calmC] at hk
  refine wpIn_block (wpIn_mono (ih hk h hd hq) ?_)
  rintro e a' w' ⟨st', c', Φ', rfl, h', hq'⟩
  cases e with
  | exit j =>
   simp only at hq'
   simp only [Exit.inBlock]
   split
   ·rename_i hj; rw [if_pos hj] at hq'; exact ⟨st', c', Φ', rfl, h', hq'⟩
   ·rename_i hj; rw [if_neg hj] at hq'; exact ⟨st', c', Φ', rfl, h', hq'⟩
  | normal => exact ⟨st', c', Φ', rfl, h', hq'⟩
  | goto _ => exact ⟨st', c', Φ', rfl, h', hq'⟩
  | ret => exact ⟨st', c', Φ', rfl, h', hq'⟩
  | panic _ => exact ⟨st', c', Φ', rfl, h', hq'⟩
  | outgrown => exact ⟨st', c', Φ', rfl, h', hq'⟩
 | loop x ih => intro Q st a c Φ hk; simp [calmC] at hk
 | exit id => intro Q st a c Φ _ h _ hq; exact wpIn_exit ⟨st, c, Φ, rfl, h, hq⟩
 | ret => intro Q st a c Φ _ h _ hq; exact wpIn_ret ⟨st, c, Φ, rfl, h, hq⟩
 | rangeFunc => intro Q st a c Φ hk; simp [calmC] at hk
 | scope => intro Q st a c Φ hk; simp [calmC] at hk
 | label => intro Q st a c Φ hk; simp [calmC] at hk
 | goto => intro Q st a c Φ hk; simp [calmC] at hk
 | refuse => intro Q st a c Φ hk; simp [calmC] at hk
end
end Go.Proofs.YthpmddoakefbmaaGreat
/- The library's slices.Backward over numbers, and the program's sum of two elements of a group, by the kit's own walk. -/
namespace Go.Proofs.YthpmddoakefbmaaGreat
open Go.RowKit Go.Shelf
attribute [local go_sem] Oper.semAt_some
def upto {α : Type} (f : Nat → α) (k : Nat) : List α := (List.range k).map f
theorem upto_succ {α : Type} (f : Nat → α) (k : Nat) : upto f (k + 1) = upto f k ++ [f k] := by simp [upto, List.range_succ]
theorem upto_length {α : Type} (f : Nat → α) (k : Nat) : (upto f k).length = k := by simp [upto]
def KpB (n₀ B : Nat) (X Y : World) : Prop := Below n₀ X Y ∧ ∀ v, X.cell? ⟨B, 0, none⟩ = some v → Y.cell? ⟨B, 0, none⟩ = some v
theorem KpB.refl (n₀ B : Nat) (X : World) : KpB n₀ B X X := ⟨Below.refl _ _, fun _ h => h⟩
theorem KpB.trans {n₀ B : Nat} {X Y Z : World} (h : KpB n₀ B X Y) (k : KpB n₀ B Y Z) : KpB n₀ B X Z := ⟨h.1.trans k.1, fun v hv => k.2 v (h.2 v hv)⟩
set_option maxRecDepth 100000 in
set_option maxHeartbeats 2000000 in
theorem bwd1_in {α : Type} (ei ev : α → Int) (f : Nat → α) (F : Fence) (n : Nat) (h8 : F.fn 134) (hro : F.round = none) (hn : 1 ≤ n) (l Bs n₀ b off cap : Nat) (zs : List Int) (hreach : zs.length * 8 ≤ 140737488351232) (hb : b < n₀) (hf : ∀ m, m < zs.length → ei (f (zs.length - (m + 1))) = m ∧ ev (f (zs.length - (m + 1))) = zs[m]?.getD 0) (J Jx : List α → World → Prop)
  (hY : ∀ pre x W, J pre W → pre.length < zs.length → YieldAt F (n - 1) Tryz.prog l #[.int .i64 (ei x), .int .i64 (ev x)] W fun e W' =>
   (e = .returned (.bool true) ∧ J (pre ++ [x]) W' ∧ KpB n₀ Bs W W') ∨ (e = .returned (.bool false) ∧ Jx (pre ++ [x]) W'))
  (W : World) (hBs : W.cell? ⟨Bs, 0, none⟩ = some (.slice (some ⟨b, off, none⟩) zs.length cap)) (hc : ∀ j, j < zs.length → W.cell? ⟨b, off + j, none⟩ = some (.int .i64 (zs[j]?.getD 0))) (h0 : J [] W) :
  CallsIn F n Tryz.prog 134 #[.func (.yield l) #[] #[], .pointer (some ⟨Bs, 0, none⟩)] W fun e W' => (∃ v, e = .returned v) ∧
   ((∃ ys, ys = upto f zs.length ∧ J ys W') ∨ (∃ pre, (∃ k, k ≤ zs.length ∧ pre = upto f k) ∧ Jx pre W')) := by
 refine callsIn_of_wp Tryz.func134 rfl h8 ?_ hro
 simp only [Tryz.ntmps134, List.size_toArray, List.length_cons, List.length_nil, Nat.reduceAdd, Nat.reduceSub, Array.replicate_succ, Array.replicate_zero, List.push_toArray, List.append_toArray, List.nil_append, List.cons_append]
 gi_wp2
 gi_loopw [3] (fun i wr => ∃ k : Nat, k ≤ zs.length ∧ i = .int .i64 ((k : Int) - 1) ∧ J (upto f (zs.length - k)) wr ∧ KpB n₀ Bs W wr)
  (fun i _ => (intOf i + 1).toNat)
 case atStart => exact ⟨zs.length, Nat.le_refl _, rfl, by rw [Nat.sub_self]; exact h0, KpB.refl _ _ _⟩
 case round =>
  obtain ⟨k, hk, rfl, hJs, hnx⟩ := hrel
  have hBs' := hnx.2 _ hBs
  cases k with
  | zero =>
   gi_wp2
   go_end0
   exact ⟨⟨_, rfl⟩, .inl ⟨_, rfl, hJs⟩⟩
  | succ m =>
   have hcx : wr.cell? ⟨b, off + m, none⟩ = some (.int .i64 (zs[m]?.getD 0)) := (hnx.1.cell (p := ⟨b, off + m, none⟩) hb).trans (hc m (by omega))
   obtain ⟨f1, f2⟩ := hf m (by omega)
   obtain ⟨fn, tmps, assign, body, hy, hR⟩ := hY _ (f (zs.length - (m + 1))) wr hJs (by rw [upto_length]; omega)
   rw [f1, f2] at hy
   have em : ((m + 1 : Nat) : Int) - 1 = (m : Int) := by omega
   rw [em]
   gi_wp2
   refine hR.mono ?_
   rintro e W3 (⟨rfl, hJ3, hk3⟩ | ⟨rfl, hJx3⟩)
   ·gi_wp2
    go_roundw
    case rel => exact ⟨m, by omega, by simp, by
     have e1 : zs.length - m = (zs.length - (m + 1)) + 1 := by omega
     rw [e1, upto_succ]; exact hJ3, hnx.trans hk3⟩
    case measure => simp [intOf]
   ·gi_wp2
    refine bodyPost_ret (results_none rfl _ _ _) rfl ?_
    exact ⟨⟨_, rfl⟩, .inr ⟨_, ⟨zs.length - (m + 1) + 1, by omega, by rw [upto_succ]⟩, hJx3⟩⟩
set_option maxHeartbeats 1000000 in
theorem bwd_in (F : Fence) (n : Nat) (h5 : F.fn 120) (hro : F.round = none) (a : Option Addr) (len cap : Nat) (w : World) :
  CallsIn F n Tryz.prog 120 #[.slice a len cap] w fun e w' => e = .returned (.func (.func 134) #[] #[.pointer (some ⟨w.heap.size, 0, none⟩)]) ∧ w' = w.alloc (.cells #[.slice a len cap] 24) := by
 refine callsIn_of_wp Tryz.func120 rfl h5 ?_ hro
 simp only [Tryz.ntmps120, List.size_toArray, List.length_cons, List.length_nil, Nat.reduceAdd, Nat.reduceSub, Array.replicate_succ, Array.replicate_zero, List.push_toArray, List.append_toArray, List.nil_append, List.cons_append]
 gi_wp2
 go_ret
 exact ⟨rfl, rfl⟩
def IntsA (n₀ : Nat) (W : World) (sv : Value) (zs : List Int) : Prop :=
 ∃ b off cap, sv = .slice (some ⟨b, off, none⟩) zs.length cap ∧ b < n₀ ∧ ∀ j, j < zs.length → W.cell? ⟨b, off + j, none⟩ = some (.int .i64 (zs[j]?.getD 0))
theorem IntsA.below {n₀ : Nat} {A B : World} (h : Below n₀ A B) {sv : Value} {zs : List Int} : IntsA n₀ A sv zs → IntsA n₀ B sv zs
 | ⟨b, off, cap, e, hb, hc⟩ => ⟨b, off, cap, e, hb, fun j hj => (h.cell (p := ⟨b, off + j, none⟩) hb).trans (hc j hj)⟩
theorem bwd_stops {α : Type} (ei ev : α → Int) (f : Nat → α) (F : Fence) (n : Nat) (h8 : F.fn 134) (hro : F.round = none) (hn : 1 ≤ n) (Bs n₀ : Nat) (sv : Value) (zs : List Int) (hreach : zs.length * 8 ≤ 140737488351232) (w : World) (hBs : Bs < w.heap.size) (hn₀ : n₀ ≤ w.heap.size)
  (hc : w.cell? ⟨Bs, 0, none⟩ = some sv) (hI : IntsA n₀ w sv zs) (hf : ∀ m, m < zs.length → ei (f (zs.length - (m + 1))) = m ∧ ev (f (zs.length - (m + 1))) = zs[m]?.getD 0) :
  SeqStopsK F n Tryz.prog 134 #[.pointer (some ⟨Bs, 0, none⟩)] (fun x : α => #[Value.int .i64 (ei x), Value.int .i64 (ev x)]) (KpB n₀ Bs) (fun ys => ys = upto f zs.length)
   (fun pre => ∃ k, k ≤ zs.length ∧ pre = upto f k) zs.length w := fun l J Jx W hW _ _ hY h0 => by
 have hc' := (hW.cell (p := ⟨Bs, 0, none⟩) hBs).trans hc
 obtain ⟨b, off, cap, rfl, hb, hcs⟩ := hI.below (hW.mono hn₀)
 exact bwd1_in ei ev f F n h8 hro hn l Bs n₀ b off cap zs hreach hb hf J Jx hY W hc' hcs h0
end Go.Proofs.YthpmddoakefbmaaGreat
