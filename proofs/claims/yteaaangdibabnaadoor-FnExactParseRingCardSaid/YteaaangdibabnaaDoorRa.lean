/- Texts joined: Rg1. -/
import Derived.OrdersIn
import Derived.TacticsIn
import Derived.ControlIn
import Derived.RangeFuncCalls
import Derived.Test.YteaaangdibabnaaDoorMc
set_option linter.all false
/- The abstract machine inside a round of a range over a function: code without loops, returns and defer statements; calls are as everywhere. -/
namespace Go.Proofs.YteaaangdibabnaaDoor
open Go.RowKit
theorem rows_inR {P : Program} {row : String} {args : Array Value} {w : World} {R : Value → World → Prop} {m l : Nat} (h : Rows P row args w R) : RowsIn (Fence.wide.inRound l) m P row args w R := by
 intro c cs _
 obtain ⟨v, w', h1, h2⟩ := h c cs
 exact ⟨v, w', h1, stepsIn_wide.2 h2⟩
theorem wpIn_of_wp {o : Oper} {P : Program} {l m : Nat} {a : Act} {w : World} {K : Act → World → Prop} {Q : Exit → Act → World → Prop} (h : ∀ c, o.op ≠ .defer c) (hw : o.wp P a w K Q) : o.wpIn (Fence.wide.inRound l) m P a w K Q := by
 refine ⟨fun _ _ => trivial, ?_⟩
 rw [Oper.semAt_eq _ _ _ h]
 unfold Oper.wp at hw
 cases hr : (execOp a.eval o).run P w with
 | ok x w' =>
  rw [hr] at hw
  cases x with
  | value v => exact hw
  | skip => exact hw
  | defer d => exact hw
  | enter f args => exact ⟨fun hd => (by cases hd), CallsIn.inRound l (callsIn_wide.2 hw)⟩
  | row row args => exact ⟨fun hd => (by cases hd), rows_inR hw⟩
  | _ => exact hw.elim
 | halt x w' =>
  rw [hr] at hw
  cases x <;> exact hw
section
variable {C : Cfg} {rid : Nat} {ops : Array Oper} {w0 : World} {A0 : Nat → Prop} {F0 : List Nat} {cS : Cx} {n : Nat} {lR : Nat} {m : Nat}
theorem any_inR (hcalm : ∀ o, o ∈ ops.toList → ∀ c, o.op ≠ .defer c) (T : TOK C.P C.ti) {X : Nat → Option Eff} {G : Nat → FP} {Q : Exit → Act → World → Prop} (hdst : ∀ o, o ∈ ops.toList → ∀ t, o.dst = some t → t < n)
  (hbk : ∀ i o, ops[i]? = some o → ∀ e, e ∈ o.after → Region.binds .any e = true → e.on < i)
  (hok : ∀ i j o p, j < i → ops[j]? = some o → ops[i]? = some p → (o.apart ops p = true ∧ (G j).apart (G i) = true) ∨ befB ops ops.size j i = true) {stE : St}
  (hQ : ∀ a c Φ, SR w0 A0 F0 cS n stE a c Φ → Q .normal a c.w) : ∀ (fuel : Nat) (L : List Nat) (listed : Array Bool) {st : St} {a : Act} {c : Cx} {Φ : Nat → Nat → List Nat}, L.length = fuel → listed.size = ops.size → L.Pairwise (· < ·) →
  (∀ i, i ∈ L ↔ i < ops.size ∧ listed.getD i false = false) → (∀ k o, ops[k]? = some o → listed.getD k false = true → ∀ e, e ∈ o.after → Region.binds .any e = true → listed.getD e.on false = true) →
  TrD C rid ops X G L st stE → SR w0 A0 F0 cS n st a c Φ → wpAnyIn (Fence.wide.inRound lR) m C.P .any ops Q fuel listed a c.w
 | 0, L, listed, st, a, c, Φ, hlen, hsz, hpw, hL, hcl, ht, hs => by
  obtain rfl := List.length_eq_zero_iff.1 hlen
  refine ⟨?_, ?_⟩
  ·unfold Region.ready
   rw [List.filter_eq_nil_iff]
   intro i hi
   have hi' : i < ops.size := by simpa using hi
   have : listed.getD i false = true := by
    cases hb : listed.getD i false with
    | true => rfl
    | false => have := (hL i).2 ⟨hi', hb⟩; cases this
   have h2 : listed.getD i true = true := by
    have hlt : i < listed.size := by omega
    simp only [Array.getD, hlt, dif_pos] at this ⊢; exact this
   simp [h2]
  ·have : stE = st := ht
   subst this
   exact hQ _ _ _ hs
 | fuel + 1, L, listed, st, a, c, Φ, hlen, hsz, hpw, hL, hcl, ht, hs => by
  have hready : ∀ i, i ∈ Region.ready .any ops listed ↔ i ∈ L ∧ ∀ o, ops[i]? = some o → ∀ e, e ∈ o.after → Region.binds .any e = true → listed.getD e.on false = true := by
   intro i
   unfold Region.ready
   rw [List.mem_filter, hL, List.mem_range]
   constructor
   ·rintro ⟨hi, h⟩
    simp only [Bool.and_eq_true, Bool.not_eq_true'] at h
    refine ⟨⟨hi, ?_⟩, ?_⟩
    ·have hlt : i < listed.size := by omega
     have := h.1
     simp only [Array.getD, hlt, dif_pos] at this ⊢; exact this
    ·intro o ho e he hb
     have h2 := h.2
     rw [ho] at h2
     simp only [Option.map_some, Option.getD_some, Array.all_eq_true_iff_forall_mem, Bool.or_eq_true, Bool.not_eq_true'] at h2
     rcases h2 e he with h3 | h3
     ·rw [hb] at h3; cases h3
     ·exact h3
   ·rintro ⟨⟨hi, h1⟩, h2⟩
    refine ⟨hi, ?_⟩
    simp only [Bool.and_eq_true, Bool.not_eq_true']
    refine ⟨?_, ?_⟩
    ·have hlt : i < listed.size := by omega
     simp only [Array.getD, hlt, dif_pos] at h1 ⊢; exact h1
    ·have ho : ops[i]? = some ops[i] := by simp [hi]
     rw [ho]
     simp only [Option.map_some, Option.getD_some, Array.all_eq_true_iff_forall_mem, Bool.or_eq_true, Bool.not_eq_true']
     intro e he
     cases hb : Region.binds .any e with
     | false => exact .inl rfl
     | true => exact .inr (h2 _ ho e he hb)
  refine ⟨fun hnil => ?_, fun i hi => ?_⟩
  ·exfalso
   cases L with
   | nil => simp at hlen
   | cons x t =>
    have hx : x ∈ Region.ready .any ops listed := by
     rw [hready]
     refine ⟨by simp, fun o ho e he hb => ?_⟩
     have hlt := hbk x o ho e he hb
     have hxs : x < ops.size := ((hL x).1 (by simp)).1
     cases hl : listed.getD e.on false with
     | true => rfl
     | false =>
      have hm := (hL e.on).2 ⟨by omega, hl⟩
      rcases List.mem_cons.1 hm with h | h
      ·omega
      ·have := (List.pairwise_cons.1 hpw).1 _ h; omega
    rw [hnil] at hx; cases hx
  ·obtain ⟨hiL, hie⟩ := (hready i).1 hi
   have his := ((hL i).1 hiL).1
   have hio : ops[i]? = some ops[i] := by simp [his]
   obtain ⟨l1, l2, rfl⟩ := List.append_of_mem hiL
   have hpw' := List.pairwise_append.1 hpw
   have hb := bubble hio l1 l2 (fun j hj => by
    have hji : j < i := hpw'.2.2 j hj i (by simp)
    have hjs : j < ops.size := by omega
    have hjo : ops[j]? = some ops[j] := by simp [hjs]
    refine ⟨_, hjo, ?_⟩
    rcases hok i j _ _ hji hjo hio with h | h
    ·exact h
    ·have h1 := befB_closed hcl _ _ _ h hie
     have h2 := ((hL j).1 (by simp [hj])).2
     rw [h1] at h2; cases h2) ht
   obtain ⟨o, ho, hc, ht'⟩ := hb
   rw [hio] at ho
   obtain rfl := Option.some.inj ho
   have hrec : ∀ a' c' Φ', SR w0 A0 F0 cS n (doD ops[i] st (X i)) a' c' Φ' → wpAnyIn (Fence.wide.inRound lR) m C.P .any ops Q fuel (listed.setIfInBounds i true) a' c'.w := fun a' c' Φ' h' =>
    any_inR hcalm T hdst hbk hok hQ fuel (l1 ++ l2) (listed.setIfInBounds i true) (by simp at hlen ⊢; omega) (by simp [hsz])
     (hpw.sublist (List.Sublist.append (List.Sublist.refl _) (List.sublist_cons_self _ _)))
     (fun k => by
      have hk := hL k
      have hnd := hpw.imp (fun {a b} (h : a < b) => Nat.ne_of_lt h)
      have hil : i < listed.size := by omega
      by_cases e : k = i
      ·subst e
       have h1 : k ∉ l1 ++ l2 := by
        intro hm
        rcases List.mem_append.1 hm with hm | hm
        ·exact absurd (hpw'.2.2 k hm k (by simp)) (by omega)
        ·exact absurd ((List.pairwise_cons.1 hpw'.2.1).1 k hm) (by omega)
       refine ⟨fun h => absurd h h1, fun h => ?_⟩
       have := h.2
       simp [Array.getD_eq_getD_getElem?, hil] at this
      ·have h1 : (k ∈ l1 ++ l2) ↔ k ∈ l1 ++ i :: l2 := by simp [e]
       rw [h1, hk]
       have : (listed.setIfInBounds i true).getD k false = listed.getD k false := by
        simp only [Array.getD_eq_getD_getElem?, Array.getElem?_setIfInBounds_ne (fun h => e h.symm)]
       rw [this])
     (fun k o2 hok2 hk e he hb' => by
      have hil : i < listed.size := by omega
      have hmono : ∀ m, listed.getD m false = true → (listed.setIfInBounds i true).getD m false = true := by
       intro m hm
       by_cases e : m = i
       ·subst e; simp [Array.getD_eq_getD_getElem?, hil]
       ·simp only [Array.getD_eq_getD_getElem?, Array.getElem?_setIfInBounds_ne (fun h => e h.symm)] at hm ⊢; exact hm
      by_cases ek : k = i
      ·subst ek
       exact hmono _ (hie o2 hok2 e he hb')
      ·refine hmono _ (hcl k o2 hok2 ?_ e he hb')
       simp only [Array.getD_eq_getD_getElem?, Array.getElem?_setIfInBounds_ne (fun h => ek h.symm)] at hk ⊢; exact hk)
     ht' h'
   have hst := step_ok T hs (hdst ops[i] (by simp)) (canD_step hc) (K := wpAnyIn (Fence.wide.inRound lR) m C.P .any ops Q fuel (listed.setIfInBounds i true)) (Q := Q) hrec
   unfold wpOpIn
   simp only [hio]
   split
   ·rename_i hw; rw [if_pos hw] at hst; exact wpIn_of_wp (hcalm _ (by simp)) hst
   ·rename_i hw; rw [if_neg hw] at hst; exact ⟨fun _ _ => trivial, hst⟩
theorem opsD_inR (hcalm : ∀ o, o ∈ ops.toList → ∀ c, o.op ≠ .defer c) (T : TOK C.P C.ti) (hm : C.P.follows .mixedOrders = true) {K : Exit → Act → World → Prop} {Q : St → Prop} {st : St} {a : Act} {c : Cx} {Φ : Nat → Nat → List Nat} (h : SR w0 A0 F0 cS n st a c Φ)
  (hdst : ∀ o, o ∈ ops.toList → ∀ t, o.dst = some t → t < n) (hq : opsD C rid ops ops.toList 0 [] (fun st fp => okD ops fp = true ∧ Q st) st)
  (hK : ∀ st' a' c' Φ', SR w0 A0 F0 cS n st' a' c' Φ' → Q st' → K .normal a' c'.w) : (Code.region rid ops true).wpIn (Fence.wide.inRound lR) m C.P K a c.w := by
 obtain ⟨X, fps, stE, hlen, ht, hok, hQ⟩ := opsD_tr ops.toList 0 (fun k o hk => by simpa using hk) hq
 simp only [List.reverse_nil, List.nil_append] at hok
 obtain ⟨c', Φ', hw', hs'⟩ := h.drawn (c.w.drawn + 1)
 refine wpIn_region_any hm ?_
 rw [← hw']
 simp only [Nat.sub_zero] at ht
 unfold okD at hok
 rw [List.all_eq_true] at hok
 have hlen' : fps.length = ops.size := by simpa using hlen
 refine any_inR hcalm (X := X) (G := fun k => fps.getD k fp0) (stE := stE) T hdst ?_ ?_ (fun a' c' Φ' h' => hK _ _ _ _ h' hQ) ops.size (List.range' 0 ops.toList.length) _ (by simp) (by simp) (List.pairwise_lt_range' ..) ?_ ?_ ht hs'
 ·intro i o ho e he hb
  have hi : i < ops.size := by
   rcases Nat.lt_or_ge i ops.size with h | h
   ·exact h
   ·rw [Array.getElem?_eq_none h] at ho; cases ho
  have := hok i (by simpa using hi)
  simp only [ho, Bool.and_eq_true] at this
  have := List.all_eq_true.1 this.1 e (by simpa using he)
  simpa [hb] using this
 ·intro i j o p hji hj hi
  have his : i < ops.size := by
   rcases Nat.lt_or_ge i ops.size with h | h
   ·exact h
   ·rw [Array.getElem?_eq_none h] at hi; cases hi
  have := hok i (by simpa using his)
  simp only [hi, Bool.and_eq_true] at this
  have := List.all_eq_true.1 this.2 j (by simpa using hji)
  unfold okPair at this
  have e1 : fps[j]? = some (fps[j]'(by omega)) := List.getElem?_eq_getElem _
  have e2 : fps[i]? = some (fps[i]'(by omega)) := List.getElem?_eq_getElem _
  simp only [hi, hj, e1, e2, Bool.or_eq_true, Bool.and_eq_true] at this
  simp only [List.getD_eq_getElem?_getD, e1, e2, Option.getD_some]
  exact this
 ·intro i
  rw [List.mem_range'_1]
  simp only [Array.length_toList, Array.getD_eq_getD_getElem?, Array.getElem?_replicate]
  constructor
  ·intro h; exact ⟨by omega, by split <;> rfl⟩
  ·intro h; omega
 ·intro k o _ hk
  simp only [Array.getD_eq_getD_getElem?, Array.getElem?_replicate] at hk
  split at hk <;> cases hk
theorem opsW_inR (T : TOK C.P C.ti) (hI : InlOK C) (rid : Nat) (ops : Array Oper) {K : Exit → Act → World → Prop} : ∀ (l : List Oper) (i : Nat) {Q : St → Prop} {st : St} {a : Act} {c : Cx} {Φ : Nat → Nat → List Nat}, (∀ o, o ∈ l → ∀ c, o.op ≠ .defer c) → SR w0 A0 F0 cS n st a c Φ →
  (∀ o, o ∈ l → ∀ t, o.dst = some t → t < n) → opsW C rid ops l i Q st → (∀ st' a' c' Φ', SR w0 A0 F0 cS n st' a' c' Φ' → Q st' → K .normal a' c'.w) → wpListIn (Fence.wide.inRound lR) m C.P ops K l a c.w
 | [], i, Q, st, a, c, Φ, _, h, _, hq, hK => hK _ _ _ _ h hq
 | o :: rest, i, Q, st, a, c, Φ, hcalm, h, hd, hq, hK => by
  have main : ∀ st', stepR C rid ops i o st st' → opsW C rid ops rest (i + 1) Q st' → wpListIn (Fence.wide.inRound lR) m C.P ops K (o :: rest) a c.w := by
   intro st' hs hrest
   have := step_ok (w0 := w0) (A0 := A0) (F0 := F0) T h (hd o (by simp)) hs (K := wpListIn (Fence.wide.inRound lR) m C.P ops K rest) (Q := K) (fun a' c' Φ' h' => opsW_inR T hI rid ops rest (i + 1) (fun o ho => hcalm o (by simp [ho])) h' (fun o ho => hd o (by simp [ho])) hrest hK)
   unfold wpListIn
   split
   ·rename_i hw; rw [if_pos hw] at this; exact wpIn_of_wp (hcalm o (by simp)) this
   ·rename_i hw; rw [if_neg hw] at this; exact ⟨fun _ _ => trivial, this⟩
  simp only [opsW] at hq
  cases hw : zbl ops o st with
  | none => simp [hw] at hq
  | some t =>
   cases t
   ·simp only [hw] at hq; exact main _ (by unfold stepR; rw [hw]) hq
   ·simp only [hw] at hq
    rcases hq with ⟨e, h1, h2⟩ | ⟨Po, h1, h2⟩
    ·exact main _ (by unfold stepR; rw [hw]; exact ⟨e, h1, rfl⟩) h2
    ·have := step_in_ok (w0 := w0) (A0 := A0) (F0 := F0) (o := o) hI h (hd o (by simp)) h1 (K := wpListIn (Fence.wide.inRound lR) m C.P ops K rest) (Q := K) (fun r ro' gn' hP a' c' Φ' h' => opsW_inR T hI rid ops rest (i + 1) (fun o ho => hcalm o (by simp [ho])) h' (fun o ho => hd o (by simp [ho])) (h2 r ro' gn' hP) hK)
     unfold wpListIn
     rw [if_pos (want_ok h hw)]
     exact wpIn_of_wp (hcalm o (by simp)) this
theorem any_inP (hcalm : ∀ o, o ∈ ops.toList → ∀ c, o.op ≠ .defer c) (T : TOK C.P C.ti) (hI : InlOK C) {G : Nat → FP} {Qs : St → Prop} {Q : Exit → Act → World → Prop} (hdst : ∀ o, o ∈ ops.toList → ∀ t, o.dst = some t → t < n)
  (hbk : ∀ i o, ops[i]? = some o → ∀ e, e ∈ o.after → Region.binds .any e = true → e.on < i)
  (hok : ∀ i j o p, j < i → ops[j]? = some o → ops[i]? = some p → (o.apart ops p = true ∧ (G j).apart (G i) = true) ∨ befB ops ops.size j i = true)
  (hQ : ∀ st a c Φ, Qs st → SR w0 A0 F0 cS n st a c Φ → Q .normal a c.w) : ∀ (fuel : Nat) (L : List Nat) (listed : Array Bool) {st : St} {a : Act} {c : Cx} {Φ : Nat → Nat → List Nat}, L.length = fuel → listed.size = ops.size → L.Pairwise (· < ·) →
  (∀ i, i ∈ L ↔ i < ops.size ∧ listed.getD i false = false) → (∀ k o, ops[k]? = some o → listed.getD k false = true → ∀ e, e ∈ o.after → Region.binds .any e = true → listed.getD e.on false = true) →
  PD C rid ops G Qs L st → SR w0 A0 F0 cS n st a c Φ → wpAnyIn (Fence.wide.inRound lR) m C.P .any ops Q fuel listed a c.w
 | 0, L, listed, st, a, c, Φ, hlen, hsz, hpw, hL, hcl, ht, hs => by
  obtain rfl := List.length_eq_zero_iff.1 hlen
  refine ⟨?_, ?_⟩
  ·unfold Region.ready
   rw [List.filter_eq_nil_iff]
   intro i hi
   have hi' : i < ops.size := by simpa using hi
   have : listed.getD i false = true := by
    cases hb : listed.getD i false with
    | true => rfl
    | false => have := (hL i).2 ⟨hi', hb⟩; cases this
   have h2 : listed.getD i true = true := by
    have hlt : i < listed.size := by omega
    simp only [Array.getD, hlt, dif_pos] at this ⊢; exact this
   simp [h2]
  ·exact hQ _ _ _ _ ht hs
 | fuel + 1, L, listed, st, a, c, Φ, hlen, hsz, hpw, hL, hcl, ht, hs => by
  have hready : ∀ i, i ∈ Region.ready .any ops listed ↔ i ∈ L ∧ ∀ o, ops[i]? = some o → ∀ e, e ∈ o.after → Region.binds .any e = true → listed.getD e.on false = true := by
   intro i
   unfold Region.ready
   rw [List.mem_filter, hL, List.mem_range]
   constructor
   ·rintro ⟨hi, h⟩
    simp only [Bool.and_eq_true, Bool.not_eq_true'] at h
    refine ⟨⟨hi, ?_⟩, ?_⟩
    ·have hlt : i < listed.size := by omega
     have := h.1
     simp only [Array.getD, hlt, dif_pos] at this ⊢; exact this
    ·intro o ho e he hb
     have h2 := h.2
     rw [ho] at h2
     simp only [Option.map_some, Option.getD_some, Array.all_eq_true_iff_forall_mem, Bool.or_eq_true, Bool.not_eq_true'] at h2
     rcases h2 e he with h3 | h3
     ·rw [hb] at h3; cases h3
     ·exact h3
   ·rintro ⟨⟨hi, h1⟩, h2⟩
    refine ⟨hi, ?_⟩
    simp only [Bool.and_eq_true, Bool.not_eq_true']
    refine ⟨?_, ?_⟩
    ·have hlt : i < listed.size := by omega
     simp only [Array.getD, hlt, dif_pos] at h1 ⊢; exact h1
    ·have ho : ops[i]? = some ops[i] := by simp [hi]
     rw [ho]
     simp only [Option.map_some, Option.getD_some, Array.all_eq_true_iff_forall_mem, Bool.or_eq_true, Bool.not_eq_true']
     intro e he
     cases hb : Region.binds .any e with
     | false => exact .inl rfl
     | true => exact .inr (h2 _ ho e he hb)
  refine ⟨fun hnil => ?_, fun i hi => ?_⟩
  ·exfalso
   cases L with
   | nil => simp at hlen
   | cons x t =>
    have hx : x ∈ Region.ready .any ops listed := by
     rw [hready]
     refine ⟨by simp, fun o ho e he hb => ?_⟩
     have hlt := hbk x o ho e he hb
     have hxs : x < ops.size := ((hL x).1 (by simp)).1
     cases hl : listed.getD e.on false with
     | true => rfl
     | false =>
      have hm := (hL e.on).2 ⟨by omega, hl⟩
      rcases List.mem_cons.1 hm with h | h
      ·omega
      ·have := (List.pairwise_cons.1 hpw).1 _ h; omega
    rw [hnil] at hx; cases hx
  ·obtain ⟨hiL, hie⟩ := (hready i).1 hi
   have his := ((hL i).1 hiL).1
   have hio : ops[i]? = some ops[i] := by simp [his]
   obtain ⟨l1, l2, rfl⟩ := List.append_of_mem hiL
   have hpw' := List.pairwise_append.1 hpw
   have hb := bubbleP hio l1 l2 (fun j hj => by
    have hji : j < i := hpw'.2.2 j hj i (by simp)
    have hjs : j < ops.size := by omega
    have hjo : ops[j]? = some ops[j] := by simp [hjs]
    have hnb : befB ops ops.size j i = false := by
     cases h : befB ops ops.size j i with
     | false => rfl
     | true =>
      have h1 := befB_closed hcl _ _ _ h hie
      have h2 := ((hL j).1 (by simp [hj])).2
      rw [h1] at h2; cases h2
    refine ⟨hji, hnb, _, hjo, ?_⟩
    rcases hok i j _ _ hji hjo hio with h | h
    ·exact h
    ·rw [hnb] at h; cases h) ht
   obtain ⟨o, ho, hb⟩ := hb
   rw [hio] at ho
   obtain rfl := Option.some.inj ho
   have hrec : ∀ st' a' c' Φ', PD C rid ops G Qs (l1 ++ l2) st' → SR w0 A0 F0 cS n st' a' c' Φ' → wpAnyIn (Fence.wide.inRound lR) m C.P .any ops Q fuel (listed.setIfInBounds i true) a' c'.w := fun st' a' c' Φ' ht' h' =>
    any_inP hcalm T hI hdst hbk hok hQ fuel (l1 ++ l2) (listed.setIfInBounds i true) (by simp at hlen ⊢; omega) (by simp [hsz])
     (hpw.sublist (List.Sublist.append (List.Sublist.refl _) (List.sublist_cons_self _ _)))
     (fun k => by
      have hk := hL k
      have hnd := hpw.imp (fun {a b} (h : a < b) => Nat.ne_of_lt h)
      have hil : i < listed.size := by omega
      by_cases e : k = i
      ·subst e
       have h1 : k ∉ l1 ++ l2 := by
        intro hm
        rcases List.mem_append.1 hm with hm | hm
        ·exact absurd (hpw'.2.2 k hm k (by simp)) (by omega)
        ·exact absurd ((List.pairwise_cons.1 hpw'.2.1).1 k hm) (by omega)
       refine ⟨fun h => absurd h h1, fun h => ?_⟩
       have := h.2
       simp [Array.getD_eq_getD_getElem?, hil] at this
      ·have h1 : (k ∈ l1 ++ l2) ↔ k ∈ l1 ++ i :: l2 := by simp [e]
       rw [h1, hk]
       have : (listed.setIfInBounds i true).getD k false = listed.getD k false := by
        simp only [Array.getD_eq_getD_getElem?, Array.getElem?_setIfInBounds_ne (fun h => e h.symm)]
       rw [this])
     (fun k o2 hok2 hk e he hb' => by
      have hil : i < listed.size := by omega
      have hmono : ∀ m, listed.getD m false = true → (listed.setIfInBounds i true).getD m false = true := by
       intro m hm
       by_cases e : m = i
       ·subst e; simp [Array.getD_eq_getD_getElem?, hil]
       ·simp only [Array.getD_eq_getD_getElem?, Array.getElem?_setIfInBounds_ne (fun h => e h.symm)] at hm ⊢; exact hm
      by_cases ek : k = i
      ·subst ek
       exact hmono _ (hie o2 hok2 e he hb')
      ·refine hmono _ (hcl k o2 hok2 ?_ e he hb')
       simp only [Array.getD_eq_getD_getElem?, Array.getElem?_setIfInBounds_ne (fun h => ek h.symm)] at hk ⊢; exact hk)
     ht' h'
   unfold wpOpIn
   simp only [hio]
   rcases hb with ⟨x, hc, ht'⟩ | ⟨Po, R, W, hw, hin, _, ht'⟩
   ·have hst := step_ok T hs (hdst ops[i] (by simp)) (canD_step hc.choose_spec.1) (K := wpAnyIn (Fence.wide.inRound lR) m C.P .any ops Q fuel (listed.setIfInBounds i true)) (Q := Q) (fun a' c' Φ' h' => hrec _ a' c' Φ' ht' h')
    split
    ·rename_i hw; rw [if_pos hw] at hst; exact wpIn_of_wp (hcalm _ (by simp)) hst
    ·rename_i hw; rw [if_neg hw] at hst; exact ⟨fun _ _ => trivial, hst⟩
   ·have hir := hin.1 st.ro st.gn (fun _ _ => rfl) fun _ _ => rfl
    rw [put_eta] at hir
    have hst := step_in_ok (o := ops[i]) hI hs (hdst ops[i] (by simp)) hir (K := wpAnyIn (Fence.wide.inRound lR) m C.P .any ops Q fuel (listed.setIfInBounds i true)) (Q := Q) (fun r ro' gn' hP a' c' Φ' h' => by
     obtain ⟨ro2, gn2, k, rfl, rfl⟩ := hP
     have k2 := hin.2.1 r ro2 gn2 k
     rw [mixF_id fun s hs => (k2 s hs).1, mixF_id fun s hs => (k2 s hs).2] at h'
     exact hrec _ a' c' Φ' (ht' r ro2 gn2 k) h')
    rw [if_pos (want_ok hs hw)]
    exact wpIn_of_wp (hcalm _ (by simp)) hst
theorem opsG_inR (hcalm : ∀ o, o ∈ ops.toList → ∀ c, o.op ≠ .defer c) (T : TOK C.P C.ti) (hI : InlOK C) (hm : C.P.follows .mixedOrders = true) {K : Exit → Act → World → Prop} {Q : St → Prop} {st : St} {a : Act} {c : Cx} {Φ : Nat → Nat → List Nat} (h : SR w0 A0 F0 cS n st a c Φ)
  (hdst : ∀ o, o ∈ ops.toList → ∀ t, o.dst = some t → t < n) {fps : List FP} (hlen' : fps.length = ops.size) (hok : okD ops fps = true) (hq : opsG C rid ops fps ops.toList 0 Q st)
  (hK : ∀ st' a' c' Φ', SR w0 A0 F0 cS n st' a' c' Φ' → Q st' → K .normal a' c'.w) : (Code.region rid ops true).wpIn (Fence.wide.inRound lR) m C.P K a c.w := by
 have ht := opsG_tree ops.toList 0 (fun k o hk => by simpa using hk) hq
 obtain ⟨c', Φ', hw', hs'⟩ := h.drawn (c.w.drawn + 1)
 refine wpIn_region_any hm ?_
 rw [← hw']
 unfold okD at hok
 rw [List.all_eq_true] at hok
 refine any_inP hcalm T hI (G := fun k => fps.getD k fp0) (Qs := Q) hdst ?_ ?_ (fun st' a' c' Φ' hq' h' => hK _ _ _ _ h' hq') ops.size (List.range' 0 ops.toList.length) _ (by simp) (by simp) (List.pairwise_lt_range' ..) ?_ ?_ ht hs'
 ·intro i o ho e he hb
  have hi : i < ops.size := by
   rcases Nat.lt_or_ge i ops.size with h | h
   ·exact h
   ·rw [Array.getElem?_eq_none h] at ho; cases ho
  have := hok i (by simpa using hi)
  simp only [ho, Bool.and_eq_true] at this
  have := List.all_eq_true.1 this.1 e (by simpa using he)
  simpa [hb] using this
 ·intro i j o p hji hj hi
  have his : i < ops.size := by
   rcases Nat.lt_or_ge i ops.size with h | h
   ·exact h
   ·rw [Array.getElem?_eq_none h] at hi; cases hi
  have := hok i (by simpa using his)
  simp only [hi, Bool.and_eq_true] at this
  have := List.all_eq_true.1 this.2 j (by simpa using hji)
  unfold okPair at this
  have e1 : fps[j]? = some (fps[j]'(by omega)) := List.getElem?_eq_getElem _
  have e2 : fps[i]? = some (fps[i]'(by omega)) := List.getElem?_eq_getElem _
  simp only [hi, hj, e1, e2, Bool.or_eq_true, Bool.and_eq_true] at this
  simp only [List.getD_eq_getElem?_getD, e1, e2, Option.getD_some]
  exact this
 ·intro i
  rw [List.mem_range'_1]
  simp only [Array.length_toList, Array.getD_eq_getD_getElem?, Array.getElem?_replicate]
  constructor
  ·intro h; exact ⟨by omega, by split <;> rfl⟩
  ·intro h; omega
 ·intro k o _ hk
  simp only [Array.getD_eq_getD_getElem?, Array.getElem?_replicate] at hk
  split at hk <;> cases hk
def calmR : Code → Bool
 | .skip => true
 | .region _ ops _ => ops.toList.all fun o => match o.op with | .defer _ => false | _ => true
 | .seq a b => calmR a && calmR b
 | .cond _ x y => calmR x && calmR y
 | .block _ c => calmR c
 | .exit _ => true
 | _ => false
theorem codeW_inR (T : TOK C.P C.ti) (hI : InlOK C) (hm : C.P.follows .mixedOrders = true) : ∀ (code : Code) {Q : Exit → St → Prop} {st : St} {a : Act} {c : Cx} {Φ : Nat → Nat → List Nat}, calmR code = true → SR w0 A0 F0 cS n st a c Φ → dstOK n code = true → codeW C code Q st →
  code.wpIn (Fence.wide.inRound lR) m C.P (PostOf w0 A0 F0 cS n Q) a c.w := by
 intro code
 induction code with
 | skip => intro Q st a c Φ _ h _ hq; exact wpIn_skip ⟨st, c, Φ, rfl, h, hq⟩
 | region id ops d =>
  intro Q st a c Φ hk h hd hq
  have hdst : ∀ o, o ∈ ops.toList → ∀ t, o.dst = some t → t < n := by
   intro o ho t ht
   simp only [dstOK] at hd
   have := List.all_eq_true.1 hd o ho
   simpa [ht] using this
  have hkc : ∀ o, o ∈ ops.toList → ∀ c, o.op ≠ .defer c := fun o ho c e => by
   simp only [calmR] at hk
   have := List.all_eq_true.1 hk o ho
   rw [e] at this
   cases this
  cases d with
  | false => exact wpIn_region_list (opsW_inR T hI id ops ops.toList 0 hkc h hdst hq fun st' a' c' Φ' h' hq' => ⟨st', c', Φ', rfl, h', hq'⟩)
  | true =>
   rcases hq with hq | ⟨_, fin, hl, hok, hq⟩
   ·exact opsD_inR hkc T hm h hdst hq fun st' a' c' Φ' h' hq' => ⟨st', c', Φ', rfl, h', hq'⟩
   ·exact opsG_inR hkc T hI hm h hdst hl hok hq fun st' a' c' Φ' h' hq' => ⟨st', c', Φ', rfl, h', hq'⟩
 | seq x y ihx ihy =>
  intro Q st a c Φ hk h hd hq
  simp only [dstOK, Bool.and_eq_true] at hd
  simp only [calmR, Bool.and_eq_true] at hk
  refine wpIn_seq (wpIn_mono (ihx hk.1 h hd.1 hq) ?_)
  rintro e a' w' ⟨st', c', Φ', rfl, h', hq'⟩
  cases e with
  | normal => exact ihy hk.2 h' hd.2 hq'
  | exit _ => exact ⟨st', c', Φ', rfl, h', hq'⟩
  | goto _ => exact ⟨st', c', Φ', rfl, h', hq'⟩
  | ret => exact ⟨st', c', Φ', rfl, h', hq'⟩
  | panic _ => exact ⟨st', c', Φ', rfl, h', hq'⟩
  | outgrown => exact ⟨st', c', Φ', rfl, h', hq'⟩
 | cond x t e iht ihe =>
  intro Q st a c Φ hk h hd hq
  simp only [dstOK, Bool.and_eq_true] at hd
  simp only [calmR, Bool.and_eq_true] at hk
  obtain ⟨b, hb, h1, h2⟩ := hq
  have hv := h.ev x
  rw [hb] at hv
  obtain ⟨hv, _⟩ := Rel.sc_inv hv
  refine wpIn_cond_split hv ?_ ?_
  ·intro ht; exact iht hk.1 h hd.1 (h1 ht)
  ·intro ht; exact ihe hk.2 h hd.2 (h2 ht)
 | block id x ih =>
  intro Q st a c Φ hk h hd hq
  simp only [dstOK] at hd
  simp only [calmR] at hk
  refine wpIn_block (wpIn_mono (ih hk h hd hq) ?_)
  rintro e a' w' ⟨st', c', Φ', rfl, h', hq'⟩
  cases e with
  | exit j =>
   simp only at hq'
   simp only [Exit.inBlock]
   split
   ·rename_i hj; rw [if_pos hj] at hq'; exact ⟨st', c', Φ', rfl, h', hq'⟩
   ·rename_i hj; rw [if_neg hj] at hq'; exact ⟨st', c', Φ', rfl, h', hq'⟩
  | normal => exact ⟨st', c', Φ', rfl, h', hq'⟩
  | goto _ => exact ⟨st', c', Φ', rfl, h', hq'⟩
  | ret => exact ⟨st', c', Φ', rfl, h', hq'⟩
  | panic _ => exact ⟨st', c', Φ', rfl, h', hq'⟩
  | outgrown => exact ⟨st', c', Φ', rfl, h', hq'⟩
 | loop x ih => intro Q st a c Φ hk; simp [calmR] at hk
 | exit id => intro Q st a c Φ _ h _ hq; exact wpIn_exit ⟨st, c, Φ, rfl, h, hq⟩
 | ret => intro Q st a c Φ hk; simp [calmR] at hk
 | rangeFunc => intro Q st a c Φ hk; simp [calmR] at hk
 | scope => intro Q st a c Φ hk; simp [calmR] at hk
 | label => intro Q st a c Φ hk; simp [calmR] at hk
 | goto => intro Q st a c Φ hk; simp [calmR] at hk
 | refuse => intro Q st a c Φ hk; simp [calmR] at hk
end
end Go.Proofs.YteaaangdibabnaaDoor
