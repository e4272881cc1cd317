/- Texts joined: Rg1 RgL Bk2 Bk3. -/
import Derived.OrdersIn
import Derived.TacticsIn
import Derived.ControlIn
import Derived.RangeFuncCalls
import Derived.RangeFuncBox
import Derived.RangeFuncLeaves
import Derived.Shelf.Abstract
import Derived.WalkKit
import Derived.OwnWalkIn
import Derived.TacticsInMore
import Derived.LoopNIn
import Derived.LoopIn
import Derived.Test.YtmchdjiigfiabaaGreatProg
import Derived.Test.YtmchdjiigfiabaaGreatMc
import Derived.Test.YtmchdjiigfiabaaGreatMd
set_option linter.all false
/- The abstract machine inside a round of a range over a function: code without loops, returns and defer statements; calls are as everywhere. -/
namespace Go.Proofs.YtmchdjiigfiabaaGreat
open Go.RowKit
theorem rows_inR {P : Program} {row : String} {args : Array Value} {w : World} {R : Value → World → Prop} {m l : Nat} (h : Rows P row args w R) : RowsIn (Fence.wide.inRound l) m P row args w R := by
 intro c cs _
 obtain ⟨v, w', h1, h2⟩ := h c cs
 exact ⟨v, w', h1, stepsIn_wide.2 h2⟩
theorem wpIn_of_wp {o : Oper} {P : Program} {l m : Nat} {a : Act} {w : World} {K : Act → World → Prop} {Q : Exit → Act → World → Prop} (h : ∀ c, o.op ≠ .defer c) (hw : o.wp P a w K Q) : o.wpIn (Fence.wide.inRound l) m P a w K Q := by
 refine ⟨fun _ _ => trivial, ?_⟩
 rw [Oper.semAt_eq _ _ _ h]
 unfold Oper.wp at hw
 cases hr : (execOp a.eval o).run P w with
 | ok x w' =>
  rw [hr] at hw
  cases x with
  | value v => exact hw
  | skip => exact hw
  | defer d => exact hw
  | enter f args => exact ⟨fun hd => (by cases hd), CallsIn.inRound l (callsIn_wide.2 hw)⟩
  | row row args => exact ⟨fun hd => (by cases hd), rows_inR hw⟩
  | _ => exact hw.elim
 | halt x w' =>
  rw [hr] at hw
  cases x <;> exact hw
section
variable {C : Cfg} {rid : Nat} {ops : Array Oper} {w0 : World} {A0 : Nat → Prop} {F0 : List Nat} {cS : Cx} {n : Nat} {lR : Nat} {m : Nat}
theorem any_inR (hcalm : ∀ o, o ∈ ops.toList → ∀ c, o.op ≠ .defer c) (T : TOK C.P C.ti) {X : Nat → Option Eff} {G : Nat → FP} {Q : Exit → Act → World → Prop} (hdst : ∀ o, o ∈ ops.toList → ∀ t, o.dst = some t → t < n)
  (hbk : ∀ i o, ops[i]? = some o → ∀ e, e ∈ o.after → Region.binds .any e = true → e.on < i)
  (hok : ∀ i j o p, j < i → ops[j]? = some o → ops[i]? = some p → (o.apart ops p = true ∧ (G j).apart (G i) = true) ∨ befB ops ops.size j i = true) {stE : St}
  (hQ : ∀ a c Φ, SR w0 A0 F0 cS n stE a c Φ → Q .normal a c.w) : ∀ (fuel : Nat) (L : List Nat) (listed : Array Bool) {st : St} {a : Act} {c : Cx} {Φ : Nat → Nat → List Nat}, L.length = fuel → listed.size = ops.size → L.Pairwise (· < ·) →
  (∀ i, i ∈ L ↔ i < ops.size ∧ listed.getD i false = false) → (∀ k o, ops[k]? = some o → listed.getD k false = true → ∀ e, e ∈ o.after → Region.binds .any e = true → listed.getD e.on false = true) →
  TrD C rid ops X G L st stE → SR w0 A0 F0 cS n st a c Φ → wpAnyIn (Fence.wide.inRound lR) m C.P .any ops Q fuel listed a c.w
 | 0, L, listed, st, a, c, Φ, hlen, hsz, hpw, hL, hcl, ht, hs => by
  obtain rfl := List.length_eq_zero_iff.1 hlen
  refine ⟨?_, ?_⟩
  ·unfold Region.ready
   rw [List.filter_eq_nil_iff]
   intro i hi
   have hi' : i < ops.size := by simpa using hi
   have : listed.getD i false = true := by
    cases hb : listed.getD i false with
    | true => rfl
    | false => have := (hL i).2 ⟨hi', hb⟩; cases this
   have h2 : listed.getD i true = true := by
    have hlt : i < listed.size := by omega
    simp only [Array.getD, hlt, dif_pos] at this ⊢; exact this
   simp [h2]
  ·have : stE = st := ht
   subst this
   exact hQ _ _ _ hs
 | fuel + 1, L, listed, st, a, c, Φ, hlen, hsz, hpw, hL, hcl, ht, hs => by
  have hready : ∀ i, i ∈ Region.ready .any ops listed ↔ i ∈ L ∧ ∀ o, ops[i]? = some o → ∀ e, e ∈ o.after → Region.binds .any e = true → listed.getD e.on false = true := by
   intro i
   unfold Region.ready
   rw [List.mem_filter, hL, List.mem_range]
   constructor
   ·rintro ⟨hi, h⟩
    simp only [Bool.and_eq_true, Bool.not_eq_true'] at h
    refine ⟨⟨hi, ?_⟩, ?_⟩
    ·have hlt : i < listed.size := by omega
     have := h.1
     simp only [Array.getD, hlt, dif_pos] at this ⊢; exact this
    ·intro o ho e he hb
     have h2 := h.2
     rw [ho] at h2
     simp only [Option.map_some, Option.getD_some, Array.all_eq_true_iff_forall_mem, Bool.or_eq_true, Bool.not_eq_true'] at h2
     rcases h2 e he with h3 | h3
     ·rw [hb] at h3; cases h3
     ·exact h3
   ·rintro ⟨⟨hi, h1⟩, h2⟩
    refine ⟨hi, ?_⟩
    simp only [Bool.and_eq_true, Bool.not_eq_true']
    refine ⟨?_, ?_⟩
    ·have hlt : i < listed.size := by omega
     simp only [Array.getD, hlt, dif_pos] at h1 ⊢; exact h1
    ·have ho : ops[i]? = some ops[i] := by simp [hi]
     rw [ho]
     simp only [Option.map_some, Option.getD_some, Array.all_eq_true_iff_forall_mem, Bool.or_eq_true, Bool.not_eq_true']
     intro e he
     cases hb : Region.binds .any e with
     | false => exact .inl rfl
     | true => exact .inr (h2 _ ho e he hb)
  refine ⟨fun hnil => ?_, fun i hi => ?_⟩
  ·exfalso
   cases L with
   | nil => simp at hlen
   | cons x t =>
    have hx : x ∈ Region.ready .any ops listed := by
     rw [hready]
     refine ⟨by simp, fun o ho e he hb => ?_⟩
     have hlt := hbk x o ho e he hb
     have hxs : x < ops.size := ((hL x).1 (by simp)).1
     cases hl : listed.getD e.on false with
     | true => rfl
     | false =>
      have hm := (hL e.on).2 ⟨by omega, hl⟩
      rcases List.mem_cons.1 hm with h | h
      ·omega
      ·have := (List.pairwise_cons.1 hpw).1 _ h; omega
    rw [hnil] at hx; cases hx
  ·obtain ⟨hiL, hie⟩ := (hready i).1 hi
   have his := ((hL i).1 hiL).1
   have hio : ops[i]? = some ops[i] := by simp [his]
   obtain ⟨l1, l2, rfl⟩ := List.append_of_mem hiL
   have hpw' := List.pairwise_append.1 hpw
   have hb := bubble hio l1 l2 (fun j hj => by
    have hji : j < i := hpw'.2.2 j hj i (by simp)
    have hjs : j < ops.size := by omega
    have hjo : ops[j]? = some ops[j] := by simp [hjs]
    refine ⟨_, hjo, ?_⟩
    rcases hok i j _ _ hji hjo hio with h | h
    ·exact h
    ·have h1 := befB_closed hcl _ _ _ h hie
     have h2 := ((hL j).1 (by simp [hj])).2
     rw [h1] at h2; cases h2) ht
   obtain ⟨o, ho, hc, ht'⟩ := hb
   rw [hio] at ho
   obtain rfl := Option.some.inj ho
   have hrec : ∀ a' c' Φ', SR w0 A0 F0 cS n (doD ops[i] st (X i)) a' c' Φ' → wpAnyIn (Fence.wide.inRound lR) m C.P .any ops Q fuel (listed.setIfInBounds i true) a' c'.w := fun a' c' Φ' h' =>
    any_inR hcalm T hdst hbk hok hQ fuel (l1 ++ l2) (listed.setIfInBounds i true) (by simp at hlen ⊢; omega) (by simp [hsz])
     (hpw.sublist (List.Sublist.append (List.Sublist.refl _) (List.sublist_cons_self _ _)))
     (fun k => by
      have hk := hL k
      have hnd := hpw.imp (fun {a b} (h : a < b) => Nat.ne_of_lt h)
      have hil : i < listed.size := by omega
      by_cases e : k = i
      ·subst e
       have h1 : k ∉ l1 ++ l2 := by
        intro hm
        rcases List.mem_append.1 hm with hm | hm
        ·exact absurd (hpw'.2.2 k hm k (by simp)) (by omega)
        ·exact absurd ((List.pairwise_cons.1 hpw'.2.1).1 k hm) (by omega)
       refine ⟨fun h => absurd h h1, fun h => ?_⟩
       have := h.2
       simp [Array.getD_eq_getD_getElem?, hil] at this
      ·have h1 : (k ∈ l1 ++ l2) ↔ k ∈ l1 ++ i :: l2 := by simp [e]
       rw [h1, hk]
       have : (listed.setIfInBounds i true).getD k false = listed.getD k false := by
        simp only [Array.getD_eq_getD_getElem?, Array.getElem?_setIfInBounds_ne (fun h => e h.symm)]
       rw [this])
     (fun k o2 hok2 hk e he hb' => by
      have hil : i < listed.size := by omega
      have hmono : ∀ m, listed.getD m false = true → (listed.setIfInBounds i true).getD m false = true := by
       intro m hm
       by_cases e : m = i
       ·subst e; simp [Array.getD_eq_getD_getElem?, hil]
       ·simp only [Array.getD_eq_getD_getElem?, Array.getElem?_setIfInBounds_ne (fun h => e h.symm)] at hm ⊢; exact hm
      by_cases ek : k = i
      ·subst ek
       exact hmono _ (hie o2 hok2 e he hb')
      ·refine hmono _ (hcl k o2 hok2 ?_ e he hb')
       simp only [Array.getD_eq_getD_getElem?, Array.getElem?_setIfInBounds_ne (fun h => ek h.symm)] at hk ⊢; exact hk)
     ht' h'
   have hst := step_ok T hs (hdst ops[i] (by simp)) (canD_step hc) (K := wpAnyIn (Fence.wide.inRound lR) m C.P .any ops Q fuel (listed.setIfInBounds i true)) (Q := Q) hrec
   unfold wpOpIn
   simp only [hio]
   split
   ·rename_i hw; rw [if_pos hw] at hst; exact wpIn_of_wp (hcalm _ (by simp)) hst
   ·rename_i hw; rw [if_neg hw] at hst; exact ⟨fun _ _ => trivial, hst⟩
theorem opsD_inR (hcalm : ∀ o, o ∈ ops.toList → ∀ c, o.op ≠ .defer c) (T : TOK C.P C.ti) (hm : C.P.follows .mixedOrders = true) {K : Exit → Act → World → Prop} {Q : St → Prop} {st : St} {a : Act} {c : Cx} {Φ : Nat → Nat → List Nat} (h : SR w0 A0 F0 cS n st a c Φ)
  (hdst : ∀ o, o ∈ ops.toList → ∀ t, o.dst = some t → t < n) (hq : opsD C rid ops ops.toList 0 [] (fun st fp => okD ops fp = true ∧ Q st) st)
  (hK : ∀ st' a' c' Φ', SR w0 A0 F0 cS n st' a' c' Φ' → Q st' → K .normal a' c'.w) : (Code.region rid ops true).wpIn (Fence.wide.inRound lR) m C.P K a c.w := by
 obtain ⟨X, fps, stE, hlen, ht, hok, hQ⟩ := opsD_tr ops.toList 0 (fun k o hk => by simpa using hk) hq
 simp only [List.reverse_nil, List.nil_append] at hok
 obtain ⟨c', Φ', hw', hs'⟩ := h.drawn (c.w.drawn + 1)
 refine wpIn_region_any hm ?_
 rw [← hw']
 simp only [Nat.sub_zero] at ht
 unfold okD at hok
 rw [List.all_eq_true] at hok
 have hlen' : fps.length = ops.size := by simpa using hlen
 refine any_inR hcalm (X := X) (G := fun k => fps.getD k fp0) (stE := stE) T hdst ?_ ?_ (fun a' c' Φ' h' => hK _ _ _ _ h' hQ) ops.size (List.range' 0 ops.toList.length) _ (by simp) (by simp) (List.pairwise_lt_range' ..) ?_ ?_ ht hs'
 ·intro i o ho e he hb
  have hi : i < ops.size := by
   rcases Nat.lt_or_ge i ops.size with h | h
   ·exact h
   ·rw [Array.getElem?_eq_none h] at ho; cases ho
  have := hok i (by simpa using hi)
  simp only [ho, Bool.and_eq_true] at this
  have := List.all_eq_true.1 this.1 e (by simpa using he)
  simpa [hb] using this
 ·intro i j o p hji hj hi
  have his : i < ops.size := by
   rcases Nat.lt_or_ge i ops.size with h | h
   ·exact h
   ·rw [Array.getElem?_eq_none h] at hi; cases hi
  have := hok i (by simpa using his)
  simp only [hi, Bool.and_eq_true] at this
  have := List.all_eq_true.1 this.2 j (by simpa using hji)
  unfold okPair at this
  have e1 : fps[j]? = some (fps[j]'(by omega)) := List.getElem?_eq_getElem _
  have e2 : fps[i]? = some (fps[i]'(by omega)) := List.getElem?_eq_getElem _
  simp only [hi, hj, e1, e2, Bool.or_eq_true, Bool.and_eq_true] at this
  simp only [List.getD_eq_getElem?_getD, e1, e2, Option.getD_some]
  exact this
 ·intro i
  rw [List.mem_range'_1]
  simp only [Array.length_toList, Array.getD_eq_getD_getElem?, Array.getElem?_replicate]
  constructor
  ·intro h; exact ⟨by omega, by split <;> rfl⟩
  ·intro h; omega
 ·intro k o _ hk
  simp only [Array.getD_eq_getD_getElem?, Array.getElem?_replicate] at hk
  split at hk <;> cases hk
theorem opsW_inR (T : TOK C.P C.ti) (hI : InlOK C) (rid : Nat) (ops : Array Oper) {K : Exit → Act → World → Prop} : ∀ (l : List Oper) (i : Nat) {Q : St → Prop} {st : St} {a : Act} {c : Cx} {Φ : Nat → Nat → List Nat}, (∀ o, o ∈ l → ∀ c, o.op ≠ .defer c) → SR w0 A0 F0 cS n st a c Φ →
  (∀ o, o ∈ l → ∀ t, o.dst = some t → t < n) → opsW C rid ops l i Q st → (∀ st' a' c' Φ', SR w0 A0 F0 cS n st' a' c' Φ' → Q st' → K .normal a' c'.w) → wpListIn (Fence.wide.inRound lR) m C.P ops K l a c.w
 | [], i, Q, st, a, c, Φ, _, h, _, hq, hK => hK _ _ _ _ h hq
 | o :: rest, i, Q, st, a, c, Φ, hcalm, h, hd, hq, hK => by
  have main : ∀ st', stepR C rid ops i o st st' → opsW C rid ops rest (i + 1) Q st' → wpListIn (Fence.wide.inRound lR) m C.P ops K (o :: rest) a c.w := by
   intro st' hs hrest
   have := step_ok (w0 := w0) (A0 := A0) (F0 := F0) T h (hd o (by simp)) hs (K := wpListIn (Fence.wide.inRound lR) m C.P ops K rest) (Q := K) (fun a' c' Φ' h' => opsW_inR T hI rid ops rest (i + 1) (fun o ho => hcalm o (by simp [ho])) h' (fun o ho => hd o (by simp [ho])) hrest hK)
   unfold wpListIn
   split
   ·rename_i hw; rw [if_pos hw] at this; exact wpIn_of_wp (hcalm o (by simp)) this
   ·rename_i hw; rw [if_neg hw] at this; exact ⟨fun _ _ => trivial, this⟩
  simp only [opsW] at hq
  cases hw : zbl ops o st with
  | none => simp [hw] at hq
  | some t =>
   cases t
   ·simp only [hw] at hq; exact main _ (by unfold stepR; rw [hw]) hq
   ·simp only [hw] at hq
    rcases hq with ⟨e, h1, h2⟩ | ⟨Po, h1, h2⟩
    ·exact main _ (by unfold stepR; rw [hw]; exact ⟨e, h1, rfl⟩) h2
    ·have := step_in_ok (w0 := w0) (A0 := A0) (F0 := F0) (o := o) hI h (hd o (by simp)) h1 (K := wpListIn (Fence.wide.inRound lR) m C.P ops K rest) (Q := K) (fun r ro' gn' hP a' c' Φ' h' => opsW_inR T hI rid ops rest (i + 1) (fun o ho => hcalm o (by simp [ho])) h' (fun o ho => hd o (by simp [ho])) (h2 r ro' gn' hP) hK)
     unfold wpListIn
     rw [if_pos (want_ok h hw)]
     exact wpIn_of_wp (hcalm o (by simp)) this
theorem any_inP (hcalm : ∀ o, o ∈ ops.toList → ∀ c, o.op ≠ .defer c) (T : TOK C.P C.ti) (hI : InlOK C) {G : Nat → FP} {Qs : St → Prop} {Q : Exit → Act → World → Prop} (hdst : ∀ o, o ∈ ops.toList → ∀ t, o.dst = some t → t < n)
  (hbk : ∀ i o, ops[i]? = some o → ∀ e, e ∈ o.after → Region.binds .any e = true → e.on < i)
  (hok : ∀ i j o p, j < i → ops[j]? = some o → ops[i]? = some p → (o.apart ops p = true ∧ (G j).apart (G i) = true) ∨ befB ops ops.size j i = true)
  (hQ : ∀ st a c Φ, Qs st → SR w0 A0 F0 cS n st a c Φ → Q .normal a c.w) : ∀ (fuel : Nat) (L : List Nat) (listed : Array Bool) {st : St} {a : Act} {c : Cx} {Φ : Nat → Nat → List Nat}, L.length = fuel → listed.size = ops.size → L.Pairwise (· < ·) →
  (∀ i, i ∈ L ↔ i < ops.size ∧ listed.getD i false = false) → (∀ k o, ops[k]? = some o → listed.getD k false = true → ∀ e, e ∈ o.after → Region.binds .any e = true → listed.getD e.on false = true) →
  PD C rid ops G Qs L st → SR w0 A0 F0 cS n st a c Φ → wpAnyIn (Fence.wide.inRound lR) m C.P .any ops Q fuel listed a c.w
 | 0, L, listed, st, a, c, Φ, hlen, hsz, hpw, hL, hcl, ht, hs => by
  obtain rfl := List.length_eq_zero_iff.1 hlen
  refine ⟨?_, ?_⟩
  ·unfold Region.ready
   rw [List.filter_eq_nil_iff]
   intro i hi
   have hi' : i < ops.size := by simpa using hi
   have : listed.getD i false = true := by
    cases hb : listed.getD i false with
    | true => rfl
    | false => have := (hL i).2 ⟨hi', hb⟩; cases this
   have h2 : listed.getD i true = true := by
    have hlt : i < listed.size := by omega
    simp only [Array.getD, hlt, dif_pos] at this ⊢; exact this
   simp [h2]
  ·exact hQ _ _ _ _ ht hs
 | fuel + 1, L, listed, st, a, c, Φ, hlen, hsz, hpw, hL, hcl, ht, hs => by
  have hready : ∀ i, i ∈ Region.ready .any ops listed ↔ i ∈ L ∧ ∀ o, ops[i]? = some o → ∀ e, e ∈ o.after → Region.binds .any e = true → listed.getD e.on false = true := by
   intro i
   unfold Region.ready
   rw [List.mem_filter, hL, List.mem_range]
   constructor
   ·rintro ⟨hi, h⟩
    simp only [Bool.and_eq_true, Bool.not_eq_true'] at h
    refine ⟨⟨hi, ?_⟩, ?_⟩
    ·have hlt : i < listed.size := by omega
     have := h.1
     simp only [Array.getD, hlt, dif_pos] at this ⊢; exact this
    ·intro o ho e he hb
     have h2 := h.2
     rw [ho] at h2
     simp only [Option.map_some, Option.getD_some, Array.all_eq_true_iff_forall_mem, Bool.or_eq_true, Bool.not_eq_true'] at h2
     rcases h2 e he with h3 | h3
     ·rw [hb] at h3; cases h3
     ·exact h3
   ·rintro ⟨⟨hi, h1⟩, h2⟩
    refine ⟨hi, ?_⟩
    simp only [Bool.and_eq_true, Bool.not_eq_true']
    refine ⟨?_, ?_⟩
    ·have hlt : i < listed.size := by omega
     simp only [Array.getD, hlt, dif_pos] at h1 ⊢; exact h1
    ·have ho : ops[i]? = some ops[i] := by simp [hi]
     rw [ho]
     simp only [Option.map_some, Option.getD_some, Array.all_eq_true_iff_forall_mem, Bool.or_eq_true, Bool.not_eq_true']
     intro e he
     cases hb : Region.binds .any e with
     | false => exact .inl rfl
     | true => exact .inr (h2 _ ho e he hb)
  refine ⟨fun hnil => ?_, fun i hi => ?_⟩
  ·exfalso
   cases L with
   | nil => simp at hlen
   | cons x t =>
    have hx : x ∈ Region.ready .any ops listed := by
     rw [hready]
     refine ⟨by simp, fun o ho e he hb => ?_⟩
     have hlt := hbk x o ho e he hb
     have hxs : x < ops.size := ((hL x).1 (by simp)).1
     cases hl : listed.getD e.on false with
     | true => rfl
     | false =>
      have hm := (hL e.on).2 ⟨by omega, hl⟩
      rcases List.mem_cons.1 hm with h | h
      ·omega
      ·have := (List.pairwise_cons.1 hpw).1 _ h; omega
    rw [hnil] at hx; cases hx
  ·obtain ⟨hiL, hie⟩ := (hready i).1 hi
   have his := ((hL i).1 hiL).1
   have hio : ops[i]? = some ops[i] := by simp [his]
   obtain ⟨l1, l2, rfl⟩ := List.append_of_mem hiL
   have hpw' := List.pairwise_append.1 hpw
   have hb := bubbleP hio l1 l2 (fun j hj => by
    have hji : j < i := hpw'.2.2 j hj i (by simp)
    have hjs : j < ops.size := by omega
    have hjo : ops[j]? = some ops[j] := by simp [hjs]
    have hnb : befB ops ops.size j i = false := by
     cases h : befB ops ops.size j i with
     | false => rfl
     | true =>
      have h1 := befB_closed hcl _ _ _ h hie
      have h2 := ((hL j).1 (by simp [hj])).2
      rw [h1] at h2; cases h2
    refine ⟨hji, hnb, _, hjo, ?_⟩
    rcases hok i j _ _ hji hjo hio with h | h
    ·exact h
    ·rw [hnb] at h; cases h) ht
   obtain ⟨o, ho, hb⟩ := hb
   rw [hio] at ho
   obtain rfl := Option.some.inj ho
   have hrec : ∀ st' a' c' Φ', PD C rid ops G Qs (l1 ++ l2) st' → SR w0 A0 F0 cS n st' a' c' Φ' → wpAnyIn (Fence.wide.inRound lR) m C.P .any ops Q fuel (listed.setIfInBounds i true) a' c'.w := fun st' a' c' Φ' ht' h' =>
    any_inP hcalm T hI hdst hbk hok hQ fuel (l1 ++ l2) (listed.setIfInBounds i true) (by simp at hlen ⊢; omega) (by simp [hsz])
     (hpw.sublist (List.Sublist.append (List.Sublist.refl _) (List.sublist_cons_self _ _)))
     (fun k => by
      have hk := hL k
      have hnd := hpw.imp (fun {a b} (h : a < b) => Nat.ne_of_lt h)
      have hil : i < listed.size := by omega
      by_cases e : k = i
      ·subst e
       have h1 : k ∉ l1 ++ l2 := by
        intro hm
        rcases List.mem_append.1 hm with hm | hm
        ·exact absurd (hpw'.2.2 k hm k (by simp)) (by omega)
        ·exact absurd ((List.pairwise_cons.1 hpw'.2.1).1 k hm) (by omega)
       refine ⟨fun h => absurd h h1, fun h => ?_⟩
       have := h.2
       simp [Array.getD_eq_getD_getElem?, hil] at this
      ·have h1 : (k ∈ l1 ++ l2) ↔ k ∈ l1 ++ i :: l2 := by simp [e]
       rw [h1, hk]
       have : (listed.setIfInBounds i true).getD k false = listed.getD k false := by
        simp only [Array.getD_eq_getD_getElem?, Array.getElem?_setIfInBounds_ne (fun h => e h.symm)]
       rw [this])
     (fun k o2 hok2 hk e he hb' => by
      have hil : i < listed.size := by omega
      have hmono : ∀ m, listed.getD m false = true → (listed.setIfInBounds i true).getD m false = true := by
       intro m hm
       by_cases e : m = i
       ·subst e; simp [Array.getD_eq_getD_getElem?, hil]
       ·simp only [Array.getD_eq_getD_getElem?, Array.getElem?_setIfInBounds_ne (fun h => e h.symm)] at hm ⊢; exact hm
      by_cases ek : k = i
      ·subst ek
       exact hmono _ (hie o2 hok2 e he hb')
      ·refine hmono _ (hcl k o2 hok2 ?_ e he hb')
       simp only [Array.getD_eq_getD_getElem?, Array.getElem?_setIfInBounds_ne (fun h => ek h.symm)] at hk ⊢; exact hk)
     ht' h'
   unfold wpOpIn
   simp only [hio]
   rcases hb with ⟨x, hc, ht'⟩ | ⟨Po, R, W, hw, hin, _, ht'⟩
   ·have hst := step_ok T hs (hdst ops[i] (by simp)) (canD_step hc.choose_spec.1) (K := wpAnyIn (Fence.wide.inRound lR) m C.P .any ops Q fuel (listed.setIfInBounds i true)) (Q := Q) (fun a' c' Φ' h' => hrec _ a' c' Φ' ht' h')
    split
    ·rename_i hw; rw [if_pos hw] at hst; exact wpIn_of_wp (hcalm _ (by simp)) hst
    ·rename_i hw; rw [if_neg hw] at hst; exact ⟨fun _ _ => trivial, hst⟩
   ·have hir := hin.1 st.ro st.gn (fun _ _ => rfl) fun _ _ => rfl
    rw [put_eta] at hir
    have hst := step_in_ok (o := ops[i]) hI hs (hdst ops[i] (by simp)) hir (K := wpAnyIn (Fence.wide.inRound lR) m C.P .any ops Q fuel (listed.setIfInBounds i true)) (Q := Q) (fun r ro' gn' hP a' c' Φ' h' => by
     obtain ⟨ro2, gn2, k, rfl, rfl⟩ := hP
     have k2 := hin.2.1 r ro2 gn2 k
     rw [mixF_id fun s hs => (k2 s hs).1, mixF_id fun s hs => (k2 s hs).2] at h'
     exact hrec _ a' c' Φ' (ht' r ro2 gn2 k) h')
    rw [if_pos (want_ok hs hw)]
    exact wpIn_of_wp (hcalm _ (by simp)) hst
theorem opsG_inR (hcalm : ∀ o, o ∈ ops.toList → ∀ c, o.op ≠ .defer c) (T : TOK C.P C.ti) (hI : InlOK C) (hm : C.P.follows .mixedOrders = true) {K : Exit → Act → World → Prop} {Q : St → Prop} {st : St} {a : Act} {c : Cx} {Φ : Nat → Nat → List Nat} (h : SR w0 A0 F0 cS n st a c Φ)
  (hdst : ∀ o, o ∈ ops.toList → ∀ t, o.dst = some t → t < n) {fps : List FP} (hlen' : fps.length = ops.size) (hok : okD ops fps = true) (hq : opsG C rid ops fps ops.toList 0 Q st)
  (hK : ∀ st' a' c' Φ', SR w0 A0 F0 cS n st' a' c' Φ' → Q st' → K .normal a' c'.w) : (Code.region rid ops true).wpIn (Fence.wide.inRound lR) m C.P K a c.w := by
 have ht := opsG_tree ops.toList 0 (fun k o hk => by simpa using hk) hq
 obtain ⟨c', Φ', hw', hs'⟩ := h.drawn (c.w.drawn + 1)
 refine wpIn_region_any hm ?_
 rw [← hw']
 unfold okD at hok
 rw [List.all_eq_true] at hok
 refine any_inP hcalm T hI (G := fun k => fps.getD k fp0) (Qs := Q) hdst ?_ ?_ (fun st' a' c' Φ' hq' h' => hK _ _ _ _ h' hq') ops.size (List.range' 0 ops.toList.length) _ (by simp) (by simp) (List.pairwise_lt_range' ..) ?_ ?_ ht hs'
 ·intro i o ho e he hb
  have hi : i < ops.size := by
   rcases Nat.lt_or_ge i ops.size with h | h
   ·exact h
   ·rw [Array.getElem?_eq_none h] at ho; cases ho
  have := hok i (by simpa using hi)
  simp only [ho, Bool.and_eq_true] at this
  have := List.all_eq_true.1 this.1 e (by simpa using he)
  simpa [hb] using this
 ·intro i j o p hji hj hi
  have his : i < ops.size := by
   rcases Nat.lt_or_ge i ops.size with h | h
   ·exact h
   ·rw [Array.getElem?_eq_none h] at hi; cases hi
  have := hok i (by simpa using his)
  simp only [hi, Bool.and_eq_true] at this
  have := List.all_eq_true.1 this.2 j (by simpa using hji)
  unfold okPair at this
  have e1 : fps[j]? = some (fps[j]'(by omega)) := List.getElem?_eq_getElem _
  have e2 : fps[i]? = some (fps[i]'(by omega)) := List.getElem?_eq_getElem _
  simp only [hi, hj, e1, e2, Bool.or_eq_true, Bool.and_eq_true] at this
  simp only [List.getD_eq_getElem?_getD, e1, e2, Option.getD_some]
  exact this
 ·intro i
  rw [List.mem_range'_1]
  simp only [Array.length_toList, Array.getD_eq_getD_getElem?, Array.getElem?_replicate]
  constructor
  ·intro h; exact ⟨by omega, by split <;> rfl⟩
  ·intro h; omega
 ·intro k o _ hk
  simp only [Array.getD_eq_getD_getElem?, Array.getElem?_replicate] at hk
  split at hk <;> cases hk
def calmR : Code → Bool
 | .skip => true
 | .region _ ops _ => ops.toList.all fun o => match o.op with | .defer _ => false | _ => true
 | .seq a b => calmR a && calmR b
 | .cond _ x y => calmR x && calmR y
 | .block _ c => calmR c
 | .exit _ => true
 | _ => false
theorem codeW_inR (T : TOK C.P C.ti) (hI : InlOK C) (hm : C.P.follows .mixedOrders = true) : ∀ (code : Code) {Q : Exit → St → Prop} {st : St} {a : Act} {c : Cx} {Φ : Nat → Nat → List Nat}, calmR code = true → SR w0 A0 F0 cS n st a c Φ → dstOK n code = true → codeW C code Q st →
  code.wpIn (Fence.wide.inRound lR) m C.P (PostOf w0 A0 F0 cS n Q) a c.w := by
 intro code
 induction code with
 | skip => intro Q st a c Φ _ h _ hq; exact wpIn_skip ⟨st, c, Φ, rfl, h, hq⟩
 | region id ops d =>
  intro Q st a c Φ hk h hd hq
  have hdst : ∀ o, o ∈ ops.toList → ∀ t, o.dst = some t → t < n := by
   intro o ho t ht
   simp only [dstOK] at hd
   have := List.all_eq_true.1 hd o ho
   simpa [ht] using this
  have hkc : ∀ o, o ∈ ops.toList → ∀ c, o.op ≠ .defer c := fun o ho c e => by
   simp only [calmR] at hk
   have := List.all_eq_true.1 hk o ho
   rw [e] at this
   cases this
  cases d with
  | false => exact wpIn_region_list (opsW_inR T hI id ops ops.toList 0 hkc h hdst hq fun st' a' c' Φ' h' hq' => ⟨st', c', Φ', rfl, h', hq'⟩)
  | true =>
   rcases hq with hq | ⟨_, fin, hl, hok, hq⟩
   ·exact opsD_inR hkc T hm h hdst hq fun st' a' c' Φ' h' hq' => ⟨st', c', Φ', rfl, h', hq'⟩
   ·exact opsG_inR hkc T hI hm h hdst hl hok hq fun st' a' c' Φ' h' hq' => ⟨st', c', Φ', rfl, h', hq'⟩
 | seq x y ihx ihy =>
  intro Q st a c Φ hk h hd hq
  simp only [dstOK, Bool.and_eq_true] at hd
  simp only [calmR, Bool.and_eq_true] at hk
  refine wpIn_seq (wpIn_mono (ihx hk.1 h hd.1 hq) ?_)
  rintro e a' w' ⟨st', c', Φ', rfl, h', hq'⟩
  cases e with
  | normal => exact ihy hk.2 h' hd.2 hq'
  | exit _ => exact ⟨st', c', Φ', rfl, h', hq'⟩
  | goto _ => exact ⟨st', c', Φ', rfl, h', hq'⟩
  | ret => exact ⟨st', c', Φ', rfl, h', hq'⟩
  | panic _ => exact ⟨st', c', Φ', rfl, h', hq'⟩
  | outgrown => exact ⟨st', c', Φ', rfl, h', hq'⟩
 | cond x t e iht ihe =>
  intro Q st a c Φ hk h hd hq
  simp only [dstOK, Bool.and_eq_true] at hd
  simp only [calmR, Bool.and_eq_true] at hk
  obtain ⟨b, hb, h1, h2⟩ := hq
  have hv := h.ev x
  rw [hb] at hv
  obtain ⟨hv, _⟩ := Rel.sc_inv hv
  refine wpIn_cond_split hv ?_ ?_
  ·intro ht; exact iht hk.1 h hd.1 (h1 ht)
  ·intro ht; exact ihe hk.2 h hd.2 (h2 ht)
 | block id x ih =>
  intro Q st a c Φ hk h hd hq
  simp only [dstOK] at hd
  simp only [calmR] at hk
  refine wpIn_block (wpIn_mono (ih hk h hd hq) ?_)
  rintro e a' w' ⟨st', c', Φ', rfl, h', hq'⟩
  cases e with
  | exit j =>
   simp only at hq'
   simp only [Exit.inBlock]
   split
   ·rename_i hj; rw [if_pos hj] at hq'; exact ⟨st', c', Φ', rfl, h', hq'⟩
   ·rename_i hj; rw [if_neg hj] at hq'; exact ⟨st', c', Φ', rfl, h', hq'⟩
  | normal => exact ⟨st', c', Φ', rfl, h', hq'⟩
  | goto _ => exact ⟨st', c', Φ', rfl, h', hq'⟩
  | ret => exact ⟨st', c', Φ', rfl, h', hq'⟩
  | panic _ => exact ⟨st', c', Φ', rfl, h', hq'⟩
  | outgrown => exact ⟨st', c', Φ', rfl, h', hq'⟩
 | loop x ih => intro Q st a c Φ hk; simp [calmR] at hk
 | exit id => intro Q st a c Φ _ h _ hq; exact wpIn_exit ⟨st, c, Φ, rfl, h, hq⟩
 | ret => intro Q st a c Φ hk; simp [calmR] at hk
 | rangeFunc => intro Q st a c Φ hk; simp [calmR] at hk
 | scope => intro Q st a c Φ hk; simp [calmR] at hk
 | label => intro Q st a c Φ hk; simp [calmR] at hk
 | goto => intro Q st a c Φ hk; simp [calmR] at hk
 | refuse => intro Q st a c Φ hk; simp [calmR] at hk
end
end Go.Proofs.YtmchdjiigfiabaaGreat
/- The abstract machine: a range over a function: what is really owned, marks, boxes. -/
namespace Go.Proofs.YtmchdjiigfiabaaGreat
open Go.RowKit
set_option maxRecDepth 1000000
theorem RelL.isC {c : Cx} {az : List AV} {vs : List Value} {G : List Nat} (h : RelL c az vs G) : ∀ x, x ∈ G → ∃ arr E fr, c.w.heap[x]? = some (Obj.cells arr E fr) := by
 induction h with
 | nil => intro x hx; cases hx
 | sc v _ ih => exact ih
 | dead v _ ih => exact ih
 | imm g b cap _ _ _ _ _ ih => exact ih
 | row g b cap _ h2 _ _ _ ih1 ih =>
  intro x hx
  rcases List.mem_cons.1 hx with rfl | hx
  ·obtain ⟨arr, E, h, _⟩ := h2; exact ⟨arr, E, _, h⟩
  ·rcases List.mem_append.1 hx with hx | hx
   ·exact ih1 x hx
   ·exact ih x hx
 | bx g b cap _ h2 _ _ _ ih1 ih =>
  intro x hx
  rcases List.mem_cons.1 hx with rfl | hx
  ·obtain ⟨arr, E, h, _⟩ := h2; exact ⟨arr, E, _, h⟩
  ·rcases List.mem_append.1 hx with hx | hx
   ·exact ih1 x hx
   ·exact ih x hx
 | ref s g p off n v _ _ _ ih => exact ih
 | ptr s g p i v _ _ _ ih => exact ih
 | iptr g b _ _ _ _ ih => exact ih
 | agg _ _ _ ih1 ih =>
  intro x hx
  rcases List.mem_append.1 hx with hx | hx
  ·exact ih1 x hx
  ·exact ih x hx
 | tup _ _ _ ih1 ih =>
  intro x hx
  rcases List.mem_append.1 hx with hx | hx
  ·exact ih1 x hx
  ·exact ih x hx
 | fn f _ _ _ ih => exact ih
theorem RelL.less {c : Cx} {A' : Nat → Prop} (hA : ∀ x, A' x → c.A x) {az : List AV} {vs : List Value} {G : List Nat} (h : RelL c az vs G) : RelL { c with A := A' } az vs G := by
 have hin : ∀ {g b : Nat} {us : List Value}, c.inW g b us → Cx.inW { c with A := A' } g b us := fun h => ⟨fun ha => h.1 (hA _ ha), h.2.1, h.2.2⟩
 induction h with
 | nil => exact .nil
 | sc v _ ih => exact .sc v ih
 | dead v _ ih => exact .dead v ih
 | imm g b cap _ h2 h3 _ ih1 ih => exact .imm g b cap ih1 (hin h2) h3 ih
 | row g b cap _ h2 h3 h4 _ ih1 ih => exact .row g b cap ih1 h2 h3 h4 ih
 | bx g b cap _ h2 h3 h4 _ ih1 ih => exact .bx g b cap ih1 h2 h3 h4 ih
 | ref s g p off n v h1 h2 _ ih => exact .ref s g p off n v h1 h2 ih
 | ptr s g p i v h1 h2 _ ih => exact .ptr s g p i v h1 h2 ih
 | iptr g b _ h2 _ ih1 ih => exact .iptr g b ih1 (hin h2) ih
 | agg _ h2 _ ih1 ih => exact .agg ih1 h2 ih
 | tup _ h2 _ ih1 ih => exact .tup ih1 h2 ih
 | fn f _ _ ih1 ih => exact .fn f ih1 ih
def lessA (A0 : Nat → Prop) (c : Cx) (Φ : Nat → Nat → List Nat) : Nat → Prop := fun x => c.A x ∧ (A0 x ∨ ∃ s g, x ∈ Φ s g)
abbrev lessC (A0 : Nat → Prop) (c : Cx) (Φ : Nat → Nat → List Nat) : Cx := { c with A := lessA A0 c Φ }
section
variable {w0 : World} {A0 : Nat → Prop} {F0 : List Nat} {cS c : Cx} {Φ : Nat → Nat → List Nat} {st : St} {a : Act} {m : Nat}
theorem Sim.less (h : Sim w0 A0 F0 c Φ []) : Sim w0 A0 F0 (lessC A0 c Φ) Φ [] where
 rt := fun s g a ha => by
  obtain ⟨h1, v, h2, h3⟩ := h.rt s g a ha
  exact ⟨h1, v, h2.less fun x hx => hx.1, h3⟩
 no := h.no
 dj := h.dj
 own := fun s g x hx => ⟨⟨(h.own s g x hx).1, .inr ⟨s, g, hx⟩⟩, (h.own s g x hx).2⟩
 rd := h.rd
 rown := fun x hx => by cases hx
 a0 := fun x hx => ⟨h.a0 x hx, .inl hx⟩
 al := fun x hx => h.al x hx.1
 bw := h.bw
 gd := h.gd
theorem Sim.lessC_cells (h : Sim w0 A0 F0 c Φ []) {x : Nat} (hx : lessA A0 c Φ x) (h0 : ¬ A0 x) : ∃ arr E fr, c.w.heap[x]? = some (Obj.cells arr E fr) := by
 rcases hx.2 with h1 | ⟨s, g, hg⟩
 ·exact absurd h1 h0
 ·cases hr : c.ro s g with
  | none => rw [h.no s g hr] at hg; cases hg
  | some a =>
   obtain ⟨_, v, h2, _⟩ := h.rt s g a hr
   exact h2.isC x hg
theorem DfO.less {m1 m2 : Nat} {A' : Nat → Prop} (hA : ∀ x, A' x → c.A x) : ∀ {ds : List Deferred}, DfO m1 m2 c ds → DfO m1 m2 { c with A := A' } ds
 | [], _ => trivial
 | d :: ds, ⟨⟨D, h1, h2, h3, h4, h5, h6, h7⟩, h⟩ => ⟨⟨D, h1, h2, h3, h4, fun ha => h5 (hA _ ha), h6, h7⟩, DfO.less hA h⟩
theorem SR.less (h : SR w0 A0 F0 cS m st a c Φ) : SR w0 A0 F0 cS m st a (lessC A0 c Φ) Φ where
 sim := h.sim.less
 kp := ⟨h.kp.hsz, fun b hb ha => h.kp.hA b hb ha.1, h.kp.hI, h.kp.hgn, h.kp.hP⟩
 ro := h.ro
 gn := h.gn
 sl := fun k => (h.sl k).less fun x hx => hx.1
 df := h.df.less fun x hx => hx.1
 sz := h.sz
theorem DfO.row {c' : Cx} {w' : World} {m1 m2 : Nat} (hB : ∀ i, i < c.w.heap.size → w'.heap[i]? = c'.w.heap[i]?) (hsz : c.w.heap.size ≤ w'.heap.size) : ∀ {ds : List Deferred}, DfO m1 m2 c ds → DfO m1 m2 c' ds → DfO m1 m2 { c' with w := w' } ds
 | [], _, _ => trivial
 | d :: ds, ⟨⟨D, h1, h2, h3, h4, h5, h6, h7⟩, h⟩, ⟨⟨D', k1, k2, k3, k4, k5, k6, k7⟩, k⟩ => by
  have e : D' = D := by
   rw [h1] at k1
   have := congrArg Deferred.target k1
   simpa using this.symm
  subst e
  exact ⟨⟨D', k1, k2, k3, Nat.lt_of_lt_of_le h4 hsz, k5, (hB D' h4).trans k6, k7⟩, DfO.row hB hsz h k⟩
theorem DfO.target {m1 m2 : Nat} : ∀ {ds : List Deferred}, DfO m1 m2 c ds → ∀ e, e ∈ ds → ∃ D, e.target = .collected D ∧ D < c.w.heap.size
 | [], _, e, he => by cases he
 | d :: ds, ⟨⟨D, h1, _, _, h4, _⟩, h⟩, e, he => by
  rcases List.mem_cons.1 he with rfl | he
  ·exact ⟨D, by rw [h1], h4⟩
  ·exact DfO.target h e he
theorem locp_nil {w : World} {x y : Nat × Nat} (h : locp w [] x = some y) : y = x := by
 unfold locp at h
 exact (Option.some.inj h).symm
theorem Keep.L {c' : Cx} (k : Keep c c') {s g : Nat} (hg : g ≤ c.gn s) {cs : List AV} (hc : c'.ro.cells s g [] = some cs) : c'.L s g = c.L s g := by
 obtain ⟨cs0, _, _, h⟩ := k.hP s g [] cs hg hc
 have h1 := (h (c.L s g) (by unfold locp; rfl)).1
 exact (locp_nil h1).symm
theorem cells_bx {ro : Ro} {s g : Nat} {cs : List AV} (h : ro s g = some (.bx cs)) : ro.cells s g [] = some cs := by
 unfold Ro.cells
 rw [h]
 rfl
theorem boxed (h : SR w0 A0 F0 cS m st a c Φ) {s4 g4 s2 g2 M : Nat} {cs : List AV} (r4 : st.ro s4 g4 = some (.bx [.ref s2 g2 [] 0 M])) (r2 : st.ro.cells s2 g2 [] = some cs) (hM : 1 ≤ M) :
  ∃ cap arr E, c.w.cell? ⟨(c.L s4 g4).1, (c.L s4 g4).2, none⟩ = some (.slice (some ⟨(c.L s2 g2).1, (c.L s2 g2).2, none⟩) M cap) ∧ M ≤ cap ∧ cap ≤ maxLen ∧ c.w.heap[(c.L s2 g2).1]? = some (.cells arr E (0, 0)) ∧ (c.L s2 g2).2 + cap ≤ arr.size ∧ M ≤ cs.length ∧ g2 ≤ c.gn s2 := by
 obtain ⟨_, v, hv, hh⟩ := h.sim.rt s4 g4 _ (by rw [h.ro]; exact r4)
 obtain ⟨g, b, cap, us, F', rfl, hΦ, hus, ho, _⟩ := hv.bx_inv
 have hL : c.L s4 g4 = (g, b) := by
  have : Value.pointer (some ⟨g, b, none⟩) = .pointer (some ⟨(c.L s4 g4).1, (c.L s4 g4).2, none⟩) := hh
  injection this with this
  injection this with this
  injection this with e1 e2
  rw [e1, e2]
 obtain ⟨u, us', F1, F2, rfl, _, hu, _⟩ := hus.uncons
 obtain ⟨hg2, k⟩ := hu.ref_inv
 obtain ⟨x, lx, hx, hl⟩ := k cs (by rw [h.ro]; exact r2)
 obtain rfl := locp_nil lx
 obtain ⟨b', cap', arr, E, rfl, hb, hh', h1, h2, h3⟩ := hx
 have hb' : b' = (c.L s2 g2).2 := by
  rcases hb with hb | hb
  ·rw [hb, Nat.add_zero]
  ·omega
 subst hb'
 have hc := ho.cell (i := 0) (u := _) rfl
 rw [Nat.add_zero] at hc
 rw [hL]
 exact ⟨cap', arr, E, hc, h2, h3, hh', h1, by omega, hg2⟩
end
end Go.Proofs.YtmchdjiigfiabaaGreat
/- The library's slices.Backward over numbers, as an iterator: by the kit's own walk. -/
namespace Go.Proofs.YtmchdjiigfiabaaGreat
open Go.RowKit Go.Shelf
attribute [local go_sem] Oper.semAt_some
def dwn (n k : Nat) : List Nat := (List.range k).map fun j => n - 1 - j
theorem dwn_succ (n k : Nat) : dwn n (k + 1) = dwn n k ++ [n - 1 - k] := by simp [dwn, List.range_succ]
theorem dwn_length (n k : Nat) : (dwn n k).length = k := by simp [dwn]
structure BX (V : Nat → Int → Prop) (n : Nat) where
 i : Nat
 v : Int
 lt : i < n
 ok : V i v
def BkB (V : Nat → Int → Prop) (n Bs ob : Nat) (W : World) : Prop :=
 ∃ b off cap, W.cell? ⟨Bs, ob, none⟩ = some (.slice (some ⟨b, off, none⟩) n cap) ∧ ∀ j, j < n → ∃ v, V j v ∧ W.cell? ⟨b, off + j, none⟩ = some (.int .i64 v)
set_option maxRecDepth 100000 in
set_option maxHeartbeats 2000000 in
theorem bwd1B_in {V : Nat → Int → Prop} {n : Nat} (F : Fence) (nn : Nat) (h8 : F.fn 79) (hro : F.round = none) (hn : 1 ≤ nn) (l Bs ob : Nat) (hreach : n * 8 ≤ 140737488351232) (J Jx : List (BX V n) → World → Prop)
  (hY : ∀ pre (x : BX V n) W, J pre W → pre.length < n → YieldAt F (nn - 1) Tryz.prog l #[.int .i64 (x.i : Int), .int .i64 x.v] W fun e W' =>
   (e = .returned (.bool true) ∧ J (pre ++ [x]) W' ∧ (BkB V n Bs ob W → BkB V n Bs ob W')) ∨ (e = .returned (.bool false) ∧ Jx (pre ++ [x]) W'))
  (W : World) (hB : BkB V n Bs ob W) (h0 : J [] W) :
  CallsIn F nn Tryz.prog 79 #[.func (.yield l) #[] #[], .pointer (some ⟨Bs, ob, none⟩)] W fun e W' => (∃ v, e = .returned v) ∧
   ((∃ ys, ys.map BX.i = dwn n n ∧ J ys W') ∨ (∃ pre, (∃ k, k ≤ n ∧ pre.map BX.i = dwn n k) ∧ Jx pre W')) := by
 obtain ⟨b, off, cap, hBs, hc⟩ := id hB
 refine callsIn_of_wp Tryz.func79 rfl h8 ?_ hro
 simp only [Tryz.ntmps79, List.size_toArray, List.length_cons, List.length_nil, Nat.reduceAdd, Nat.reduceSub, Array.replicate_succ, Array.replicate_zero, List.push_toArray, List.append_toArray, List.nil_append, List.cons_append]
 clear hc
 gi_wp2
 gi_loopw [3] (fun i wr => ∃ k : Nat, k ≤ n ∧ i = .int .i64 ((k : Int) - 1) ∧ (∃ pre : List (BX V n), pre.map BX.i = dwn n (n - k) ∧ J pre wr) ∧ BkB V n Bs ob wr)
  (fun i _ => (intOf i + 1).toNat)
 case atStart => exact ⟨n, Nat.le_refl _, rfl, ⟨[], by rw [Nat.sub_self]; rfl, h0⟩, hB⟩
 case round =>
  obtain ⟨k, hk, rfl, ⟨pre, hpre, hJs⟩, hnx⟩ := hrel
  obtain ⟨b', off', cap', hBs', hc'⟩ := id hnx
  cases k with
  | zero =>
   gi_wp2
   go_end0
   exact ⟨⟨_, rfl⟩, .inl ⟨_, hpre, hJs⟩⟩
  | succ m =>
   obtain ⟨v, hV, hcx⟩ := hc' m (by omega)
   have em : ((m + 1 : Nat) : Int) - 1 = (m : Int) := by omega
   have ex : n - 1 - (n - (m + 1)) = m := by omega
   have hpl : pre.length = n - (m + 1) := by
    have := congrArg List.length hpre
    rw [List.length_map, dwn_length] at this
    exact this
   obtain ⟨fn, tmps, assign, body, hy, hR⟩ := hY _ ⟨m, v, by omega, hV⟩ wr hJs (by omega)
   rw [em]
   clear hc'
   gi_wp2
   refine hR.mono ?_
   rintro e W3 (⟨rfl, hJ3, hk3⟩ | ⟨rfl, hJx3⟩)
   ·have hk4 := hk3 hnx
    gi_wp2
    go_roundw
    case rel => exact ⟨m, by omega, by simp, ⟨_, by
     have e1 : n - m = (n - (m + 1)) + 1 := by omega
     rw [e1, dwn_succ, ex, List.map_append, hpre]; rfl, hJ3⟩, hk4⟩
    case measure => simp [intOf]
   ·gi_wp2
    refine bodyPost_ret (results_none rfl _ _ _) rfl ?_
    exact ⟨⟨_, rfl⟩, .inr ⟨_, ⟨n - (m + 1) + 1, by omega, by rw [dwn_succ, ex, List.map_append, hpre]; rfl⟩, hJx3⟩⟩
theorem bwd_stops {V : Nat → Int → Prop} {n : Nat} (F : Fence) (nn : Nat) (h8 : F.fn 79) (hro : F.round = none) (hn : 1 ≤ nn) (Bs ob : Nat) (hreach : n * 8 ≤ 140737488351232) (w : World) (hB : BkB V n Bs ob w) :
  SeqStopsK F nn Tryz.prog 79 #[.pointer (some ⟨Bs, ob, none⟩)] (fun x : BX V n => #[Value.int .i64 (x.i : Int), Value.int .i64 x.v]) (fun X Y => BkB V n Bs ob X → BkB V n Bs ob Y) (fun xs => xs.map BX.i = dwn n n)
   (fun pre => ∃ k, k ≤ n ∧ pre.map BX.i = dwn n k) n w := fun l J Jx W hW hJ _ hY h0 => by
 have hl : ∀ {g o : Nat} {v : Value}, w.cell? ⟨g, o, none⟩ = some v → W.cell? ⟨g, o, none⟩ = some v := fun {g o v} h => (hW.cell (p := ⟨g, o, none⟩) (World.block_lt_of_cell? _ _ h)).trans h
 obtain ⟨b, off, cap, h1, h2⟩ := hB
 exact bwd1B_in F nn h8 hro hn l Bs ob hreach J Jx hY W ⟨b, off, cap, hl h1, fun j hj => by obtain ⟨v, h3, h4⟩ := h2 j hj; exact ⟨v, h3, hl h4⟩⟩ h0
end Go.Proofs.YtmchdjiigfiabaaGreat
/- The abstract machine: a range over slices.Backward of numbers. -/
namespace Go.Proofs.YtmchdjiigfiabaaGreat
open Go.RowKit
set_option maxRecDepth 1000000
section
variable {w0 : World} {A0 : Nat → Prop} {F0 : List Nat} {cS c : Cx} {Φ : Nat → Nat → List Nat} {st : St} {a : Act} {m : Nat}
theorem relL_i64 {c : Cx} : ∀ {zs : List Int} {us : List Value} {F : List Nat}, RelL c (zs.map i64) us F → us = zs.map (Value.int .i64)
 | [], us, F, h => by cases h; rfl
 | z :: zs, us, F, h => by
  obtain ⟨v, us', F1, F2, rfl, _, h1, h2, _⟩ := RelL.uncons h
  obtain ⟨rfl, _⟩ := Rel.sc_inv h1
  rw [relL_i64 h2]
  rfl
theorem bkb_of (h : SR w0 A0 F0 cS m st a c Φ) {V : Nat → Int → Prop} {n s4 g4 : Nat} {zs : List Int} (r4 : st.ro s4 g4 = some (.bx [.imm (zs.map i64)])) (hn : zs.length = n) (hV : ∀ j, j < n → V j (atI zs j)) : BkB V n (c.L s4 g4).1 (c.L s4 g4).2 c.w := by
 obtain ⟨hg4, v, hv, hh⟩ := h.sim.rt s4 g4 _ (by rw [h.ro]; exact r4)
 obtain ⟨g, b, cap, us, F', rfl, hΦ, hus, ho, _⟩ := hv.bx_inv
 have hL : c.L s4 g4 = (g, b) := by
  have : Value.pointer (some ⟨g, b, none⟩) = .pointer (some ⟨(c.L s4 g4).1, (c.L s4 g4).2, none⟩) := hh
  injection this with this
  injection this with this
  injection this with e1 e2
  rw [e1, e2]
 obtain ⟨u, us', F1, F2, rfl, _, hu, _⟩ := hus.uncons
 obtain ⟨g', b', cap', ws, rfl, hw, hin, _, _⟩ := hu.imm_inv
 obtain rfl := relL_i64 hw
 have hc := ho.cell (i := 0) (u := _) rfl
 rw [Nat.add_zero] at hc
 rw [hL]
 rw [List.length_map, hn] at hc
 refine ⟨g', b', cap', hc, fun j hj => ⟨_, hV j hj, ?_⟩⟩
 refine hin.2.2 j _ ?_
 rw [List.getElem?_map, List.getElem?_eq_getElem (by omega)]
 unfold atI
 rw [List.getD_eq_getElem?_getD, List.getElem?_eq_getElem (by omega)]
 rfl
theorem bkb_ref (h : SR w0 A0 F0 cS m st a c Φ) {V : Nat → Int → Prop} {n s4 g4 s2 g2 : Nat} {zs : List Int} (r4 : st.ro s4 g4 = some (.bx [.ref s2 g2 [] 0 n])) (r2 : st.ro s2 g2 = some (.row (zs.map i64))) (hn : zs.length = n) (h1 : 1 ≤ n) (hV : ∀ j, j < n → V j (atI zs j)) : BkB V n (c.L s4 g4).1 (c.L s4 g4).2 c.w := by
 obtain ⟨cap, arr, E, e1, e2, e3, e4, e5, e6, e7⟩ := boxed h r4 (cs := zs.map i64) (by unfold Ro.cells; rw [r2]; rfl) h1
 refine ⟨_, _, cap, e1, fun j hj => ⟨_, hV j hj, ?_⟩⟩
 obtain ⟨x, us, F, cap', hx, q1, q2, q3⟩ := h.sim.place (s := s2) (g := g2) (p := []) (cs := zs.map i64) (by rw [h.ro]; unfold Ro.cells; rw [r2]; rfl)
 obtain rfl := relL_i64 q1
 obtain rfl := locp_nil hx
 refine q2.cell (i := j) ?_
 rw [List.getElem?_map, List.getElem?_eq_getElem (by omega)]
 unfold atI
 rw [List.getD_eq_getElem?_getD, List.getElem?_eq_getElem (by omega)]
 rfl
end
def BkA (V : Nat → Int → Prop) (n : Nat) (st : St) (s4 g4 : Nat) : Prop := ∃ zs : List Int, zs.length = n ∧ (∀ j, j < n → V j (atI zs j)) ∧ (st.ro s4 g4 = some (.bx [.imm (zs.map i64)]) ∨ ∃ s2 g2, st.ro s4 g4 = some (.bx [.ref s2 g2 [] 0 n]) ∧ st.ro s2 g2 = some (.row (zs.map i64)))
theorem BkA.cells {V : Nat → Int → Prop} {n : Nat} {st : St} {s4 g4 : Nat} (h : BkA V n st s4 g4) : ∃ cs, st.ro.cells s4 g4 [] = some cs := by
 obtain ⟨zs, _, _, h | ⟨s2, g2, h, _⟩⟩ := h
 ·exact ⟨_, cells_bx h⟩
 ·exact ⟨_, cells_bx h⟩
theorem BkA.b {w0 : World} {A0 : Nat → Prop} {F0 : List Nat} {cS c : Cx} {Φ : Nat → Nat → List Nat} {a : Act} {m : Nat} {V : Nat → Int → Prop} {n : Nat} {st : St} {s4 g4 : Nat} (h : BkA V n st s4 g4) (h1 : 1 ≤ n) (hs : SR w0 A0 F0 cS m st a c Φ) : BkB V n (c.L s4 g4).1 (c.L s4 g4).2 c.w := by
 obtain ⟨zs, e, hV, h | ⟨s2, g2, h, h2⟩⟩ := h
 ·exact bkb_of hs h e hV
 ·exact bkb_ref hs h h2 e h1 hV
theorem semC_back {st0 : St} {tg tp tq ta : Tmp} {s4 g4 : Nat} {n : Nat} {V : Nat → Int → Prop} (bi : Bool) {az body : Code} (hz : n ≤ 1000000000) (h1n : 1 ≤ n) (hpq : tp ≠ tq)
  (hg : st0.sl tg = .fn 79 [.ptr s4 g4 [] 0])
  (Inv : List (BX V n) → St → Prop) (h0 : Inv [] st0)
  (hI : ∀ pre st, Inv pre st → st.sl = st0.sl ∧ BkA V n st s4 g4)
  (hcalm : calmR body = true) (hta : ∀ k, dstOK k az = true → ta < k)
  (has : ∀ (l k : Nat) (t : Array Value) (u v : Value) (W : World) (K : Act → World → Prop), tp < t.size → tq < t.size → K { tmps := ((t.setIfInBounds tp u).setIfInBounds tq v).setIfInBounds ta (if bi = true then u else v), defers := [] } W → az.wpIn (Fence.wide.inRound l) k Tryz.prog (Exit.then K fun _ _ _ => False) { tmps := (t.setIfInBounds tp u).setIfInBounds tq v, defers := [] } W)
  (hbody : ∀ pre (x : BX V n) st, Inv pre st → pre.length < n → codeW XX.cfg body (fun e st' => e = .normal ∧ Inv (pre ++ [x]) ⟨st0.sl, st'.ro, st'.gn⟩) ⟨upd (upd (upd st0.sl tp (i64 (x.i : Int))) tq (i64 x.v)) ta (i64 (if bi = true then (x.i : Int) else x.v)), st.ro, st.gn⟩) :
  SemC Tryz.prog (.rangeFunc (.tmp tg) #[tp, tq] az body) (fun e st => e = .normal ∧ ∃ xs : List (BX V n), xs.map BX.i = dwn n n ∧ Inv xs st) st0 := by
 intro w0 A0 F0 cS m a c Φ h hd
 simp only [dstOK, List.all_cons, List.all_nil, Bool.and_true, Bool.and_eq_true, decide_eq_true_eq] at hd
 obtain ⟨⟨htp, htq⟩, hd1, hd2⟩ := hd
 have hta' := hta m hd1
 obtain ⟨-, r4⟩ := hI _ _ h0
 have hgv : Rel c (st0.sl tg) (a.eval (.tmp tg)) [] := h.ev (.tmp tg)
 rw [hg] at hgv
 obtain ⟨us, hv, hcap⟩ := hgv.fn_inv
 obtain ⟨v1, us', rfl, k1, k2⟩ := hcap.uncons0
 obtain ⟨rfl, -⟩ := k2.nilF
 obtain ⟨hg4, p1⟩ := k1.ptr_inv
 obtain ⟨x1, l1, rfl⟩ := p1 _ (by rw [h.ro]; exact r4.cells.choose_spec)
 obtain rfl := locp_nil l1
 simp only [Nat.add_zero] at hv
 have hB0 := r4.b h1n h
 have hs0 : w0.heap.size ≤ c.w.heap.size := h.sim.bw.size
 have hsS : cS.w.heap.size ≤ c.w.heap.size := h.kp.hsz
 have hA0 : ∀ x, A0 x → x < c.w.heap.size := fun x hx => h.sim.al x (h.sim.a0 x hx)
 have hif : ∀ (u v : Int), (if bi = true then Value.int .i64 u else Value.int .i64 v) = .int .i64 (if bi = true then u else v) := fun u v => by cases bi <;> rfl
 refine wpIn_wide.1 (wpIn_rangeFunc_ownG (F := Fence.wide) (n := 3) (α := BX V n) rfl (by decide) hv trivial (fun args w => run_enter ⟨_, Tryz.func79, rfl, by kernel_rfl⟩ args w)
  (bwd_stops Fence.wide 2 trivial rfl (by decide) _ _ (by omega) c.w hB0) (fun h k x => k (h x)) ?_ (Below.refl _ _) (fun _ => rfl)
  (fun pre W => ∃ st c' Φ', c'.w = W ∧ SR w0 A0 F0 cS m st a c' Φ' ∧ Inv pre st ∧ c'.L s4 g4 = c.L s4 g4 ∧ g4 ≤ c'.gn s4 ∧ c.w.heap.size ≤ c'.w.heap.size)
  (fun _ _ _ => False) ?_ (fun _ _ _ _ _ h => h.elim) ⟨st0, c, Φ, rfl, h, h0, rfl, hg4, Nat.le_refl _⟩
  (fun x => { tmps := ((a.tmps.setIfInBounds tp (.int .i64 (x.i : Int))).setIfInBounds tq (.int .i64 x.v)).setIfInBounds ta (.int .i64 (if bi = true then (x.i : Int) else x.v)), defers := [] }) ?_ ?_ ?_ (fun _ _ _ _ _ _ h => h.elim))
 ·intro W l o o' hl ho hoc _ hch
  have ho' : ∀ (arr : Array Value) (E : TypeId) (fr : Nat × Nat), o ≠ Obj.cells arr E fr := fun arr E fr e => by rw [e] at hoc; cases hoc
  obtain ⟨b, off, cap, q1, q2⟩ := hch
  exact ⟨b, off, cap, (putObj_objK ho ho').cell q1, fun j hj => by obtain ⟨v, q3, q4⟩ := q2 j hj; exact ⟨v, q3, (putObj_objK ho ho').cell q4⟩⟩
 ·rintro s W W' row ⟨st, c', Φ', rfl, hs, hi, e1, e4, e7⟩ hgr hr
  have hlow : ∀ i, i < c.w.heap.size → i < c'.w.heap.size → W'.heap[i]? = c'.w.heap[i]? := fun i hi hi2 => hgr.block i hi2 fun e => by
   have := (hr i e.symm).1
   omega
  refine ⟨st, { c' with w := W' }, Φ', rfl, hs.objs rfl ⟨hgr.size, fun k arr E fr hk => ?_⟩ hgr.os hgr.tape hgr.output (fun i hi => ?_) ?_, hi, e1, e4, Nat.le_trans e7 hgr.size⟩
  ·rw [hgr.block k (Array.getElem?_eq_some_iff.1 hk).1 fun e => ?_]
   ·exact hk
   ·obtain ⟨_, o, ho, hc⟩ := hr k e.symm
    rw [hk] at ho
    obtain rfl := Option.some.inj ho
    cases hc
  ·have : i < c.w.heap.size := by omega
   exact hlow i this (by omega)
  ·exact DfO.row (fun i hi => hlow i hi (by omega)) (Nat.le_trans e7 hgr.size) h.df hs.df
 ·intro l x W K hK
  have := has l 1 a.tmps (.int .i64 (x.i : Int)) (.int .i64 x.v) W K (by rw [h.sz]; exact htp) (by rw [h.sz]; exact htq) (by rw [hif]; exact hK)
  simpa using this
 ·rintro l pre x W ⟨st, c', Φ', rfl, hs, hi, e1, e4, e7⟩ hlen
  obtain ⟨q0, q4⟩ := hI _ _ hi
  have h1 := hs.less
  have hR : SR w0 A0 F0 (lessC A0 c' Φ') m ⟨upd (upd (upd st0.sl tp (i64 (x.i : Int))) tq (i64 x.v)) ta (i64 (if bi = true then (x.i : Int) else x.v)), st.ro, st.gn⟩
    { tmps := ((a.tmps.setIfInBounds tp (.int .i64 (x.i : Int))).setIfInBounds tq (.int .i64 x.v)).setIfInBounds ta (.int .i64 (if bi = true then (x.i : Int) else x.v)), defers := [] } (lessC A0 c' Φ') Φ' := {
   sim := h1.sim
   kp := Keep.refl _
   ro := h1.ro
   gn := h1.gn
   sl := fun k => by
    dsimp only
    by_cases e : k = ta
    ·subst e
     rw [upd_same]
     have : ((((a.tmps.setIfInBounds tp (.int .i64 (x.i : Int))).setIfInBounds tq (.int .i64 x.v)).setIfInBounds k (.int .i64 (if bi = true then (x.i : Int) else x.v))).getD k undef) = .int .i64 (if bi = true then (x.i : Int) else x.v) := by
      simp [Array.getD, h.sz, hta']
     rw [this]
     exact .sc _ .nil
    ·rw [upd, if_neg e]
     by_cases e' : k = tq
     ·subst e'
      rw [upd_same]
      have : ((((a.tmps.setIfInBounds tp (.int .i64 (x.i : Int))).setIfInBounds k (.int .i64 x.v)).setIfInBounds ta (.int .i64 (if bi = true then (x.i : Int) else x.v))).getD k undef) = .int .i64 x.v := by
       rw [Array.getD_eq_getD_getElem?, Array.getElem?_setIfInBounds_ne (fun h => e h.symm)]
       simp [h.sz, htq]
      rw [this]
      exact .sc _ .nil
     ·rw [upd, if_neg e']
      by_cases e2 : k = tp
      ·subst e2
       rw [upd_same]
       have : ((((a.tmps.setIfInBounds k (.int .i64 (x.i : Int))).setIfInBounds tq (.int .i64 x.v)).setIfInBounds ta (.int .i64 (if bi = true then (x.i : Int) else x.v))).getD k undef) = .int .i64 (x.i : Int) := by
        rw [Array.getD_eq_getD_getElem?, Array.getElem?_setIfInBounds_ne (fun h => e h.symm), Array.getElem?_setIfInBounds_ne (fun h => e' h.symm)]
        simp [h.sz, htp]
       rw [this]
       exact .sc _ .nil
      ·rw [upd, if_neg e2]
       have : ((((a.tmps.setIfInBounds tp (.int .i64 (x.i : Int))).setIfInBounds tq (.int .i64 x.v)).setIfInBounds ta (.int .i64 (if bi = true then (x.i : Int) else x.v))).getD k undef) = a.tmps.getD k undef := by
        rw [Array.getD_eq_getD_getElem?, Array.getElem?_setIfInBounds_ne (fun h => e h.symm), Array.getElem?_setIfInBounds_ne (fun h => e' h.symm), Array.getElem?_setIfInBounds_ne (fun h => e2 h.symm), ← Array.getD_eq_getD_getElem?]
       rw [this, ← q0]
       exact h1.sl k
   df := trivial
   sz := by simp [h.sz] }
  refine wpIn_mono (codeW_inR (C := XX.cfg) (lR := l) (m := 1) (c := lessC A0 c' Φ') (tiG_ok _) (cfgOf_inl _ _) mixed0 body hcalm hR hd2 (hbody pre x st hi hlen)) ?_
  rintro e a2 w2 ⟨st2, c2, Φ2, rfl, h2, rfl, hi2⟩
  have hk2 : Keep (lessC A0 c' Φ') c2 := h2.kp
  obtain ⟨-, t4⟩ := hI _ _ hi2
  have f1 : c2.L s4 g4 = c.L s4 g4 := (hk2.L e4 (by rw [h2.ro]; exact t4.cells.choose_spec)).trans e1
  have h3 : SR w0 A0 F0 cS m ⟨st0.sl, st2.ro, st2.gn⟩ a c2 Φ2 := {
   sim := h2.sim
   kp := h1.kp.trans hk2
   ro := h2.ro
   gn := h2.gn
   sl := fun k => by
    show Rel c2 (st0.sl k) _ []
    rw [← q0]
    exact (h1.sl k).mono hk2 (by simp)
   df := h1.df.mono hk2
   sz := h.sz }
  refine ⟨⟨hk2.hsz, fun k o hB hk ho => ?_⟩, fun _ => ?_, ⟨_, c2, Φ2, rfl, h3, hi2, f1, Nat.le_trans e4 (hk2.hgn _), Nat.le_trans e7 hk2.hsz⟩⟩
  ·refine (hk2.hI k (Array.getElem?_eq_some_iff.1 hk).1 fun ha => ?_).trans hk
   obtain ⟨arr, E, fr, hcl⟩ := hs.sim.lessC_cells ha fun h0 => by have := hA0 k h0; omega
   rw [show (lessC A0 c' Φ').w.heap[k]? = some o from hk] at hcl
   obtain rfl := Option.some.inj hcl
   cases ho
  ·have := BkA.b (st := ⟨st0.sl, st2.ro, st2.gn⟩) t4 h1n h3
   rw [f1] at this
   exact this
 ·rintro D xs W hD hxs ⟨st, c', Φ', rfl, hs, hi, e1, e4, e7⟩ hW
  have h1 := hs.less
  refine ⟨st, lessC A0 c' Φ', Φ', rfl, { sim := h1.sim, kp := h1.kp, ro := h1.ro, gn := h1.gn, sl := h1.sl, sz := h1.sz, df := ?_ }, rfl, xs, hxs, hi⟩
  refine ⟨⟨D, rfl, by omega, by omega, (Array.getElem?_eq_some_iff.1 hW).1, fun ha => ?_, hW, fun e he h4 => ?_⟩, h1.df⟩
  ·obtain ⟨arr, E, fr, hcl⟩ := hs.sim.lessC_cells ha fun h0 => by have := hA0 D h0; omega
   rw [hW] at hcl
   cases hcl
  ·obtain ⟨D', h5, h6⟩ := h.df.target e he
   rw [h4] at h5
   injection h5 with h5
   omega
end Go.Proofs.YtmchdjiigfiabaaGreat
