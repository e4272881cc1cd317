/- The abstract machine: regions whose order is drawn, in whatever order. -/
import Derived.Test.YtifgeenipinnmaaVm16
set_option linter.all false
namespace Go.Proofs.Ytifgeenipinnmaa
open Go.RowKit

section
variable {C : Cfg} {rid : Nat} {ops : Array Oper}

theorem TrD.congr {X X' : Nat → Option Eff} {G G' : Nat → FP} : ∀ (l : List Nat) {st st' : St}, (∀ k, k ∈ l → X' k = X k ∧ G' k = G k) → TrD C rid ops X G l st st' → TrD C rid ops X' G' l st st'
  | [], _, _, _, h => h
  | i :: l, st, st', hk, h => by
    obtain ⟨o, h1, h2, h3⟩ := h
    obtain ⟨e1, e2⟩ := hk i (by simp)
    exact ⟨o, h1, by rw [e1, e2]; exact h2, by rw [e1]; exact TrD.congr l (fun k hk' => hk k (by simp [hk'])) h3⟩

def fp0 : FP := ⟨none, []⟩

theorem opsD_tr : ∀ (l : List Oper) (i : Nat) {acc : List FP} {Q : St → List FP → Prop} {st : St}, (∀ k o, l[k]? = some o → ops[i + k]? = some o) → opsD C rid ops l i acc Q st →
    ∃ X fps stE, fps.length = l.length ∧ TrD C rid ops X (fun k => fps.getD (k - i) fp0) (List.range' i l.length) st stE ∧ Q stE (acc.reverse ++ fps)
  | [], i, acc, Q, st, _, h => ⟨fun _ => none, [], st, rfl, rfl, by simpa [opsD] using h⟩
  | o :: l, i, acc, Q, st, hl, h => by
    have ho : ops[i]? = some o := hl 0 o rfl
    have main : ∀ (x : Option Eff) (F : FP), canD C rid ops i o st x F → opsD C rid ops l (i + 1) (F :: acc) Q (doD o st x) →
        ∃ X fps stE, fps.length = (o :: l).length ∧ TrD C rid ops X (fun k => fps.getD (k - i) fp0) (List.range' i (o :: l).length) st stE ∧ Q stE (acc.reverse ++ fps) := by
      intro x F hc hr
      obtain ⟨X, fps, stE, h1, h2, h3⟩ := opsD_tr l (i + 1) (fun k p hp => by have := hl (k + 1) p (by simpa using hp); rw [show i + 1 + k = i + (k + 1) by omega]; exact this) hr
      refine ⟨fun k => if k = i then x else X k, F :: fps, stE, by simp [h1], ?_, by simpa using h3⟩
      rw [List.length_cons, List.range'_succ]
      refine ⟨o, ho, ?_, ?_⟩
      · simpa using hc
      · simp only [if_true]
        refine TrD.congr _ (fun k hk => ?_) h2
        have hlt : i + 1 ≤ k := by
          rw [List.mem_range'_1] at hk; exact hk.1
        refine ⟨if_neg (by omega), ?_⟩
        rw [show k - i = (k - (i + 1)) + 1 by omega]
        simp
    simp only [opsD] at h
    cases hw : zbl ops o st with
    | none => simp [hw] at h
    | some t =>
      cases t
      · simp only [hw] at h
        exact main none ⟨some [], []⟩ ⟨hw, rfl⟩ h
      · simp only [hw] at h
        obtain ⟨e, he, hr⟩ := h
        exact main (some e) _ ⟨hw, he, rfl⟩ hr

variable {w0 : World} {A0 : Nat → Prop} {F0 : List Nat} {cS : Cx} {n : Nat}

theorem canD_step {i : Nat} {o : Oper} {st : St} {x : Option Eff} {F : FP} (h : canD C rid ops i o st x F) : stepR C rid ops i o st (doD o st x) := by
  unfold stepR
  cases x with
  | none => rw [h.1]; rfl
  | some e => rw [h.1]; exact ⟨e, h.2.1, rfl⟩

theorem any_ok (T : TOK C.P C.ti) {X : Nat → Option Eff} {G : Nat → FP} {Q : Exit → Act → World → Prop} (hdst : ∀ o, o ∈ ops.toList → ∀ t, o.dst = some t → t < n)
    (hbk : ∀ i o, ops[i]? = some o → ∀ e, e ∈ o.after → Region.binds .any e = true → e.on < i)
    (hok : ∀ i j o p, j < i → ops[j]? = some o → ops[i]? = some p → (o.apart ops p = true ∧ (G j).apart (G i) = true) ∨ befB ops ops.size j i = true) {stE : St}
    (hQ : ∀ a c Φ, SR w0 A0 F0 cS n stE a c Φ → Q .normal a c.w) : ∀ (fuel : Nat) (L : List Nat) (listed : Array Bool) {st : St} {a : Act} {c : Cx} {Φ : Nat → Nat → List Nat}, L.length = fuel → listed.size = ops.size → L.Pairwise (· < ·) →
    (∀ i, i ∈ L ↔ i < ops.size ∧ listed.getD i false = false) → (∀ k o, ops[k]? = some o → listed.getD k false = true → ∀ e, e ∈ o.after → Region.binds .any e = true → listed.getD e.on false = true) →
    TrD C rid ops X G L st stE → SR w0 A0 F0 cS n st a c Φ → wpAny C.P .any ops Q fuel listed a c.w
  | 0, L, listed, st, a, c, Φ, hlen, hsz, hpw, hL, hcl, ht, hs => by
    obtain rfl := List.length_eq_zero_iff.1 hlen
    refine ⟨?_, ?_⟩
    · unfold Region.ready
      rw [List.filter_eq_nil_iff]
      intro i hi
      have hi' : i < ops.size := by simpa using hi
      have : listed.getD i false = true := by
        cases hb : listed.getD i false with
        | true => rfl
        | false => have := (hL i).2 ⟨hi', hb⟩; cases this
      have h2 : listed.getD i true = true := by
        have hlt : i < listed.size := by omega
        simp only [Array.getD, hlt, dif_pos] at this ⊢; exact this
      simp [h2]
    · have : stE = st := ht
      subst this
      exact hQ _ _ _ hs
  | fuel + 1, L, listed, st, a, c, Φ, hlen, hsz, hpw, hL, hcl, ht, hs => by
    have hready : ∀ i, i ∈ Region.ready .any ops listed ↔ i ∈ L ∧ ∀ o, ops[i]? = some o → ∀ e, e ∈ o.after → Region.binds .any e = true → listed.getD e.on false = true := by
      intro i
      unfold Region.ready
      rw [List.mem_filter, hL, List.mem_range]
      constructor
      · rintro ⟨hi, h⟩
        simp only [Bool.and_eq_true, Bool.not_eq_true'] at h
        refine ⟨⟨hi, ?_⟩, ?_⟩
        · have hlt : i < listed.size := by omega
          have := h.1
          simp only [Array.getD, hlt, dif_pos] at this ⊢; exact this
        · intro o ho e he hb
          have h2 := h.2
          rw [ho] at h2
          simp only [Option.map_some, Option.getD_some, Array.all_eq_true_iff_forall_mem, Bool.or_eq_true, Bool.not_eq_true'] at h2
          rcases h2 e he with h3 | h3
          · rw [hb] at h3; cases h3
          · exact h3
      · rintro ⟨⟨hi, h1⟩, h2⟩
        refine ⟨hi, ?_⟩
        simp only [Bool.and_eq_true, Bool.not_eq_true']
        refine ⟨?_, ?_⟩
        · have hlt : i < listed.size := by omega
          simp only [Array.getD, hlt, dif_pos] at h1 ⊢; exact h1
        · have ho : ops[i]? = some ops[i] := by simp [hi]
          rw [ho]
          simp only [Option.map_some, Option.getD_some, Array.all_eq_true_iff_forall_mem, Bool.or_eq_true, Bool.not_eq_true']
          intro e he
          cases hb : Region.binds .any e with
          | false => exact .inl rfl
          | true => exact .inr (h2 _ ho e he hb)
    refine ⟨fun hnil => ?_, fun i hi => ?_⟩
    · exfalso
      cases L with
      | nil => simp at hlen
      | cons x t =>
        have hx : x ∈ Region.ready .any ops listed := by
          rw [hready]
          refine ⟨by simp, fun o ho e he hb => ?_⟩
          have hlt := hbk x o ho e he hb
          have hxs : x < ops.size := ((hL x).1 (by simp)).1
          cases hl : listed.getD e.on false with
          | true => rfl
          | false =>
            have hm := (hL e.on).2 ⟨by omega, hl⟩
            rcases List.mem_cons.1 hm with h | h
            · omega
            · have := (List.pairwise_cons.1 hpw).1 _ h; omega
        rw [hnil] at hx; cases hx
    · obtain ⟨hiL, hie⟩ := (hready i).1 hi
      have his := ((hL i).1 hiL).1
      have hio : ops[i]? = some ops[i] := by simp [his]
      obtain ⟨l1, l2, rfl⟩ := List.append_of_mem hiL
      have hpw' := List.pairwise_append.1 hpw
      have hb := bubble hio l1 l2 (fun j hj => by
        have hji : j < i := hpw'.2.2 j hj i (by simp)
        have hjs : j < ops.size := by omega
        have hjo : ops[j]? = some ops[j] := by simp [hjs]
        refine ⟨_, hjo, ?_⟩
        rcases hok i j _ _ hji hjo hio with h | h
        · exact h
        · have h1 := befB_closed hcl _ _ _ h hie
          have h2 := ((hL j).1 (by simp [hj])).2
          rw [h1] at h2; cases h2) ht
      obtain ⟨o, ho, hc, ht'⟩ := hb
      rw [hio] at ho
      obtain rfl := Option.some.inj ho
      have hrec : ∀ a' c' Φ', SR w0 A0 F0 cS n (doD ops[i] st (X i)) a' c' Φ' → wpAny C.P .any ops Q fuel (listed.setIfInBounds i true) a' c'.w := fun a' c' Φ' h' =>
        any_ok T hdst hbk hok hQ fuel (l1 ++ l2) (listed.setIfInBounds i true) (by simp at hlen ⊢; omega) (by simp [hsz])
          (hpw.sublist (List.Sublist.append (List.Sublist.refl _) (List.sublist_cons_self _ _)))
          (fun k => by
            have hk := hL k
            have hnd := hpw.imp (fun {a b} (h : a < b) => Nat.ne_of_lt h)
            have hil : i < listed.size := by omega
            by_cases e : k = i
            · subst e
              have h1 : k ∉ l1 ++ l2 := by
                intro hm
                rcases List.mem_append.1 hm with hm | hm
                · exact absurd (hpw'.2.2 k hm k (by simp)) (by omega)
                · exact absurd ((List.pairwise_cons.1 hpw'.2.1).1 k hm) (by omega)
              refine ⟨fun h => absurd h h1, fun h => ?_⟩
              have := h.2
              simp [Array.getD_eq_getD_getElem?, hil] at this
            · have h1 : (k ∈ l1 ++ l2) ↔ k ∈ l1 ++ i :: l2 := by simp [e]
              rw [h1, hk]
              have : (listed.setIfInBounds i true).getD k false = listed.getD k false := by
                simp only [Array.getD_eq_getD_getElem?, Array.getElem?_setIfInBounds_ne (fun h => e h.symm)]
              rw [this])
          (fun k o2 hok2 hk e he hb' => by
            have hil : i < listed.size := by omega
            have hmono : ∀ m, listed.getD m false = true → (listed.setIfInBounds i true).getD m false = true := by
              intro m hm
              by_cases e : m = i
              · subst e; simp [Array.getD_eq_getD_getElem?, hil]
              · simp only [Array.getD_eq_getD_getElem?, Array.getElem?_setIfInBounds_ne (fun h => e h.symm)] at hm ⊢; exact hm
            by_cases ek : k = i
            · subst ek
              exact hmono _ (hie o2 hok2 e he hb')
            · refine hmono _ (hcl k o2 hok2 ?_ e he hb')
              simp only [Array.getD_eq_getD_getElem?, Array.getElem?_setIfInBounds_ne (fun h => ek h.symm)] at hk ⊢; exact hk)
          ht' h'
      have hst := step_ok T hs (hdst ops[i] (by simp)) (canD_step hc) (K := wpAny C.P .any ops Q fuel (listed.setIfInBounds i true)) (Q := Q) hrec
      unfold wpOp
      simp only [hio]
      split
      · rename_i hw; rw [if_pos hw] at hst; exact .inl hst
      · rename_i hw; rw [if_neg hw] at hst; exact hst

theorem SR.drawn {st : St} {a : Act} {c : Cx} {Φ : Nat → Nat → List Nat} (h : SR w0 A0 F0 cS n st a c Φ) (m : Nat) : ∃ c' Φ', c'.w = { c.w with drawn := m } ∧ SR w0 A0 F0 cS n st a c' Φ' := by
  obtain ⟨c1, e1, e2, e3, e4, e5, e6, e7⟩ := h.sim.wchg { c.w with drawn := m } [] rfl rfl rfl (Nat.le_refl _) (fun _ => rfl) (fun _ _ _ => rfl) (by simp)
  exact ⟨c1, _, e1, e7, h.kp.trans e6, e2.trans h.ro, e3.trans h.gn, fun k => (h.sl k).mono e6 (by simp), h.df, h.sz⟩

/-- A REGION WHOSE ORDER IS DRAWN. -/
theorem opsD_ok (T : TOK C.P C.ti) (hm : C.P.follows .mixedOrders = true) {K : Exit → Act → World → Prop} {Q : St → Prop} {st : St} {a : Act} {c : Cx} {Φ : Nat → Nat → List Nat} (h : SR w0 A0 F0 cS n st a c Φ)
    (hdst : ∀ o, o ∈ ops.toList → ∀ t, o.dst = some t → t < n) (hq : opsD C rid ops ops.toList 0 [] (fun st fp => okD ops fp = true ∧ Q st) st)
    (hK : ∀ st' a' c' Φ', SR w0 A0 F0 cS n st' a' c' Φ' → Q st' → K .normal a' c'.w) : (Code.region rid ops true).wp C.P K a c.w := by
  obtain ⟨X, fps, stE, hlen, ht, hok, hQ⟩ := opsD_tr ops.toList 0 (fun k o hk => by simpa using hk) hq
  simp only [List.reverse_nil, List.nil_append] at hok
  obtain ⟨c', Φ', hw', hs'⟩ := h.drawn (c.w.drawn + 1)
  refine wp_region_any hm ?_
  rw [← hw']
  simp only [Nat.sub_zero] at ht
  unfold okD at hok
  rw [List.all_eq_true] at hok
  have hlen' : fps.length = ops.size := by simpa using hlen
  refine any_ok (X := X) (G := fun k => fps.getD k fp0) (stE := stE) T hdst ?_ ?_ (fun a' c' Φ' h' => hK _ _ _ _ h' hQ) ops.size (List.range' 0 ops.toList.length) _ (by simp) (by simp) (List.pairwise_lt_range' ..) ?_ ?_ ht hs'
  · intro i o ho e he hb
    have hi : i < ops.size := by
      rcases Nat.lt_or_ge i ops.size with h | h
      · exact h
      · rw [Array.getElem?_eq_none h] at ho; cases ho
    have := hok i (by simpa using hi)
    simp only [ho, Bool.and_eq_true] at this
    have := List.all_eq_true.1 this.1 e (by simpa using he)
    simpa [hb] using this
  · intro i j o p hji hj hi
    have his : i < ops.size := by
      rcases Nat.lt_or_ge i ops.size with h | h
      · exact h
      · rw [Array.getElem?_eq_none h] at hi; cases hi
    have := hok i (by simpa using his)
    simp only [hi, Bool.and_eq_true] at this
    have := List.all_eq_true.1 this.2 j (by simpa using hji)
    unfold okPair at this
    have e1 : fps[j]? = some (fps[j]'(by omega)) := List.getElem?_eq_getElem _
    have e2 : fps[i]? = some (fps[i]'(by omega)) := List.getElem?_eq_getElem _
    simp only [hi, hj, e1, e2, Bool.or_eq_true, Bool.and_eq_true] at this
    simp only [List.getD_eq_getElem?_getD, e1, e2, Option.getD_some]
    exact this
  · intro i
    rw [List.mem_range'_1]
    simp only [Array.length_toList, Array.getD_eq_getD_getElem?, Array.getElem?_replicate]
    constructor
    · intro h; exact ⟨by omega, by split <;> rfl⟩
    · intro h; omega
  · intro k o _ hk
    simp only [Array.getD_eq_getD_getElem?, Array.getElem?_replicate] at hk
    split at hk <;> cases hk

end

end Go.Proofs.Ytifgeenipinnmaa
