/- The abstract machine: one operation, whichever. -/
import Derived.Test.YtifgeenipinnmaaVm12
set_option linter.all false
namespace Go.Proofs.Ytifgeenipinnmaa
open Go.RowKit

section
variable {P : Program} {ti : Nat → Option TI} {w0 : World} {A0 : Nat → Prop} {F0 : List Nat} {cS c c' : Cx} {Φ : Nat → Nat → List Nat} {R : List Nat} {st : St} {ρ : Operand → Value} {o : Oper} {e : Eff} {b : Nat} {C : Cfg}

theorem opC_ok (T : TOK P ti) (hs : Sim w0 A0 F0 c Φ []) (hro : c.ro = st.ro) (hgn : c.gn = st.gn) (hev : ∀ x, Rel c (st.ev x) (ρ x) []) (h : opC ti b st.ro st.gn st.ev o.op = some e) : OpOK P w0 A0 F0 c st ρ o e := by
  cases hop : o.op
  case move x => rw [hop] at h; simp only [opC, Option.some.injEq] at h; exact move_ok hs hro hgn hev (.inl hop) h.symm
  case assign x => rw [hop] at h; simp only [opC, Option.some.injEq] at h; exact move_ok hs hro hgn hev (.inr hop) h.symm
  case pick => rw [hop] at h; exact pick_ok hs hro hgn hev hop h
  case alloc => rw [hop] at h; exact alloc_ok T hs hro hgn hop h
  case box => rw [hop] at h; exact box_ok hs hro hgn hev hop h
  case build => rw [hop] at h; exact build_ok T hs hro hgn hev hop h
  case buildSlice => rw [hop] at h; exact buildSlice_ok T hs hro hgn hev hop h
  case load => rw [hop] at h; exact load_ok T hs hro hgn hev hop h
  case store => rw [hop] at h; exact store_ok T hs hro hgn hev hop h
  case binOp => rw [hop] at h; exact bin_ok T hs hro hgn hev hop h
  case unOp => rw [hop] at h; exact un_ok hs hro hgn hev hop h
  case convert => rw [hop] at h; exact conv_ok T hs hro hgn hev hop h
  case makeFunc => rw [hop] at h; exact makeFunc_ok hs hro hgn hev hop h
  case makeSlice => rw [hop] at h; exact makeSlice_ok T hs hro hgn hev hop h
  case slice => rw [hop] at h; exact slice_ok T hs hro hgn hev hop h
  case fieldAddr => rw [hop] at h; exact fieldAddr_ok T hs hro hgn hev hop h
  case field => rw [hop] at h; exact field_ok T hs hro hgn hev hop h
  case indexAddr => rw [hop] at h; exact indexAddr_ok T hs hro hgn hev hop h
  case index => rw [hop] at h; exact index_ok T hs hro hgn hev hop h
  case extract => rw [hop] at h; exact extract_ok hs hro hgn hev hop h
  case call cl =>
    rw [hop] at h
    simp only [opC] at h
    split at h
    · rename_i x t hc ha ht
      cases hi : ti t with
      | none => simp [hi] at h
      | some inf =>
        simp only [hi] at h
        exact len_ok T hs hro hgn hev hop hc ha ht hi h
    · rename_i x y t t' hc ha ht
      split at h
      · rename_i hcnd
        obtain ⟨rfl, hel⟩ := hcnd
        cases hi : ti t with
        | none => simp [hi] at hel
        | some inf =>
          simp only [hi, Option.bind_some] at hel
          obtain ⟨elt, hel⟩ := Option.isSome_iff_exists.1 hel
          cases hsrc : zeu st.ro (st.ev y) with
          | none => simp [hsrc] at h
          | some q =>
            obtain ⟨el, ws⟩ := q
            simp only [hsrc] at h
            split at h
            · rename_i hx
              exact append_nil_ok T hs hro hgn hev hop hc ha ht hi hel hsrc hx h
            · rename_i s g off n hx
              split at h
              · rename_i cs hroot
                split at h
                · rename_i hle
                  simp only [Option.some.injEq] at h
                  exact append_ref_ok T hs hro hgn hev hop hc ha ht hi hel hsrc hx hroot hle h.symm
                · cases h
              · cases h
            · cases h
      · cases h
    · rename_i x y hc ha
      exact max_ok hs hro hgn hev hop hc ha h
    · rename_i x y hc ha
      exact min_ok hs hro hgn hev hop hc ha h
    · cases h
  all_goals (rw [hop] at h; simp [opC] at h)

/-- What a call leaves. -/
def CallPost (w0 : World) (A0 : Nat → Prop) (F0 : List Nat) (c : Cx) (st : St) (e : Eff) : Ending → World → Prop := fun en w' =>
  ∃ v c' Φ', en = .returned v ∧ c'.w = w' ∧ c'.ro = (st.eff e).ro ∧ c'.gn = (st.eff e).gn ∧ Sim w0 A0 F0 c' Φ' [] ∧ Keep c c' ∧ Rel c' e.v v []

theorem call_ok (hs : Sim w0 A0 F0 c Φ []) (hro : c.ro = st.ro) (hgn : c.gn = st.gn) {f : Nat} {as : List AV} {vs : List Value} (hv : RelL c as vs []) (h : callR C b st f as e) :
    Enter C.P f ∧ Calls C.P f vs.toArray c.w (CallPost w0 A0 F0 c st e) := by
  have hend : ∀ (r : AV) (v : Value) (w' : World) (A' : Nat → Prop) (F' : List Nat), Rel (cx0 w' A') r v F' → noRef r = true → impOK r = true → Blw c.w w' [] → (∀ x, x ∈ F' → c.w.heap.size ≤ x) →
      ((∀ x, c.A x → A' x) ∧ (∀ x, x ∈ F' → A' x) ∨ noI r = true) → e = ⟨(imp b st.gn r).1, none, [], (imp b st.gn r).2⟩ → CallPost w0 A0 F0 c st e (.returned v) w' := by
    intro r v w' A' F' hr hn hi hb hF hA he
    subst he
    obtain ⟨c1, e1, e2, e3, e4, e5, e6, e7⟩ := hs.wchg w' F' hb.os hb.tape hb.output hb.size hb.fr (fun k hk _ => hb.block k hk (by simp)) (fun x hx => .inr ⟨hF x hx, hr.lt x hx⟩)
    have hr1 : Rel c1 r v F' := by
      rcases hA with ⟨h1, h2⟩ | h1
      · exact hr.ctx e1 (fun x hx => by
          rcases (e5 x).1 hx with hx | hx
          · exact h1 x hx
          · exact h2 x hx) (by simp [noRefL, hn])
      · exact hr.ctxI e1 (by simp [noIL, h1])
    obtain ⟨c2, Φ2, f1, f2, f3, f4, f5⟩ := imp_ok e7 hr1 hn hi b
    have hal := St.al_eq (imp b st.gn r).2 st
    have hg1 : c1.gn = st.gn := e3.trans hgn
    rw [hg1] at f2 f5
    rw [e2, hro] at f2
    have h1 := congrArg Prod.fst f2
    have h2 := congrArg Prod.snd f2
    refine ⟨v, c2, Φ2, rfl, f1.trans e1, ?_, ?_, f4, e6.trans f3, f5⟩
    · exact h1.trans hal.1.symm
    · exact h2.trans hal.2.1.symm
  unfold callR at h
  split at h
  · rename_i hp
    obtain ⟨r, ⟨hE, hn, hC⟩, hi, he⟩ := h
    have hargs : RelL (cx0 c.w c.A) as vs [] := hv.ctx rfl (fun _ h => h) (pure_noRefL as hp)
    refine ⟨hE, (hC c.w c.A vs hargs hs.al).mono ?_⟩
    rintro en w' ⟨v, A', F', rfl, h1, h2, h3, h4⟩
    exact hend r v w' A' F' h1 hn hi h4 (fun x hx => (h3 x hx).2) (.inl ⟨h2, fun x hx => (h3 x hx).1⟩) he
  · obtain ⟨r, ⟨hE, hn, hC⟩, hi, hI, he⟩ := h
    have hargs : RelL (cx0 c.w (fun _ => False)) (as.map (ex st.ro 8)) vs [] := by rw [← hro]; exact (ex_ok hs 8).2 hv
    refine ⟨hE, (hC c.w _ vs hargs (fun _ h => h.elim)).mono ?_⟩
    rintro en w' ⟨v, A', F', rfl, h1, h2, h3, h4⟩
    exact hend r v w' A' F' h1 hn hi h4 (fun x hx => (h3 x hx).2) (.inr hI) he

/-- The state and the model's frame. -/
structure SR (w0 : World) (A0 : Nat → Prop) (F0 : List Nat) (cS : Cx) (n : Nat) (st : St) (a : Act) (c : Cx) (Φ : Nat → Nat → List Nat) : Prop where
  sim : Sim w0 A0 F0 c Φ []
  kp : Keep cS c
  ro : c.ro = st.ro
  gn : c.gn = st.gn
  sl : ∀ k, Rel c (st.sl k) (a.tmps.getD k undef) []
  df : a.defers = []
  sz : a.tmps.size = n

theorem constA_ok (v : Value) : Rel c (zcs v) v [] := by
  by_cases h : ∃ cs, v = .agg cs
  · obtain ⟨cs, rfl⟩ := h
    have := RelL.agg (relL_sc c cs.toList) (by simp) RelL.nil
    simpa [zcs] using this
  · have : zcs v = .sc v := by cases v <;> first | rfl | exact absurd ⟨_, rfl⟩ h
    rw [this]; exact .sc v .nil

theorem SR.ev {n : Nat} {a : Act} (h : SR w0 A0 F0 cS n st a c Φ) (x : Operand) : Rel c (st.ev x) (a.eval x) [] := by
  cases x with
  | tmp t => exact h.sl t
  | const v => exact constA_ok v
  | global g => exact .dead _ .nil
  | func f => exact .fn f .nil .nil

theorem SR.put {n : Nat} {a : Act} {c' : Cx} {Φ' : Nat → Nat → List Nat} {st' : St} (h : SR w0 A0 F0 cS n st a c Φ) (k : Keep c c') (hs : Sim w0 A0 F0 c' Φ' []) (hro : c'.ro = st'.ro) (hgn : c'.gn = st'.gn) (hsl : st'.sl = st.sl)
    {d : Option Tmp} (hd : ∀ t, d = some t → t < n) {va : AV} {v : Value} (hv : Rel c' va v []) : SR w0 A0 F0 cS n (st'.put d va) (a.put d v) c' Φ' := by
  cases d with
  | none =>
    refine ⟨hs, h.kp.trans k, hro, hgn, fun j => ?_, h.df, h.sz⟩
    show Rel c' (st'.sl j) _ []
    rw [hsl]
    exact (h.sl j).mono k (by simp)
  | some t =>
    have ht := hd t rfl
    refine ⟨hs, h.kp.trans k, hro, hgn, fun j => ?_, h.df, by simp [Act.put, h.sz]⟩
    simp only [St.put, Act.put]
    by_cases e : j = t
    · subst e
      rw [upd_same]
      have : (a.tmps.setIfInBounds j v).getD j undef = v := by simp [Array.getD, h.sz, ht]
      rw [this]; exact hv
    · rw [upd_ne _ _ _ _ e, hsl]
      have : (a.tmps.setIfInBounds t v).getD j undef = a.tmps.getD j undef := by
        simp only [Array.getD_eq_getD_getElem?, Array.getElem?_setIfInBounds_ne (fun h => e h.symm)]
      rw [this]
      exact (h.sl j).mono k (by simp)

theorem want_ok {n : Nat} {a : Act} (h : SR w0 A0 F0 cS n st a c Φ) {ops : Array Oper} {t : Bool} (hw : zbl ops o st = some t) : Region.wanted o (yielded ops a.tmps) = t := by
  unfold zbl at hw
  unfold Region.wanted
  cases hg : o.guard with
  | none => simp only [hg, Option.some.injEq] at hw ⊢; exact hw
  | some q =>
    obtain ⟨j, x⟩ := q
    simp only [hg] at hw ⊢
    cases hj : (ops[j]?).bind (·.dst) with
    | none => simp [hj] at hw
    | some d =>
      simp only [hj] at hw
      have hd := h.sl d
      simp only [yielded, hj, Option.bind_some]
      rw [Array.getD_eq_getD_getElem?] at hd
      split at hw
      · rename_i y hy
        rw [hy] at hd
        obtain ⟨hd, _⟩ := Rel.sc_inv hd
        simp only [Option.some.injEq] at hw
        subst hw
        cases hq : a.tmps[d]? with
        | none => rw [hq] at hd; cases hd
        | some z =>
          rw [hq] at hd
          simp only [Option.getD_some] at hd
          subst hd
          cases y <;> cases x <;> rfl
      · rename_i v hnb hy
        rw [hy] at hd
        obtain ⟨hd, _⟩ := Rel.sc_inv hd
        have hvt : t = false ∧ ∀ x, v ≠ .bool x := by
          cases v <;> simp at hw ⊢ <;> first | exact hw | exact hw.symm
        obtain ⟨rfl, hvn⟩ := hvt
        cases hq : a.tmps[d]? with
        | none => cases x <;> rfl
        | some z =>
          rw [hq] at hd
          simp only [Option.getD_some] at hd
          subst hd
          cases z <;> first | (cases x <;> rfl) | exact absurd rfl (hvn _)
      · cases hw

theorem run_enter {f : Nat} (hE : Enter P f) (args : Array Value) (w : World) : (callFunc f args).run P w = .ok (.enter f args) w := by
  obtain ⟨fn, h1, h2, h3⟩ := hE
  have h4 : fn.body.isNone = false := by cases hb : fn.body <;> simp_all
  unfold callFunc
  simp only [Sem.run_bind, run_program, Result.andThen_ok, h1]
  rw [if_neg (by rw [h3]; simp), if_neg (by rw [h4]; simp)]
  rfl

/-- ONE OPERATION. -/
theorem step_ok (T : TOK C.P C.ti) {n rid i : Nat} {ops : Array Oper} {a : Act} {st' : St} (h : SR w0 A0 F0 cS n st a c Φ) (hd : ∀ t, o.dst = some t → t < n) (hstep : stepR C rid ops i o st st') {K : Act → World → Prop} {Q : Exit → Act → World → Prop}
    (hK : ∀ a' c' Φ', SR w0 A0 F0 cS n st' a' c' Φ' → K a' c'.w) : if Region.wanted o (yielded ops a.tmps) then o.wp C.P a c.w K Q else K (a.put o.dst undef) c.w := by
  unfold stepR at hstep
  split at hstep
  · rename_i hw
    rw [want_ok h hw, if_pos rfl]
    obtain ⟨e, he, rfl⟩ := hstep
    have hsl : (st.eff e).sl = st.sl := (St.al_eq e.al _).2.2
    have hop : ∀ e, OpOK C.P w0 A0 F0 c st a.eval o e → (∀ a' c' Φ', SR w0 A0 F0 cS n ((st.eff e).put o.dst e.v) a' c' Φ' → K a' c'.w) → o.wp C.P a c.w K Q := by
      rintro e ⟨v, w', c', Φ', hrun, hw', h1, h2, h3, h4, h5⟩ hK
      have hsl' : (st.eff e).sl = st.sl := (St.al_eq e.al _).2.2
      unfold Oper.wp
      have hsr := h.put h4 h3 h1 h2 hsl' hd h5
      rcases hrun with hrun | ⟨rfl, hrun⟩
      · rw [hrun, Oper.upon_value, ← hw']; exact hK _ _ _ hsr
      · rw [hrun, Oper.upon_skip, ← hw']; exact hK _ _ _ hsr
    unfold opR at he
    split at he
    · rename_i cl hcl
      split at he
      · rename_i f hf
        split at he
        · rename_i f' caps hfe
          have hfv := h.ev f
          rw [hfe] at hfv
          obtain ⟨us, hfv, hcaps⟩ := Rel.fn_inv hfv
          have hargs : RelL c (cl.args.toList.map st.ev ++ caps) (cl.args.toList.map a.eval ++ us) [] := RelL.append (RelL.of_map _ h.ev) hcaps (by simp)
          obtain ⟨hE, hC⟩ := call_ok h.sim h.ro h.gn hargs he
          have hrun : (execOp a.eval o).run C.P c.w = .ok (.enter f' (cl.args.toList.map a.eval ++ us).toArray) c.w := by
            have harr : cl.args.map a.eval ++ us.toArray = (cl.args.toList.map a.eval ++ us).toArray := by apply Array.ext'; simp
            simp only [execOp, hcl, resolve, hf, hfv, Deferred.ofValue, Sem.run_bind, Sem.run_pure, Result.andThen_ok, invoke]
            rw [Array.empty_append, harr]
            exact run_enter hE _ _
          unfold Oper.wp
          rw [hrun, Oper.upon_enter]
          refine hC.mono ?_
          rintro en w' ⟨v, c', Φ', rfl, hw', h1, h2, h3, h4, h5⟩
          rw [← hw']
          exact hK _ _ _ (h.put h4 h3 h1 h2 hsl hd h5)
        · exact he.elim
      · exact hop e (opC_ok T h.sim h.ro h.gn h.ev (by rw [hcl]; exact he)) hK
    · exact hop e (opC_ok T h.sim h.ro h.gn h.ev he) hK
  · rename_i hw
    rw [want_ok h hw, if_neg (by simp)]
    subst hstep
    exact hK _ _ _ (h.put (Keep.refl c) h.sim h.ro h.gn rfl hd (.sc undef .nil))
  · exact hstep.elim

/-- WHAT IS CLAIMED OF A FUNCTION THAT WORKS IN ITS CALLER'S MEMORY. -/
def InOK (P : Program) (f : Nat) (args : List AV) (ro : Ro) (gn : Nat → Nat) (r : AV) (ro' : Ro) (gn' : Nat → Nat) : Prop :=
  Enter P f ∧ ∀ (w0 : World) (A0 : Nat → Prop) (F0 : List Nat) (c : Cx) (Φ : Nat → Nat → List Nat) (vs : List Value), Sim w0 A0 F0 c Φ [] → c.ro = ro → c.gn = gn → RelL c args vs [] →
    Calls P f vs.toArray c.w fun en w' => ∃ v c' Φ', en = .returned v ∧ c'.w = w' ∧ c'.ro = ro' ∧ c'.gn = gn' ∧ Sim w0 A0 F0 c' Φ' [] ∧ Keep c c' ∧ Rel c' r v []

def InlOK (C : Cfg) : Prop := ∀ f args ro gn r ro' gn', C.inl f args ro gn r ro' gn' → InOK C.P f args ro gn r ro' gn'

theorem step_in_ok (hI : InlOK C) {n : Nat} {a : Act} {r : AV} {ro' : Ro} {gn' : Nat → Nat} (h : SR w0 A0 F0 cS n st a c Φ) (hd : ∀ t, o.dst = some t → t < n) (hin : inR C st o.op r ro' gn') {K : Act → World → Prop} {Q : Exit → Act → World → Prop}
    (hK : ∀ a' c' Φ', SR w0 A0 F0 cS n ((⟨st.sl, ro', gn'⟩ : St).put o.dst r) a' c' Φ' → K a' c'.w) : o.wp C.P a c.w K Q := by
  unfold inR at hin
  split at hin
  · rename_i cl hcl
    split at hin
    · rename_i f hf
      split at hin
      · rename_i f' caps hfe
        have hfv := h.ev f
        rw [hfe] at hfv
        obtain ⟨us, hfv, hcaps⟩ := Rel.fn_inv hfv
        have hargs : RelL c (cl.args.toList.map st.ev ++ caps) (cl.args.toList.map a.eval ++ us) [] := RelL.append (RelL.of_map _ h.ev) hcaps (by simp)
        obtain ⟨hE, hC⟩ := hI _ _ _ _ _ _ _ hin
        have hC := hC w0 A0 F0 c Φ _ h.sim h.ro h.gn hargs
        have hrun : (execOp a.eval o).run C.P c.w = .ok (.enter f' (cl.args.toList.map a.eval ++ us).toArray) c.w := by
          have harr : cl.args.map a.eval ++ us.toArray = (cl.args.toList.map a.eval ++ us).toArray := by apply Array.ext'; simp
          simp only [execOp, hcl, resolve, hf, hfv, Deferred.ofValue, Sem.run_bind, Sem.run_pure, Result.andThen_ok, invoke]
          rw [Array.empty_append, harr]
          exact run_enter hE _ _
        unfold Oper.wp
        rw [hrun, Oper.upon_enter]
        refine hC.mono ?_
        rintro en w' ⟨v, c', Φ', rfl, hw', h1, h2, h3, h4, h5⟩
        rw [← hw']
        exact hK _ _ _ (h.put (st' := ⟨st.sl, ro', gn'⟩) h4 h3 h1 h2 rfl hd h5)
      · exact hin.elim
    · exact hin.elim
  · exact hin.elim

end

end Go.Proofs.Ytifgeenipinnmaa
