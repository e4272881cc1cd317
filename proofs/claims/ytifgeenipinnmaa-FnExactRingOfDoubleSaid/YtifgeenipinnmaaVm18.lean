/- The abstract machine: code, and functions. -/
import Derived.Test.YtifgeenipinnmaaVm17
set_option linter.all false
namespace Go.Proofs.Ytifgeenipinnmaa
open Go.RowKit

section
variable {C : Cfg} {w0 : World} {A0 : Nat → Prop} {F0 : List Nat} {cS : Cx} {n : Nat}

def PostOf (w0 : World) (A0 : Nat → Prop) (F0 : List Nat) (cS : Cx) (n : Nat) (Q : Exit → St → Prop) : Exit → Act → World → Prop := fun e a w => ∃ st c Φ, c.w = w ∧ SR w0 A0 F0 cS n st a c Φ ∧ Q e st

theorem codeW_ok (T : TOK C.P C.ti) (hI : InlOK C) (hm : C.P.follows .mixedOrders = true) : ∀ (code : Code) {Q : Exit → St → Prop} {st : St} {a : Act} {c : Cx} {Φ : Nat → Nat → List Nat}, SR w0 A0 F0 cS n st a c Φ → dstOK n code = true → codeW C code Q st →
    code.wp C.P (PostOf w0 A0 F0 cS n Q) a c.w := by
  intro code
  induction code with
  | skip => intro Q st a c Φ h _ hq; exact wp_skip ⟨st, c, Φ, rfl, h, hq⟩
  | region id ops d =>
    intro Q st a c Φ h hd hq
    have hdst : ∀ o, o ∈ ops.toList → ∀ t, o.dst = some t → t < n := by
      intro o ho t ht
      simp only [dstOK] at hd
      have := List.all_eq_true.1 hd o ho
      simpa [ht] using this
    cases d with
    | false => exact wp_region_list (opsW_ok T hI id ops ops.toList 0 h hdst hq fun st' a' c' Φ' h' hq' => ⟨st', c', Φ', rfl, h', hq'⟩)
    | true => exact opsD_ok T hm h hdst hq fun st' a' c' Φ' h' hq' => ⟨st', c', Φ', rfl, h', hq'⟩
  | seq x y ihx ihy =>
    intro Q st a c Φ h hd hq
    simp only [dstOK, Bool.and_eq_true] at hd
    refine wp_seq (wp_mono (ihx h hd.1 hq) ?_)
    rintro e a' w' ⟨st', c', Φ', rfl, h', hq'⟩
    cases e with
    | normal => exact ihy h' hd.2 hq'
    | exit _ => exact ⟨st', c', Φ', rfl, h', hq'⟩
    | goto _ => exact ⟨st', c', Φ', rfl, h', hq'⟩
    | ret => exact ⟨st', c', Φ', rfl, h', hq'⟩
    | panic _ => exact ⟨st', c', Φ', rfl, h', hq'⟩
    | outgrown => exact ⟨st', c', Φ', rfl, h', hq'⟩
  | cond x t e iht ihe =>
    intro Q st a c Φ h hd hq
    simp only [dstOK, Bool.and_eq_true] at hd
    obtain ⟨b, hb, h1, h2⟩ := hq
    have hv := h.ev x
    rw [hb] at hv
    obtain ⟨hv, _⟩ := Rel.sc_inv hv
    refine wp_cond_split hv ?_ ?_
    · intro ht; exact iht h hd.1 (h1 ht)
    · intro ht; exact ihe h hd.2 (h2 ht)
  | block id x ih =>
    intro Q st a c Φ h hd hq
    simp only [dstOK] at hd
    refine wp_block (wp_mono (ih h hd hq) ?_)
    rintro e a' w' ⟨st', c', Φ', rfl, h', hq'⟩
    cases e with
    | exit j =>
      simp only at hq'
      simp only [Exit.inBlock]
      split
      · rename_i hj; rw [if_pos hj] at hq'; exact ⟨st', c', Φ', rfl, h', hq'⟩
      · rename_i hj; rw [if_neg hj] at hq'; exact ⟨st', c', Φ', rfl, h', hq'⟩
    | normal => exact ⟨st', c', Φ', rfl, h', hq'⟩
    | goto _ => exact ⟨st', c', Φ', rfl, h', hq'⟩
    | ret => exact ⟨st', c', Φ', rfl, h', hq'⟩
    | panic _ => exact ⟨st', c', Φ', rfl, h', hq'⟩
    | outgrown => exact ⟨st', c', Φ', rfl, h', hq'⟩
  | loop x ih =>
    intro Q st a c Φ h hd hq
    simp only [dstOK] at hd
    obtain ⟨I, m, hI, hround⟩ := hq
    refine wp_loop_ghost (fun k a w => ∃ st c Φ, c.w = w ∧ SR w0 A0 F0 cS n st a c Φ ∧ I k st) m ⟨st, c, Φ, rfl, h, hI⟩ ?_
    rintro k a' w' ⟨st', c', Φ', rfl, h', hI'⟩
    refine wp_mono (ih h' hd (hround k st' hI')) ?_
    rintro e a2 w2 ⟨st2, c2, Φ2, rfl, h2, hq2⟩
    cases e with
    | normal => obtain ⟨j, hj, hIj⟩ := hq2; exact ⟨j, hj, st2, c2, Φ2, rfl, h2, hIj⟩
    | exit _ => exact ⟨st2, c2, Φ2, rfl, h2, hq2⟩
    | goto _ => exact ⟨st2, c2, Φ2, rfl, h2, hq2⟩
    | ret => exact ⟨st2, c2, Φ2, rfl, h2, hq2⟩
    | panic _ => exact ⟨st2, c2, Φ2, rfl, h2, hq2⟩
    | outgrown => exact ⟨st2, c2, Φ2, rfl, h2, hq2⟩
  | exit id => intro Q st a c Φ h _ hq; exact wp_exit ⟨st, c, Φ, rfl, h, hq⟩
  | ret => intro Q st a c Φ h _ hq; exact wp_ret ⟨st, c, Φ, rfl, h, hq⟩
  | rangeFunc => intro Q st a c Φ h _ hq; exact hq.elim
  | scope => intro Q st a c Φ h _ hq; exact hq.elim
  | label => intro Q st a c Φ h _ hq; exact hq.elim
  | goto => intro Q st a c Φ h _ hq; exact hq.elim
  | refuse => intro Q st a c Φ h _ hq; exact hq.elim

end

section
variable {P : Program} {ti : Nat → Option TI} {w0 : World} {A0 : Nat → Prop} {F0 : List Nat} {c : Cx} {Φ : Nat → Nat → List Nat} {st : St} {ρ : Operand → Value} {e : Eff} {b : Nat}

theorem load_run (T : TOK P ti) (hs : Sim w0 A0 F0 c Φ []) (hro : c.ro = st.ro) (hev : ∀ x, Rel c (st.ev x) (ρ x) []) {t : Nat} {x : Operand}
    (h : opC ti b st.ro st.gn st.ev (.load t x) = some e) : ∃ ad u, ρ x = .pointer (some ad) ∧ (Instr.loadAt t (ρ x)).run P c.w = .ok u c.w ∧ Rel c e.v u [] := by
  simp only [opC] at h
  cases hi : ti t with
  | none => simp [hi] at h
  | some inf =>
    simp only [hi] at h
    have hx := hev x
    cases hxe : st.ev x <;> simp only [hxe, reduceCtorEq] at h hx
    case ptr s g p i =>
      cases hcs : st.ro.cells s g p with
      | none => simp [hcs] at h
      | some cs =>
        simp only [hcs] at h
        rw [← hro] at hcs
        obtain ⟨y, hy, hv⟩ := ptr_loc hx hcs
        obtain ⟨hg, _⟩ := Rel.ptr_inv hx
        obtain ⟨y', us, F, cap, q0, q1, q2, q3, q4, q5, q6⟩ := hs.place hcs
        rw [hy] at q0
        simp only [Option.some.injEq] at q0
        subst q0
        split at h
        · rename_i hag
          split at h
          · rename_i hle
            simp only [Option.some.injEq] at h
            subst h
            have hlift : ∀ (m j : Nat), j + m ≤ cs.length → RelL c (zfi s g p j ((cs.drop j).take m)) ((us.drop j).take m) [] := by
              intro m
              induction m with
              | zero => intro j _; simpa [zfi] using RelL.nil
              | succ m ih =>
                intro j hj
                have hlt : j < cs.length := by omega
                have hlt' : j < us.length := by rw [← q1.len]; exact hlt
                rw [List.drop_eq_getElem_cons hlt, List.drop_eq_getElem_cons hlt', List.take_succ_cons, List.take_succ_cons]
                simp only [zfi]
                obtain ⟨z, u, Fz, z1, z2, z3, z4⟩ := hs.cell hcs (List.getElem?_eq_getElem hlt)
                rw [hy] at z1
                simp only [Option.some.injEq] at z1
                subst z1
                have hu : u = us[j] := by
                  have := q2.cell (List.getElem?_eq_getElem hlt')
                  rw [this] at z2
                  simpa using z2.symm
                rw [← hu]
                exact RelL.cons (hs.lift hg hcs (List.getElem?_eq_getElem hlt) hy z2 z3) (ih (j + 1) (by omega)) (by simp)
            refine ⟨_, .agg ((us.drop i).take inf.size).toArray, hv, ?_, ?_⟩
            · have hl : ((us.drop i).take inf.size).length = inf.size := by rw [List.length_take, List.length_drop, ← q1.len]; omega
              have hr := run_load_agg T hi hag c.w y.1 (y.2 + i) ((us.drop i).take inf.size) hl (fun j u hu => by
                have : us[i + j]? = some u := by
                  rw [List.getElem?_take] at hu
                  split at hu
                  · rw [List.getElem?_drop] at hu; exact hu
                  · cases hu
                have := q2.cell this
                rwa [← Nat.add_assoc] at this)
              rw [hv]; exact hr
            · have := RelL.agg (hlift inf.size i hle) (by simp) RelL.nil
              simpa using this
          · cases h
        · rename_i hag
          cases hi' : cs[i]? with
          | none => simp [hi'] at h
          | some a =>
            simp only [hi', Option.some.injEq] at h
            subst h
            obtain ⟨z, u, Fz, z1, z2, z3, z4⟩ := hs.cell hcs hi'
            rw [hy] at z1
            simp only [Option.some.injEq] at z1
            subst z1
            refine ⟨_, u, hv, ?_, (hs.lift hg hcs hi' hy z2 z3)⟩
            have hr := run_load_flat T hi (by simpa using hag) c.w ⟨y.1, y.2 + i, none⟩ u z2
            rw [hv]; exact hr
    case iptr cs =>
      obtain ⟨g1, b1, us, hv, h1, h2, _⟩ := Rel.iptr_inv hx
      split at h
      · rename_i hag
        split at h
        · rename_i hle
          simp only [Option.some.injEq] at h
          subst h
          refine ⟨_, .agg (us.take inf.size).toArray, hv, ?_, ?_⟩
          · have hl : (us.take inf.size).length = inf.size := by rw [List.length_take, ← h1.len]; omega
            have hr := run_load_agg T hi hag c.w g1 b1 (us.take inf.size) hl (fun j u hu => by
              rw [List.getElem?_take] at hu
              split at hu
              · exact h2.2.2 j u hu
              · cases hu)
            rw [hv]; exact hr
          · have := RelL.agg (by simpa using h1.cut0 0 inf.size) (by simp) (RelL.nil (c := c))
            simpa using this
        · cases h
      · rename_i hag
        cases cs with
        | nil => simp at h
        | cons a cs =>
          simp only [Option.some.injEq] at h
          subst h
          obtain ⟨u, hu, ha⟩ := h1.nth0 (i := 0) (a := a) rfl
          refine ⟨_, u, hv, ?_, ha⟩
          have hr := run_load_flat T hi (by simpa using hag) c.w ⟨g1, b1, none⟩ u (by have := h2.2.2 0 u hu; simpa using this)
          rw [hv]; exact hr

end

/-- What a function hands back: what it owns goes along whole. -/
def outL : Ro → List AV → Option (List AV × List (Nat × Nat))
  | _, [] => some ([], [])
  | ro, a :: as => match zes ro a with
    | some (a', w) => match outL (ro.dl w) as with
      | some (as', ws) => some (a' :: as', w ++ ws)
      | none => none
    | none => none

def outT : Ro → List AV → Option (List AV × List (Nat × Nat))
  | _, [] => some ([], [])
  | ro, .agg cs :: as => match outL ro cs with
    | some (cs', w) => match outT (ro.dl w) as with
      | some (as', ws) => some (.agg cs' :: as', w ++ ws)
      | none => none
    | none => none
  | ro, a :: as => match zes ro a with
    | some (a', w) => match outT (ro.dl w) as with
      | some (as', ws) => some (a' :: as', w ++ ws)
      | none => none
    | none => none

def resL (ti : Nat → Option TI) (st : St) : List ResultVar → Option (List AV)
  | [] => some []
  | .tmp t :: r => match resL ti st r with
    | some as => some (st.sl t :: as)
    | none => none
  | .cell a t :: r => match opC ti 0 st.ro st.gn st.ev (.load t (.tmp a)) with
    | some e => match resL ti st r with
      | some as => some (e.v :: as)
      | none => none
    | none => none

def retR (ti : Nat → Option TI) (rs : List ResultVar) (st : St) : Option AV := match resL ti st rs with
  | some as => match outT st.ro as with
    | some ([a], _) => some a
    | some (as, _) => some (.tup as)
    | none => none
  | none => none

def st0 (args : List AV) : St := ⟨fun k => args.getD k (.sc undef), fun _ _ => none, fun _ => 0⟩

section
variable {C : Cfg} {w0 : World} {A0 : Nat → Prop} {F0 : List Nat} {cS : Cx} {n : Nat}

theorem RelL.uncons0 {c : Cx} {a as vs} (h : RelL c (a :: as) vs []) : ∃ v vs', vs = v :: vs' ∧ Rel c a v [] ∧ RelL c as vs' [] := by
  obtain ⟨v, us, F1, F2, h1, h2, h3, h4, h5⟩ := h.uncons
  have h6 := List.append_eq_nil_iff.1 h2.symm
  exact ⟨v, us, h1, by rw [← h6.1]; exact h3, by rw [← h6.2]; exact h4⟩

theorem RelL.nthZ {c : Cx} : ∀ {as : List AV} {vs : List Value}, RelL c as vs [] → ∀ {k : Nat} (ha : k < as.length) (hv : k < vs.length), Rel c as[k] vs[k] []
  | [], _, _, _, ha, _ => by simp at ha
  | a :: as, vs, h, k, ha, hv => by
    obtain ⟨v, vs', rfl, h1, h2⟩ := RelL.uncons0 h
    cases k with
    | zero => exact h1
    | succ k => exact RelL.nthZ h2 (by simpa using ha) (by simpa using hv)

theorem dl_append2 : ∀ (a b : List (Nat × Nat)) (ro : Ro), ro.dl (a ++ b) = (ro.dl a).dl b
  | [], _, _ => rfl
  | (_, _) :: a, b, ro => dl_append2 a b _

theorem outL_ok : ∀ (as : List AV) {c : Cx} {Φ : Nat → Nat → List Nat} {R : List Nat} {vs : List Value}, Sim w0 A0 F0 c Φ R → RelL c as vs [] → ∀ {as' dl}, outL c.ro as = some (as', dl) →
    ∃ c' Φ' F, c'.w = c.w ∧ c'.ro = c.ro.dl dl ∧ c'.A = c.A ∧ Keep c c' ∧ Sim w0 A0 F0 c' Φ' (R ++ F) ∧ RelL c' as' vs F ∧ (∀ x, x ∈ R → x ∉ F)
  | [], c, Φ, R, vs, hs, hr, as', dl, h => by
    simp only [outL, Option.some.injEq, Prod.mk.injEq] at h
    obtain ⟨rfl, rfl⟩ := h
    exact ⟨c, Φ, [], rfl, rfl, rfl, Keep.refl c, by simpa using hs, hr, by simp⟩
  | a :: as, c, Φ, R, vs, hs, hr, as', dl, h => by
    obtain ⟨v, vs', rfl, hv, hvs⟩ := RelL.uncons0 hr
    simp only [outL] at h
    cases hm : zes c.ro a with
    | none => simp [hm] at h
    | some q =>
      obtain ⟨a', w⟩ := q
      simp only [hm] at h
      obtain ⟨c1, Φ1, F1, e1, e2, e3, e4, e5, e6, e7, e8, e9, e10⟩ := moveIn_ok hs hv hm
      cases ho : outL (c.ro.dl w) as with
      | none => simp [ho] at h
      | some q =>
        obtain ⟨as2, ws⟩ := q
        simp only [ho, Option.some.injEq, Prod.mk.injEq] at h
        obtain ⟨rfl, rfl⟩ := h
        obtain ⟨c2, Φ2, F2, f1, f2, f3, f4, f5, f6, f7⟩ := outL_ok as e7 (hvs.mono e6 (by simp)) (by rw [e2]; exact ho)
        refine ⟨c2, Φ2, F1 ++ F2, f1.trans e1, ?_, f3.trans e5, e6.trans f4, by rw [← List.append_assoc]; exact f5, ?_, ?_⟩
        · rw [f2, e2, dl_append2]
        · exact RelL.cons (e8.mono f4 (fun b _ => by rw [f1])) f6 (fun x hx hx' => f7 x (by simp [hx]) hx')
        · intro x hx hx'
          rcases List.mem_append.1 hx' with h | h
          · exact e10 x hx h
          · exact f7 x (by simp [hx]) h

theorem outT_ok : ∀ (as : List AV) {c : Cx} {Φ : Nat → Nat → List Nat} {R : List Nat} {vs : List Value}, Sim w0 A0 F0 c Φ R → RelL c as vs [] → ∀ {as' dl}, outT c.ro as = some (as', dl) →
    ∃ c' Φ' F, c'.w = c.w ∧ c'.ro = c.ro.dl dl ∧ c'.A = c.A ∧ Keep c c' ∧ Sim w0 A0 F0 c' Φ' (R ++ F) ∧ RelL c' as' vs F ∧ (∀ x, x ∈ R → x ∉ F)
  | [], c, Φ, R, vs, hs, hr, as', dl, h => by
    simp only [outT, Option.some.injEq, Prod.mk.injEq] at h
    obtain ⟨rfl, rfl⟩ := h
    exact ⟨c, Φ, [], rfl, rfl, rfl, Keep.refl c, by simpa using hs, hr, by simp⟩
  | a :: as, c, Φ, R, vs, hs, hr, as', dl, h => by
    obtain ⟨v, vs', rfl, hv, hvs⟩ := RelL.uncons0 hr
    have main : ∀ a' w, (∃ c' Φ' F, c'.w = c.w ∧ c'.ro = c.ro.dl w ∧ c'.A = c.A ∧ Keep c c' ∧ Sim w0 A0 F0 c' Φ' (R ++ F) ∧ Rel c' a' v F ∧ (∀ x, x ∈ R → x ∉ F)) →
        (match outT (c.ro.dl w) as with | some (as', ws) => some (a' :: as', w ++ ws) | none => none) = some (as', dl) →
        ∃ c' Φ' F, c'.w = c.w ∧ c'.ro = c.ro.dl dl ∧ c'.A = c.A ∧ Keep c c' ∧ Sim w0 A0 F0 c' Φ' (R ++ F) ∧ RelL c' as' (v :: vs') F ∧ (∀ x, x ∈ R → x ∉ F) := by
      rintro a' w ⟨c1, Φ1, F1, e1, e2, e5, e6, e7, e8, e10⟩ h
      cases ho : outT (c.ro.dl w) as with
      | none => simp [ho] at h
      | some q =>
        obtain ⟨as2, ws⟩ := q
        simp only [ho, Option.some.injEq, Prod.mk.injEq] at h
        obtain ⟨rfl, rfl⟩ := h
        obtain ⟨c2, Φ2, F2, f1, f2, f3, f4, f5, f6, f7⟩ := outT_ok as e7 (hvs.mono e6 (by simp)) (by rw [e2]; exact ho)
        refine ⟨c2, Φ2, F1 ++ F2, f1.trans e1, ?_, f3.trans e5, e6.trans f4, by rw [← List.append_assoc]; exact f5, ?_, ?_⟩
        · rw [f2, e2, dl_append2]
        · exact RelL.cons (e8.mono f4 (fun b _ => by rw [f1])) f6 (fun x hx hx' => f7 x (by simp [hx]) hx')
        · intro x hx hx'
          rcases List.mem_append.1 hx' with h | h
          · exact e10 x hx h
          · exact f7 x (by simp [hx]) h
    by_cases hag : ∃ cs, a = .agg cs
    · obtain ⟨cs, rfl⟩ := hag
      simp only [outT] at h
      cases hm : outL c.ro cs with
      | none => simp [hm] at h
      | some q =>
        obtain ⟨cs', w⟩ := q
        simp only [hm] at h
        obtain ⟨us, rfl, hus⟩ := Rel.agg_inv hv
        obtain ⟨c1, Φ1, F1, e1, e2, e3, e4, e5, e6, e7⟩ := outL_ok cs hs hus hm
        exact main (.agg cs') w ⟨c1, Φ1, F1, e1, e2, e3, e4, e5, by simpa using RelL.agg e6 (by simp) RelL.nil, e7⟩ h
    · cases hm : zes c.ro a with
      | none => 
        exfalso
        cases a <;> simp_all [outT]
      | some q =>
        obtain ⟨a', w⟩ := q
        obtain ⟨c1, Φ1, F1, e1, e2, e3, e4, e5, e6, e7, e8, e9, e10⟩ := moveIn_ok hs hv hm
        refine main a' w ⟨c1, Φ1, F1, e1, e2, e5, e6, e7, e8, e10⟩ ?_
        rw [← h]
        cases a <;> first | (exact absurd ⟨_, rfl⟩ hag) | (simp only [outT, hm])

def oneOr : List Value → Value
  | [v] => v
  | vs => .tuple vs.toArray

def resV (tmps : Array Value) : ResultVar → Sem Value
  | .tmp t => pure (tmps.getD t undef)
  | .cell a t => do loadVar t (← asAddr (tmps.getD a undef))

theorem results_eq (fn : Func) (tmps : Array Value) : results fn tmps = (do
    let vs ← fn.results.mapM (resV tmps)
    pure (if h : vs.size = 1 then vs[0] else .tuple vs)) := by
  unfold results
  congr 1

theorem results_run {ti : Nat → Option TI} {P : Program} (T : TOK P ti) {fn : Func} {a : Act} {st : St} {c : Cx} {Φ : Nat → Nat → List Nat} (hs : SR w0 A0 F0 cS n st a c Φ) {as : List AV} (h : resL ti st fn.results.toList = some as) :
    ∃ vs, RelL c as vs [] ∧ (results fn a.tmps).run P c.w = .ok (oneOr vs) c.w := by
  have key : ∀ (rs : List ResultVar) {as : List AV}, resL ti st rs = some as → ∃ vs, RelL c as vs [] ∧ (rs.mapM (m := Sem) (resV a.tmps)).run P c.w = .ok vs c.w := by
    intro rs
    induction rs with
    | nil => intro as h; simp only [resL, Option.some.injEq] at h; subst h; exact ⟨[], .nil, by simp⟩
    | cons r rs ih =>
      intro as h
      cases r with
      | cell p t =>
        simp only [resL] at h
        cases hl : opC ti 0 st.ro st.gn st.ev (.load t (.tmp p)) with
        | none => simp [hl] at h
        | some e =>
          simp only [hl] at h
          cases hr : resL ti st rs with
          | none => simp [hr] at h
          | some as' =>
            simp only [hr, Option.some.injEq] at h
            subst h
            obtain ⟨vs, h1, h2⟩ := ih hr
            obtain ⟨ad, u, g1, g2, g3⟩ := load_run T hs.sim hs.ro hs.ev hl
            refine ⟨u :: vs, RelL.cons g3 h1 (by simp), ?_⟩
            have g1' : a.tmps.getD p undef = .pointer (some ad) := g1
            rw [g1] at g2
            have g4 : (resV a.tmps (.cell p t)).run P c.w = .ok u c.w := by
              simp only [resV, g1', asAddr, pure_bind]
              exact g2
            rw [List.mapM_cons]
            simp [g4, h2]
      | tmp t =>
        simp only [resL] at h
        cases hr : resL ti st rs with
        | none => simp [hr] at h
        | some as' =>
          simp only [hr, Option.some.injEq] at h
          subst h
          obtain ⟨vs, h1, h2⟩ := ih hr
          refine ⟨a.tmps.getD t undef :: vs, RelL.cons (hs.sl t) h1 (by simp), ?_⟩
          rw [List.mapM_cons]
          simp [resV, h2]
  obtain ⟨vs, h1, h2⟩ := key _ h
  refine ⟨vs, h1, ?_⟩
  rw [results_eq, Array.mapM_eq_mapM_toList]
  simp only [map_eq_pure_bind, bind_assoc, pure_bind, Sem.run_bind, h2, Result.andThen_ok]
  rw [Sem.run_pure]
  congr 1
  match vs with
  | [] => rfl
  | [v] => rfl
  | v :: u :: vs => rfl

theorem SR.start (w : World) (A : Nat → Prop) {args : List AV} {vs : List Value} (hA : ∀ x, A x → x < w.heap.size) (hv : RelL (cx0 w A) args vs []) (hn : vs.length ≤ n) :
    SR w A [] (cx0 w A) n (st0 args) { tmps := vs.toArray ++ Array.replicate (n - vs.length) undef, defers := [] } (cx0 w A) (fun _ _ => []) := by
  refine ⟨⟨by simp [cx0], by simp, by simp, by simp, by simp, by simp, fun _ h => h, hA, ⟨rfl, rfl, rfl, Nat.le_refl _, fun _ _ _ => rfl, fun _ => rfl⟩⟩, Keep.refl _, rfl, rfl, fun k => ?_, rfl, by simp; omega⟩
  simp only [st0]
  rcases Nat.lt_or_ge k vs.length with h | h
  · have ha : k < args.length := by rw [hv.len]; exact h
    have e1 : args.getD k (.sc undef) = args[k] := by simp [List.getD_eq_getElem?_getD, ha]
    have e2 : (vs.toArray ++ Array.replicate (n - vs.length) undef).getD k undef = vs[k] := by
      simp [Array.getD_eq_getD_getElem?, Array.getElem?_append, h]
    rw [e1, e2]
    exact RelL.nthZ hv ha h
  · have ha : args.length ≤ k := by rw [hv.len]; exact h
    have e1 : args.getD k (.sc undef) = .sc undef := by simp [List.getD_eq_getElem?_getD, ha]
    have e2 : (vs.toArray ++ Array.replicate (n - vs.length) undef).getD k undef = undef := by
      rw [Array.getD_eq_getD_getElem?, Array.getElem?_append]
      simp only [List.size_toArray, Nat.not_lt.2 h, if_false, Array.getElem?_replicate]
      split <;> rfl
    rw [e1, e2]
    exact .sc undef .nil

/-- A FUNCTION. -/
theorem call_sound {f : Nat} {fn : Func} {code : Code} {args : List AV} {r : AV} (T : TOK C.P C.ti) (hI : InlOK C) (hm : C.P.follows .mixedOrders = true) (hf : C.P.funcs[f]? = some fn) (hb : fn.body = some code) (hname : (fn.name == "runtime.NumGoroutine") = false)
    (hd : dstOK fn.ntmps code = true) (hp : args.length ≤ fn.ntmps) (hn : noRef r = true)
    (h : codeW C code (fun e st => (e = .normal ∨ e = .ret) ∧ retR C.ti fn.results.toList st = some r) (st0 args)) : CallOK C.P f args r := by
  refine ⟨⟨fn, hf, by simp [hb], hname⟩, hn, ?_⟩
  intro w A vs hv hA
  have hlen := hv.len
  refine calls_of_wp hf hb ?_
  have hs := SR.start (n := fn.ntmps) w A hA hv (by omega)
  have := codeW_ok T hI hm code hs hd h
  rw [List.size_toArray]
  refine wp_mono this ?_
  rintro e a' w' ⟨st, c, Φ, rfl, h', he, hr⟩
  have fin : ∃ v, (results fn a'.tmps).run C.P c.w = .ok v c.w ∧ ∃ u A' F', Ending.returned v = .returned u ∧ Rel (cx0 c.w A') r u F' ∧ (∀ x, A x → A' x) ∧ (∀ x, x ∈ F' → A' x ∧ w.heap.size ≤ x) ∧ Blw w c.w [] := by
    unfold retR at hr
    cases hl : resL C.ti st fn.results.toList with
    | none => simp [hl] at hr
    | some as =>
      simp only [hl] at hr
      obtain ⟨us, h1, h2⟩ := results_run T h' hl
      cases ho : outT st.ro as with
      | none => simp [ho] at hr
      | some q =>
        obtain ⟨as', dl⟩ := q
        obtain ⟨c2, Φ2, F2, f1, f2, f3, f4, f5, f6, f7⟩ := outT_ok as h'.sim h1 (by rw [h'.ro]; exact ho)
        have hrel : Rel c2 r (oneOr us) F2 := by
          simp only [ho] at hr
          have hl2 := f6.len
          match as', us, hl2, f6, hr with
          | [a], [u], _, f6, hr => simp only [Option.some.injEq] at hr; subst hr; exact f6
          | [], [], _, f6, hr => simp only [Option.some.injEq] at hr; subst hr; simpa [oneOr] using RelL.tup f6 (by simp) RelL.nil
          | a :: b :: l, u :: v :: l', _, f6, hr => simp only [Option.some.injEq] at hr; subst hr; simpa [oneOr] using RelL.tup f6 (by simp) RelL.nil
        refine ⟨_, h2, _, c.A, F2, rfl, ?_, h'.sim.a0, ?_, h'.sim.bw⟩
        · exact hrel.ctx (c' := cx0 c.w c.A) f1.symm (fun x hx => by rw [f3]; exact hx) (by simp [noRefL, hn])
        · intro x hx
          have := f5.rown x (by simp [hx])
          refine ⟨by rw [← f3]; exact this.1, ?_⟩
          rcases this.2.2 with h | h
          · exact h
          · cases h
  rcases he with rfl | rfl
  · exact ⟨h'.df, fin⟩
  · exact ⟨h'.df, fin⟩

def oneOrA : List AV → AV
  | [a] => a
  | as => .tup as

theorem slots_start {c : Cx} {args : List AV} {vs : List Value} (hv : RelL c args vs []) (k : Nat) : Rel c (args.getD k (.sc undef)) ((vs.toArray ++ Array.replicate (n - vs.length) undef).getD k undef) [] := by
  rcases Nat.lt_or_ge k vs.length with h | h
  · have ha : k < args.length := by rw [hv.len]; exact h
    have e1 : args.getD k (.sc undef) = args[k] := by simp [List.getD_eq_getElem?_getD, ha]
    have e2 : (vs.toArray ++ Array.replicate (n - vs.length) undef).getD k undef = vs[k] := by
      simp [Array.getD_eq_getD_getElem?, Array.getElem?_append, h]
    rw [e1, e2]
    exact RelL.nthZ hv ha h
  · have ha : args.length ≤ k := by rw [hv.len]; exact h
    have e1 : args.getD k (.sc undef) = .sc undef := by simp [List.getD_eq_getElem?_getD, ha]
    have e2 : (vs.toArray ++ Array.replicate (n - vs.length) undef).getD k undef = undef := by
      rw [Array.getD_eq_getD_getElem?, Array.getElem?_append]
      simp only [List.size_toArray, Nat.not_lt.2 h, if_false, Array.getElem?_replicate]
      split <;> rfl
    rw [e1, e2]
    exact .sc undef .nil

/-- A function that works in its caller's memory. -/
theorem in_sound {f : Nat} {fn : Func} {code : Code} {args : List AV} {r : AV} {ro ro' : Ro} {gn gn' : Nat → Nat} (T : TOK C.P C.ti) (hI : InlOK C) (hm : C.P.follows .mixedOrders = true) (hf : C.P.funcs[f]? = some fn) (hb : fn.body = some code) (hname : (fn.name == "runtime.NumGoroutine") = false)
    (hd : dstOK fn.ntmps code = true) (hp : args.length ≤ fn.ntmps)
    (h : codeW C code (fun e st => (e = .normal ∨ e = .ret) ∧ (∃ xs, resL C.ti st fn.results.toList = some xs ∧ r = oneOrA xs) ∧ st.ro = ro' ∧ st.gn = gn') ⟨fun k => args.getD k (.sc undef), ro, gn⟩) : InOK C.P f args ro gn r ro' gn' := by
  refine ⟨⟨fn, hf, by simp [hb], hname⟩, ?_⟩
  intro w0 A0 F0 c Φ vs hsim hro hgn hv
  have hlen := hv.len
  refine calls_of_wp hf hb ?_
  have hs : SR w0 A0 F0 c fn.ntmps ⟨fun k => args.getD k (.sc undef), ro, gn⟩ { tmps := vs.toArray ++ Array.replicate (fn.ntmps - vs.length) undef, defers := [] } c Φ :=
    ⟨hsim, Keep.refl c, hro, hgn, slots_start hv, rfl, by simp; omega⟩
  have := codeW_ok T hI hm code hs hd h
  rw [List.size_toArray]
  refine wp_mono this ?_
  rintro e a' w' ⟨st, c', Φ', rfl, h', he, ⟨xs, hxs, rfl⟩, rfl, rfl⟩
  obtain ⟨us, h1, h2⟩ := results_run (P := C.P) T h' hxs
  have hrel : Rel c' (oneOrA xs) (oneOr us) [] := by
    have hl2 := h1.len
    match xs, us, hl2, h1 with
    | [a], [u], _, f6 => exact f6
    | [], [], _, f6 => simpa [oneOr, oneOrA] using RelL.tup f6 (by simp) RelL.nil
    | a :: b :: l, u :: v :: l', _, f6 => simpa [oneOr, oneOrA] using RelL.tup f6 (by simp) RelL.nil
  have fin : a'.defers = [] ∧ ∃ v, (results fn a'.tmps).run C.P c'.w = .ok v c'.w ∧ ∃ v1 c1 Φ1, Ending.returned v = .returned v1 ∧ c1.w = c'.w ∧ c1.ro = st.ro ∧ c1.gn = st.gn ∧ Sim w0 A0 F0 c1 Φ1 [] ∧ Keep c c1 ∧ Rel c1 (oneOrA xs) v1 [] :=
    ⟨h'.df, _, h2, _, c', Φ', rfl, rfl, h'.ro, h'.gn, h'.sim, h'.kp, hrel⟩
  rcases he with rfl | rfl
  · exact fin
  · exact fin

end

end Go.Proofs.Ytifgeenipinnmaa
