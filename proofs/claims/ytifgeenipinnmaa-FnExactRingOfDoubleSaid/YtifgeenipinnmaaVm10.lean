/- The abstract machine: its operations are the model's (5): composite values and append. -/
import Derived.Test.YtifgeenipinnmaaVm9
set_option linter.all false
namespace Go.Proofs.Ytifgeenipinnmaa
open Go.RowKit

section
variable {P : Program} {ti : Nat → Option TI} {w0 : World} {A0 : Nat → Prop} {F0 : List Nat} {c : Cx} {Φ : Nat → Nat → List Nat} {R : List Nat} {st : St} {ρ : Operand → Value} {o : Oper} {e : Eff} {b : Nat}

theorem RelL.set {cs us F} (h : RelL c cs us F) {i : Nat} (hi : i < cs.length) {a : AV} {u : Value} {Fa : List Nat} (ha : Rel c a u Fa) (hd : ∀ x, x ∈ Fa → x ∉ F) :
    ∃ F', RelL c (cs.set i a) (us.set i u) F' ∧ ∀ x, x ∈ F' → x ∈ F ∨ x ∈ Fa := by
  obtain ⟨a0, ha0⟩ : ∃ a0, cs[i]? = some a0 := ⟨_, List.getElem?_eq_getElem hi⟩
  obtain ⟨l, r, vl, v, vr, Fl, Fx, Fr, rfl, hli, rfl, hvl, rfl, hL, hX, hRr, d1, d2, d3⟩ := h.nth ha0
  have e1 : (l ++ a0 :: r).set i a = l ++ a :: r := by rw [← hli]; simp
  have e2 : (vl ++ v :: vr).set i u = vl ++ u :: vr := by rw [← hvl]; simp
  rw [e1, e2]
  refine ⟨_, RelL.append hL (RelL.cons ha hRr (fun x hx h => hd x hx (by simp [h]))) (fun x hx h => ?_), fun x hx => ?_⟩
  · rcases List.mem_append.1 h with h | h
    · exact hd x h (by simp [hx])
    · exact d2 x hx h
  · simp only [List.mem_append] at hx ⊢
    rcases hx with hx | hx | hx
    · exact .inl (.inl hx)
    · exact .inr hx
    · exact .inl (.inr (.inr hx))

theorem RelL.cut {cs us F} (h : RelL c cs us F) (i n : Nat) : ∃ F', RelL c ((cs.drop i).take n) ((us.drop i).take n) F' ∧ ∀ x, x ∈ F' → x ∈ F := by
  have hlen := h.len
  have e1 : cs = cs.take i ++ cs.drop i := (List.take_append_drop i cs).symm
  have e2 : us = us.take i ++ us.drop i := (List.take_append_drop i us).symm
  rw [e1] at h
  obtain ⟨vl, vr, Fl, Fr, hvs, hF, hl, hr, _⟩ := h.split
  have hll := hl.len
  have hvr : vr = us.drop i := by
    rw [hvs, List.drop_append]
    rw [List.length_take] at hll
    by_cases hi : i ≤ cs.length
    · have h1 : vl.drop i = [] := List.drop_eq_nil_of_le (by omega)
      have h2 : i - vl.length = 0 := by omega
      rw [h1, h2]; simp
    · have h0 : cs.drop i = [] := List.drop_eq_nil_of_le (by omega)
      rw [h0] at hr
      obtain ⟨rfl, _⟩ := RelL.nilF hr
      rw [List.drop_eq_nil_of_le (by omega)]; simp
  subst hvr
  have e3 : cs.drop i = (cs.drop i).take n ++ (cs.drop i).drop n := (List.take_append_drop n _).symm
  have hlr := hr.len
  rw [e3] at hr
  obtain ⟨vl', vr', Fl', Fr', hvs', hF', hl', hr', _⟩ := hr.split
  have hll' := hl'.len
  rw [List.length_take] at hll'
  have hvl' : vl' = (us.drop i).take n := by
    rw [hvs']
    by_cases hn : n ≤ (cs.drop i).length
    · have h2 : vl'.length = n := by omega
      rw [← h2]; simp
    · have h0 : (cs.drop i).drop n = [] := List.drop_eq_nil_of_le (by omega)
      rw [h0] at hr'
      obtain ⟨rfl, _⟩ := RelL.nilF hr'
      rw [List.append_nil, List.take_of_length_le (by omega)]
  rw [← hvl']
  exact ⟨Fl', hl', fun x hx => by rw [hF, hF']; simp [hx]⟩

theorem moveParts_ok (hev : ∀ x, Rel c (st.ev x) (ρ x) []) : ∀ (parts : List (Nat × Operand)) {c1 : Cx} {Φ : Nat → Nat → List Nat} {R : List Nat}, Keep c c1 → Sim w0 A0 F0 c1 Φ R → ∀ {as dl}, zer c1.ro st.ev parts = some (as, dl) →
    ∃ c' Φ' F, c'.w = c1.w ∧ c'.ro = c1.ro.dl dl ∧ c'.gn = c1.gn ∧ c'.L = c1.L ∧ c'.A = c1.A ∧ Keep c1 c' ∧ Sim w0 A0 F0 c' Φ' (R ++ F) ∧ RelL c' (as.map (·.2)) (parts.map (fun p => ρ p.2)) F ∧ (∀ u, u ∈ parts.map (fun p => ρ p.2) → oneV u = true) ∧
      as.map (·.1) = parts.map (·.1) ∧ (∀ x, x ∈ R → x ∉ F)
  | [], c1, Φ, R, k, hs, as, dl, h => by
    simp only [zer, Option.some.injEq, Prod.mk.injEq] at h
    obtain ⟨rfl, rfl⟩ := h
    exact ⟨c1, Φ, [], rfl, rfl, rfl, rfl, rfl, Keep.refl _, by simpa using hs, .nil, by simp, rfl, by simp⟩
  | (i, x) :: r, c1, Φ, R, k, hs, as, dl, h => by
    simp only [zer] at h
    cases hm : zes c1.ro (st.ev x) with
    | none => simp [hm] at h
    | some q =>
      obtain ⟨a, d1⟩ := q
      simp only [hm] at h
      obtain ⟨c2, Φ2, F, e1, e2, e3, e4, e5, e6, e7, e8, e9, e10⟩ := moveIn_ok hs ((hev x).mono k (by simp)) hm
      rw [← e2] at h
      cases hm2 : zer c2.ro st.ev r with
      | none => simp [hm2] at h
      | some q2 =>
        obtain ⟨as2, d2⟩ := q2
        simp only [hm2, Option.some.injEq, Prod.mk.injEq] at h
        obtain ⟨rfl, rfl⟩ := h
        obtain ⟨c3, Φ3, F2, f1, f2, f3, f4, f5, f6, f7, f8, f9, f10, f11⟩ := moveParts_ok hev r (k.trans e6) e7 hm2
        refine ⟨c3, Φ3, F ++ F2, f1.trans e1, ?_, f3.trans e3, f4.trans e4, f5.trans e5, e6.trans f6, by simpa using f7, ?_, ?_, ?_, ?_⟩
        · have hdl : ∀ (l1 l2 : List (Nat × Nat)) (ro : Ro), ro.dl (l1 ++ l2) = (ro.dl l1).dl l2 := by
            intro l1
            induction l1 with
            | nil => intro l2 ro; rfl
            | cons y l1 ih => intro l2 ro; obtain ⟨s, g⟩ := y; exact ih l2 _
          rw [f2, e2, hdl]
        · have ha : Rel c3 a (ρ x) F := e8.mono f6 (fun y hy => by rw [f1])
          exact RelL.cons ha f8 (fun y hy hy2 => f11 y (by simp [hy]) hy2)
        · intro u hu
          simp only [List.map_cons, List.mem_cons] at hu
          rcases hu with rfl | hu
          · exact e9
          · exact f9 u hu
        · simp [f10]
        · intro y hy
          simp only [List.mem_append, not_or]
          exact ⟨e10 y hy, f11 y (by simp [hy])⟩

theorem fillAt_ok : ∀ (as : List (Nat × AV)) (vs : List (Nat × Value)) {cs us F G}, as.map (·.1) = vs.map (·.1) → RelL c (as.map (·.2)) (vs.map (·.2)) G → RelL c cs us F → (∀ p, p ∈ as → p.1 < cs.length) → (∀ x, x ∈ G → x ∉ F) →
    ∃ F', RelL c (zet cs as) (vs.foldl (fun l p => l.set p.1 p.2) us) F' ∧ ∀ x, x ∈ F' → x ∈ F ∨ x ∈ G
  | [], vs, cs, us, F, G, h1, h2, h3, _, _ => by
    cases vs with
    | nil => exact ⟨F, h3, fun x hx => .inl hx⟩
    | cons v vs => simp at h1
  | (i, a) :: as, vs, cs, us, F, G, h1, h2, h3, h4, h5 => by
    cases vs with
    | nil => simp at h1
    | cons v vs =>
      obtain ⟨j, v⟩ := v
      simp only [List.map_cons, List.cons.injEq] at h1
      obtain ⟨rfl, h1⟩ := h1
      simp only [List.map_cons] at h2
      obtain ⟨v', vs', Fa, G', hvv, rfl, ha, hr, hd⟩ := RelL.uncons h2
      simp only [List.cons.injEq] at hvv
      obtain ⟨rfl, rfl⟩ := hvv
      obtain ⟨F1, k1, k2⟩ := RelL.set h3 (h4 (i, a) (by simp)) ha (fun x hx => h5 x (by simp [hx]))
      obtain ⟨F2, k3, k4⟩ := fillAt_ok as vs h1 hr k1 (fun p hp => by rw [List.length_set]; exact h4 p (by simp [hp])) (fun x hx hx1 => by
        rcases k2 x hx1 with h | h
        · exact h5 x (by simp [hx]) h
        · exact hd x h hx)
      refine ⟨F2, k3, fun x hx => ?_⟩
      rcases k4 x hx with h | h
      · rcases k2 x h with h | h
        · exact .inl h
        · exact .inr (by simp [h])
      · exact .inr (by simp [h])

/-- fill, at elements of one cell. -/
theorem fill_one : ∀ (vs : List (Nat × Value)) (arr : Array Value), (∀ p, p ∈ vs → p.1 < arr.size ∧ oneV p.2 = true) → Instr.fill (fun i => some (i * 1, 1)) arr vs = some (vs.foldl (fun l p => l.set p.1 p.2) arr.toList).toArray
  | [], arr, _ => by simp [Instr.fill]
  | (i, v) :: vs, arr, h => by
    obtain ⟨h1, h2⟩ := h (i, v) (by simp)
    have hc := one_cells h2
    have ih := fill_one vs (arr.setIfInBounds i v) (fun p hp => by simpa using h p (by simp [hp]))
    simp only [Instr.fill, hc, Nat.mul_one]
    have hlt : ¬ (i + 1 > arr.size) := by simp only at h1; omega
    simp [hlt]
    have := ih
    simp only [Nat.mul_one] at this
    rw [this]
    simp

theorem foldl_set_length : ∀ (vs : List (Nat × Value)) (l : List Value), (vs.foldl (fun l p => l.set p.1 p.2) l).length = l.length
  | [], _ => rfl
  | v :: vs, l => by rw [List.foldl_cons, foldl_set_length vs, List.length_set]

theorem run_buildSlice (T : TOK P ti) {t el n : Nat} {inf ie : TI} (hi : ti t = some inf) (hel : inf.elem = some el) (hie : ti el = some ie) (hn : n ≤ 65536) (vs : List (Nat × Value))
    (hv : ∀ p, p ∈ vs → p.1 < n ∧ oneV p.2 = true) (w : World) :
    (Instr.buildSlice t n vs.toArray).run P w = .ok (.slice (some ⟨w.heap.size, 0, none⟩) n n) (w.alloc (.cells (vs.foldl (fun l p => l.set p.1 p.2) (List.replicate n (ie.zero.getD 0 undef))).toArray el)) := by
  obtain ⟨hd, ie', in2, z, q1, q2, q3, q4, q5, q6⟩ := (T.ok t inf hi).elem el hel
  rw [hie] at q1
  simp only [Option.some.injEq] at q1
  subst q1
  generalize ie.zero.getD 0 undef = zz at *
  have hfill : Instr.fill (fun i => some (i * 1, 1)) (List.replicate n zz).toArray vs = some (vs.foldl (fun l p => l.set p.1 p.2) (List.replicate n zz)).toArray := by
    have := fill_one vs (List.replicate n zz).toArray (fun p hp => ⟨by simpa using (hv p hp).1, (hv p hp).2⟩)
    simpa using this
  have hnl : ¬ (n * 1 > 2 ^ 24) := by omega
  have hz : ∀ zero : Array Value, (n = 0 ∨ zero = #[zz]) → ((Array.range (n * 1)).map (fun i => zero[i % zero.size]!)) = (List.replicate n zz).toArray := by
    intro zero h
    apply Array.ext'
    apply List.ext_getElem?
    intro i
    rcases h with h | h
    · subst h; simp
    · subst h
      by_cases hlt : i < n
      · simp [hlt, Nat.mod_one]
      · simp [hlt]
  by_cases h0 : n = 0
  · have := hz #[] (.inl h0)
    unfold Instr.buildSlice
    simp only [Sem.run_bind, run_underlying hd, Result.andThen_ok, sizeOf, typeInfo, run_program, q2, Sem.run_pure, q3]
    rw [if_neg hnl, if_pos (by omega)]
    simp only [Sem.run_pure, Result.andThen_ok, this, hfill, newRow, Sem.run_bind, run_newObj_alloc]
  · have := hz #[zz] (.inr rfl)
    unfold Instr.buildSlice
    simp only [Sem.run_bind, run_underlying hd, Result.andThen_ok, sizeOf, typeInfo, run_program, q2, Sem.run_pure, q3]
    rw [if_neg hnl, if_neg (by omega)]
    simp only [zeroValue, typeInfo, Sem.run_bind, run_program, Result.andThen_ok, q2, Sem.run_pure, q5, q6, this, hfill, newRow, run_newObj_alloc]

theorem buildSlice_ok (T : TOK P ti) (hs : Sim w0 A0 F0 c Φ []) (hro : c.ro = st.ro) (hgn : c.gn = st.gn) (hev : ∀ x, Rel c (st.ev x) (ρ x) []) {t n : Nat} {parts : Array (Nat × Operand)} (ho : o.op = .buildSlice t n parts)
    (h : opC ti b st.ro st.gn st.ev (.buildSlice t n parts) = some e) : OpOK P w0 A0 F0 c st ρ o e := by
  simp only [opC] at h
  cases hi : ti t with
  | none => simp [hi] at h
  | some inf =>
    simp only [hi] at h
    cases hel : inf.elem with
    | none => simp [hel] at h
    | some el =>
      simp only [hel] at h
      cases hie : ti el with
      | none => simp [hie] at h
      | some ie =>
        simp only [hie] at h
        cases hm : zer st.ro st.ev parts.toList with
        | none => simp [hm] at h
        | some q =>
          obtain ⟨as, dl⟩ := q
          simp only [hm] at h
          split at h
          · rename_i hc
            obtain ⟨hn, hidx⟩ := hc
            simp only [Option.some.injEq] at h
            subst h
            obtain ⟨hd, ie', in2, z, q1, q2, q3, q4, q5, q6⟩ := (T.ok t inf hi).elem el hel
            rw [hie] at q1
            simp only [Option.some.injEq] at q1
            subst q1
            rw [← hro] at hm
            obtain ⟨c1, Φ1, F, e1, e2, e3, e4, e5, e6, e7, e8, e9, e10, _⟩ := moveParts_ok hev parts.toList (Keep.refl c) hs hm
            let vs : List (Nat × Value) := parts.toList.map (fun p => (p.1, ρ p.2))
            have hvs1 : as.map (·.1) = vs.map (·.1) := by rw [e10]; simp [vs]
            have hvs0 : vs.map (·.2) = parts.toList.map (fun p => ρ p.2) := by simp [vs, Function.comp_def]
            have hvs2 : RelL c1 (as.map (·.2)) (vs.map (·.2)) F := by rw [hvs0]; exact e8
            have hlen : ∀ p, p ∈ as → p.1 < n := fun p hp => by have := List.all_eq_true.1 hidx p hp; simpa using this
            obtain ⟨F', k1, k2⟩ := fillAt_ok (c := c1) as vs hvs1 hvs2 (by simpa using relL_sc c1 (List.replicate n (ie.zero.getD 0 undef))) (fun p hp => by simpa using hlen p hp) (by simp)
            have hv : ∀ p, p ∈ vs → p.1 < n ∧ oneV p.2 = true := by
              intro p hp
              constructor
              · have : p.1 ∈ as.map (·.1) := by rw [hvs1]; exact List.mem_map_of_mem hp
                obtain ⟨q, hq, e⟩ := List.mem_map.1 this
                rw [← e]; exact hlen q hq
              · obtain ⟨q, hq, rfl⟩ := List.mem_map.1 hp
                exact e9 _ (List.mem_map_of_mem (f := fun p : Nat × Operand => ρ p.2) hq)
            have hrun := run_buildSlice T hi hel hie hn vs hv c.w
            have hpa : (parts.map fun x => (x.1, ρ x.2)) = vs.toArray := by apply Array.ext'; simp [vs]
            obtain ⟨c', Φ', h1, h2, h3, h4, h5, _, h6⟩ := new_ok e7 false b _ _ k1 (fun x hx => by simpa using k2 x hx) c1.w rfl rfl rfl rfl (vs.foldl (fun l p => l.set p.1 p.2) (List.replicate n (ie.zero.getD 0 undef))).toArray el n (by simp [foldl_set_length]) (by simp [foldl_set_length]) (by unfold maxLen; omega) (fun i u hu => by simpa using hu)
            refine ⟨.slice (some ⟨c.w.heap.size, 0, none⟩) n n, _, c', Φ', .inl ?_, h1, ?_, ?_, h5, e6.trans h4, ?_⟩
            · simp only [execOp, ho, hpa]
              rw [Sem.run_bind, hrun, e1]; rfl
            · rw [h2, e2, e3, hro, hgn]; rfl
            · rw [h3, e3, hgn]; rfl
            · rw [← hgn, ← e3, ← e1]
              exact h6 n (by simp [foldl_set_length])
          · cases h

/-- fill, at the parts of a struct. -/
theorem setL_arr (i : Nat) : ∀ (us : List Value) (arr : Array Value) (k : Nat), (us.zipIdx k).foldl (fun cs p => cs.setIfInBounds (i + p.2) p.1) arr = (setL (i + k) us arr.toList).toArray
  | [], arr, k => by simp [setL]
  | u :: us, arr, k => by
    simp only [List.zipIdx_cons, List.foldl_cons, setL]
    rw [setL_arr i us (arr.setIfInBounds (i + k) u) (k + 1)]
    simp [Nat.add_assoc]

theorem buildParts_ok (T : TOK P ti) {t : Nat} {inf : TI} (hi : ti t = some inf) (hag : inf.isAgg = true) (hro : c.ro = st.ro) (hev : ∀ x, Rel c (st.ev x) (ρ x) []) (place : Nat → Option (Nat × Nat))
    (hpl : ∀ k off ft fi, inf.flds[k]? = some (off, ft) → ti ft = some fi → place k = some (off, fi.size)) :
    ∀ (parts : List (Nat × Operand)) {cs : List AV} {us : List Value} {cs' : List AV}, RelL c cs us [] → zfa ti c.ro inf.flds st.ev cs parts = some cs' →
      ∃ us', RelL c cs' us' [] ∧ Instr.fill place us.toArray (parts.map (fun p => (p.1, ρ p.2))) = some us'.toArray
  | [], cs, us, cs', h, hb => by
    simp only [zfa, Option.some.injEq] at hb
    subst hb
    exact ⟨us, h, by simp [Instr.fill]⟩
  | (i, x) :: r, cs, us, cs', h, hb => by
    simp only [zfa] at hb
    cases hf : inf.flds[i]? with
    | none => simp [hf] at hb
    | some q =>
      obtain ⟨off, ft⟩ := q
      simp only [hf] at hb
      cases hfi : ti ft with
      | none => simp [hfi] at hb
      | some fi =>
        simp only [hfi] at hb
        split at hb
        · rename_i hc
          obtain ⟨h1, h2, h3⟩ := hc
          obtain ⟨k1, k2⟩ := cellsA_rel (hev x) (cellOkB c.ro) (fun a u => cellOkB_one) h2
          obtain ⟨F', k3, k4⟩ := RelL.setL (zem (st.ev x)) (ρ x).cells.toList off h k1 (by omega)
          have hF : F' = [] := List.eq_nil_iff_forall_not_mem.2 (fun y hy => by simpa using k4 y hy)
          subst hF
          obtain ⟨us', k5, k6⟩ := buildParts_ok T hi hag hro hev place hpl r k3 hb
          refine ⟨us', k5, ?_⟩
          have hsz : (ρ x).cells.size = fi.size := by rw [← Array.length_toList, ← k1.len]; exact h1
          simp only [List.map_cons, Instr.fill, hpl i off ft fi hf hfi]
          have hlen := h.len
          rw [if_neg (by rw [hsz]; simp; omega)]
          rw [← k6]
          congr 1
          rw [← Array.foldl_toList, Array.toList_zipIdx]
          exact setL_arr off (ρ x).cells.toList us.toArray 0
        · cases hb

theorem run_fields (fs : Array Field) (h : ∀ f, f ∈ fs.toList → ∃ in3, P.info? f.type = some in3) (w : World) :
    (fs.mapM fun f => do pure (f.offset, ← sizeOf f.type) : Sem (Array (Nat × Nat))).run P w = .ok (fs.map fun f => (f.offset, P.cellsOf f.type)) w := by
  rw [Array.mapM_eq_mapM_toList]
  have hl : ∀ l : List Field, (∀ f, f ∈ l → ∃ in3, P.info? f.type = some in3) → (l.mapM fun f => do pure (f.offset, ← sizeOf f.type) : Sem (List (Nat × Nat))).run P w = .ok (l.map fun f => (f.offset, P.cellsOf f.type)) w := by
    intro l
    induction l with
    | nil => intro _; rfl
    | cons f l ih =>
      intro h
      obtain ⟨in3, h3⟩ := h f (by simp)
      have ih' := ih (fun f hf => h f (by simp [hf]))
      simp only [List.mapM_cons, Sem.run_bind, sizeOf, typeInfo, run_program, Result.andThen_ok, h3, Sem.run_pure] at ih' ⊢
      simp only [ih', Result.andThen_ok, List.map_cons, Program.cellsOf, h3]
      rfl
  have := hl fs.toList h
  simp only [Sem.run_map, this, Result.andThen_ok]
  congr 1
  apply Array.ext'
  simp

theorem build_ok (T : TOK P ti) (hs : Sim w0 A0 F0 c Φ []) (hro : c.ro = st.ro) (hgn : c.gn = st.gn) (hev : ∀ x, Rel c (st.ev x) (ρ x) []) {t : Nat} {parts : Array (Nat × Operand)} (ho : o.op = .build t parts)
    (h : opC ti b st.ro st.gn st.ev (.build t parts) = some e) : OpOK P w0 A0 F0 c st ρ o e := by
  simp only [opC] at h
  cases hi : ti t with
  | none => simp [hi] at h
  | some inf =>
    simp only [hi] at h
    split at h
    · rename_i hag
      rw [← hro] at h
      cases hb : zfa ti c.ro inf.flds st.ev (inf.zero.map .sc) parts.toList with
      | none => simp [hb] at h
      | some cs =>
        simp only [hb, Option.some.injEq] at h
        subst h
        obtain ⟨fs, hd, hfs⟩ := (T.ok t inf hi).agg hag
        obtain ⟨in2, z, hin, hsz, hz, hzc⟩ := (T.ok t inf hi).info
        have hmap := run_fields (P := P) fs ((T.ok t inf hi).all fs hd) c.w
        obtain ⟨us', k1, k2⟩ := buildParts_ok T hi hag hro hev (fun i => (fs.map fun f => (f.offset, P.cellsOf f.type))[i]?) (fun k off ft fi h1 h2 => by
          obtain ⟨f, in3, e1, e2, e3, e4, e5, e6⟩ := hfs k off ft h1
          have := e6 fi h2
          simp [e1, e2, e3, Program.cellsOf, e4, this]) parts.toList (relL_sc c inf.zero) hb
        refine OpOK.pure (v := .agg us'.toArray) hs hro hgn ?_ (by simpa using RelL.agg k1 (by simp) (RelL.nil (c := c)))
        have hpa : (parts.map fun x => (x.1, ρ x.2)).toList = parts.toList.map (fun p => (p.1, ρ p.2)) := by simp
        have hzc' : z.cells = inf.zero.toArray := by rw [← hzc]
        simp only [execOp, ho]
        unfold Instr.build
        simp only [Sem.run_bind, zeroValue, typeInfo, run_program, Result.andThen_ok, hin, Sem.run_pure, hz, run_underlying hd, hmap, hpa, hzc', k2]
    · cases h

end

end Go.Proofs.Ytifgeenipinnmaa
