/- The abstract machine: calls. -/
import Derived.Test.YtifgeenipinnmaaVm11
set_option linter.all false
namespace Go.Proofs.Ytifgeenipinnmaa
open Go.RowKit

section
variable {P : Program} {ti : Nat → Option TI} {w0 : World} {A0 : Nat → Prop} {F0 : List Nat} {c c' : Cx} {Φ : Nat → Nat → List Nat} {R : List Nat} {st : St} {ρ : Operand → Value} {o : Oper} {e : Eff} {b : Nat}

theorem RelL.lt {as us G} (h : RelL c as us G) : ∀ x, x ∈ G → x < c.w.heap.size := by
  induction h with
  | nil => simp
  | sc v _ ih => exact ih
  | dead v _ ih => exact ih
  | imm g b cap _ _ _ _ _ ih => exact ih
  | row g b cap _ h2 _ _ _ ih1 ih =>
    intro x hx
    simp only [List.mem_cons, List.mem_append] at hx
    rcases hx with rfl | hx | hx
    · exact h2.lt
    · exact ih1 x hx
    · exact ih x hx
  | bx g b cap _ h2 _ _ _ ih1 ih =>
    intro x hx
    simp only [List.mem_cons, List.mem_append] at hx
    rcases hx with rfl | hx | hx
    · exact h2.lt
    · exact ih1 x hx
    · exact ih x hx
  | ref s g p off n v _ _ _ ih => exact ih
  | ptr s g p i v _ _ _ ih => exact ih
  | iptr g b _ _ _ _ ih => exact ih
  | agg _ _ _ ih1 ih =>
    intro x hx
    rcases List.mem_append.1 hx with hx | hx
    · exact ih1 x hx
    · exact ih x hx
  | tup _ _ _ ih1 ih =>
    intro x hx
    rcases List.mem_append.1 hx with hx | hx
    · exact ih1 x hx
    · exact ih x hx
  | fn f _ _ _ ih => exact ih

/-- Without aliases the context does not matter, but for what is read only. -/
theorem RelL.ctx {as us G} (h : RelL c as us G) (hw : c'.w = c.w) (hA : ∀ b, c'.A b → c.A b) : noRefL as = true → RelL c' as us G := by
  induction h with
  | nil => intro _; exact .nil
  | sc v _ ih => intro hn; exact .sc v (ih (by simpa [noRefL, noRef] using hn))
  | dead v _ ih => intro hn; exact .dead v (ih (by simpa [noRefL, noRef] using hn))
  | imm g b cap _ h2 h3 _ ih1 ih =>
    intro hn
    simp only [noRefL, noRef, Bool.and_eq_true] at hn
    exact .imm g b cap (ih1 hn.1) ⟨fun ha => h2.1 (hA _ ha), by rw [hw]; exact h2.2.1, by rw [hw]; exact h2.2.2⟩ h3 (ih hn.2)
  | row g b cap _ h2 h3 h4 _ ih1 ih =>
    intro hn
    simp only [noRefL, noRef, Bool.and_eq_true] at hn
    exact .row g b cap (ih1 hn.1) (by rw [hw]; exact h2) h3 h4 (ih hn.2)
  | bx g b cap _ h2 h3 h4 _ ih1 ih =>
    intro hn
    simp only [noRefL, noRef, Bool.and_eq_true] at hn
    exact .bx g b cap (ih1 hn.1) (by rw [hw]; exact h2) h3 h4 (ih hn.2)
  | ref s g p off n v _ _ _ ih => intro hn; simp [noRefL, noRef] at hn
  | ptr s g p i v _ _ _ ih => intro hn; simp [noRefL, noRef] at hn
  | iptr g b _ h2 _ ih1 ih =>
    intro hn
    simp only [noRefL, noRef, Bool.and_eq_true] at hn
    exact .iptr g b (ih1 hn.1) ⟨fun ha => h2.1 (hA _ ha), by rw [hw]; exact h2.2.1, by rw [hw]; exact h2.2.2⟩ (ih hn.2)
  | agg _ h2 _ ih1 ih =>
    intro hn
    simp only [noRefL, noRef, Bool.and_eq_true] at hn
    exact .agg (ih1 hn.1) h2 (ih hn.2)
  | tup _ h2 _ ih1 ih =>
    intro hn
    simp only [noRefL, noRef, Bool.and_eq_true] at hn
    exact .tup (ih1 hn.1) h2 (ih hn.2)
  | fn f _ _ ih1 ih =>
    intro hn
    simp only [noRefL, noRef, Bool.and_eq_true] at hn
    exact .fn f (ih1 hn.1) (ih hn.2)

/-- Without aliases and read only memory the context does not matter. -/
theorem RelL.ctxI {as us G} (h : RelL c as us G) (hw : c'.w = c.w) : noIL as = true → RelL c' as us G := by
  induction h with
  | nil => intro _; exact .nil
  | sc v _ ih => intro hn; exact .sc v (ih (by simpa [noIL, noI] using hn))
  | dead v _ ih => intro hn; exact .dead v (ih (by simpa [noIL, noI] using hn))
  | imm g b cap _ h2 h3 _ ih1 ih => intro hn; simp [noIL, noI] at hn
  | row g b cap _ h2 h3 h4 _ ih1 ih =>
    intro hn
    simp only [noIL, noI, Bool.and_eq_true] at hn
    exact .row g b cap (ih1 hn.1) (by rw [hw]; exact h2) h3 h4 (ih hn.2)
  | bx g b cap _ h2 h3 h4 _ ih1 ih =>
    intro hn
    simp only [noIL, noI, Bool.and_eq_true] at hn
    exact .bx g b cap (ih1 hn.1) (by rw [hw]; exact h2) h3 h4 (ih hn.2)
  | ref s g p off n v _ _ _ ih => intro hn; simp [noIL, noI] at hn
  | ptr s g p i v _ _ _ ih => intro hn; simp [noIL, noI] at hn
  | iptr g b _ h2 _ ih1 ih => intro hn; simp [noIL, noI] at hn
  | agg _ h2 _ ih1 ih =>
    intro hn
    simp only [noIL, noI, Bool.and_eq_true] at hn
    exact .agg (ih1 hn.1) h2 (ih hn.2)
  | tup _ h2 _ ih1 ih =>
    intro hn
    simp only [noIL, noI, Bool.and_eq_true] at hn
    exact .tup (ih1 hn.1) h2 (ih hn.2)
  | fn f _ _ ih1 ih =>
    intro hn
    simp only [noIL, noI, Bool.and_eq_true] at hn
    exact .fn f (ih1 hn.1) (ih hn.2)

theorem RelL.own0 {as us G} (h : RelL c as us G) : noOwnL as = true → G = [] := by
  induction h <;> simp_all [noOwnL, noOwn]

mutual
theorem pure_noRef : ∀ a, pureA a = true → noRef a = true
  | .sc _, _ => rfl
  | .dead, _ => rfl
  | .imm cs, h => by simp only [pureA] at h; simp only [noRef]; exact pure_noRefL cs h
  | .iptr cs, h => by simp only [pureA] at h; simp only [noRef]; exact pure_noRefL cs h
  | .agg cs, h => by simp only [pureA] at h; simp only [noRef]; exact pure_noRefL cs h
  | .tup cs, h => by simp only [pureA] at h; simp only [noRef]; exact pure_noRefL cs h
  | .fn _ cs, h => by simp only [pureA] at h; simp only [noRef]; exact pure_noRefL cs h
  | .row _, h => by simp [pureA] at h
  | .bx _, h => by simp [pureA] at h
  | .ref .., h => by simp [pureA] at h
  | .ptr .., h => by simp [pureA] at h
theorem pure_noRefL : ∀ as, pureL as = true → noRefL as = true
  | [], _ => rfl
  | a :: as, h => by
    simp only [pureL, Bool.and_eq_true] at h
    simp only [noRefL, Bool.and_eq_true]
    exact ⟨pure_noRef a h.1, pure_noRefL as h.2⟩
end

/-- What the callee reads. -/
theorem ex_ok (hs : Sim w0 A0 F0 c Φ R) : ∀ (n : Nat), (∀ {a v F}, Rel c a v F → Rel (cx0 c.w (fun _ => False)) (ex c.ro n a) v []) ∧
    (∀ {as us F}, RelL c as us F → RelL (cx0 c.w (fun _ => False)) (as.map (ex c.ro n)) us [])
  | 0 => by
    have h1 : ∀ {a v F}, Rel c a v F → Rel (cx0 c.w (fun _ => False)) (ex c.ro 0 a) v [] := fun {a v F} _ => .dead v .nil
    refine ⟨h1, fun {as} => ?_⟩
    induction as with
    | nil => intro us F h; obtain ⟨rfl, _⟩ := RelL.nilF h; exact .nil
    | cons a as ih =>
      intro us F h
      obtain ⟨v, vs, Fa, G, rfl, _, ha, hr, _⟩ := RelL.uncons h
      exact RelL.cons (h1 ha) (ih hr) (by simp)
  | n + 1 => by
    obtain ⟨_, ih2⟩ := ex_ok hs n
    have himm : ∀ (g b cap : Nat) (cs : List AV) (us : List Value) (F : List Nat), RelL c cs us F → g < c.w.heap.size → (∀ (i : Nat) (u : Value), us[i]? = some u → c.w.cell? ⟨g, b + i, none⟩ = some u) → us.length ≤ cap →
        Rel (cx0 c.w (fun _ => False)) (.imm (cs.map (ex c.ro n))) (.slice (some ⟨g, b, none⟩) us.length cap) [] := by
      intro g b cap cs us F h1 h2 h3 h4
      exact .imm g b cap (ih2 h1) ⟨fun h => h, h2, h3⟩ h4 .nil
    have hiptr : ∀ (g b : Nat) (cs : List AV) (us : List Value) (F : List Nat), RelL c cs us F → g < c.w.heap.size → (∀ (i : Nat) (u : Value), us[i]? = some u → c.w.cell? ⟨g, b + i, none⟩ = some u) →
        Rel (cx0 c.w (fun _ => False)) (.iptr (cs.map (ex c.ro n))) (.pointer (some ⟨g, b, none⟩)) [] := by
      intro g b cs us F h1 h2 h3
      exact .iptr g b (ih2 h1) ⟨fun h => h, h2, h3⟩ .nil
    have h1 : ∀ {a v F}, Rel c a v F → Rel (cx0 c.w (fun _ => False)) (ex c.ro (n + 1) a) v [] := by
      intro a v F h
      cases a <;> simp only [ex]
      case sc u => obtain ⟨rfl, _⟩ := Rel.sc_inv h; exact .sc _ .nil
      case dead => exact .dead _ .nil
      case imm cs =>
        obtain ⟨g, b, cap, us, rfl, k1, k2, k3, _⟩ := Rel.imm_inv h
        exact himm g b cap cs us _ k1 k2.2.1 k2.2.2 k3
      case row cs =>
        obtain ⟨g, b, cap, us, F', rfl, _, k1, k2, _⟩ := Rel.row_inv h
        exact himm g b cap cs us _ k1 k2.lt (fun i u hu => k2.cell hu) (by obtain ⟨_, _, _, _, h5, _⟩ := k2; exact h5)
      case bx cs =>
        obtain ⟨g, b, cap, us, F', rfl, _, k1, k2, _⟩ := Rel.bx_inv h
        exact hiptr g b cs us _ k1 k2.lt (fun i u hu => k2.cell hu)
      case iptr cs =>
        obtain ⟨g, b, us, rfl, k1, k2, _⟩ := Rel.iptr_inv h
        exact hiptr g b cs us _ k1 k2.2.1 k2.2.2
      case agg cs =>
        obtain ⟨us, rfl, k1⟩ := Rel.agg_inv h
        simpa using RelL.agg (ih2 k1) (by simp) RelL.nil
      case tup cs =>
        obtain ⟨us, rfl, k1⟩ := Rel.tup_inv h
        simpa using RelL.tup (ih2 k1) (by simp) RelL.nil
      case fn f cs =>
        obtain ⟨us, rfl, k1⟩ := Rel.fn_inv h
        exact .fn f (ih2 k1) .nil
      case ref s g p off k =>
        cases hcs : c.ro.cells s g p with
        | none => exact .dead _ .nil
        | some cs =>
          simp only
          obtain ⟨_, h2⟩ := Rel.ref_inv h
          obtain ⟨x, h3, h4, h5⟩ := h2 cs hcs
          obtain ⟨x', us, F', cap, q0, q1, q2, q3, q4, q5, q6⟩ := hs.place hcs
          rw [h3] at q0
          simp only [Option.some.injEq] at q0
          subst q0
          obtain ⟨b', cap', arr, E, f1, f2, f3, f4, f5, f6⟩ := h4
          obtain ⟨F2, m1, _⟩ := q1.cut off k
          have hlen : ((us.drop off).take k).length = k := by rw [List.length_take, List.length_drop, ← q1.len]; omega
          have hg : x.1 < c.w.heap.size := q2.lt
          rw [f1]
          have := himm x.1 b' cap' _ _ F2 m1 hg (fun i u hu => by
            rcases f2 with f2 | f2
            · rw [f2, Nat.add_assoc]
              refine q2.cell ?_
              rw [List.getElem?_take] at hu
              split at hu
              · rw [List.getElem?_drop] at hu; exact hu
              · cases hu
            · have := (List.getElem?_eq_some_iff.1 hu).1
              omega) (by omega)
          rw [hlen] at this
          exact this
      case ptr s g p i =>
        cases hcs : c.ro.cells s g p with
        | none => exact .dead _ .nil
        | some cs =>
          simp only
          obtain ⟨x, h3, rfl⟩ := (Rel.ptr_inv h).2 cs hcs
          obtain ⟨x', us, F', cap, q0, q1, q2, q3, q4, q5, q6⟩ := hs.place hcs
          rw [h3] at q0
          simp only [Option.some.injEq] at q0
          subst q0
          obtain ⟨F2, m1, _⟩ := q1.cut i cs.length
          have e1 : (cs.drop i).take cs.length = cs.drop i := List.take_of_length_le (by simp)
          have e2 : (us.drop i).take cs.length = us.drop i := List.take_of_length_le (by rw [List.length_drop, q1.len]; omega)
          rw [e1, e2] at m1
          exact hiptr x.1 (x.2 + i) _ _ F2 m1 q2.lt (fun j u hu => by
            rw [Nat.add_assoc]
            refine q2.cell ?_
            rw [List.getElem?_drop] at hu; exact hu)
    refine ⟨h1, fun {as} => ?_⟩
    induction as with
    | nil => intro us F h; obtain ⟨rfl, _⟩ := RelL.nilF h; exact .nil
    | cons a as ih =>
      intro us F h
      obtain ⟨v, vs, Fa, G, rfl, _, ha, hr, _⟩ := RelL.uncons h
      exact RelL.cons (h1 ha) (ih hr) (by simp)

/-- The state behind new roots. -/
def alRo : Ro → (Nat → Nat) → List (Nat × AV) → Ro × (Nat → Nat)
  | ro, gn, [] => (ro, gn)
  | ro, gn, (s, a) :: r => alRo (upr ro s (gn s + 1) a) (upg gn s (gn s + 1)) r

theorem St.al_eq : ∀ (l : List (Nat × AV)) (st : St), (st.al l).ro = (alRo st.ro st.gn l).1 ∧ (st.al l).gn = (alRo st.ro st.gn l).2 ∧ (st.al l).sl = st.sl
  | [], st => ⟨rfl, rfl, rfl⟩
  | (s, a) :: r, st => St.al_eq r _

theorem alRo_append : ∀ (l1 l2 : List (Nat × AV)) (ro : Ro) (gn : Nat → Nat), alRo ro gn (l1 ++ l2) = alRo (alRo ro gn l1).1 (alRo ro gn l1).2 l2
  | [], _, _, _ => rfl
  | (s, a) :: l1, l2, ro, gn => alRo_append l1 l2 _ _

/-- One root more, for a row or a box at hand. -/
theorem renew_ref {a : AV} {v : Value} {F : List Nat} (hs : Sim w0 A0 F0 c Φ (F ++ R)) (hv : Rel c a v F) (hd' : ∀ y, y ∈ F → y ∉ R) (s : Nat) (ha : (∃ cs, a = .row cs) ∨ ∃ cs, a = .bx cs) :
    ∃ c' Φ', c'.w = c.w ∧ c'.ro = upr c.ro s (c.gn s + 1) a ∧ c'.gn = upg c.gn s (c.gn s + 1) ∧ c'.A = c.A ∧ Keep c c' ∧ Sim w0 A0 F0 c' Φ' R ∧
      (∀ cs, a = .row cs → Rel c' (.ref s (c.gn s + 1) [] 0 cs.length) v []) ∧ (∀ cs, a = .bx cs → Rel c' (.ptr s (c.gn s + 1) [] 0) v []) := by
  obtain ⟨x, hx⟩ : ∃ x, hd x a v := by
    rcases ha with ⟨cs, rfl⟩ | ⟨cs, rfl⟩
    · obtain ⟨g, b, cap, us, F', rfl, _, h1, _, _⟩ := Rel.row_inv hv
      exact ⟨(g, b), cap, by rw [h1.len]⟩
    · obtain ⟨g, b, cap, us, F', rfl, _, h1, _, _⟩ := Rel.bx_inv hv
      exact ⟨(g, b), rfl⟩
  obtain ⟨c', Φ', e1, e2, e3, e4⟩ := hs.renew s x hv hx hd'
  have eg : c'.gn = upg c.gn s (c.gn s + 1) := by rw [e1]
  have er : c'.ro = upr c.ro s (c.gn s + 1) a := by rw [e1]
  have ew : c'.w = c.w := by rw [e1]
  refine ⟨c', Φ', ew, er, eg, by rw [e1], e2, e3, ?_, ?_⟩
  · rintro cs rfl
    obtain ⟨g, b, cap, us, F', rfl, _, h1, h2, _⟩ := Rel.row_inv hv
    obtain ⟨cap', hx⟩ := hx
    simp only [Value.slice.injEq, Option.some.injEq, Addr.mk.injEq] at hx
    obtain ⟨⟨e5, e6, _⟩, e7, _⟩ := hx
    refine .ref s _ [] 0 _ _ (by rw [eg]; simp [upg]) (fun ds hds => ⟨x, by simp [locp, e4], ?_, ?_⟩) .nil
    · obtain ⟨arr, E, o1, o2, o3, o4, _⟩ := h2
      exact ⟨b, cap, arr, E, by rw [e5, e7], .inl e6, by rw [ew, ← e5]; exact o1, o2, by rw [← e7]; exact o3, o4⟩
    · rw [er] at hds
      simp [Ro.cells, upr, blk] at hds
      subst hds
      omega
  · rintro cs rfl
    refine .ptr s _ [] 0 _ (by rw [eg]; simp [upg]) (fun ds hds => ⟨x, by simp [locp, e4], hx⟩) .nil

theorem impL_ok : ∀ (as : List AV) (b : Nat) (gn : Nat → Nat) {c : Cx} {Φ : Nat → Nat → List Nat} {F R : List Nat} {vs : List Value}, (∀ s, b ≤ s → c.gn s = gn s) → Sim w0 A0 F0 c Φ (F ++ R) → RelL c as vs F → noRefL as = true → as.all imp1 = true → (∀ y, y ∈ F → y ∉ R) →
    ∃ c' Φ', c'.w = c.w ∧ (c'.ro, c'.gn) = alRo c.ro c.gn (impL b gn as).2.1 ∧ c'.A = c.A ∧ Keep c c' ∧ Sim w0 A0 F0 c' Φ' R ∧ RelL c' (impL b gn as).1 vs [] ∧ (∀ s, (impL b gn as).2.2 ≤ s → c'.gn s = gn s) ∧ b ≤ (impL b gn as).2.2
  | [], b, gn, c, Φ, F, R, vs, hg, hs, h, _, _, _ => by
    obtain ⟨rfl, rfl⟩ := RelL.nilF h
    exact ⟨c, Φ, rfl, rfl, rfl, Keep.refl c, by simpa using hs, .nil, hg, Nat.le_refl _⟩
  | a :: as, b, gn, c, Φ, F, R, vs, hg, hs, h, hn, hi, hd => by
    obtain ⟨v, vs', Fa, G, rfl, rfl, ha, hr, hdd⟩ := RelL.uncons h
    simp only [noRefL, Bool.and_eq_true] at hn
    simp only [List.all_cons, Bool.and_eq_true] at hi
    by_cases hrow : (∃ cs, a = .row cs) ∨ ∃ cs, a = .bx cs
    · have hs' : Sim w0 A0 F0 c Φ (Fa ++ (G ++ R)) := by simpa using hs
      obtain ⟨c1, Φ1, e1, e2, e3, e4, e5, e6, e7, e8⟩ := renew_ref hs' ha (fun y hy hq => by
        rcases List.mem_append.1 hq with hq | hq
        · exact hdd y hy hq
        · exact hd y (by simp [hy]) hq) b hrow
      have hgb : c.gn b = gn b := hg b (Nat.le_refl _)
      obtain ⟨c2, Φ2, f1, f2, f3, f4, f5, f6, f7, f8⟩ := impL_ok as (b + 1) gn (c := c1) (fun s hsb => by rw [e3]; simp only [upg]; rw [if_neg (by omega)]; exact hg s (by omega)) e6 (hr.mono e5 (fun y _ => by rw [e1])) hn.2 hi.2 (fun y hy => hd y (by simp [hy]))
      rcases hrow with ⟨cs, rfl⟩ | ⟨cs, rfl⟩
      · refine ⟨c2, Φ2, f1.trans e1, ?_, f3.trans e4, e5.trans f4, f5, ?_, f7, by simp only [impL]; omega⟩
        · rw [f2]; simp only [impL, alRo, e2, e3]
        · simp only [impL]
          rw [← hgb]
          exact RelL.cons ((e7 cs rfl).mono f4 (by simp)) f6 (by simp)
      · refine ⟨c2, Φ2, f1.trans e1, ?_, f3.trans e4, e5.trans f4, f5, ?_, f7, by simp only [impL]; omega⟩
        · rw [f2]; simp only [impL, alRo, e2, e3]
        · simp only [impL]
          rw [← hgb]
          exact RelL.cons ((e8 cs rfl).mono f4 (by simp)) f6 (by simp)
    · have hown : noOwn a = true := by
        cases a <;> first | exact absurd (.inl ⟨_, rfl⟩) hrow | exact absurd (.inr ⟨_, rfl⟩) hrow | exact hi.1
      have hFa : Fa = [] := ha.own0 (by simp [noOwnL, hown])
      subst hFa
      have himp : impL b gn (a :: as) = (a :: (impL b gn as).1, (impL b gn as).2.1, (impL b gn as).2.2) := by
        cases a <;> first | rfl | exact absurd (.inl ⟨_, rfl⟩) hrow | exact absurd (.inr ⟨_, rfl⟩) hrow
      obtain ⟨c2, Φ2, f1, f2, f3, f4, f5, f6, f7, f8⟩ := impL_ok as b gn hg (by simpa using hs) hr hn.2 hi.2 (fun y hy => hd y (by simp [hy]))
      rw [himp]
      exact ⟨c2, Φ2, f1, f2, f3, f4, f5, RelL.cons (ha.mono f4 (by simp)) f6 (by simp), f7, f8⟩

theorem impT_ok : ∀ (as : List AV) (b : Nat) (gn : Nat → Nat) {c : Cx} {Φ : Nat → Nat → List Nat} {F R : List Nat} {vs : List Value}, (∀ s, b ≤ s → c.gn s = gn s) → Sim w0 A0 F0 c Φ (F ++ R) → RelL c as vs F → noRefL as = true → as.all impA = true → (∀ y, y ∈ F → y ∉ R) →
    ∃ c' Φ', c'.w = c.w ∧ (c'.ro, c'.gn) = alRo c.ro c.gn (impT b gn as).2.1 ∧ c'.A = c.A ∧ Keep c c' ∧ Sim w0 A0 F0 c' Φ' R ∧ RelL c' (impT b gn as).1 vs [] ∧ (∀ s, (impT b gn as).2.2 ≤ s → c'.gn s = gn s) ∧ b ≤ (impT b gn as).2.2
  | [], b, gn, c, Φ, F, R, vs, hg, hs, h, _, _, _ => by
    obtain ⟨rfl, rfl⟩ := RelL.nilF h
    exact ⟨c, Φ, rfl, rfl, rfl, Keep.refl c, by simpa using hs, .nil, hg, Nat.le_refl _⟩
  | a :: as, b, gn, c, Φ, F, R, vs, hg, hs, h, hn, hi, hd => by
    obtain ⟨v, vs', Fa, G, rfl, rfl, ha, hr, hdd⟩ := RelL.uncons h
    simp only [noRefL, Bool.and_eq_true] at hn
    simp only [List.all_cons, Bool.and_eq_true] at hi
    have hs' : Sim w0 A0 F0 c Φ (Fa ++ (G ++ R)) := by simpa using hs
    have hdj : ∀ y, y ∈ Fa → y ∉ G ++ R := fun y hy hq => by
      rcases List.mem_append.1 hq with hq | hq
      · exact hdd y hy hq
      · exact hd y (by simp [hy]) hq
    by_cases hagg : ∃ cs, a = .agg cs
    · obtain ⟨cs, rfl⟩ := hagg
      obtain ⟨us, rfl, h1⟩ := Rel.agg_inv ha
      obtain ⟨c1, Φ1, e1, e2, e3, e4, e5, e6, e7, e8⟩ := impL_ok cs b gn hg hs' h1 (by simpa [noRef] using hn.1) (by simpa [impA] using hi.1) hdj
      obtain ⟨c2, Φ2, f1, f2, f3, f4, f5, f6, f7, f8⟩ := impT_ok as (impL b gn cs).2.2 gn (c := c1) e7 e5 (hr.mono e4 (fun y _ => by rw [e1])) hn.2 hi.2 (fun y hy => hd y (by simp [hy]))
      simp only [impT]
      refine ⟨c2, Φ2, f1.trans e1, ?_, f3.trans e3, e4.trans f4, f5, ?_, f7, by omega⟩
      · rw [f2, alRo_append, ← e2]
      · have hx : Rel c2 (.agg (impL b gn cs).1) (.agg us.toArray) [] := by simpa using RelL.agg (e6.mono f4 (by simp)) (by simp) RelL.nil
        exact RelL.cons hx f6 (by simp)
    · have himp : impT b gn (a :: as) = ((impL b gn [a]).1 ++ (impT (impL b gn [a]).2.2 gn as).1, (impL b gn [a]).2.1 ++ (impT (impL b gn [a]).2.2 gn as).2.1, (impT (impL b gn [a]).2.2 gn as).2.2) := by
        cases a <;> first | rfl | exact absurd ⟨_, rfl⟩ hagg
      have hi1 : imp1 a = true := by cases a <;> first | exact absurd ⟨_, rfl⟩ hagg | exact hi.1
      obtain ⟨c1, Φ1, e1, e2, e3, e4, e5, e6, e7, e8⟩ := impL_ok [a] b gn hg hs' ha (by simpa [noRefL] using hn.1) (by simpa using hi1) hdj
      obtain ⟨c2, Φ2, f1, f2, f3, f4, f5, f6, f7, f8⟩ := impT_ok as (impL b gn [a]).2.2 gn (c := c1) e7 e5 (hr.mono e4 (fun y _ => by rw [e1])) hn.2 hi.2 (fun y hy => hd y (by simp [hy]))
      rw [himp]
      refine ⟨c2, Φ2, f1.trans e1, ?_, f3.trans e3, e4.trans f4, f5, ?_, f7, by simp only; omega⟩
      · rw [f2, alRo_append, ← e2]
      · exact RelL.append (e6.mono f4 (by simp)) f6 (by simp)

theorem imp_ok {r : AV} {v : Value} {F : List Nat} (hs : Sim w0 A0 F0 c Φ F) (h : Rel c r v F) (hn : noRef r = true) (hi : impOK r = true) (b : Nat) :
    ∃ c' Φ', c'.w = c.w ∧ (c'.ro, c'.gn) = alRo c.ro c.gn (imp b c.gn r).2 ∧ Keep c c' ∧ Sim w0 A0 F0 c' Φ' [] ∧ Rel c' (imp b c.gn r).1 v [] := by
  by_cases htup : ∃ cs, r = .tup cs
  · obtain ⟨cs, rfl⟩ := htup
    obtain ⟨us, rfl, h1⟩ := Rel.tup_inv h
    obtain ⟨c1, Φ1, e1, e2, e3, e4, e5, e6, _⟩ := impT_ok cs b c.gn (fun _ _ => rfl) (R := []) (by simpa using hs) h1 (by simpa [noRef] using hn) (by simpa [impOK] using hi) (by simp)
    refine ⟨c1, Φ1, e1, e2, e4, e5, ?_⟩
    simpa [imp] using RelL.tup e6 (by simp) RelL.nil
  · have himp : imp b c.gn r = ((impT b c.gn [r]).1.headD .dead, (impT b c.gn [r]).2.1) := by
      cases r <;> first | rfl | exact absurd ⟨_, rfl⟩ htup
    have hi' : impA r = true := by cases r <;> first | exact absurd ⟨_, rfl⟩ htup | exact hi
    obtain ⟨c1, Φ1, e1, e2, e3, e4, e5, e6, _⟩ := impT_ok [r] b c.gn (fun _ _ => rfl) (R := []) (by simpa using hs) h (by simpa [noRefL] using hn) (by simpa using hi') (by simp)
    rw [himp]
    refine ⟨c1, Φ1, e1, e2, e4, e5, ?_⟩
    have hl := e6.len
    cases hq : (impT b c.gn [r]).1 with
    | nil => rw [hq] at hl; simp at hl
    | cons x xs =>
      rw [hq] at e6 hl
      have : xs = [] := List.eq_nil_of_length_eq_zero (by simpa using hl)
      subst this
      exact e6

end

end Go.Proofs.Ytifgeenipinnmaa
