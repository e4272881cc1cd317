/- The abstract machine: regions whose order is drawn. -/
import Derived.Test.YtifgeenipinnmaaVm15
import Derived.Test.YtifgeenipinnmaaVm14
import Derived.Orders
set_option linter.all false
namespace Go.Proofs.Ytifgeenipinnmaa
open Go.RowKit

section
variable {C : Cfg} {rid : Nat} {ops : Array Oper}

theorem impL_loc : ∀ (as : List AV) (b : Nat) {gn gn' : Nat → Nat}, (∀ s, s ∈ (impL b gn as).2.1.map (·.1) → gn' s = gn s) → impL b gn' as = impL b gn as
  | [], _, _, _, _ => rfl
  | a :: as, b, gn, gn', h => by
    cases a
    case row cs =>
      have h1 : gn' b = gn b := h b (by simp [impL])
      have h2 := impL_loc as (b + 1) (gn := gn) (gn' := gn') (fun s hs => h s (by simp only [impL, List.map_cons, List.mem_cons]; exact .inr hs))
      simp only [impL, h1, h2]
    case bx cs =>
      have h1 : gn' b = gn b := h b (by simp [impL])
      have h2 := impL_loc as (b + 1) (gn := gn) (gn' := gn') (fun s hs => h s (by simp only [impL, List.map_cons, List.mem_cons]; exact .inr hs))
      simp only [impL, h1, h2]
    all_goals
      have h2 := impL_loc as b (gn := gn) (gn' := gn') (fun s hs => h s (by simpa only [impL] using hs))
      simp only [impL, h2]

theorem impT_loc : ∀ (as : List AV) (b : Nat) {gn gn' : Nat → Nat}, (∀ s, s ∈ (impT b gn as).2.1.map (·.1) → gn' s = gn s) → impT b gn' as = impT b gn as
  | [], _, _, _, _ => rfl
  | a :: as, b, gn, gn', h => by
    cases a
    case agg cs =>
      have h1 := impL_loc cs b (gn := gn) (gn' := gn') (fun s hs => h s (by simp only [impT, List.map_append, List.mem_append]; exact .inl hs))
      have h2 := impT_loc as (impL b gn cs).2.2 (gn := gn) (gn' := gn') (fun s hs => h s (by simp only [impT, List.map_append, List.mem_append]; exact .inr hs))
      simp only [impT, h1, h2]
    all_goals
      have h1 := impL_loc [_] b (gn := gn) (gn' := gn') (fun s hs => h s (by simp only [impT, List.map_append, List.mem_append]; exact .inl hs))
      have h2 := impT_loc as _ (gn := gn) (gn' := gn') (fun s hs => h s (by simp only [impT, List.map_append, List.mem_append]; exact .inr hs))
      simp only [impT, h1, h2]

theorem imp_loc (r : AV) (b : Nat) {gn gn' : Nat → Nat} (h : ∀ s, s ∈ (imp b gn r).2.map (·.1) → gn' s = gn s) : imp b gn' r = imp b gn r := by
  cases r
  case tup cs => simp only [imp] at h ⊢; rw [impT_loc cs b h]
  all_goals (simp only [imp] at h ⊢; rw [impT_loc _ b h])

theorem noRefL_mem : ∀ {cs : List AV}, noRefL cs = true → ∀ c, c ∈ cs → noRef c = true
  | [], _, c, h => by cases h
  | a :: as, h, c, hc => by
    simp only [noRefL, Bool.and_eq_true] at h
    rcases List.mem_cons.1 hc with rfl | hc
    · exact h.1
    · exact noRefL_mem h.2 c hc
theorem ex_noRef (ro ro' : Ro) : ∀ (n : Nat) (a : AV), noRef a = true → ex ro' n a = ex ro n a
  | 0, _, _ => rfl
  | n + 1, a, h => by
    have hm : ∀ cs : List AV, noRefL cs = true → cs.map (ex ro' n) = cs.map (ex ro n) := fun cs hcs => List.map_congr_left fun c hc => ex_noRef ro ro' n c (noRefL_mem hcs c hc)
    cases a <;> simp only [noRef] at h <;> first | (simp only [ex]; done) | (cases h; done) | (simp only [ex]; rw [hm _ h])
theorem ex_shA (ro ro' : Ro) : ∀ (n : Nat) (a : AV), shA ro a = true → (∀ s, s ∈ zdy a → ro' s = ro s) → ex ro' n a = ex ro n a
  | 0, _, _, _ => rfl
  | n + 1, a, h, hs => by
    have hm : ∀ cs : List AV, noRefL cs = true → cs.map (ex ro' n) = cs.map (ex ro n) := fun cs hcs => List.map_congr_left fun c hc => ex_noRef ro ro' n c (noRefL_mem hcs c hc)
    have hl : ∀ cs : List AV, shL ro cs = true → (∀ s, s ∈ zdz cs → ro' s = ro s) → cs.map (ex ro' n) = cs.map (ex ro n) := by
      intro cs
      induction cs with
      | nil => intro _ _; rfl
      | cons c cs ih =>
        intro h hs
        simp only [shL, Bool.and_eq_true] at h
        rw [List.map_cons, List.map_cons, ex_shA ro ro' n c h.1 (fun s hs' => hs s (by simp [zdz, hs'])), ih h.2 (fun s hs' => hs s (by simp [zdz, hs']))]
    have hd : ∀ (cs : List AV) (k : Nat), noRefL cs = true → noRefL (cs.drop k) = true := by
      intro cs
      induction cs with
      | nil => intro k _; simp [noRefL]
      | cons c cs ih =>
        intro k h
        cases k with
        | zero => exact h
        | succ k => simp only [noRefL, Bool.and_eq_true] at h; exact ih k h.2
    have ht : ∀ (cs : List AV) (k : Nat), noRefL cs = true → noRefL (cs.take k) = true := by
      intro cs
      induction cs with
      | nil => intro k _; simp [noRefL]
      | cons c cs ih =>
        intro k h
        cases k with
        | zero => rfl
        | succ k => simp only [noRefL, Bool.and_eq_true] at h; simp only [List.take_succ_cons, noRefL, h.1, ih k h.2, Bool.and_self]
    cases a <;> simp only [shA] at h
    case sc => rfl
    case dead => rfl
    case imm cs => simp only [ex]; rw [hm _ h]
    case iptr cs => simp only [ex]; rw [hm _ h]
    case row cs => simp only [ex]; rw [hm _ h]
    case bx cs => simp only [ex]; rw [hm _ h]
    case agg cs => simp only [ex]; rw [hl _ h (by simpa [zdy] using hs)]
    case tup cs => simp only [ex]; rw [hl _ h (by simpa [zdy] using hs)]
    case fn f cs => simp only [ex]; rw [hl _ h (by simpa [zdy] using hs)]
    case ref s g p off k =>
      simp only [ex]
      rw [cells_loc (hs s (by simp [zdy]))]
      cases hc : ro.cells s g p with
      | none => rfl
      | some cs =>
        simp only [hc] at h
        simp only
        rw [hm _ (ht _ k (hd _ off h))]
    case ptr s g p i =>
      simp only [ex]
      rw [cells_loc (hs s (by simp [zdy]))]
      cases hc : ro.cells s g p with
      | none => rfl
      | some cs =>
        simp only [hc] at h
        simp only
        rw [hm _ (hd _ i h)]
theorem ex_shL (ro ro' : Ro) (n : Nat) : ∀ {cs : List AV}, shL ro cs = true → (∀ s, s ∈ zdz cs → ro' s = ro s) → cs.map (ex ro' n) = cs.map (ex ro n)
  | [], _, _ => rfl
  | c :: cs, h, hs => by
    simp only [shL, Bool.and_eq_true] at h
    rw [List.map_cons, List.map_cons, ex_shA ro ro' n c h.1 (fun s hs' => hs s (by simp [zdz, hs'])), ex_shL ro ro' n h.2 (fun s hs' => hs s (by simp [zdz, hs']))]
theorem rdR_some {ro : Ro} {ev : Operand → AV} {op : Op} {r : List Nat} (h : rdS ev op = some r) : rdR ro ev op = some r := by simp only [rdR, h]
mutual
theorem shA_loc {ro ro' : Ro} : ∀ (a : AV), (∀ s, s ∈ zdy a → ro' s = ro s) → shA ro' a = shA ro a
  | .ref s g p off k, h => by simp only [shA, cells_loc (h s (by simp [zdy]))]
  | .ptr s g p i, h => by simp only [shA, cells_loc (h s (by simp [zdy]))]
  | .agg cs, h => by simp only [shA]; exact shL_loc cs (by simpa [zdy] using h)
  | .tup cs, h => by simp only [shA]; exact shL_loc cs (by simpa [zdy] using h)
  | .fn f cs, h => by simp only [shA]; exact shL_loc cs (by simpa [zdy] using h)
  | .imm cs, _ => by simp only [shA]
  | .iptr cs, _ => by simp only [shA]
  | .row cs, _ => by simp only [shA]
  | .bx cs, _ => by simp only [shA]
  | .sc _, _ => by simp only [shA]
  | .dead, _ => by simp only [shA]
theorem shL_loc {ro ro' : Ro} : ∀ (cs : List AV), (∀ s, s ∈ zdz cs → ro' s = ro s) → shL ro' cs = shL ro cs
  | [], _ => by simp only [shL]
  | c :: cs, h => by
    simp only [shL]
    rw [shA_loc c (fun s hs => h s (by simp [zdz, hs])), shL_loc cs (fun s hs => h s (by simp [zdz, hs]))]
end

theorem opR_loc {b : Nat} {st st' : St} {op : Op} {e : Eff} (h : opR C b st op e) (he : ∀ x, x ∈ op.operands → st'.ev x = st.ev x)
    (hrR : ∀ r, rdR st.ro st.ev op = some r → ∀ s, s ∈ r → st'.ro s = st.ro s) (hr0 : rdR st.ro st.ev op = none → st'.ro = st.ro)
    (hw : ∀ s, s ∈ e.sites → st'.ro s = st.ro s ∧ st'.gn s = st.gn s) : opR C b st' op e := by
  have hr : ∀ r, rdS st.ev op = some r → ∀ s, s ∈ r → st'.ro s = st.ro s := fun r h => hrR r (rdR_some h)
  unfold opR at h ⊢
  split at h
  · rename_i cl
    cases hcal : cl.callee with
    | value f =>
      simp only [hcal] at h ⊢
      rw [he f (by simp [Op.operands, Call.operands, hcal])]
      cases hf : st.ev f <;> simp only [hf] at h ⊢
      rename_i f' caps
      have hargs : cl.args.toList.map st'.ev = cl.args.toList.map st.ev := List.map_congr_left fun x hx => he x (by simp [Op.operands, Call.operands]; exact .inr (by simpa using hx))
      rw [hargs]
      unfold callR at h ⊢
      by_cases hp : pureL (cl.args.toList.map st.ev ++ caps) = true
      · rw [if_pos hp] at h ⊢
        obtain ⟨r, h1, h2, rfl⟩ := h
        refine ⟨r, h1, h2, ?_⟩
        rw [imp_loc r b (gn := st.gn) (gn' := st'.gn) (fun s hs => (hw s (by simp [Eff.sites]; exact by simpa using hs)).2)]
      · rw [if_neg hp] at h ⊢
        obtain ⟨r, h1, h2, h3, rfl⟩ := h
        have hS : rdS st.ev (.call cl) = none := by simp [rdS, hcal, hf, hp]
        have hex : (cl.args.toList.map st.ev ++ caps).map (ex st'.ro 8) = (cl.args.toList.map st.ev ++ caps).map (ex st.ro 8) := by
          by_cases hsh : shL st.ro (cl.args.toList.map st.ev ++ caps) = true
          · exact ex_shL _ _ 8 hsh (hrR _ (by simp only [rdR, hS, rdX, hcal, hf]; rw [if_pos hsh]))
          · have hro : st'.ro = st.ro := hr0 (by simp only [rdR, hS, rdX, hcal, hf]; rw [if_neg hsh])
            rw [hro]
        refine ⟨r, by rw [hex]; exact h1, h2, h3, ?_⟩
        rw [imp_loc r b (gn := st.gn) (gn' := st'.gn) (fun s hs => (hw s (by simp [Eff.sites]; exact by simpa using hs)).2)]
    | invoke r m =>
      simp only [hcal] at h ⊢
      exact opC_loc h he hr hw (by intro c f hc; cases hc; simp [hcal])
    | builtin bi =>
      simp only [hcal] at h ⊢
      exact opC_loc h he hr hw (by intro c f hc; cases hc; simp [hcal])
  · rename_i hne
    exact opC_loc h he hr hw (by intro c f hc; exact absurd hc (hne c))

/-- Operation i can be done at st with the effect x (none: it is not wanted), and reads and writes F. -/
def canD (C : Cfg) (rid : Nat) (ops : Array Oper) (i : Nat) (o : Oper) (st : St) : Option Eff → FP → Prop
  | some e, F => zbl ops o st = some true ∧ opR C (site rid i) st o.op e ∧ F = ⟨rdR st.ro st.ev o.op, e.sites⟩
  | none, F => zbl ops o st = some false ∧ F = ⟨some [], []⟩

def doD (o : Oper) (st : St) : Option Eff → St
  | some e => (st.eff e).put o.dst e.v
  | none => st.put o.dst (.sc undef)

theorem St.put_sl {st : St} {d : Option Tmp} {v : AV} {t : Nat} (h : d ≠ some t) : (st.put d v).sl t = st.sl t := by
  cases d with
  | none => rfl
  | some k => exact upd_ne _ _ _ _ fun e => h (by rw [e])

theorem St.put_ro {st : St} {d : Option Tmp} {v : AV} : (st.put d v).ro = st.ro := by cases d <;> rfl
theorem St.put_gn {st : St} {d : Option Tmp} {v : AV} : (st.put d v).gn = st.gn := by cases d <;> rfl
theorem St.eff_sl {st : St} {e : Eff} : (st.eff e).sl = st.sl := (St.al_eq e.al _).2.2

theorem doD_sl {o : Oper} {st : St} {x : Option Eff} {t : Nat} (h : o.dst ≠ some t) : (doD o st x).sl t = st.sl t := by
  cases x with
  | none => exact St.put_sl h
  | some e => exact (St.put_sl h).trans (congrFun St.eff_sl t)

def xsites : Option Eff → List Nat
  | some e => e.sites
  | none => []

theorem doD_off {o : Oper} {st : St} {x : Option Eff} {s : Nat} (h : s ∉ xsites x) : (doD o st x).ro s = st.ro s ∧ (doD o st x).gn s = st.gn s := by
  cases x with
  | none => exact ⟨by rw [doD, St.put_ro], by rw [doD, St.put_gn]⟩
  | some e => exact ⟨by rw [doD, St.put_ro]; exact (eff_off h).1, by rw [doD, St.put_gn]; exact (eff_off h).2⟩

theorem looks_ev {y : Oper} {st st' : St} (h : ∀ d, d ∈ y.looksAt ops → st'.sl d = st.sl d) : (∀ x, x ∈ y.op.operands → st'.ev x = st.ev x) ∧ zbl ops y st' = zbl ops y st := by
  refine ⟨fun x hx => ?_, ?_⟩
  · cases x with
    | tmp t => exact h t (List.mem_append_left _ (List.mem_filterMap.2 ⟨.tmp t, by simpa using hx, rfl⟩))
    | _ => rfl
  · unfold zbl
    cases hg : y.guard with
    | none => rfl
    | some q =>
      obtain ⟨j, t⟩ := q
      simp only
      cases hd : (ops[j]?).bind (·.dst) with
      | none => rfl
      | some d =>
        simp only
        rw [h d (List.mem_append_right _ (by simp [hg, hd]))]

theorem rdS_congr {op : Op} {ev ev' : Operand → AV} (h : ∀ x, x ∈ op.operands → ev' x = ev x) : rdS ev' op = rdS ev op := by
  cases op
  case binOp o t x y t' => simp only [rdS, h x (by simp [Op.operands])]
  case load t x => simp only [rdS, h x (by simp [Op.operands])]
  case store t x y => simp only [rdS, h x (by simp [Op.operands]), h y (by simp [Op.operands])]
  case fieldAddr t x f => simp only [rdS, h x (by simp [Op.operands])]
  case indexAddr t x y => simp only [rdS, h x (by simp [Op.operands])]
  case slice t x lo hi mx => simp only [rdS, h x (by simp [Op.operands])]
  case box t x => simp only [rdS, h x (by simp [Op.operands])]
  case build t ps =>
    simp only [rdS, Option.some.injEq]
    have : ∀ l : List (Nat × Operand), (∀ p, p ∈ l → ev' p.2 = ev p.2) → l.flatMap (fun p => zdy (ev' p.2)) = l.flatMap fun p => zdy (ev p.2) := by
      intro l; induction l with
      | nil => intro _; rfl
      | cons p l ih => intro hl; simp only [List.flatMap_cons, hl p (by simp), ih fun q hq => hl q (by simp [hq])]
    exact this _ fun p hp => h p.2 (by simp [Op.operands]; exact ⟨p.1, by simpa using hp⟩)
  case buildSlice t n ps =>
    simp only [rdS, Option.some.injEq]
    have : ∀ l : List (Nat × Operand), (∀ p, p ∈ l → ev' p.2 = ev p.2) → l.flatMap (fun p => zdy (ev' p.2)) = l.flatMap fun p => zdy (ev p.2) := by
      intro l; induction l with
      | nil => intro _; rfl
      | cons p l ih => intro hl; simp only [List.flatMap_cons, hl p (by simp), ih fun q hq => hl q (by simp [hq])]
    exact this _ fun p hp => h p.2 (by simp [Op.operands]; exact ⟨p.1, by simpa using hp⟩)
  case call c =>
    have hargs : ∀ x, x ∈ c.args.toList → ev' x = ev x := fun x hx => h x (by simp [Op.operands, Call.operands]; exact .inr (by simpa using hx))
    simp only [rdS]
    have : ∀ l : List Operand, (∀ p, p ∈ l → ev' p = ev p) → l.flatMap (fun p => zdy (ev' p)) = l.flatMap fun p => zdy (ev p) := by
      intro l; induction l with
      | nil => intro _; rfl
      | cons p l ih => intro hl; simp only [List.flatMap_cons, hl p (by simp), ih fun q hq => hl q (by simp [hq])]
    cases hc : c.callee with
    | value f => simp only [h f (by simp [Op.operands, Call.operands, hc]), List.map_congr_left hargs]
    | invoke r m => simp only [this _ hargs]
    | builtin b => simp only [this _ hargs]
  all_goals rfl

theorem rdR_congr {op : Op} {ro ro' : Ro} {ev ev' : Operand → AV} (h : ∀ x, x ∈ op.operands → ev' x = ev x) (hr : ∀ r, rdR ro ev op = some r → ∀ s, s ∈ r → ro' s = ro s) (hr0 : rdR ro ev op = none → ro' = ro) : rdR ro' ev' op = rdR ro ev op := by
  have hS := rdS_congr h
  unfold rdR at hr hr0 ⊢
  rw [hS]
  cases hs : rdS ev op with
  | some r => rfl
  | none =>
    simp only [hs] at hr hr0 ⊢
    cases op
    case call c =>
      have hargs : c.args.toList.map ev' = c.args.toList.map ev := List.map_congr_left fun x hx => h x (by simp [Op.operands, Call.operands]; exact .inr (by simpa using hx))
      simp only [rdX] at hr hr0 ⊢
      cases hc : c.callee with
      | value f =>
        simp only [hc] at hr hr0 ⊢
        rw [h f (by simp [Op.operands, Call.operands, hc]), hargs]
        cases hf : ev f <;> simp only [hf] at hr hr0 ⊢
        rename_i f' caps
        by_cases hsh : shL ro (c.args.toList.map ev ++ caps) = true
        · rw [if_pos hsh] at hr ⊢
          rw [shL_loc _ (hr _ rfl), if_pos hsh]
        · rw [if_neg hsh] at hr0 ⊢
          rw [hr0 rfl, if_neg hsh]
      | invoke r m => rfl
      | builtin b => rfl
    all_goals rfl

theorem canD_loc {i : Nat} {o : Oper} {st st' : St} {x : Option Eff} {F : FP} (h : canD C rid ops i o st x F) (hl : ∀ d, d ∈ o.looksAt ops → st'.sl d = st.sl d)
    (hr : ∀ r, F.rd = some r → ∀ s, s ∈ r → st'.ro s = st.ro s) (hr0 : F.rd = none → st'.ro = st.ro) (hw : ∀ s, s ∈ F.wr → st'.ro s = st.ro s ∧ st'.gn s = st.gn s) : canD C rid ops i o st' x F := by
  obtain ⟨h1, h2⟩ := looks_ev hl
  cases x with
  | none => obtain ⟨ha, hb⟩ := h; exact ⟨h2.trans ha, hb⟩
  | some e =>
    obtain ⟨ha, hb, rfl⟩ := h
    exact ⟨h2.trans ha, opR_loc hb h1 hr hr0 hw, by rw [rdR_congr h1 hr hr0]⟩

theorem canD_wr {i : Nat} {o : Oper} {st : St} {x : Option Eff} {F : FP} (h : canD C rid ops i o st x F) : F.wr = xsites x := by
  cases x with
  | none => rw [h.2]; rfl
  | some e => rw [h.2.2]; rfl

theorem disj_spec {a b : List Nat} (h : disj a b = true) : ∀ s, s ∈ a → s ∉ b := by
  intro s hs hb
  have := List.all_eq_true.1 h s hs
  simp at this
  exact this hb

theorem doD_comm {o p : Oper} {st : St} {x y : Option Eff} (hd : ∀ d, o.dst = some d → p.dst ≠ some d) (h : ∀ s, s ∈ xsites x → s ∉ xsites y) : doD p (doD o st x) y = doD o (doD p st y) x := by
  have hput : ∀ (st : St) (d : Option Tmp) (v : AV) (e : Eff), (st.put d v).eff e = (st.eff e).put d v := by
    intro st d v e
    have h1 := St.al_eq e.al { st with ro := (st.ro.wrO e.wr).dl e.dl }
    have h2 := St.al_eq e.al { st.put d v with ro := ((st.put d v).ro.wrO e.wr).dl e.dl }
    cases d with
    | none => rfl
    | some k =>
      have e1 : ((st.put (some k) v).eff e).ro = (st.eff e).ro := h2.1.trans h1.1.symm
      have e2 : ((st.put (some k) v).eff e).gn = (st.eff e).gn := h2.2.1.trans h1.2.1.symm
      have e3 : ((st.put (some k) v).eff e).sl = upd st.sl k v := h2.2.2
      have e4 : (st.eff e).sl = st.sl := h1.2.2
      generalize (st.put (some k) v).eff e = A at e1 e2 e3 ⊢
      obtain ⟨a1, a2, a3⟩ := A
      simp only at e1 e2 e3
      simp only [St.put, e1, e2, e3, e4]
  have hpp : ∀ (st : St) (v u : AV), (st.put o.dst v).put p.dst u = (st.put p.dst u).put o.dst v := by
    intro st v u
    cases ho : o.dst with
    | none => rfl
    | some d =>
      cases hp : p.dst with
      | none => rfl
      | some k =>
        have hne : k ≠ d := fun e => hd d ho (by rw [hp, e])
        simp only [St.put]
        congr 1
        funext j
        simp only [upd]
        split
        · rename_i h1; subst h1; rw [if_neg hne]
        · rfl
  cases x with
  | none =>
    cases y with
    | none => exact hpp _ _ _
    | some f => simp only [doD]; rw [hput, hpp]
  | some e =>
    cases y with
    | none => simp only [doD]; rw [hput, hpp]
    | some f =>
      simp only [doD]
      rw [hput, hput, hpp]
      congr 2
      obtain ⟨h1, h2⟩ := eff_comm (st := st) (e := e) (f := f) h
      have h3 : ((st.eff e).eff f).sl = ((st.eff f).eff e).sl := by simp only [St.eff_sl]
      generalize (st.eff e).eff f = A at *
      generalize (st.eff f).eff e = B at *
      cases A; cases B; simp_all

/-- Two neighbours that are apart change places. -/
theorem swapD {i j : Nat} {o p : Oper} {st : St} {x y : Option Eff} {F G : FP} (hap : o.apart ops p = true) (hfp : F.apart G = true)
    (h1 : canD C rid ops j o st x F) (h2 : canD C rid ops i p (doD o st x) y G) : canD C rid ops i p st y G ∧ canD C rid ops j o (doD p st y) x F ∧ doD p (doD o st x) y = doD o (doD p st y) x := by
  obtain ⟨a1, a2, a3⟩ := Oper.apart_spec hap
  unfold FP.apart at hfp
  simp only [Bool.and_eq_true] at hfp
  obtain ⟨⟨f1, f2⟩, f3⟩ := hfp
  have w1 := canD_wr h1
  have w2 := canD_wr h2
  have f3' := disj_spec f3
  refine ⟨canD_loc h2 (fun d hd => (doD_sl fun e => a1 d e hd).symm) ?_ ?_ ?_, canD_loc h1 (fun d hd => doD_sl fun e => a3 d e hd) ?_ ?_ ?_, doD_comm a2 ?_⟩
  · intro r hr s hs
    rw [hr] at f2
    exact ((doD_off (by rw [← w1]; exact disj_spec f2 s hs)).1).symm
  · intro hr
    rw [hr] at f2
    have : xsites x = [] := by rw [← w1]; simpa using f2
    funext s
    exact ((doD_off (by simp [this])).1).symm
  · intro s hs
    have := doD_off (o := o) (st := st) (x := x) (s := s) (by rw [← w1]; exact fun h => f3' s h hs)
    exact ⟨this.1.symm, this.2.symm⟩
  · intro r hr s hs
    rw [hr] at f1
    exact (doD_off (by rw [← w2]; exact disj_spec f1 s hs)).1
  · intro hr
    rw [hr] at f1
    have : xsites y = [] := by rw [← w2]; simpa using f1
    funext s
    exact (doD_off (by simp [this])).1
  · intro s hs
    exact doD_off (by rw [← w2]; exact f3' s hs)
  · intro s hs; rw [← w1] at hs; rw [← w2]; exact f3' s hs

/-- The operations l, one after the other. -/
def TrD (C : Cfg) (rid : Nat) (ops : Array Oper) (X : Nat → Option Eff) (G : Nat → FP) : List Nat → St → St → Prop
  | [], st, st' => st' = st
  | i :: l, st, st' => ∃ o, ops[i]? = some o ∧ canD C rid ops i o st (X i) (G i) ∧ TrD C rid ops X G l (doD o st (X i)) st'

theorem bubble {X : Nat → Option Eff} {G : Nat → FP} {i : Nat} {p : Oper} (hp : ops[i]? = some p) : ∀ (l1 l2 : List Nat) {st st' : St},
    (∀ j, j ∈ l1 → ∃ o, ops[j]? = some o ∧ o.apart ops p = true ∧ (G j).apart (G i) = true) → TrD C rid ops X G (l1 ++ i :: l2) st st' → TrD C rid ops X G (i :: (l1 ++ l2)) st st'
  | [], _, _, _, _, h => h
  | j :: l1, l2, st, st', hap, h => by
    obtain ⟨o, ho, hc, ht⟩ := h
    obtain ⟨o', ho', ha, hg⟩ := hap j (by simp)
    rw [ho] at ho'
    obtain rfl := Option.some.inj ho'
    obtain ⟨p', hp', hcp, ht'⟩ := bubble hp l1 l2 (fun k hk => hap k (by simp [hk])) ht
    rw [hp] at hp'
    obtain rfl := Option.some.inj hp'
    obtain ⟨s1, s2, s3⟩ := swapD ha hg hc hcp
    refine ⟨p, hp, s1, o, ho, s2, ?_⟩
    rw [← s3]; exact ht'

theorem befB_closed {listed : Array Bool} (hcl : ∀ k o, ops[k]? = some o → listed.getD k false = true → ∀ e, e ∈ o.after → Region.binds .any e = true → listed.getD e.on false = true) : ∀ (n j i : Nat), befB ops n j i = true →
    (∀ o, ops[i]? = some o → ∀ e, e ∈ o.after → Region.binds .any e = true → listed.getD e.on false = true) → listed.getD j false = true
  | 0, _, _, h, _ => by simp [befB] at h
  | n + 1, j, i, h, hi => by
    simp only [befB] at h
    cases ho : ops[i]? with
    | none => simp [ho] at h
    | some o =>
      simp only [ho] at h
      obtain ⟨e, he, h2⟩ := List.any_eq_true.1 h
      simp only [Bool.and_eq_true, Bool.or_eq_true, beq_iff_eq] at h2
      obtain ⟨hb, h3⟩ := h2
      have hl := hi o ho e (by simpa using he) hb
      rcases h3 with h3 | h3
      · rw [← h3]; exact hl
      · exact befB_closed hcl n j e.on h3 fun o' ho' e' he' hb' => hcl _ o' ho' hl e' he' hb'

end

end Go.Proofs.Ytifgeenipinnmaa
