/- Texts joined: Vmk Vml Vmn Vmo. -/
import Derived.MapKept
import Derived.Test.YtilfkbgdpmimlaaGreatMc
set_option linter.all false
/- The abstract machine: arrays of numbers, elements of several cells, maps: laws of operations. -/
namespace Go.Proofs.YtilfkbgdpmimlaaGreat
open Go.RowKit
section
variable {ro : Ro} {a1 : Nat} {a2 : Bool} {a3 : List Value} {a5 : List (Nat × Nat)} {a6 : Option IntKind} {a7 a8 : Bool} {a9 a10 : Option (Nat × Nat)}
theorem kIdx_refk {k s g n j el : Nat} : kIdx (some ⟨a1, a2, a3, none, a5, a6, a7, a8, some (el, k), a10⟩) ro (.refk k s g n) (i64 (j : Int)) = if j < n ∧ (ro.cells s g []).isSome = true then some ⟨.ptr s g [] (j * k), none, [], []⟩ else none := by
 simp only [kIdx, Int.natCast_nonneg, true_and, Int.ofNat_lt, Int.toNat_natCast]
theorem kIdx_immk {k n j el : Nat} {cs : List AV} : kIdx (some ⟨a1, a2, a3, none, a5, a6, a7, a8, some (el, k), a10⟩) ro (.immk k n cs) (i64 (j : Int)) = if j < n then some ⟨.iptr (cs.drop (j * k)), none, [], []⟩ else none := by
 simp only [kIdx, Int.natCast_nonneg, true_and, Int.ofNat_lt, Int.toNat_natCast]
theorem kIdx_parr {s g : Nat} {p : List Nat} {i n j el : Nat} : kIdx (some ⟨a1, a2, a3, none, a5, a6, a7, a8, a9, some (n, el)⟩) ro (.ptr s g p i) (i64 (j : Int)) = if j < n ∧ (ro.cells s g p).isSome = true then some ⟨.ptr s g p (i + j), none, [], []⟩ else none := by
 simp only [kIdx, Int.natCast_nonneg, true_and, Int.ofNat_lt, Int.toNat_natCast]
theorem kLen_refk {k s g n : Nat} {q : Nat × Nat} : kLen1 (some ⟨a1, a2, a3, none, a5, a6, a7, a8, some q, a10⟩) ro (.refk k s g n) = if (ro.cells s g []).isSome = true then some ⟨i64 n, none, [], []⟩ else none := by
 simp only [kLen1, Option.isSome_some, true_and]
theorem kLen_immk {k n : Nat} {cs : List AV} {q : Nat × Nat} : kLen1 (some ⟨a1, a2, a3, none, a5, a6, a7, a8, some q, a10⟩) ro (.immk k n cs) = some ⟨i64 n, none, [], []⟩ := by
 simp only [kLen1, Option.isSome_some, if_true]
abbrev n3 (a b c : Int) : AV := .agg [i64 a, i64 b, i64 c]
end
section
variable {P : Program} {ti : Nat → Option TI} {w0 : World} {A0 : Nat → Prop} {F0 : List Nat} {c : Cx} {Φ : Nat → Nat → List Nat}
theorem RelL.num {cs us F} (h : RelL c cs us F) : cs.all numA = true → F = [] ∧ ∀ v, v ∈ us → oneV v = true := fun hn => ⟨h.flat (num_ok hn), h.ones (all_or (num_ok hn))⟩
theorem app_k (T : TOK P ti) {cl : Call} {x y : Operand} {t el k : Nat} {inf : TI} (hc : cl.callee = .builtin .append) (ha : cl.args = #[x, y]) (ht : cl.argTypes = #[t, t]) (hi : ti t = some inf) (hel : inf.elk = some (el, k))
  {ev : Operand → AV} {ro : Ro} {gn : Nat → Nat} {s g n s2 g2 m : Nat} {cs ds : List AV} (hx : ev x = .refk k s g n) (hy : ev y = .refk k s2 g2 m) (hcs : ro s g = some (.bx cs)) (hds : ro s2 g2 = some (.bx ds)) (hn1 : cs.all numA = true) (hn2 : ds.all numA = true) (hle : k * (n + m) ≤ maxN) :
  OpS P (.call cl) ev ro gn (fun r ro' gn' => r = .refk k s (gn s + 1) (n + m) ∧ ro' = upr (upr ro s g .dead) s (gn s + 1) (.bx (cs.take (k * n) ++ ds.take (k * m))) ∧ gn' = upg gn s (gn s + 1)) := by
 intro w0 A0 F0 c Φ ρ o ho hs hro hgn hev
 have hxv := hev x
 have hyv := hev y
 rw [hx] at hxv
 rw [hy] at hyv
 have hroot : c.ro s g = some (.bx cs) := by rw [hro]; exact hcs
 have hroot2 : c.ro s2 g2 = some (.bx ds) := by rw [hro]; exact hds
 have hcells : c.ro.cells s g [] = some cs := by simp [Ro.cells, hroot, blk]
 have hcells2 : c.ro.cells s2 g2 [] = some ds := by simp [Ro.cells, hroot2, blk]
 obtain ⟨q1, q2⟩ := Rel.refk_inv hxv
 obtain ⟨p1, p2⟩ := Rel.refk_inv hyv
 obtain ⟨⟨cap, arr, E, e1, e2, e3, e4, e5⟩, e6⟩ := q2 cs hcells
 obtain ⟨⟨cap2, arr2, E2, f1, f2, f3, f4, f5⟩, f6⟩ := p2 ds hcells2
 obtain ⟨x1, us, F, cap3, g0, g1, g2', g3, g4, g5, g6⟩ := hs.place hcells
 obtain ⟨x2, us2, F2, cap4, h0, h1, h2', h3, h4, h5, h6⟩ := hs.place hcells2
 simp only [locp, Option.some.injEq] at g0 h0
 subst g0 h0
 obtain ⟨rfl, o1⟩ := g1.num hn1
 obtain ⟨rfl, o2⟩ := h1.num hn2
 have lu : us.length = cs.length := g1.len.symm
 have lu2 : us2.length = ds.length := h1.len.symm
 have l1 : (us.take (k * n)).length = k * n := by rw [List.length_take]; omega
 have l2 : (us2.take (k * m)).length = k * m := by rw [List.length_take]; omega
 have hcell : ∀ w' : World, w'.heap = c.w.heap → ∀ a, w'.cell? a = c.w.cell? a := fun w' hw a => by simp [World.cell?, hw]
 have hold : ∀ w', w'.heap = c.w.heap → (Builtin.firstCells k n (ρ x)).run P w' = .ok (us.take (k * n)).toArray w' := by
  intro w' hw
  rw [e1]
  exact run_firstCells_some (P := P) w' k n ⟨(c.L s g).1, (c.L s g).2, none⟩ n cap (us.take (k * n)) (by rw [l1, Nat.mul_comm]) (fun j v hj => by
   rw [addr_add, hcell w' hw]
   rw [List.getElem?_take] at hj
   split at hj
   ·exact g2'.cell hj
   ·cases hj)
 have hnew : ∀ w', w'.heap = c.w.heap → (Builtin.firstCells k m (ρ y)).run P w' = .ok (us2.take (k * m)).toArray w' := by
  intro w' hw
  rw [f1]
  exact run_firstCells_some (P := P) w' k m ⟨(c.L s2 g2).1, (c.L s2 g2).2, none⟩ m cap2 (us2.take (k * m)) (by rw [l2, Nat.mul_comm]) (fun j v hj => by
   rw [addr_add, hcell w' hw]
   rw [List.getElem?_take] at hj
   split at hj
   ·exact h2'.cell hj
   ·cases hj)
 have hlen : (Builtin.lenOf (ρ y)).run P c.w = .ok m c.w := by rw [f1]; rfl
 have hrun : ∀ v w', (Builtin.append_ #[t, t] o.type #[ρ x, ρ y]).run P c.w = .ok v w' → (execOp ρ o).run P c.w = .ok (.value v) w' := by
  intro v w' hv
  simp [execOp, ho, resolve, hc, ha, ht, invoke, builtin, hv]
 obtain ⟨ck, Φk, v, hck, k1, k2, k3, k4⟩ := hs.takeG hroot
 obtain ⟨gb, bb, capb, usb, Fb, j1, j2, j3, j4, j5⟩ := Rel.bx_inv k3
 have k4' : v = .pointer (some ⟨(c.L s g).1, (c.L s g).2, none⟩) := k4
 rw [j1] at k4'
 simp only [Value.pointer.injEq, Option.some.injEq, Addr.mk.injEq] at k4'
 obtain ⟨i1, i2, -⟩ := k4'
 have hckw : ck.w = c.w := by rw [hck]
 have hckr : ck.ro = upr c.ro s g .dead := by rw [hck]
 have hckg : ck.gn = c.gn := by rw [hck]
 have hckL : ck.L = c.L := by rw [hck]
 have hR : RelL ck (cs.take (k * n) ++ ds.take (k * m)) (us.take (k * n) ++ us2.take (k * m)) [] := by
  have a := g1.cut0 0 (k * n)
  have b := h1.cut0 0 (k * m)
  simp only [List.drop_zero] at a b
  exact (a.mono k1 (by simp)).append (b.mono k1 (by simp)) (by simp)
 have hone : ∀ u, u ∈ us2.take (k * m) → oneV u = true := fun u hu => o2 u (List.mem_of_mem_take hu)
 have hmul : k * (n + m) = k * n + k * m := Nat.mul_add k n m
 have hkn : n * k = k * n := Nat.mul_comm _ _
 by_cases hroom : n + m ≤ cap
 ·have hkc : k * (n + m) ≤ k * cap := Nat.mul_le_mul_left k hroom
  have hr := run_appk_room T hi hel c.w o.type (c.L s g).1 (c.L s g).2 n cap arr E e2 (ρ y) (us2.take (k * m)) m l2 hlen (hnew c.w rfl) hone hroom (by omega)
  rw [← e1] at hr
  generalize hw' : c.w.setRow (c.L s g).1 (arr.toList.take ((c.L s g).2 + n * k) ++ us2.take (k * m) ++ arr.toList.drop ((c.L s g).2 + n * k + k * m)).toArray = w' at hr
  have hb : w'.heap[(c.L s g).1]? = some (.cells (arr.toList.take ((c.L s g).2 + n * k) ++ us2.take (k * m) ++ arr.toList.drop ((c.L s g).2 + n * k + k * m)).toArray E (0, 0)) := by rw [← hw']; exact setRow_heap _ _ _ _ _ _ e2
  have hoth : ∀ q, q ≠ (c.L s g).1 → w'.heap[q]? = c.w.heap[q]? := fun q hq => by rw [← hw']; exact setRow_other _ _ _ _ hq
  have hsz : w'.heap.size = c.w.heap.size := by rw [← hw']; simp [World.setRow]
  have hsize : (arr.toList.take ((c.L s g).2 + n * k) ++ us2.take (k * m) ++ arr.toList.drop ((c.L s g).2 + n * k + k * m)).length = arr.size := by
   simp only [List.length_append, List.length_take, List.length_drop, Array.length_toList, ← lu2] at l2 ⊢
   omega
  obtain ⟨c3, d1, d2, d3, d4, d5, d6, d7⟩ := k2.wchg w' [gb] (by rw [hckw, ← hw']; rfl) (by rw [hckw, ← hw']; rfl) (by rw [hckw, ← hw']; exact Ou.refl _) (by rw [hckw, hsz]; exact Nat.le_refl _) (fun q hq hnq => by
   rw [hckw]
   refine hoth q fun e => hnq ?_
   rw [e, ← i1, j2]; simp) (fun q hq => by
   simp only [List.mem_singleton] at hq
   left; rw [hq, j2]; simp)
  have hR3 := hR.mono d6 (by simp)
  have hown : ownB c3.w gb bb (us.take (k * n) ++ us2.take (k * m)) (us.take (k * n) ++ us2.take (k * m)).length := by
   have la : (arr.toList.take ((c.L s g).2 + n * k)).length = (c.L s g).2 + n * k := by rw [List.length_take, Array.length_toList]; omega
   refine ⟨_, E, by rw [d1, i1]; exact hb, ?_, Nat.le_refl _, ?_, fun i u hu => ?_⟩
   ·rw [List.length_append, l1, l2, i2]; simp only [List.size_toArray]; rw [hsize]; omega
   ·rw [List.length_append, l1, l2]; unfold maxN at hle; unfold maxLen; omega
   ·simp only [List.getElem?_toArray]
    rw [i2]
    by_cases h : i < k * n
    ·rw [List.getElem?_append_left (by omega)] at hu
     rw [List.append_assoc, List.getElem?_append_left (by omega), List.getElem?_take, if_pos (by omega)]
     rw [List.getElem?_take, if_pos h] at hu
     obtain ⟨arr5, E5, z1, z2, z3, z4, z5⟩ := g2'
     rw [e2] at z1
     simp only [Option.some.injEq, Obj.cells.injEq] at z1
     obtain ⟨rfl, rfl, -⟩ := z1
     simpa using z5 i u hu
    ·rw [List.getElem?_append_right (by omega), l1] at hu
     have hlt : i - k * n < (us2.take (k * m)).length := (List.getElem?_eq_some_iff.1 hu).1
     rw [List.getElem?_append_left (by rw [List.length_append]; omega), List.getElem?_append_right (by omega), la]
     rw [show (c.L s g).2 + i - ((c.L s g).2 + n * k) = i - k * n by omega]
     exact hu
  have hbx := Rel.mk_bx (c := c3) gb bb _ hR3 hown (by simp)
  obtain ⟨c4, Φ4, r1, r2, r3, r4⟩ := Sim.renew (R := []) (by simpa using d7) s (gb, bb) hbx rfl (by simp)
  have c4w : c4.w = w' := by rw [r1]; exact d1
  refine ⟨_, w', c4, Φ4, .refk k s (gn s + 1) (n + m), .inl (hrun _ _ hr), c4w, ⟨rfl, ?_, ?_⟩, r3, k1.trans (d6.trans r2), ?_⟩
  ·rw [r1]; simp only [d2, d3, hckr, hckg, hgn, hro]
  ·rw [r1]; simp only [d3, hckg, hgn]
  ·have hgs : c3.gn s = gn s := by rw [d3, hckg, hgn]
   rw [hgs] at r4
   refine .refk k s _ _ _ (by rw [r1]; simp [upg, hgs]) (fun zs hzs => ?_) .nil
   have hz : zs = cs.take (k * n) ++ ds.take (k * m) := by
    rw [r1] at hzs
    simp [Ro.cells, upr, hgs, blk] at hzs
    exact hzs.symm
   rw [r4, hz]
   refine ⟨⟨cap, _, E, by rw [i1, i2], by rw [c4w]; show w'.heap[gb]? = _; rw [i1]; exact hb, ?_, hroom, e5⟩, by simp only [List.length_append, List.length_take]; omega⟩
   simp only [List.size_toArray]; rw [hsize, i2]; exact e3
 ·obtain ⟨nc, rest, n1, n2, n3, n4⟩ := run_appk_grow T hi hel c.w o.type (ρ x) (some ⟨(c.L s g).1, (c.L s g).2, none⟩) n cap e1 (us.take (k * n)) hold (ρ y) (us2.take (k * m)) m l2 hlen hnew (by omega) (by
   have : 1 * (n + m) ≤ k * (n + m) := Nat.mul_le_mul_right _ e5
   unfold maxN at hle; omega)
  have hk2 : nc * k = k * nc := Nat.mul_comm _ _
  have hk3 : k * (n + m) ≤ k * nc := Nat.mul_le_mul_left k n1
  have hk4 : (nc - (n + m)) * k = k * nc - k * (n + m) := by rw [Nat.mul_comm, Nat.mul_sub]
  obtain ⟨c', Φ', h1', h2'', h3', h4', h5', h6'⟩ := newk_ok k2 s _ _ hR ck.w.drew rfl rfl rfl (Ou.drew _) (us.take (k * n) ++ us2.take (k * m) ++ rest).toArray el k (n + m) nc e5 n1 (by rw [List.length_append, l1, l2, hmul]) (by simp only [List.size_toArray, List.length_append, l1, l2]; omega) (by rw [List.length_append, l1, l2]; unfold maxN at hle; unfold maxLen; omega) (fun i u hu => by
   have := (List.getElem?_eq_some_iff.1 hu).1
   simp only [List.getElem?_toArray]
   rw [List.getElem?_append_left this]; exact hu)
  refine ⟨_, _, c', Φ', .refk k s (gn s + 1) (n + m), .inl (hrun _ _ n4), by rw [h1', hckw], ⟨rfl, ?_, ?_⟩, h5', k1.trans h4', ?_⟩
  ·rw [h2'', hckr, hckg, hgn, hro]
  ·rw [h3', hckg, hgn]
  ·rw [← hgn, ← hckg, ← hckw]; exact h6'
end
abbrev T3 := Int × Int × Int
def keyV (t : T3) : Value := .agg #[.int .i64 t.1, .int .i64 t.2.1, .int .i64 t.2.2]
def esK (ks : List T3) : List (Value × Value) := ks.map fun t => (keyV t, .bool true)
def n3T (t : T3) : AV := n3 t.1 t.2.1 t.2.2
structure MTy (P : Program) (mt kt et e : Nat) : Prop where mkM ::
 mm : P.underlying mt = some (.map kt et)
 mk : P.underlying kt = some (.array 3 e)
 me : P.underlying e = some (.int .i64)
 mi : ∃ inf, P.info? e = some inf ∧ inf.size = 1
 mz : ∀ w, (zeroValue et).run P w = .ok (.bool false) w
section
variable {P : Program} {mt kt et e : Nat} (M : MTy P mt kt et e)
include M
theorem run_key (b : Bool) (t : T3) (w : World) : (Instr.checkKey b 10000 kt (keyV t)).run P w = .ok () w := by
 obtain ⟨inf, hi, hz⟩ := M.mi
 have hag : ∀ w, (isAgg e).run P w = .ok false w := fun w => by unfold isAgg; simp only [Sem.run_bind, run_underlying M.me, Result.andThen_ok]; rfl
 have heq : ∀ (m : Int) (w : World), (Instr.checkKey b 9999 e (.int .i64 m)).run P w = .ok () w := fun m w => by
  rw [show (9999 : Nat) = 9998 + 1 from rfl, Instr.checkKey]; simp only [Sem.run_bind, run_underlying M.me, Result.andThen_ok]; rfl
 rw [show (10000 : Nat) = 9999 + 1 from rfl, Instr.checkKey]
 unfold keyV
 simp only [Sem.run_bind, run_underlying M.mk, Result.andThen_ok]
 simp only [Std.Legacy.Range.forIn_eq_forIn_range', Std.Legacy.Range.size, Nat.sub_zero, Nat.add_sub_cancel, Nat.div_one, List.range'_succ, List.range'_zero, List.forIn_cons, List.forIn_nil]
 simp [sizeOf, typeInfo, hi, hz, part, hag, heq]
theorem run_eqK (t u : T3) (w : World) : (Op.equal kt (keyV t) (keyV u)).run P w = .ok (decide (t = u)) w := by
 obtain ⟨inf, hi, hz⟩ := M.mi
 have h := run_equalIn_a3 9998 kt e M.mk M.me hi hz t.1 t.2.1 t.2.2 u.1 u.2.1 u.2.2 w
 unfold Op.equal Op.maxDepth keyV
 rw [h]
 congr 1
 obtain ⟨a, b, c⟩ := t
 obtain ⟨x, y, z⟩ := u
 by_cases h1 : a = x <;> by_cases h2 : b = y <;> by_cases h3 : c = z <;> simp [h1, h2, h3]
def fk (t : T3) : List T3 → Nat → Option (Nat × Value)
 | [], _ => none
 | u :: ks, i => if t = u then some (i, .bool true) else fk t ks (i + 1)
omit M in
theorem fk_none {t : T3} : ∀ {ks : List T3} {i : Nat}, t ∉ ks → fk t ks i = none
 | [], _, _ => rfl
 | u :: ks, i, h => by
  simp only [List.mem_cons, not_or] at h
  rw [fk, if_neg h.1]
  exact fk_none h.2
omit M in
theorem fk_some {t : T3} : ∀ {ks : List T3} {i : Nat}, t ∈ ks → ∃ j, fk t ks i = some (i + j, .bool true) ∧ ks[j]? = some t
 | [], _, h => by cases h
 | u :: ks, i, h => by
  by_cases e : t = u
  ·exact ⟨0, by rw [fk, if_pos e]; rfl, by rw [e]; rfl⟩
  ·rcases List.mem_cons.1 h with h | h
   ·exact absurd h e
   ·obtain ⟨j, h1, h2⟩ := fk_some (i := i + 1) h
    exact ⟨j + 1, by rw [fk, if_neg e, h1]; congr 2; omega, by simpa using h2⟩
theorem run_ask (t : T3) : ∀ (l : List MapEntry) (ks : List T3) (i : Nat) (w : World), l.map (fun e => (e.key, e.val)) = esK ks → (Instr.findAsking kt (keyV t) l i).run P w = .ok (fk t ks i) w
 | [], ks, i, w, h => by
  cases ks with
  | nil => rfl
  | cons u ks => simp [esK] at h
 | a :: l, ks, i, w, h => by
  cases ks with
  | nil => simp [esK] at h
  | cons u ks =>
   simp only [esK, List.map_cons, List.cons.injEq, Prod.mk.injEq] at h
   obtain ⟨⟨h1, h2⟩, h3⟩ := h
   have ih := run_ask t l ks (i + 1) w h3
   simp only [Instr.findAsking, Sem.run_bind, h1, run_eqK M, Result.andThen_ok, fk]
   by_cases hu : t = u
   ·simp [hu, h2]
   ·simp only [hu, decide_false, Bool.false_eq_true, if_false]; exact ih
theorem run_find (t : T3) (l : List MapEntry) (ks : List T3) (w : World) (h : l.map (fun e => (e.key, e.val)) = esK ks) : (Instr.findKey kt (keyV t) l).run P w = .ok (fk t ks 0) w := by
 unfold Instr.findKey
 simp only [Sem.run_bind, run_underlying M.mk, Result.andThen_ok]
 cases l with
 | nil =>
  cases ks with
  | nil => rfl
  | cons u ks => simp [esK] at h
 | cons a l =>
  have hs : Instr.findNow (.array 3 e) (keyV t) (a :: l) 0 = none := by
   simp only [Instr.findNow]
   have : Instr.sameNow (.array 3 e) (keyV t) a.key = none := rfl
   rw [this]
  rw [hs]
  exact run_ask M t (a :: l) ks 0 w h
theorem run_lookK (t : T3) (r : Nat) (ks : List T3) (w : World) (h : ownM w r (esK ks)) : (Instr.lookup mt (.map (some r)) (keyV t) false).run P w = .ok (.bool (decide (t ∈ ks))) w := by
 obtain ⟨arr, cl, hb, hes⟩ := h
 have hg := MapKept.run_getObj_map (P := P) hb
 have hf := run_find M t arr.toList ks w hes
 have hk := fun b => run_key M b t w
 by_cases hm : t ∈ ks
 ·obtain ⟨j, h1, h2⟩ := fk_some (i := 0) hm
  rw [h1] at hf
  simp [Instr.lookup, run_underlying M.mm, hg, hk, hf, hm, Result.andThen]
 ·rw [fk_none hm] at hf
  simp [Instr.lookup, run_underlying M.mm, hg, hk, hf, hm, M.mz, Result.andThen]
def addK (ks : List T3) (t : T3) : List T3 := if t ∈ ks then ks else ks ++ [t]
omit M in
theorem sameKey (t : T3) : Instr.sameBits 10000 (keyV t) (keyV t) = true := by
 unfold keyV
 simp [Instr.sameBits]
theorem run_putK (t : T3) (r : Nat) (ks : List T3) (w : World) (h : ownM w r (esK ks)) : ∃ o, (Instr.mapUpdate mt (.map (some r)) (keyV t) (.bool true)).run P w = .ok () { w with heap := w.heap.setIfInBounds r o } ∧ ownM { w with heap := w.heap.setIfInBounds r o } r (esK (addK ks t)) := by
 obtain ⟨arr, cl, hb, hes⟩ := h
 have hg := MapKept.run_getObj_map (P := P) hb
 have hf := run_find M t arr.toList ks w hes
 have hk := fun b => run_key M b t w
 by_cases hm : t ∈ ks
 ·obtain ⟨j, h1, h2⟩ := fk_some (i := 0) hm
  rw [h1, Nat.zero_add] at hf
  have hj : (arr.toList.map (fun e => (e.key, e.val)))[j]? = some (keyV t, .bool true) := by rw [hes]; simp [esK, h2]
  rw [List.getElem?_map, Array.getElem?_toList] at hj
  cases ha : arr[j]? with
  | none => simp [ha] at hj
  | some a =>
   simp only [ha, Option.map_some, Option.some.injEq, Prod.mk.injEq] at hj
   obtain ⟨e1, e2⟩ := hj
   have hs := MapKept.run_setObj_map (P := P) (.map (arr.modify j fun e => { e with key := keyV t, val := .bool true }) cl) hb
   refine ⟨_, ?_, arr.modify j fun e => { e with key := keyV t, val := .bool true }, cl, (MapKept.heap_set hb).1, ?_⟩
   rotate_left
   ·unfold addK
    rw [if_pos hm, ← hes]
    apply List.ext_getElem?
    intro i
    simp only [List.getElem?_map, Array.getElem?_toList, Array.getElem?_modify]
    by_cases hij : j = i
    ·subst hij; simp [ha, e1, e2]
    ·rw [if_neg hij]
   ·have hkk : (Instr.keyThatStays (keyV t) (keyV t)).run P w = .ok (keyV t) w := by unfold Instr.keyThatStays; rw [if_pos (sameKey t)]; rfl
    simp [Instr.mapUpdate, run_underlying M.mm, hg, hk, hf, ha, e1, hkk, hs, Result.andThen]
 ·rw [fk_none hm] at hf
  have hs := MapKept.run_setObj_map (P := P) (.map (arr.push { key := keyV t, val := .bool true, born := cl }) (cl + 1)) hb
  refine ⟨_, ?_, arr.push { key := keyV t, val := .bool true, born := cl }, cl + 1, (MapKept.heap_set hb).1, ?_⟩
  rotate_left
  ·unfold addK
   rw [if_neg hm, Array.toList_push, List.map_append, hes]
   simp [esK]
  ·simp [Instr.mapUpdate, run_underlying M.mm, hg, hk, hf, hs, Result.andThen]
end
section
variable {P : Program} {mt kt et e : Nat}
theorem op_makeMap (S : Nat) (ev : Operand → AV) (ro : Ro) (gn : Nat → Nat) : OpS P (.makeMap mt none) ev ro gn (fun r ro' gn' => ∃ b, r = .sc (.map (some b)) ∧ ro' = upr ro S (gn S + 1) (.mp b (esK [])) ∧ gn' = upg gn S (gn S + 1)) := by
 intro w0 A0 F0 c Φ ρ o ho hs hro hgn hev
 have hrun : (execOp ρ o).run P c.w = .ok (.value (.map (some c.w.heap.size))) (c.w.alloc (.map #[] 0)) := by
  simp [execOp, ho, Instr.makeMap, run_newObj_alloc]
 have hsz : (c.w.alloc (.map #[] 0)).heap.size = c.w.heap.size + 1 := by simp
 have hold : ∀ b, b < c.w.heap.size → (c.w.alloc (.map #[] 0)).heap[b]? = c.w.heap[b]? := fun b hb => Below.heap_alloc c.w _ b hb
 have hnew : (c.w.alloc (.map #[] 0)).heap[c.w.heap.size]? = some (.map #[] 0) := heap_alloc_new c.w _
 obtain ⟨c1, q1, q2, q3, q4, q5, q6, q7⟩ := hs.wchg (c.w.alloc (.map #[] 0)) [c.w.heap.size] rfl rfl (Ou.refl _) (by omega) (fun b hb _ => hold b hb) (fun x hx => by
  simp only [List.mem_singleton] at hx
  right; omega)
 have hv : Rel c1 (.mp c.w.heap.size (esK [])) (.map (some c.w.heap.size)) [c.w.heap.size] := .mp _ _ ⟨#[], 0, by rw [q1]; exact hnew, rfl⟩ (by simp) .nil
 obtain ⟨c2, Φ2, e1, e2, e3, e4⟩ := Sim.renew (R := []) (by simpa using q7) S (c.w.heap.size, 0) hv trivial (by simp)
 refine ⟨_, _, c2, Φ2, .sc (.map (some c.w.heap.size)), .inl hrun, by rw [e1]; exact q1, ⟨_, rfl, ?_, ?_⟩, e3, q6.trans e2, .sc _ .nil⟩
 ·rw [e1]; simp only [q2, q3, hro, hgn]
 ·rw [e1]; simp only [q3, hgn]
theorem op_look (M : MTy P mt kt et e) {ev : Operand → AV} {ro : Ro} {gn : Nat → Nat} {x k : Operand} {b S g : Nat} {ks : List T3} {t : T3} (hx : ev x = .sc (.map (some b))) (hk : ev k = n3 t.1 t.2.1 t.2.2) (hr : ro S g = some (.mp b (esK ks))) :
  OpS P (.lookup mt x k false) ev ro gn (fun r ro' gn' => r = bo (decide (t ∈ ks)) ∧ ro' = ro ∧ gn' = gn) := by
 intro w0 A0 F0 c Φ ρ o ho hs hro hgn hev
 have hxv := hev x
 have hkv := hev k
 rw [hx] at hxv
 rw [hk] at hkv
 obtain ⟨hxv, -⟩ := Rel.sc_inv hxv
 have hkv := Rel.n3_inv hkv
 obtain ⟨-, v, h1, -⟩ := hs.rt S g _ (by rw [hro]; exact hr)
 obtain ⟨-, -, h2⟩ := Rel.mp_inv h1
 have hl := run_lookK M t b ks c.w h2
 unfold keyV at hl
 refine ⟨.bool (decide (t ∈ ks)), c.w, c, Φ, _, .inl ?_, rfl, ⟨rfl, hro, hgn⟩, hs, Keep.refl c, .sc _ .nil⟩
 simp [execOp, ho, hxv, hkv, hl]
theorem op_put (M : MTy P mt kt et e) {ev : Operand → AV} {ro : Ro} {gn : Nat → Nat} {x k y : Operand} {b S g : Nat} {ks : List T3} {t : T3} (hx : ev x = .sc (.map (some b))) (hk : ev k = n3 t.1 t.2.1 t.2.2) (hy : ev y = bo true) (hr : ro S g = some (.mp b (esK ks))) :
  OpS P (.mapUpdate mt x k y) ev ro gn (fun _ ro' gn' => ro' = upr (upr ro S g .dead) S (gn S + 1) (.mp b (esK (addK ks t))) ∧ gn' = upg gn S (gn S + 1)) := by
 intro w0 A0 F0 c Φ ρ o ho hs hro hgn hev
 have hxv := hev x
 have hkv := hev k
 have hyv := hev y
 rw [hx] at hxv
 rw [hk] at hkv
 rw [hy] at hyv
 obtain ⟨hxv, -⟩ := Rel.sc_inv hxv
 obtain ⟨hyv, -⟩ := Rel.sc_inv hyv
 have hkv := Rel.n3_inv hkv
 have hroot : c.ro S g = some (.mp b (esK ks)) := by rw [hro]; exact hr
 obtain ⟨ck, Φk, v, hck, k1, k2, k3, k4⟩ := hs.takeG hroot
 obtain ⟨-, k5, h2⟩ := Rel.mp_inv k3
 have hckw : ck.w = c.w := by rw [hck]
 have hckr : ck.ro = upr c.ro S g .dead := by rw [hck]
 have hckg : ck.gn = c.gn := by rw [hck]
 rw [hckw] at h2
 obtain ⟨ob, hp, hown⟩ := run_putK M t b ks c.w h2
 unfold keyV at hp
 have hrun : (execOp ρ o).run P c.w = .ok .skip { c.w with heap := c.w.heap.setIfInBounds b ob } ∨ (execOp ρ o).run P c.w = .ok (.value undef) { c.w with heap := c.w.heap.setIfInBounds b ob } := by
  first
  | (left; simp [execOp, ho, hxv, hkv, hyv, hp]; done)
  | (right; simp [execOp, ho, hxv, hkv, hyv, hp]; done)
 obtain ⟨c3, d1, d2, d3, d4, d5, d6, d7⟩ := k2.wchg { c.w with heap := c.w.heap.setIfInBounds b ob } [b] (by rw [hckw]) (by rw [hckw]) (by rw [hckw]; exact Ou.refl _) (by rw [hckw]; simp) (fun q hq hnq => by
  rw [hckw]
  show (c.w.heap.setIfInBounds b ob)[q]? = _
  rw [Array.getElem?_setIfInBounds_ne]
  intro e
  exact hnq (by rw [← e, k5]; simp)) (fun q hq => by
  simp only [List.mem_singleton] at hq
  left; rw [hq, k5]; simp)
 have hv : Rel c3 (.mp b (esK (addK ks t))) (.map (some b)) [b] := .mp _ _ (by rw [d1]; exact hown) (by simp) .nil
 obtain ⟨c4, Φ4, r1, r2, r3, r4⟩ := Sim.renew (R := []) (by simpa using d7) S (b, 0) hv trivial (by simp)
 refine ⟨undef, { c.w with heap := c.w.heap.setIfInBounds b ob }, c4, Φ4, .sc undef, ?_, by rw [r1]; exact d1, ⟨?_, ?_⟩, r3, k1.trans (d6.trans r2), .sc _ .nil⟩
 ·rcases hrun with h | h
  ·exact .inr ⟨rfl, h⟩
  ·exact .inl h
 ·rw [r1]; simp only [d2, d3, hckr, hckg, hro, hgn]
 ·rw [r1]; simp only [d3, hckg, hgn]
end
theorem InS_frz {P : Program} {f : Nat} {args : List AV} {ro : Ro} {gn : Nat → Nat} {r : AV} (h : CallOK P f (args.map (ex ro 8)) r) (hI : noI r = true) : InS P f args ro gn (fun v ro' gn' => v = frzV r ∧ ro' = ro ∧ gn' = gn) := by
 obtain ⟨hE, hn, hC⟩ := h
 refine ⟨hE, fun w0 A0 F0 c Φ vs hs hro hgn hv => ?_⟩
 have hargs : RelL (cx0 c.w (fun _ => False)) (args.map (ex ro 8)) vs [] := by rw [← hro]; exact (ex_ok hs 8).2 hv
 refine (hC c.w _ vs hargs (fun _ h => h.elim) hs.gdc).mono ?_
 rintro en w' ⟨v, A', F', rfl, h1, h2, h3, h4⟩
 obtain ⟨c1, e1, e2, e3, e4, e5, e6, e7⟩ := hs.wchg w' [] h4.os h4.tape h4.output h4.size (fun k hk _ => h4.block k hk (by simp)) (by simp)
 have hr : Rel c1 (frzV r) v [] := by
  have := RelL.frz (c' := c1) h1 e1 (by simp [noIL, hI]) (fun x hx ha => by
   have := (h3 x hx).2
   rcases (e5 x).1 ha with ha | ha
   ·have := hs.al x ha; omega
   ·cases ha)
  simpa [frzL] using this
 exact ⟨v, c1, Φ, frzV r, rfl, e1, ⟨rfl, e2.trans hro, e3.trans hgn⟩, e7, e6, hr⟩
theorem InS_imp {X : WX} {f : Nat} {args : List AV} {ro : Ro} {gn : Nat → Nat} {r : AV} (b : Nat) (sl : Nat → AV) (h : CallOK X.P f (argsX ro args) r) (ho : okR args r = true) :
  InS X.P f args ro gn (fun v ro' gn' => v = (impE b gn r).v ∧ ro' = ((⟨sl, ro, gn⟩ : St).eff (impE b gn r)).ro ∧ gn' = ((⟨sl, ro, gn⟩ : St).eff (impE b gn r)).gn) := by
 have hE := h.1
 refine ⟨hE, fun w0 A0 F0 c Φ vs hs hro hgn hv => ?_⟩
 have hR : callR X.cfg b ⟨sl, ro, gn⟩ f args (impE b gn r) := by
  unfold callR
  unfold argsX at h
  simp only [okR, Bool.and_eq_true, Bool.or_eq_true] at ho
  split
  ·rename_i hp
   rw [if_pos hp] at h
   exact ⟨r, h, ho.1, rfl⟩
  ·rename_i hp
   rw [if_neg hp] at h
   exact ⟨r, h, ho.1, ho.2.resolve_left hp, rfl⟩
 refine (call_ok (C := X.cfg) (st := ⟨sl, ro, gn⟩) hs hro hgn hv hR).2.mono ?_
 rintro en w' ⟨v, c', Φ', e1, e2, e3, e4, e5, e6, e7⟩
 exact ⟨v, c', Φ', _, e1, e2, ⟨rfl, e3, e4⟩, e5, e6, e7⟩
section
variable {C : Cfg} {w0 : World} {A0 : Nat → Prop} {F0 : List Nat} {cS : Cx} {n : Nat}
theorem op_any (T : TOK C.P C.ti) (hI : InlOK C) {rid : Nat} {ops : Array Oper} {i : Nat} {o : Oper} (ho : ops[i]? = some o) {Q : St → Prop} {st : St} {a : Act} {c : Cx} {Φ : Nat → Nat → List Nat} (h : SR w0 A0 F0 cS n st a c Φ)
  (hd : ∀ t, o.dst = some t → t < n) (hq : opsW C rid ops [o] i Q st) {K : Act → World → Prop} {QQ : Exit → Act → World → Prop} (hK : ∀ st' a' c' Φ', SR w0 A0 F0 cS n st' a' c' Φ' → Q st' → K a' c'.w) : wpOp C.P ops QQ i K a c.w := by
 unfold wpOp
 rw [ho]
 dsimp only
 have main : ∀ st', stepR C rid ops i o st st' → Q st' → (if Region.wanted o (yielded ops a.tmps) then o.wp C.P a c.w K QQ ∨ (o.asks C.P a c.w ∧ LetsOut QQ) else K (a.put o.dst undef) c.w) := by
  intro st' hs hQ
  have := step_ok (w0 := w0) (A0 := A0) (F0 := F0) T h hd hs (K := K) (Q := QQ) (fun a' c' Φ' h' => hK _ _ _ _ h' hQ)
  split
  ·rename_i hw; rw [if_pos hw] at this; exact .inl this
  ·rename_i hw; rw [if_neg hw] at this; exact this
 simp only [opsW] at hq
 cases hw : zbl ops o st with
 | none => simp [hw] at hq
 | some t =>
  cases t
  ·simp only [hw] at hq; exact main _ (by unfold stepR; rw [hw]) hq
  ·simp only [hw] at hq
   rcases hq with ⟨e, h1, h2⟩ | ⟨Po, h1, h2⟩
   ·exact main _ (by unfold stepR; rw [hw]; exact ⟨e, h1, rfl⟩) h2
   ·have := step_in_ok (w0 := w0) (A0 := A0) (F0 := F0) (o := o) hI h hd h1 (K := K) (Q := QQ) (fun r ro' gn' hP a' c' Φ' h' => hK _ _ _ _ h' (h2 r ro' gn' hP))
    rw [if_pos (want_ok h hw)]
    exact .inl this
def woT (X : WX) (rid : Nat) (ops : Array Oper) : Nat → Array Bool → (St → Prop) → St → Prop
 | 0, listed, Q, st => Region.ready .any ops listed = [] ∧ Q st
 | f + 1, listed, Q, st => (Region.ready .any ops listed = [] → Q st) ∧ ∀ i, i ∈ Region.ready .any ops listed → ∃ o, ops[i]? = some o ∧ wo X rid ops [o] i (woT X rid ops f (listed.setIfInBounds i true) Q) st
theorem woT_any {X : WX} (T : TOK X.P X.ti) {rid : Nat} {ops : Array Oper} {Q : St → Prop} (hdst : ∀ o, o ∈ ops.toList → ∀ t, o.dst = some t → t < n) : ∀ (f : Nat) (listed : Array Bool) {st : St} {a : Act} {c : Cx} {Φ : Nat → Nat → List Nat}, SR w0 A0 F0 cS n st a c Φ → woT X rid ops f listed Q st →
  wpAny X.P .any ops (PostOf w0 A0 F0 cS n (fun e st => e = .normal ∧ Q st)) f listed a c.w
 | 0, listed, st, a, c, Φ, h, hq => ⟨hq.1, st, c, Φ, rfl, h, rfl, hq.2⟩
 | f + 1, listed, st, a, c, Φ, h, hq => by
  refine ⟨fun hr => ⟨st, c, Φ, rfl, h, rfl, hq.1 hr⟩, fun i hi => ?_⟩
  obtain ⟨o, ho, hw⟩ := hq.2 i hi
  have hm : o ∈ ops.toList := List.mem_of_getElem? (by simpa using ho)
  exact op_any (C := X.cfg) T (cfgOf_inl X.P X.ti) ho h (hdst o hm) (wo_ok rid ops [o] i hw) (K := wpAny X.P .any ops (PostOf w0 A0 F0 cS n (fun e st => e = .normal ∧ Q st)) f (listed.setIfInBounds i true)) (fun st' a' c' Φ' h' hq' => woT_any T hdst f _ h' hq')
theorem woT_sem {X : WX} (T : TOK X.P X.ti) (hm : X.P.follows .mixedOrders = true) {rid : Nat} {ops : Array Oper} {Q : St → Prop} {st : St} (hq : woT X rid ops ops.size (Array.replicate ops.size false) Q st) : SemC X.P (.region rid ops true) (fun e st => e = .normal ∧ Q st) st := by
 intro w0 A0 F0 cS n a c Φ h hd
 have hdst : ∀ o, o ∈ ops.toList → ∀ t, o.dst = some t → t < n := by
  intro o ho t ht
  simp only [dstOK] at hd
  have := List.all_eq_true.1 hd o ho
  simpa [ht] using this
 obtain ⟨c', Φ', hw', hs'⟩ := h.drawn (c.w.drawn + 1) (Nat.le_succ _)
 refine wp_region_any hm ?_
 rw [← hw']
 exact woT_any T hdst _ _ hs' hq
end
theorem wo_mono {X : WX} (rid : Nat) (ops : Array Oper) : ∀ (l : List Oper) (i : Nat) {Q Q' : St → Prop} {st : St}, (∀ st, Q st → Q' st) → wo X rid ops l i Q st → wo X rid ops l i Q' st := by
 intro l
 induction l with
 | nil => intro i Q Q' st hq h; exact hq _ h
 | cons o l ih =>
  intro i Q Q' st hq h
  simp only [wo] at h ⊢
  cases hw : zbl ops o st with
  | none => simp [hw] at h
  | some t =>
   cases t
   ·simp only [hw] at h ⊢; exact ih _ hq h
   ·simp only [hw] at h ⊢
    cases hc : zbm st.ev o.op with
    | none =>
     simp only [hc] at h ⊢
     cases ho : opK X.ti (site rid i) st.ro st.gn st.ev o.op with
     | none => simp only [ho] at h ⊢; obtain ⟨Po, h1, h2⟩ := h; exact ⟨Po, h1, fun r ro' gn' hP => ih _ hq (h2 r ro' gn' hP)⟩
     | some e => simp only [ho] at h ⊢; exact ih _ hq h
    | some q =>
     obtain ⟨f, args⟩ := q
     simp only [hc] at h ⊢
     cases hi : X.isIn f with
     | true => simp only [hi, cond_true] at h ⊢; obtain ⟨Po, h1, h2⟩ := h; exact ⟨Po, h1, fun r ro' gn' hP => ih _ hq (h2 r ro' gn' hP)⟩
     | false => simp only [hi, cond_false] at h ⊢; obtain ⟨r, h1, h2, h3⟩ := h; exact ⟨r, h1, h2, ih _ hq h3⟩
theorem codeW_sq {X : WX} {a b : Code} {Q : Exit → St → Prop} {st : St} {P : St → Prop} (h : WK X a [] (fun e st' => e = .normal ∧ P st') st) (hP : ∀ st', P st' → codeW X.cfg b Q st') : codeW X.cfg (.seq a b) Q st := by
 have := wk_ok a h
 show codeW X.cfg a _ st
 refine codeW_mono _ ?_ this
 rintro e st' ⟨rfl, h2⟩
 exact hP _ h2
theorem codeW_sqT {X : WX} (T : TOK X.P X.ti) (hm : X.P.follows .mixedOrders = true) {rid : Nat} {ops : Array Oper} {b : Code} {Q : Exit → St → Prop} {st : St} {P : St → Prop} (h : woT X rid ops ops.size (Array.replicate ops.size false) P st) (hP : ∀ st', P st' → codeW X.cfg b Q st') : codeW X.cfg (.seq (.region rid ops true) b) Q st :=
 .inr (.inr ⟨_, woT_sem T hm h, fun e st' h => by obtain ⟨rfl, h⟩ := h; exact hP _ h⟩)
theorem woT_1 {X : WX} {rid : Nat} {ops : Array Oper} {Q P : St → Prop} {st : St} {f i : Nat} {o : Oper} {listed : Array Bool} (hr : Region.ready .any ops listed = [i]) (ho : ops.toList[i]? = some o) (h : WO X rid ops [o] i [] (fun _ st => P st) st) (hP : ∀ st, P st → woT X rid ops f (listed.setIfInBounds i true) Q st) : woT X rid ops (f + 1) listed Q st := by
 refine ⟨fun e => ?_, fun k hk => ?_⟩
 ·rw [hr] at e; cases e
 ·rw [hr, List.mem_singleton] at hk
  subst hk
  exact ⟨o, by rw [← Array.getElem?_toList]; exact ho, wo_mono _ _ _ _ hP h⟩
theorem woT_2 {X : WX} {rid : Nat} {ops : Array Oper} {Q P P' : St → Prop} {st : St} {f i i' : Nat} {o o' : Oper} {listed : Array Bool} (hr : Region.ready .any ops listed = [i, i']) (ho : ops.toList[i]? = some o) (ho' : ops.toList[i']? = some o') (h : WO X rid ops [o] i [] (fun _ st => P st) st) (hP : ∀ st, P st → woT X rid ops f (listed.setIfInBounds i true) Q st)
  (h' : WO X rid ops [o'] i' [] (fun _ st => P' st) st) (hP' : ∀ st, P' st → woT X rid ops f (listed.setIfInBounds i' true) Q st) : woT X rid ops (f + 1) listed Q st := by
 refine ⟨fun e => ?_, fun k hk => ?_⟩
 ·rw [hr] at e; cases e
 ·rw [hr] at hk
  rcases List.mem_cons.1 hk with rfl | hk
  ·exact ⟨o, by rw [← Array.getElem?_toList]; exact ho, wo_mono _ _ _ _ hP h⟩
  ·rw [List.mem_singleton] at hk
   subst hk
   exact ⟨o', by rw [← Array.getElem?_toList]; exact ho', wo_mono _ _ _ _ hP' h'⟩
theorem codeW_sqO {X : WX} (T : TOK X.P X.ti) (hm : X.P.follows .mixedOrders = true) {rid : Nat} {ops : Array Oper} {b : Code} {Q : Exit → St → Prop} {st : St} {P : St → Prop} (hP : ∀ st', P st' → codeW X.cfg b Q st') (h : ∀ o, o = ops → woT X rid o o.size (Array.replicate o.size false) P st) : codeW X.cfg (.seq (.region rid ops true) b) Q st :=
 codeW_sqT T hm (h _ rfl) hP
end Go.Proofs.YtilfkbgdpmimlaaGreat
