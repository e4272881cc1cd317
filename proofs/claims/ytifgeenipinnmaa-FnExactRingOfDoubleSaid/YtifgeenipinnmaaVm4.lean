/- The abstract machine: what the model's operations do, at one form each. -/
import Derived.Test.YtifgeenipinnmaaVm3
set_option linter.all false
namespace Go.Proofs.Ytifgeenipinnmaa
open Go.RowKit

structure TFact (P : Program) (ti : Nat → Option TI) (t : Nat) (i : TI) : Prop where
  agg : i.isAgg = true → ∃ fs, P.underlying t = some (.struct fs) ∧ ∀ (k off ft : Nat), i.flds[k]? = some (off, ft) → ∃ (f : Field) (inf : TypeInfo), fs[k]? = some f ∧ f.offset = off ∧ f.type = ft ∧ P.info? ft = some inf ∧ inf.size ≠ 0 ∧ ∀ fi, ti ft = some fi → fi.size = inf.size
  flat : i.isAgg = false → ∃ d, P.underlying t = some d ∧ (∀ fs, d ≠ .struct fs) ∧ (∀ n e, d ≠ .array n e)
  info : ∃ inf z, P.info? t = some inf ∧ inf.size = i.size ∧ inf.zero = some z ∧ z.cells.toList = i.zero
  elem : ∀ e : Nat, i.elem = some e → P.underlying t = some (.slice e) ∧ ∃ ie inf z, ti e = some ie ∧ P.info? e = some inf ∧ inf.size = 1 ∧ inf.bytes ≤ 1024 ∧ inf.zero = some z ∧ z.cells = #[ie.zero.getD 0 undef]
  ik : ∀ k, i.ik = some k → P.underlying t = some (.int k)
  str : i.str = true → P.underlying t = some .string
  bl : i.bl = true → P.underlying t = some .bool
  zl : i.zero.length ≤ 65536
  all : ∀ fs, P.underlying t = some (.struct fs) → ∀ f, f ∈ fs.toList → ∃ in3, P.info? f.type = some in3
  one : i.isAgg = false → i.size = 1

structure TOK (P : Program) (ti : Nat → Option TI) : Prop where
  ok : ∀ t i, ti t = some i → TFact P ti t i

section
variable {P : Program} {ti : Nat → Option TI}

theorem semPure_run {α : Type} {e : Sem α} {v : α} (h : semPure e = some v) (w : World) : e.run P w = .ok v w := by
  cases e <;> simp [semPure] at h
  subst h; rfl

theorem addr_add (g b i : Nat) : (⟨g, b, none⟩ : Addr).add i = ⟨g, b + i, none⟩ := by
  unfold Addr.add; split <;> simp_all

theorem run_load_flat (T : TOK P ti) {t : Nat} {i : TI} (hi : ti t = some i) (ha : i.isAgg = false) (w : World) (a : Addr) (v : Value) (hv : w.cell? a = some v) :
    (Instr.loadAt t (.pointer (some a))).run P w = .ok v w := by
  obtain ⟨d, hd, h1, h2⟩ := (T.ok t i hi).flat ha
  have hagg : (isAgg t).run P w = .ok false w := by
    unfold isAgg
    simp only [Sem.run_bind, run_underlying hd, Result.andThen_ok]
    cases d <;> simp_all
  simp [Instr.loadAt, Instr.sureAddr, loadVar, hagg, hv]

theorem run_load_agg (T : TOK P ti) {t : Nat} {i : TI} (hi : ti t = some i) (ha : i.isAgg = true) (w : World) (g b : Nat) (vs : List Value) (hl : vs.length = i.size)
    (hv : ∀ j v, vs[j]? = some v → w.cell? ⟨g, b + j, none⟩ = some v) :
    (Instr.loadAt t (.pointer (some ⟨g, b, none⟩))).run P w = .ok (.agg vs.toArray) w := by
  obtain ⟨fs, hd, _⟩ := (T.ok t i hi).agg ha
  obtain ⟨inf, z, hinf, hs, _⟩ := (T.ok t i hi).info
  have hagg : (isAgg t).run P w = .ok true w := by
    unfold isAgg
    simp only [Sem.run_bind, run_underlying hd, Result.andThen_ok]
    simp
  have hload := run_loadCells_list (P := P) w ⟨g, b, none⟩ vs (fun j v h => by rw [addr_add]; exact hv j v h)
  rw [hl] at hload
  simp [Instr.loadAt, Instr.sureAddr, loadVar, hagg, sizeOf, typeInfo, hinf, hs, hload]

theorem run_fieldAt (T : TOK P ti) {t : Nat} {i : TI} (hi : ti t = some i) {k off ft : Nat} (hf : i.flds[k]? = some (off, ft)) (ha : i.isAgg = true) (w : World) (g b : Nat) :
    (Instr.fieldAt t (.pointer (some ⟨g, b, none⟩)) k).run P w = .ok (.pointer (some ⟨g, b + off, none⟩)) w := by
  obtain ⟨fs, hd, h⟩ := (T.ok t i hi).agg ha
  obtain ⟨f, inf, h1, h2, h3, h4, h5, _⟩ := h k off ft hf
  simp [Instr.fieldAt, run_underlying hd, h1, Instr.sureAddr, fieldPlace, sizeOf, typeInfo, h3, h4, h5, h2, addr_add]

theorem run_field (T : TOK P ti) {t : Nat} {i fi : TI} (hi : ti t = some i) {k off ft : Nat} (hf : i.flds[k]? = some (off, ft)) (ha : i.isAgg = true) (hfi : ti ft = some fi) (w : World) (vs : List Value) (_hl : off + fi.size ≤ vs.length) :
    (fi.isAgg = true → (Instr.field t (.agg vs.toArray) k).run P w = .ok (.agg ((vs.drop off).take fi.size).toArray) w) ∧
    (fi.isAgg = false → ∀ v, vs[off]? = some v → (Instr.field t (.agg vs.toArray) k).run P w = .ok v w) := by
  obtain ⟨fs, hd, h⟩ := (T.ok t i hi).agg ha
  obtain ⟨f, inf, h1, h2, h3, h4, h5, h6⟩ := h k off ft hf
  have hsz := h6 fi hfi
  constructor
  · intro hag
    obtain ⟨fs', hd', _⟩ := (T.ok ft fi hfi).agg hag
    simp [Instr.field, run_underlying hd, h1, asAgg, part, isAgg, h3, run_underlying hd', sizeOf, typeInfo, h4, h2]
    rw [hsz]
  · intro hag v hv
    obtain ⟨d, hd', n1, n2⟩ := (T.ok ft fi hfi).flat hag
    have : (isAgg ft).run P w = .ok false w := by
      unfold isAgg
      simp only [Sem.run_bind, run_underlying hd', Result.andThen_ok]
      cases d <;> simp_all
    simp [Instr.field, run_underlying hd, h1, asAgg, part, h3, this, h2, hv]

theorem run_indexAt (T : TOK P ti) {t e : Nat} {i : TI} (hi : ti t = some i) (he : i.elem = some e) (w : World) (g b n cap : Nat) (k : IntKind) (j : Int) (h0 : 0 ≤ j) (hj : j < n) :
    (Instr.indexAt t (.slice (some ⟨g, b, none⟩) n cap) (.int k j)).run P w = .ok (.pointer (some ⟨g, b + j.toNat, none⟩)) w := by
  obtain ⟨hd, ie, inf, z, _, h2, h3, _⟩ := (T.ok t i hi).elem e he
  simp [Instr.indexAt, asIntOf, run_underlying hd, h0, hj, sizeOf, typeInfo, h2, h3, addr_add]

theorem run_alloc (T : TOK P ti) {t : Nat} {i : TI} (hi : ti t = some i) (w : World) :
    (Instr.alloc t true (.tuple #[])).run P w = .ok (.pointer (some ⟨w.heap.size, 0, none⟩)) (w.alloc (.cells i.zero.toArray t)) := by
  obtain ⟨inf, z, hinf, hs, hz, hzc⟩ := (T.ok t i hi).info
  have : z.cells = i.zero.toArray := by rw [← hzc]
  simp [Instr.alloc, zeroValue, typeInfo, hinf, hz, newVar, newRow, this]

theorem run_box (w : World) (t : Nat) (v : Value) :
    (Instr.box t v).run P w = .ok (.pointer (some ⟨w.heap.size, 0, none⟩)) (w.alloc (.cells v.cells t)) := by
  simp [Instr.box, newVar, newRow]

theorem oneV_eq (v : Value) : oneV v = v.oneCell' := by cases v <;> rfl

theorem run_storeAt (T : TOK P ti) {t : Nat} {i : TI} (hi : ti t = some i) (w : World) (g b : Nat) (v : Value) (arr : Array Value) (E : Nat) (hg : w.heap[g]? = some (.cells arr E (0, 0)))
    (hs : v.cells.size = i.size) (hfit : b + v.cells.size ≤ arr.size) (h1 : ∀ u, u ∈ v.cells.toList → oneV u = true) :
    (Instr.storeAt t (.pointer (some ⟨g, b, none⟩)) v).run P w = .ok () (w.setRow g (arr.toList.take b ++ v.cells.toList ++ arr.toList.drop (b + v.cells.size)).toArray) := by
  obtain ⟨inf, z, hinf, hsz, _⟩ := (T.ok t i hi).info
  have hst := run_storeCells_at P g b E v.cells.toList 0 arr w hg (by simpa using hfit) (fun u hu => by rw [← oneV_eq]; exact h1 u hu)
  simp only [Nat.add_zero, Array.length_toList] at hst
  simp [Instr.storeAt, Instr.sureAddr, storeVar, sizeOf, typeInfo, hinf, hsz, hs, hst]

/-- append, where there is room. -/
theorem run_app_room (T : TOK P ti) {t e : Nat} {i : TI} (hi : ti t = some i) (he : i.elem = some e) (w : World) (ty g b n cap : Nat) (arr : Array Value) (E : Nat) (hg : w.heap[g]? = some (.cells arr E (0, 0)))
    (x : Value) (news : List Value) (m : Nat) (hm : news.length = m) (hlen : (Builtin.lenOf x).run P w = .ok m w) (hx : (Builtin.firstCells 1 m x).run P w = .ok news.toArray w) (h1 : ∀ u, u ∈ news → oneV u = true)
    (hroom : n + m ≤ cap) (hfit : b + n + m ≤ arr.size) :
    (Builtin.append_ #[t, t] ty #[.slice (some ⟨g, b, none⟩) n cap, x]).run P w =
      .ok (.slice (some ⟨g, b, none⟩) (n + m) cap) (w.setRow g (arr.toList.take (b + n) ++ news ++ arr.toList.drop (b + n + m)).toArray) := by
  obtain ⟨hd, ie, inf, z, _, h2, h3, _⟩ := (T.ok t i hi).elem e he
  have hst := run_storeCells_at P g (b + n) E news 0 arr w hg (by omega) (fun u hu => by rw [← oneV_eq]; exact h1 u hu)
  simp only [Nat.add_zero, hm] at hst
  simp [Builtin.append_, run_underlying hd, sizeOf, typeInfo, h2, h3, hlen, hroom, hx, addr_add, hst]

/-- append, where it must grow. -/
theorem run_app_grow (T : TOK P ti) {t e : Nat} {i : TI} (hi : ti t = some i) (he : i.elem = some e) (w : World) (ty : Nat) (s : Value) (a : Option Addr) (n cap : Nat) (hs : s = .slice a n cap) (olds : List Value)
    (hold : ∀ w', w'.heap = w.heap → (Builtin.firstCells 1 n s).run P w' = .ok olds.toArray w')
    (x : Value) (news : List Value) (m : Nat) (_hm : news.length = m) (hlen : (Builtin.lenOf x).run P w = .ok m w) (hx : ∀ w', w'.heap = w.heap → (Builtin.firstCells 1 m x).run P w' = .ok news.toArray w')
    (hg : cap < n + m) (hb : n + m ≤ 4294967296) :
    ∃ newcap rest, n + m ≤ newcap ∧ newcap ≤ maxLen ∧ rest.length = newcap - (n + m) ∧
    (Builtin.append_ #[t, t] ty #[s, x]).run P w =
      .ok (.slice (some ⟨w.heap.size, 0, none⟩) (n + m) newcap) (w.drew.alloc (.cells (olds ++ news ++ rest).toArray e)) := by
  obtain ⟨hd, ie, inf, z, _, h2, h3, h4, h5, h6⟩ := (T.ok t i hi).elem e he
  refine ⟨grownCap w (n + m) cap e, (Builtin.zeroCells z.cells (grownCap w (n + m) cap e - (n + m))).toList, grownCap_ge _ _ _ _, grownCap_le_maxLen _ _ _ _ (by unfold maxLen; omega), ?_, ?_⟩
  · rw [Array.length_toList, size_zeroCells, h6]; simp
  have hn : ¬ (n + m ≤ cap) := by omega
  have h63' : ¬ (9223372036854775807 < ((n : Int) + (m : Int))) := by omega
  have h48 : Builtin.nextslicecap (n + m) cap * inf.bytes ≤ 281474976710656 := growslice_fits (by omega) (by
    have : (n + m) * inf.bytes ≤ 4294967296 * 1024 := Nat.mul_le_mul hb h4
    omega)
  have h48' : ¬ (281474976710656 < Builtin.nextslicecap (n + m) cap * inf.bytes) := by omega
  have ho := hold w.drew rfl
  have hx' := hx w.drew rfl
  subst hs
  simp [Builtin.append_, run_underlying hd, sizeOf, typeInfo, zeroValue, h2, h3, h5, hlen, hn, h63', h48', Question.forced, ho, hx', newRow, grownCap]
  congr 2
  apply Array.ext'
  simp

end

end Go.Proofs.Ytifgeenipinnmaa
