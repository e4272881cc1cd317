/- Texts joined: S1 S2 S3 S4 S5 S6. -/
import Derived.Shelf.SortG.Plain
import Derived.Shelf.SlicesE.Compact
import Derived.Shelf.SortG.SortNone
import Derived.Test.YtbopenehooiekaaGreatMm
import Derived.Test.YtbopenehooiekaaGreatMw
set_option linter.all false
/- Functions of the library that turn a row of numbers in place: their contracts (the kit's) as contracts of the machine. -/
namespace Go.Proofs.YtbopenehooiekaaGreat
open Go.RowKit Go.Sort
set_option maxRecDepth 1000000

theorem pr_other (enc : Int → Value) (w : World) (g off : Nat) (d : Array Int) (k : Nat) (h : k ≠ g) : (putRow enc w g off d).heap[k]? = w.heap[k]? := by
  simp only [putRow, mapBlock, Array.getElem?_modify]
  rw [if_neg (Ne.symm h)]
theorem pr_same (enc : Int → Value) (w : World) (g off : Nat) (d : Array Int) {arr : Array Value} {E : TypeId} {fr : Nat × Nat} (h : w.heap[g]? = some (.cells arr E fr)) : (putRow enc w g off d).heap[g]? = some (.cells (putCells enc off d arr) E fr) := by
  simp only [putRow, mapBlock, Array.getElem?_modify, if_true, h, Option.map_some, onCells]
theorem putCells_eq (ys : List Int) (arr : Array Value) (off : Nat) (h : off + ys.length ≤ arr.size) :
    putCells (Value.int .i64) off ys.toArray arr = (arr.toList.take off ++ ys.map (Value.int .i64) ++ arr.toList.drop (off + ys.length)).toArray := by
  have hlt : (arr.toList.take off).length = off := by rw [List.length_take, Array.length_toList]; omega
  apply Array.ext_getElem?
  intro k
  simp only [putCells, Array.getElem?_mapIdx, List.getElem?_toArray, List.size_toArray]
  by_cases e1 : k < off
  · rw [List.append_assoc, List.getElem?_append_left (by omega), List.getElem?_take, if_pos e1, Array.getElem?_toList]
    cases hk : arr[k]? with
    | none => rfl
    | some u => simp only [Option.map_some]; rw [if_neg (by omega)]
  · by_cases e2 : k < off + ys.length
    · have hka : k < arr.size := by omega
      rw [List.getElem?_append_left (by simp only [List.length_append, List.length_map]; omega), List.getElem?_append_right (by omega), hlt, Array.getElem?_eq_getElem hka, Option.map_some, if_pos ⟨by omega, e2⟩, List.getElem?_map, List.getElem?_eq_getElem (by omega)]
      simp only [Option.map_some]
      congr 2
      exact getElem!_pos ys.toArray (k - off) (by simp only [List.size_toArray]; omega)
    · rw [List.getElem?_append_right (by simp only [List.length_append, List.length_map]; omega)]
      simp only [List.length_append, List.length_map, hlt, List.getElem?_drop, Array.getElem?_toList]
      rw [show off + ys.length + (k - (off + ys.length)) = k by omega]
      cases hk : arr[k]? with
      | none => rfl
      | some u => simp only [Option.map_some]; rw [if_neg (by omega)]
theorem setL_full {α : Type} (ds cs : List α) (h : ds.length = cs.length) : setL 0 ds cs = ds := by
  apply List.ext_getElem?
  intro k
  rw [getElem?_setL, if_neg (by omega)]
  by_cases hk : k < ds.length
  · rw [if_pos ⟨by omega, by omega⟩, Nat.sub_zero]
  · rw [if_neg (by omega), List.getElem?_eq_none (by omega), List.getElem?_eq_none (by omega)]

/-- What such a function answers: nothing, or the first k elements. -/
def rvV (k : Option Nat) (g off cap : Nat) : Value := match k with
  | none => .tuple #[]
  | some k => .slice (some ⟨g, off, none⟩) k cap
def rvB (k : Option Nat) (s g : Nat) : AV := match k with
  | none => .tup []
  | some k => .ref s g [] 0 k

theorem in_row {P : Program} {f : Nat} {ro : Ro} {gn : Nat → Nat} {s g : Nat} {xs ys : List Int} (k : Option Nat) (hE : Enter P f) (hro : ro s g = some (rowL xs)) (hl : ys.length = xs.length) (hk : ∀ n, k = some n → n ≤ xs.length)
    (h : ∀ (b off cap : Nat) (w : World), Holds (Value.int .i64) w b off xs.toArray → b < w.heap.size → xs.length ≤ cap →
      Calls P f #[.slice (some ⟨b, off, none⟩) xs.length cap] w fun e w' => e = .returned (rvV k b off cap) ∧ ∃ n os, w' = grow (putRow (Value.int .i64) (Sort.ahead w n) b off ys.toArray) os) :
    InOK P f [.ref s g [] 0 xs.length] ro gn (rvB k s g) (upr ro s g (rowL ys)) gn := by
  refine ⟨hE, fun w0 A0 F0 c Φ vs hS hcro hcgn hv => ?_⟩
  obtain ⟨v, vs', rfl, h1, h2⟩ := RelL.uncons0 hv
  obtain rfl := (RelL.nilF h2).1
  obtain ⟨hg, hpl⟩ := Rel.ref_inv h1
  have hcells : c.ro.cells s g [] = some (xs.map i64) := by rw [hcro]; simp only [Ro.cells, hro, rowL, blk]
  obtain ⟨x, hx, hh, hle⟩ := hpl _ hcells
  have hhd := hh
  obtain ⟨b', cap, arr, E, rfl, hb', hheap, hsz, hn, hcap⟩ := hh
  -- what stands there
  obtain ⟨x1, us, F, cap1, hx1, hrel, hown, -, -, -, -⟩ := hS.place hcells
  rw [hx] at hx1
  obtain rfl : x = x1 := by simpa using hx1
  have husl : us.length = xs.length := by rw [← hrel.len, List.length_map]
  have hus : ∀ j, (hj : j < xs.length) → us[j]? = some (Value.int .i64 xs[j]) := by
    intro j hj
    have hj' : (xs.map i64)[j]? = some (i64 xs[j]) := by rw [List.getElem?_map, List.getElem?_eq_getElem hj]; rfl
    obtain ⟨l, r, vl, u, vr, Fl, Fa, Fr, e1, hll, e2, hvl, e3, -, hA, -⟩ := hrel.nth hj'
    obtain ⟨rfl, -⟩ := Rel.sc_inv hA
    rw [e2, List.getElem?_append_right (by omega), hvl, Nat.sub_self]
    rfl
  have hoff : 0 < xs.length → b' = x.2 := by
    intro h0
    rcases hb' with e | e
    · omega
    · omega
  have hH : Holds (Value.int .i64) c.w x.1 b' xs.toArray := by
    intro j hj
    have hj' : j < xs.length := by simpa using hj
    obtain rfl := hoff (by omega)
    refine ⟨?_, ?_⟩
    · rw [hown.cell (hus j hj'), getElem!_pos xs.toArray j hj]
      rfl
    · simp only [World.frozen?, hheap]
      simp
  have hblk : x.1 < c.w.heap.size := (Array.getElem?_eq_some_iff.1 hheap).1
  -- the store
  have hRs : RelL c (ys.map i64) (ys.map (Value.int .i64)) [] := by
    have := relL_sc c (ys.map (Value.int .i64))
    rw [List.map_map] at this
    exact this
  obtain ⟨x2, arr2, E2, hx2, hheap2, hfit, c1, Φ1, e1, e2, e3, e4, kp, hS1⟩ := hS.store hcells 0 (ys.map i64) (ys.map (Value.int .i64)) (by simp [hl]) hRs (by
    intro a ha ds e
    obtain ⟨z, -, rfl⟩ := List.mem_map.1 ha
    cases e)
  rw [hx] at hx2
  obtain rfl : x = x2 := by simpa using hx2
  rw [hheap] at hheap2
  obtain ⟨rfl, rfl⟩ : arr = arr2 ∧ E = E2 := by simpa using hheap2
  refine (h x.1 b' cap c.w hH hblk hn).mono ?_
  rintro e w' ⟨rfl, n, os, rfl⟩
  have hpc : putCells (Value.int .i64) b' ys.toArray arr = (arr.toList.take (x.2 + 0) ++ ys.map (Value.int .i64) ++ arr.toList.drop (x.2 + 0 + (ys.map (Value.int .i64)).length)).toArray := by
    rw [putCells_eq ys arr b' (by omega), List.length_map]
    by_cases h0 : 0 < xs.length
    · rw [hoff h0, Nat.add_zero]
    · have : ys = [] := List.length_eq_zero_iff.1 (by omega)
      subst this
      simp
  have hs1 : c1.w.heap.size = c.w.heap.size := by rw [e1]; simp [World.setRow]
  obtain ⟨c2, f1, f2, f3, f4, f5, f6, f7⟩ := hS1.wchg (grow (putRow (Value.int .i64) (Sort.ahead c.w n) x.1 b' ys.toArray) os) [] (by rw [e1]; rfl) (by rw [e1]; rfl) (by rw [e1]; rfl) (by rw [hs1]; simp)
    (fun b hb _ => by
      rw [hs1] at hb
      rw [heap_grow_old _ _ (by simp; exact hb), e1]
      by_cases hbx : b = x.1
      · subst hbx
        rw [pr_same (w := Sort.ahead c.w n) _ _ _ _ hheap, setRow_heap _ _ _ _ _ _ hheap, hpc]
      · rw [pr_other _ _ _ _ _ _ hbx, setRow_other _ _ _ _ hbx]; rfl)
    (fun x hx => by cases hx)
  refine ⟨rvV k x.1 b' cap, c2, Φ1, rfl, f1, ?_, ?_, f7, kp.trans f6, ?_⟩
  · rw [f2, e2, hcro, zfb, hro]
    simp only [rowL, zfc]
    rw [setL_full _ _ (by simp [hl])]
  · rw [f3, e3, hcgn]
  · cases k with
    | none => exact .tup .nil (by simp) .nil
    | some n' =>
      have hm := ((h1.mono kp (by simp)).mono f6 (by simp))
      obtain ⟨hg2, hpl2⟩ := Rel.ref_inv hm
      refine .ref s g [] 0 n' _ hg2 (fun cs hcs => ?_) .nil
      obtain ⟨y, hy, hyh, hyl⟩ := hpl2 cs hcs
      have hn' := hk n' rfl
      obtain ⟨b2, cap2, arr3, E3, q1, q2, q3, q4, q5, q6⟩ := hyh
      simp only [Value.slice.injEq, Option.some.injEq, Addr.mk.injEq] at q1
      obtain ⟨⟨r1, r2, -⟩, -, r3⟩ := q1
      exact ⟨y, hy, ⟨b2, cap2, arr3, E3, by rw [r1, r2, r3]; rfl, q2, q3, q4, by omega, q6⟩, by omega⟩
end Go.Proofs.YtbopenehooiekaaGreat

/- slices.Sort and slices.Compact at this program: the kit's contracts, laid (plain text, by lay.py). -/
namespace Go.Proofs.YtbopenehooiekaaGreat
open Go.RowKit Go.Sort
set_option maxRecDepth 1000000

def laysSort_ren : Go.Shelf.Ren := ⟨fun | 53 => 62 | 64 => 110 | 63 => 109 | 78 => 174 | 79 => 175 | 70 => 165 | 71 => 166 | 72 => 167 | 73 => 168 | 74 => 169 | 75 => 170 | 59 => 171 | 76 => 172 | 77 => 173 | 88 => 210 | 89 => 211 | 90 => 212 | 91 => 213 | 92 => 214 | 68 => 215 | 96 => 236 | n => n, fun | 22 => 23 | 23 => 2 | 3 => 3 | 51 => 104 | 0 => 0 | 67 => 153 | 69 => 68 | 4 => 4 | 61 => 145 | 60 => 144 | 44 => 150 | 5 => 5 | 9 => 9 | 75 => 170 | 79 => 174 | 83 => 187 | 84 => 188 | n => n, fun n => n⟩
theorem laysSort : SlLaysN.n53 Tryz.prog laysSort_ren where
  mixed := by kernel_rfl
  f53 := ⟨"slices.Sort[[]int64,int64]", by decide, Tryz.func62.trans (congrArg some (by kernel_rfl))⟩
  f59 := ⟨"cmp.Less[int64]", by decide, Tryz.func171.trans (congrArg some (by kernel_rfl))⟩
  f63 := ⟨"slices.pdqsortOrdered[int64]", by decide, Tryz.func109.trans (congrArg some (by kernel_rfl))⟩
  f64 := Tryz.func110.trans (congrArg some (by kernel_rfl))
  f68 := ⟨"cmp.isNaN[int64]", by decide, Tryz.func215.trans (congrArg some (by kernel_rfl))⟩
  f70 := ⟨"slices.insertionSortOrdered[int64]", by decide, Tryz.func165.trans (congrArg some (by kernel_rfl))⟩
  f71 := ⟨"slices.heapSortOrdered[int64]", by decide, Tryz.func166.trans (congrArg some (by kernel_rfl))⟩
  f72 := ⟨"slices.breakPatternsOrdered[int64]", by decide, Tryz.func167.trans (congrArg some (by kernel_rfl))⟩
  f73 := ⟨"slices.choosePivotOrdered[int64]", by decide, Tryz.func168.trans (congrArg some (by kernel_rfl))⟩
  f74 := ⟨"slices.reverseRangeOrdered[int64]", by decide, Tryz.func169.trans (congrArg some (by kernel_rfl))⟩
  f75 := ⟨"slices.partialInsertionSortOrdered[int64]", by decide, Tryz.func170.trans (congrArg some (by kernel_rfl))⟩
  f76 := ⟨"slices.partitionEqualOrdered[int64]", by decide, Tryz.func172.trans (congrArg some (by kernel_rfl))⟩
  f77 := ⟨"slices.partitionOrdered[int64]", by decide, Tryz.func173.trans (congrArg some (by kernel_rfl))⟩
  f78 := Tryz.func174.trans (congrArg some (by kernel_rfl))
  f79 := Tryz.func175.trans (congrArg some (by kernel_rfl))
  f88 := ⟨"slices.siftDownOrdered[int64]", by decide, Tryz.func210.trans (congrArg some (by kernel_rfl))⟩
  f89 := Tryz.func211.trans (congrArg some (by kernel_rfl))
  f90 := Tryz.func212.trans (congrArg some (by kernel_rfl))
  f91 := ⟨"slices.medianAdjacentOrdered[int64]", by decide, Tryz.func213.trans (congrArg some (by kernel_rfl))⟩
  f92 := ⟨"slices.medianOrdered[int64]", by decide, Tryz.func214.trans (congrArg some (by kernel_rfl))⟩
  f96 := ⟨"slices.order2Ordered[int64]", by decide, Tryz.func236.trans (congrArg some (by kernel_rfl))⟩
  t0 := Tryz.underlying0
  a0 := Tryz.isAgg0
  z0 := Tryz.sizeOf0
  v0 := Tryz.zeroValue0
  t3 := Tryz.underlying3
  a3 := Tryz.isAgg3
  z3 := Tryz.sizeOf3
  v3 := Tryz.zeroValue3
  t4 := Tryz.underlying4
  a4 := Tryz.isAgg4
  z4 := Tryz.sizeOf4
  v4 := Tryz.zeroValue4
  t5 := Tryz.underlying5
  a5 := Tryz.isAgg5
  z5 := Tryz.sizeOf5
  v5 := Tryz.zeroValue5
  t9 := Tryz.underlying9
  a9 := Tryz.isAgg9
  z9 := Tryz.sizeOf9
  v9 := Tryz.zeroValue9
  t22 := Tryz.underlying23
  a22 := Tryz.isAgg23
  z22 := Tryz.sizeOf23
  v22 := Tryz.zeroValue23
  t23 := Tryz.underlying2
  a23 := Tryz.isAgg2
  z23 := Tryz.sizeOf2
  v23 := Tryz.zeroValue2
  t44 := Tryz.underlying150
  a44 := Tryz.isAgg150
  z44 := Tryz.sizeOf150
  v44 := Tryz.zeroValue150
  t51 := Tryz.underlying104
  a51 := Tryz.isAgg104
  z51 := Tryz.sizeOf104
  v51 := Tryz.zeroValue104
  t60 := Tryz.underlying144
  a60 := Tryz.isAgg144
  z60 := Tryz.sizeOf144
  v60 := Tryz.zeroValue144
  t61 := Tryz.underlying145
  a61 := Tryz.isAgg145
  z61 := Tryz.sizeOf145
  v61 := Tryz.zeroValue145
  t67 := Tryz.underlying153
  a67 := Tryz.isAgg153
  z67 := Tryz.sizeOf153
  v67 := Tryz.zeroValue153
  t69 := Tryz.underlying68
  a69 := Tryz.isAgg68
  z69 := Tryz.sizeOf68
  v69 := Tryz.zeroValue68
  t75 := Tryz.underlying170
  a75 := Tryz.isAgg170
  z75 := Tryz.sizeOf170
  v75 := Tryz.zeroValue170
  t79 := Tryz.underlying174
  a79 := Tryz.isAgg174
  z79 := Tryz.sizeOf174
  v79 := Tryz.zeroValue174
  t83 := Tryz.underlying187
  a83 := Tryz.isAgg187
  z83 := Tryz.sizeOf187
  v83 := Tryz.zeroValue187
  t84 := Tryz.underlying188
  a84 := Tryz.isAgg188
  z84 := Tryz.sizeOf188
  v84 := Tryz.zeroValue188
def laysCompact_ren : Go.Shelf.Ren := ⟨fun | 43 => 63 | n => n, fun | 22 => 23 | 23 => 2 | 3 => 3 | 4 => 4 | 0 => 0 | n => n, fun n => n⟩
theorem laysCompact : SlLaysE.n43 Tryz.prog laysCompact_ren where
  mixed := by kernel_rfl
  f43 := ⟨"slices.Compact[[]int64,int64]", by decide, Tryz.func63.trans (congrArg some (by kernel_rfl))⟩
  t0 := Tryz.underlying0
  a0 := Tryz.isAgg0
  z0 := Tryz.sizeOf0
  v0 := Tryz.zeroValue0
  t3 := Tryz.underlying3
  a3 := Tryz.isAgg3
  z3 := Tryz.sizeOf3
  v3 := Tryz.zeroValue3
  t4 := Tryz.underlying4
  a4 := Tryz.isAgg4
  z4 := Tryz.sizeOf4
  v4 := Tryz.zeroValue4
  t22 := Tryz.underlying23
  a22 := Tryz.isAgg23
  z22 := Tryz.sizeOf23
  v22 := Tryz.zeroValue23
  a23 := Tryz.isAgg2
  z23 := Tryz.sizeOf2

def srt (xs : List Int) : List Int := xs.mergeSort fun x y => decide (x ≤ y)
theorem srt_len (xs : List Int) : (srt xs).length = xs.length := by simp [srt]
theorem cSort {ro : Ro} {gn : Nat → Nat} {s g : Nat} {xs : List Int} (hro : ro s g = some (rowL xs)) (hx : xs.length ≤ maxN) : InOK Tryz.prog 62 [.ref s g [] 0 xs.length] ro gn (.tup []) (upr ro s g (rowL (srt xs))) gn := by
  have hx' : xs.length ≤ 4294967296 := hx
  exact in_row none ⟨_, Tryz.func62, by kernel_rfl, by kernel_rfl⟩ hro (srt_len xs) (fun n h => by cases h) fun b off cap w hH hb hc => AnyG.slices_Sort_int laysSort b off cap xs w hH hb (by omega)

/-- How many are left of a list by slices.Compact. -/
def cpl (xs : List Int) : Nat := (Go.Lib.compactUpTo xs.toArray xs.toArray.size).length
def cpA (xs : List Int) : List Int := Go.Lib.compactUpTo xs.toArray xs.toArray.size ++ List.replicate (xs.toArray.size - (Go.Lib.compactUpTo xs.toArray xs.toArray.size).length) 0
theorem cpl_le (xs : List Int) : cpl xs ≤ xs.length := by
  unfold cpl Go.Lib.compactUpTo
  rw [List.length_map]
  refine Nat.le_trans (List.length_filter_le _ _) ?_
  simp
theorem cpA_len (xs : List Int) : (cpA xs).length = xs.length := by
  have := cpl_le xs
  unfold cpl at this
  simp only [cpA, List.length_append, List.length_replicate]
  have e : xs.toArray.size = xs.length := by simp
  omega
theorem cCpt {ro : Ro} {gn : Nat → Nat} {s g : Nat} {xs : List Int} (hro : ro s g = some (rowL xs)) (hx : xs.length ≤ maxN) : InOK Tryz.prog 63 [.ref s g [] 0 xs.length] ro gn (.ref s g [] 0 (cpl xs)) (upr ro s g (rowL (cpA xs))) gn := by
  have hx' : xs.length ≤ 4294967296 := hx
  refine in_row (some (cpl xs)) ⟨_, Tryz.func63, by kernel_rfl, by kernel_rfl⟩ hro (cpA_len xs) (fun n h => by cases h; exact cpl_le xs) fun b off cap w hH hb hc => ?_
  refine (AnyE.slices_Compact laysCompact (Value.int .i64) (fun _ => rfl) (EqlAt.intD _ _ _) (NeqAt.intD _ _ _) 0 Tryz.zeroValue2 b off cap xs.toArray w hH (by simp; omega) (by simpa using hc)).mono ?_
  rintro e w' ⟨rfl, q, rfl⟩
  exact ⟨rfl, q, #[], by rw [grow_empty]; rfl⟩
end Go.Proofs.YtbopenehooiekaaGreat

/- Permutations: the program's test of them and the reference's. -/
namespace Go.Proofs.YtbopenehooiekaaGreat
open Go.RowKit
set_option maxRecDepth 1000000

theorem sub_perm : ∀ {l1 l2 : List Int}, l1.Nodup → (∀ x, x ∈ l1 → x ∈ l2) → l1.length = l2.length → l1.Perm l2
  | [], l2, _, _, hl => by
    have : l2 = [] := List.length_eq_zero_iff.1 (by simpa using hl.symm)
    rw [this]
  | a :: l1, l2, hn, hs, hl => by
    have ha : a ∈ l2 := hs a (by simp)
    have hn' := List.nodup_cons.1 hn
    have h1 := List.length_erase_of_mem ha
    have ih := sub_perm (l1 := l1) (l2 := l2.erase a) hn'.2 (fun x hx => by
      have hxa : x ≠ a := fun e => hn'.1 (e ▸ hx)
      exact (List.mem_erase_of_ne hxa).2 (hs x (by simp [hx]))) (by rw [h1]; simp at hl; omega)
    exact (List.Perm.cons a ih).trans (List.perm_cons_erase ha).symm

def rng (n : Nat) : List Int := (List.range n).map fun (i : Nat) => (i : Int)
theorem rng_len (n : Nat) : (rng n).length = n := by simp [rng]
theorem rng_mem {n : Nat} {x : Int} : x ∈ rng n ↔ ∃ i : Nat, i < n ∧ (i : Int) = x := by simp [rng]
theorem rng_nodup (n : Nat) : (rng n).Nodup := by
  unfold rng List.Nodup
  rw [List.pairwise_map]
  exact (List.nodup_range (n := n)).imp fun h e => h (by omega)

theorem srt_perm (xs : List Int) : (srt xs).Perm xs := List.mergeSort_perm _ _
theorem srt_le (xs : List Int) : (srt xs).Pairwise fun a b => a ≤ b := by
  have := List.pairwise_mergeSort (le := fun (a b : Int) => decide (a ≤ b)) (fun a b c h1 h2 => by simp at *; omega) (fun a b => by simp; omega) xs
  exact this.imp fun h => by simpa using h

theorem cpl_iff (xs : List Int) : cpl (srt xs) = xs.length ↔ xs.Nodup := by
  rw [← (srt_perm xs).nodup_iff, ← srt_len xs]
  have hle := srt_le xs
  generalize srt xs = l at hle
  unfold cpl Go.Lib.compactUpTo
  rw [List.length_map]
  have e : l.length = (List.range l.toArray.size).length := by simp
  rw [e, List.length_filter_eq_length_iff]
  have hg : ∀ k, (hk : k < l.length) → l.toArray[k]! = l[k] := fun k hk => getElem!_pos l.toArray k (by simpa using hk)
  rw [List.pairwise_iff_getElem] at hle
  constructor
  · intro h
    unfold List.Nodup
    rw [List.pairwise_iff_getElem]
    intro i j hi hj hij
    have h1 := h j (by simpa using hj)
    simp only [Go.Lib.keeps, decide_eq_true_eq, ne_eq] at h1
    rcases h1 with h1 | h1
    · omega
    · rw [hg j hj, hg (j - 1) (by omega)] at h1
      have h2 := hle (j - 1) j (by omega) hj (by omega)
      by_cases e2 : i = j - 1
      · subst e2; omega
      · have h3 := hle i (j - 1) hi (by omega) (by omega)
        omega
  · intro h a ha
    have ha' : a < l.length := by simpa using ha
    unfold List.Nodup at h
    rw [List.pairwise_iff_getElem] at h
    simp only [Go.Lib.keeps, decide_eq_true_eq, ne_eq]
    by_cases e0 : a = 0
    · exact .inl e0
    · right
      rw [hg a ha', hg (a - 1) (by omega)]
      have := h (a - 1) a (by omega) ha' (by omega)
      omega

theorem mem_at {xs : List Int} {x : Int} : x ∈ xs ↔ ∃ k, k < xs.length ∧ atI xs k = x := by
  rw [List.mem_iff_getElem]
  constructor
  · rintro ⟨k, hk, e⟩
    exact ⟨k, hk, by unfold atI; rw [List.getD_eq_getElem?_getD, List.getElem?_eq_getElem hk]; exact e⟩
  · rintro ⟨k, hk, e⟩
    refine ⟨k, hk, ?_⟩
    unfold atI at e
    rw [List.getD_eq_getElem?_getD, List.getElem?_eq_getElem hk] at e
    exact e

/-- A permutation of n charges that keeps 0. -/
structure PM (p : List Int) (n : Nat) : Prop where
  len : p.length = n
  pos : 0 < n
  z : atI p 0 = 0
  sur : ∀ i : Nat, i < n → ∃ k, k < n ∧ atI p k = i
  rng : ∀ k, k < n → ∃ q : Nat, q < n ∧ atI p k = q
  inj : ∀ j k, j < n → k < n → atI p j = atI p k → j = k

theorem PM.of_sur {p : List Int} {n : Nat} (hl : p.length = n) (h0 : 0 < n) (hz : atI p 0 = 0) (h : ∀ i : Nat, i < n → ∃ k, k < p.length ∧ atI p k = i) : PM p n := by
  have hp : (Go.Proofs.YtbopenehooiekaaGreat.rng n).Perm p := sub_perm (rng_nodup n) (fun x hx => by
    obtain ⟨i, hi, rfl⟩ := rng_mem.1 hx
    exact mem_at.2 (h i hi)) (by rw [rng_len, hl])
  have hn : p.Nodup := hp.nodup_iff.1 (rng_nodup n)
  refine ⟨hl, h0, hz, fun i hi => by obtain ⟨k, hk, e⟩ := h i hi; exact ⟨k, by omega, e⟩, fun k hk => ?_, fun j k hj hk e => ?_⟩
  · obtain ⟨i, hi, e⟩ := rng_mem.1 (hp.mem_iff.2 (mem_at.2 ⟨k, by omega, rfl⟩))
    exact ⟨i, hi, e.symm⟩
  · have hg : ∀ k, (hk : k < p.length) → atI p k = p[k] := fun k hk => by unfold atI; rw [List.getD_eq_getElem?_getD, List.getElem?_eq_getElem hk]; rfl
    unfold List.Nodup at hn
    rw [List.pairwise_iff_getElem] at hn
    rw [hg j (by omega), hg k (by omega)] at e
    rcases Nat.lt_trichotomy j k with h1 | h1 | h1
    · exact absurd e (hn j k (by omega) (by omega) h1)
    · exact h1
    · exact absurd e.symm (hn k j (by omega) (by omega) h1)

theorem PM.of_nodup {p : List Int} {n : Nat} (hl : p.length = n) (h0 : 0 < n) (hz : atI p 0 = 0) (hc : cpl (srt p) = n) (hw : allW p 0 ((n : Int) - 1) = true) : PM p n := by
  have hn := (cpl_iff p).1 (by omega)
  have hw' := allW_iff.1 hw
  have hp : p.Perm (Go.Proofs.YtbopenehooiekaaGreat.rng n) := sub_perm hn (fun x hx => by
    obtain ⟨k, hk, rfl⟩ := mem_at.1 hx
    have := hw' k hk
    exact rng_mem.2 ⟨(atI p k).toNat, by omega, by omega⟩) (by rw [rng_len, hl])
  exact .of_sur hl h0 hz fun i hi => mem_at.1 (hp.mem_iff.2 (rng_mem.2 ⟨i, hi, rfl⟩))

theorem PM.cpl {p : List Int} {n : Nat} (h : PM p n) : cpl (srt p) = n := by
  rw [← h.len]
  refine (cpl_iff p).2 ?_
  have hp : (Go.Proofs.YtbopenehooiekaaGreat.rng n).Perm p := sub_perm (rng_nodup n) (fun x hx => by
    obtain ⟨i, hi, rfl⟩ := rng_mem.1 hx
    obtain ⟨k, hk, e⟩ := h.sur i hi
    exact mem_at.2 ⟨k, by rw [h.len]; exact hk, e⟩) (by rw [rng_len, h.len])
  exact hp.nodup_iff.1 (rng_nodup n)
theorem PM.allW {p : List Int} {n : Nat} (h : PM p n) : allW p 0 ((n : Int) - 1) = true := allW_iff.2 fun k hk => by
  obtain ⟨q, hq, e⟩ := h.rng k (by rw [← h.len]; exact hk)
  omega

/-- Where a charge comes from. -/
def ivp (p : List Int) (a : Nat) : Nat := (ix p a 0).toNat
theorem ix_at : ∀ {xs : List Int} {n : Int} (b : Nat), (∃ k, k < xs.length ∧ atI xs k = n) → ∃ k, k < xs.length ∧ atI xs k = n ∧ ix xs n b = (b + k : Nat)
  | [], _, _, ⟨_, h, _⟩ => by simp at h
  | x :: xs, n, b, ⟨k, hk, e⟩ => by
    by_cases h : x = n
    · exact ⟨0, by simp, by simpa [atI] using h, by simp [ix, h]⟩
    · cases k with
      | zero => exact absurd (by simpa [atI] using e) h
      | succ k =>
        obtain ⟨j, h1, h2, h3⟩ := ix_at (xs := xs) (n := n) (b + 1) ⟨k, by simpa using hk, by simpa [atI] using e⟩
        exact ⟨j + 1, by simpa using h1, by simpa [atI] using h2, by simp only [ix, if_neg h, h3]; omega⟩
theorem PM.iv1 {p : List Int} {n : Nat} (h : PM p n) {a : Nat} (ha : a < n) : ivp p a < n ∧ atI p (ivp p a) = a := by
  obtain ⟨k, hk, e⟩ := h.sur a ha
  obtain ⟨j, h1, h2, h3⟩ := ix_at (xs := p) (n := (a : Int)) 0 ⟨k, by rw [h.len]; exact hk, e⟩
  have : ivp p a = j := by unfold ivp; rw [h3]; omega
  rw [this]
  exact ⟨by rw [← h.len]; exact h1, h2⟩
theorem PM.iv2 {p : List Int} {n : Nat} (h : PM p n) {k q : Nat} (hk : k < n) (hq : q < n) (e : atI p k = q) : ivp p q = k :=
  h.inj _ _ (h.iv1 hq).1 hk ((h.iv1 hq).2.trans e.symm)
theorem PM.ivq {p : List Int} {n : Nat} (h : PM p n) {k q x : Nat} (hk : k < n) (hx : x < n) (hq : q < n) (e : atI p k = q) : x = q ↔ ivp p x = k := by
  constructor
  · rintro rfl; exact h.iv2 hk hq e
  · intro e2
    have := (h.iv1 hx).2
    rw [e2, e] at this
    omega
/-- What renumbering makes. -/
def SNf (p : List Int) (S : List (List Int)) (x y : Nat) : Int := atI (row S (ivp p x)) (ivp p y)
def SN (p : List Int) (S : List (List Int)) (n : Nat) : List (List Int) := matL (SNf p S) n n
def TN (p : List Int) (T : List Int) (n : Nat) : List Int := rws (fun x => atI T (ivp p x)) n
end Go.Proofs.YtbopenehooiekaaGreat

/- Renumbered data by the reference. -/
namespace Go.Proofs.YtbopenehooiekaaGreat
open Go.RowKit
set_option maxRecDepth 1000000

/-- What stands after i rows and j numbers of the next one, over what stood there. -/
def RNf (g : Nat → Nat → Int) (p : List Int) (S : List (List Int)) (i j x y : Nat) : Int := if ivp p x < i ∨ (ivp p x = i ∧ ivp p y < j) then SNf p S x y else g x y
def RNt (g : Nat → Int) (p T : List Int) (i x : Nat) : Int := if ivp p x < i then atI T (ivp p x) else g x
section
variable {p T : List Int} {S : List (List Int)} {n : Nat} {g : Nat → Nat → Int} {h : Nat → Int}
theorem RNf_zero (x y : Nat) : RNf g p S 0 0 x y = g x y := if_neg (by omega)
theorem RNt_zero (x : Nat) : RNt h p T 0 x = h x := if_neg (by omega)
theorem RNt_step (hm : PM p n) {i q : Nat} (hi : i < n) (hq : q < n) (e : atI p i = q) {x : Nat} (hx : x < n) : (if x = q then atI T i else RNt h p T i x) = RNt h p T (i + 1) x := by
  have := hm.ivq hi hx hq e
  unfold RNt
  by_cases hxq : x = q
  · have e2 := this.1 hxq
    rw [if_pos hxq, if_pos (by omega), e2]
  · have e2 : ivp p x ≠ i := fun h2 => hxq (this.2 h2)
    rw [if_neg hxq]
    have e3 : ivp p x < i ↔ ivp p x < i + 1 := by omega
    simp only [e3]
theorem RNt_set (hm : PM p n) {i q : Nat} (hi : i < n) (hq : q < n) (e : atI p i = q) : (rws (fun x => i64 (RNt h p T i x)) n).set q (i64 (atI T i)) = rws (fun x => i64 (RNt h p T (i + 1) x)) n := by
  rw [rws_set]
  refine rws_congr fun x hx => ?_
  rw [← RNt_step hm hi hq e hx]
  by_cases hxq : x = q
  · rw [if_pos hxq, if_pos hxq]
  · rw [if_neg hxq, if_neg hxq]
theorem RNf_step (hm : PM p n) {i j q r : Nat} (hi : i < n) (hj : j < n) (hq : q < n) (hr : r < n) (e : atI p i = q) (e2 : atI p j = r) {x y : Nat} (hx : x < n) (hy : y < n) :
    upd2 (RNf g p S i j) q r (atI (row S i) j) x y = RNf g p S i (j + 1) x y := by
  have h1 := hm.ivq hi hx hq e
  have h2 := hm.ivq hj hy hr e2
  unfold upd2 RNf
  by_cases hc : x = q ∧ y = r
  · have e3 := h1.1 hc.1
    have e4 := h2.1 hc.2
    rw [if_pos hc, if_pos (by omega)]
    unfold SNf
    rw [e3, e4]
  · rw [if_neg hc]
    have e3 : (ivp p x < i ∨ ivp p x = i ∧ ivp p y < j) ↔ (ivp p x < i ∨ ivp p x = i ∧ ivp p y < j + 1) := by
      constructor
      · omega
      · rintro (h3 | ⟨h3, h4⟩)
        · exact .inl h3
        · by_cases h5 : ivp p y = j
          · exact absurd ⟨h1.2 h3, h2.2 h5⟩ hc
          · omega
    simp only [e3]
theorem RNf_next (hm : PM p n) {i : Nat} {x y : Nat} (hy : y < n) : RNf g p S i n x y = RNf g p S (i + 1) 0 x y := by
  have := (hm.iv1 hy).1
  unfold RNf
  have e3 : (ivp p x < i ∨ ivp p x = i ∧ ivp p y < n) ↔ (ivp p x < i + 1 ∨ ivp p x = i + 1 ∧ ivp p y < 0) := by omega
  simp only [e3]
theorem RNf_end (hm : PM p n) {x y : Nat} (hx : x < n) : RNf g p S n 0 x y = SNf p S x y := if_pos (.inl (hm.iv1 hx).1)
theorem RNt_end (hm : PM p n) {x : Nat} (hx : x < n) : RNt h p T n x = atI T (ivp p x) := if_pos (hm.iv1 hx).1
end

theorem cLKp {a : AV} {p : List Int} {n : Nat} (ha : isL a p) (hp : p.length ≤ maxN) {t : Bool} (ht : t = true ↔ (∀ i : Nat, i < p.length → 0 ≤ ix p i 0) ∧ p.length = n ∧ 0 < n ∧ atI p 0 = 0) :
    CallOK Tryz.prog 59 [i64 n, a] (bo t) := by
  have hp' : p.length ≤ 4294967296 := hp
  refine call_of (fn := Tryz.f59) (code := bodyOf Tryz.f59) Tryz.func59 rfl (by kernel_rfl) (rfl) ?_
  intro sl hs
  have s0 : sl 0 = i64 n := hs 0
  have s1 : sl 1 = a := hs 1
  dsimp only [Tryz.f59, bodyOf, Option.getD]
  simp (config := { maxSteps := 10000000 }) (disch := first | assumption | omega) only [go_sem, ↓reduceIte, Nat.reduceEqDiff, reduceCtorEq, Nat.reduceAdd, Nat.reduceMul, Nat.reduceLeDiff, zfu, Int.mul_def, Int.add_def, zfv, cond_false, cond_true, isub, Int.reduceToNat, s0, s1]
  refine WK_for (fun i st => st.sl 0 = i64 n ∧ st.sl 1 = a ∧ st.sl 5 = i64 (i : Int) ∧ (∀ j : Nat, j < i → 0 ≤ ix p j 0)) p.length ?_ ?_ ?_
  · simp only [↓zcy, ↓zcz, ↓zda, ↓zdb, ↓reduceIte, Nat.reduceEqDiff, and_true, true_and, and_self, ne_eq, not_false_eq_true, eq_self, false_and, and_false, reduceCtorEq, rws_zero, s0, s1]
    exact ⟨rfl, fun j hj => absurd hj (Nat.not_lt_zero _)⟩
  · rintro i sl ro gn hi ⟨s0, s1, s5, q⟩
    dsimp only at s0 s1 s5
    have hi' : (i : Int) < (p.length : Nat) := by omega
    simp (config := { maxSteps := 10000000 }) (disch := first | assumption | omega) only [go_sem, ↓reduceIte, Nat.reduceEqDiff, reduceCtorEq, Nat.reduceAdd, Nat.reduceMul, Nat.reduceLeDiff, zfu, Int.mul_def, Int.add_def, zfv, cond_false, cond_true, isub, Int.reduceToNat, s0, s1, s5, hi', hi]
    refine CLL_pure _ (c88 (n := (i : Int)) ha hp) (by simp (disch := assumption) only [pureL, pureA, isL_pure, isLL_pure, isLLL_pure, pureL_map, Bool.and_self, Bool.and_true]) rfl rfl ?_
    simp (config := { maxSteps := 10000000 }) (disch := first | assumption | omega) only [go_sem, ↓reduceIte, Nat.reduceEqDiff, reduceCtorEq, Nat.reduceAdd, Nat.reduceMul, Nat.reduceLeDiff, zfu, Int.mul_def, Int.add_def, zfv, cond_false, cond_true, isub, Int.reduceToNat, s0, s1, s5, hi', hi]
    refine ⟨fun h => ?_, fun h => ?_⟩
    · refine ⟨i64c (by omega), fun j hj => ?_⟩
      by_cases e : j = i
      · subst e; omega
      · exact q j (by omega)
    · have hf : t = false := by
        cases t with
        | false => rfl
        | true => exact absurd ((ht.1 rfl).1 i hi) (by omega)
      subst hf
      simp only [zbj, zbk, retR, resL, outT, zes, zez, oneV, ↓zcy, ↓zcz, ↓reduceIte, Nat.reduceEqDiff, Option.some.injEq, AV.sc.injEq, Value.bool.injEq, Value.int.injEq, outL, outT, zft, zcp, zed, zef, zei, zeh, List.length_cons, List.length_nil, Nat.reduceAdd, Nat.zero_add, Nat.reduceLeDiff, List.drop_zero, List.take_succ_cons, List.take_zero, zfi, zfh, Ro.dl, zdb, zda, zfe, and_self, and_true, true_and, eq_self, List.append_nil, List.nil_append, List.cons_append, ne_eq, not_false_eq_true, and_false, false_and, Bool.false_eq_true, St.ev, zes, zfn, zhk, List.length_map]
  · rintro sl ro gn ⟨s0, s1, s5, q⟩
    dsimp only at s0 s1 s5
    have hi' : ¬ ((p.length : Nat) : Int) < (p.length : Nat) := by omega
    by_cases hl : p.length = n
    · have hl' : (p.length : Int) = n := by omega
      by_cases h0 : 0 < n
      · have h0' : (0 : Int) < n := by omega
        have hp0 : 0 < p.length := by omega
        have hdec : t = decide (atI p 0 = 0) := by
          by_cases hz : atI p 0 = 0
          · rw [decide_eq_true hz]; exact ht.2 ⟨fun i hi => q i hi, hl, h0, hz⟩
          · rw [decide_eq_false hz]
            cases t with
            | false => rfl
            | true => exact absurd (ht.1 rfl).2.2.2 hz
        subst hdec
        simp (config := { maxSteps := 10000000 }) (disch := first | assumption | omega) only [go_sem, ↓reduceIte, Nat.reduceEqDiff, reduceCtorEq, Nat.reduceAdd, Nat.reduceMul, Nat.reduceLeDiff, zfu, Int.mul_def, Int.add_def, zfv, cond_false, cond_true, isub, Int.reduceToNat, s0, s1, s5, hi', eq_true hl', eq_true h0', isL_idx0]
        simp only [zbj, zbk, retR, resL, outT, zes, zez, oneV, ↓zcy, ↓zcz, ↓reduceIte, Nat.reduceEqDiff, Option.some.injEq, AV.sc.injEq, Value.bool.injEq, Value.int.injEq, outL, outT, zft, zcp, zed, zef, zei, zeh, List.length_cons, List.length_nil, Nat.reduceAdd, Nat.zero_add, Nat.reduceLeDiff, List.drop_zero, List.take_succ_cons, List.take_zero, zfi, zfh, Ro.dl, zdb, zda, zfe, and_self, and_true, true_and, eq_self, List.append_nil, List.nil_append, List.cons_append, ne_eq, not_false_eq_true, and_false, false_and, Bool.false_eq_true, St.ev, zes, zfn, zhk, List.length_map]
      · have h0' : ¬ (0 : Int) < n := by omega
        have hf : t = false := by
          cases t with
          | false => rfl
          | true => exact absurd (ht.1 rfl).2.2.1 h0
        subst hf
        simp (config := { maxSteps := 10000000 }) (disch := first | assumption | omega) only [go_sem, ↓reduceIte, Nat.reduceEqDiff, reduceCtorEq, Nat.reduceAdd, Nat.reduceMul, Nat.reduceLeDiff, zfu, Int.mul_def, Int.add_def, zfv, cond_false, cond_true, isub, Int.reduceToNat, s0, s1, s5, hi', eq_true hl', eq_false h0']
        simp only [zbj, zbk, retR, resL, outT, zes, zez, oneV, ↓zcy, ↓zcz, ↓reduceIte, Nat.reduceEqDiff, Option.some.injEq, AV.sc.injEq, Value.bool.injEq, Value.int.injEq, outL, outT, zft, zcp, zed, zef, zei, zeh, List.length_cons, List.length_nil, Nat.reduceAdd, Nat.zero_add, Nat.reduceLeDiff, List.drop_zero, List.take_succ_cons, List.take_zero, zfi, zfh, Ro.dl, zdb, zda, zfe, and_self, and_true, true_and, eq_self, List.append_nil, List.nil_append, List.cons_append, ne_eq, not_false_eq_true, and_false, false_and, Bool.false_eq_true, St.ev, zes, zfn, zhk, List.length_map]
    · have hl' : ¬ (p.length : Int) = n := by omega
      have hf : t = false := by
        cases t with
        | false => rfl
        | true => exact absurd (ht.1 rfl).2.1 hl
      subst hf
      simp (config := { maxSteps := 10000000 }) (disch := first | assumption | omega) only [go_sem, ↓reduceIte, Nat.reduceEqDiff, reduceCtorEq, Nat.reduceAdd, Nat.reduceMul, Nat.reduceLeDiff, zfu, Int.mul_def, Int.add_def, zfv, cond_false, cond_true, isub, Int.reduceToNat, s0, s1, s5, hi', eq_false hl']
      simp only [zbj, zbk, retR, resL, outT, zes, zez, oneV, ↓zcy, ↓zcz, ↓reduceIte, Nat.reduceEqDiff, Option.some.injEq, AV.sc.injEq, Value.bool.injEq, Value.int.injEq, outL, outT, zft, zcp, zed, zef, zei, zeh, List.length_cons, List.length_nil, Nat.reduceAdd, Nat.zero_add, Nat.reduceLeDiff, List.drop_zero, List.take_succ_cons, List.take_zero, zfi, zfh, Ro.dl, zdb, zda, zfe, and_self, and_true, true_and, eq_self, List.append_nil, List.nil_append, List.cons_append, ne_eq, not_false_eq_true, and_false, false_and, Bool.false_eq_true, St.ev, zes, zfn, zhk, List.length_map]

section
variable {a b e : AV} {S : List (List Int)} {T p : List Int}
theorem own_mat {S : List (List Int)} {n : Nat} (hl : S.length = n) (hr : ∀ i, i < n → (row S i).length = n) : AV.row (rws (fun x => rowL (row S x)) S.length) = matA (fun x y => atI (row S x) y) n n := by
  rw [hl]
  refine congrArg AV.row (rws_congr fun x hx => ?_)
  have : row S x = rws (fun y => atI (row S x) y) n := by
    apply List.ext_getElem?
    intro k
    by_cases hk : k < n
    · rw [rws_get _ _ _ hk, List.getElem?_eq_getElem (by rw [hr x hx]; exact hk)]
      unfold atI
      rw [List.getD_eq_getElem?_getD, List.getElem?_eq_getElem (by rw [hr x hx]; exact hk)]
      rfl
    · rw [List.getElem?_eq_none (by rw [hr x hx]; omega), List.getElem?_eq_none (by rw [zfe]; omega)]
  rw [this]
  simp only [rowL, rws_map]
theorem own_lst (T : List Int) : rowL T = .row (rws (fun y => i64 (atI T y)) T.length) := by
  have : T = rws (fun y => atI T y) T.length := by
    apply List.ext_getElem?
    intro k
    by_cases hk : k < T.length
    · rw [rws_get _ _ _ hk, List.getElem?_eq_getElem hk]
      unfold atI
      rw [List.getD_eq_getElem?_getD, List.getElem?_eq_getElem hk]
      rfl
    · rw [List.getElem?_eq_none (by omega), List.getElem?_eq_none (by rw [zfe]; omega)]
  conv => lhs; rw [this]
  simp only [rowL, rws_map]
theorem cLRn (ha : isLL a S) (hb : isL b T) (hc : isL e p) (hT : T.length ≤ maxN) (sp : Shp S T) (hm : PM p T.length) :
    CallOK Tryz.prog 60 [.agg [a, b], e] (.agg [rowLL (SN p S T.length), rowL (TN p T T.length)]) := by
  have hT' : T.length ≤ 4294967296 := hT
  have hlen := hm.len
  have cS := cOwn2 ha (by rw [sp.lS]; exact hT) (fun i hi => by rw [sp.lR i (by rw [← sp.lS]; exact hi)]; exact hT)
  rw [own_mat sp.lS sp.lR] at cS
  have cT := cOwn hb hT
  rw [own_lst T] at cT
  have e1 : rowLL (SN p S T.length) = matA (RNf (fun x y => atI (row S x) y) p S T.length 0) T.length T.length := by
    rw [SN, rowLL_mat]
    exact mat_congr fun x y hx _ => (RNf_end hm hx).symm
  have e2 : rowL (TN p T T.length) = .row (rws (fun x => i64 (RNt (fun x => atI T x) p T T.length x)) T.length) := by
    simp only [rowL, TN, rws_map]
    exact congrArg AV.row (rws_congr fun x hx => by rw [RNt_end hm hx])
  rw [e1, e2]
  refine call_of (fn := Tryz.f60) (code := bodyOf Tryz.f60) Tryz.func60 rfl (by kernel_rfl) (by simp only [noRef, noRefL_c, noRefL_n, nrL_mat, nrL_rwi, Bool.and_true, Bool.and_self]) ?_
  intro sl hs
  have s0 : sl 0 = .agg [a, b] := hs 0
  have s1 : sl 1 = e := hs 1
  dsimp only [Tryz.f60, bodyOf, Option.getD]
  simp (config := { maxSteps := 10000000 }) (disch := first | assumption | omega) only [go_sem, ↓reduceIte, Nat.reduceEqDiff, reduceCtorEq, Nat.reduceAdd, Nat.reduceMul, Nat.reduceLeDiff, zfu, Int.mul_def, Int.add_def, zfv, cond_false, cond_true, isub, Int.reduceToNat, s0, s1]
  refine CLLD_pure _ cS (by simp (disch := assumption) only [pureL, pureA, isL_pure, isLL_pure, isLLL_pure, pureL_map, Bool.and_self, Bool.and_true]) rfl ?_
  simp (config := { maxSteps := 10000000 }) (disch := first | assumption | omega) only [go_sem, ↓reduceIte, Nat.reduceEqDiff, reduceCtorEq, Nat.reduceAdd, Nat.reduceMul, Nat.reduceLeDiff, zfu, Int.mul_def, Int.add_def, zfv, cond_false, cond_true, isub, Int.reduceToNat, s0, s1]
  refine CLLD_pure _ cT (by simp (disch := assumption) only [pureL, pureA, isL_pure, isLL_pure, isLLL_pure, pureL_map, Bool.and_self, Bool.and_true]) rfl ?_
  simp (config := { maxSteps := 10000000 }) (disch := first | assumption | omega) only [go_sem, ↓reduceIte, Nat.reduceEqDiff, reduceCtorEq, Nat.reduceAdd, Nat.reduceMul, Nat.reduceLeDiff, zfu, Int.mul_def, Int.add_def, zfv, cond_false, cond_true, isub, Int.reduceToNat, s0, s1]
  refine FIN_of (by kernel_rfl) ?_
  simp (config := { maxSteps := 10000000 }) (disch := first | assumption | omega) only [go_sem, ↓reduceIte, Nat.reduceEqDiff, reduceCtorEq, Nat.reduceAdd, Nat.reduceMul, Nat.reduceLeDiff, zfu, Int.mul_def, Int.add_def, zfv, cond_false, cond_true, isub, Int.reduceToNat, s0, s1]
  refine WK_for (fun i st => st.sl 1 = e ∧ st.sl 2 = .ptr 4096 1 [] 0 ∧ st.ro 4096 1 = some (.bx [a, b]) ∧ st.sl 4 = .ptr 4112 1 [] 0 ∧ st.ro 4112 1 = some (.bx [nilA, nilA]) ∧ st.sl 5 = .ptr 8304 1 [] 0 ∧ st.ro 8304 1 = some (.bx [.ref 8224 1 [] 0 T.length, .ref 8272 1 [] 0 T.length]) ∧ st.ro 8224 1 = some (matA (RNf (fun x y => atI (row S x) y) p S i 0) T.length T.length) ∧ st.ro 8272 1 = some (.row (rws (fun x => i64 (RNt (fun x => atI T x) p T i x)) T.length)) ∧ st.sl 6 = i64 (i : Int)) T.length ?_ ?_ ?_
  · simp only [↓zcy, ↓zcz, ↓zda, ↓zdb, ↓reduceIte, Nat.reduceEqDiff, and_true, true_and, and_self, ne_eq, not_false_eq_true, eq_self, false_and, and_false, reduceCtorEq, rws_zero, s0, s1]
    exact ⟨congrArg some (mat_congr fun x y _ _ => (RNf_zero (g := fun x y => atI (row S x) y) x y).symm), congrArg some (congrArg AV.row (rws_congr fun x _ => by rw [RNt_zero])), rfl⟩
  · rintro i sl ro gn hi ⟨s1, s2, r4096, s4, r4112, s5, r8304, r8224, r8272, s6⟩
    dsimp only at s1 s2 r4096 s4 r4112 s5 r8304 r8224 r8272 s6
    have hi' : (i : Int) < (T.length : Nat) := by omega
    obtain ⟨q, hq, eqi⟩ := hm.rng i hi
    have hip : i < p.length := by omega
    have hset := RNt_set (h := fun x => atI T x) (T := T) hm hi hq eqi
    simp (config := { maxSteps := 10000000 }) (disch := first | assumption | omega) only [go_sem, ↓reduceIte, Nat.reduceEqDiff, reduceCtorEq, Nat.reduceAdd, Nat.reduceMul, Nat.reduceLeDiff, zfu, Int.mul_def, Int.add_def, zfv, cond_false, cond_true, isub, Int.reduceToNat, s1, s2, r4096, s4, r4112, s5, r8304, r8224, r8272, s6, hi', hi, hlen, eqi]
    refine FIN_of (by kernel_rfl) ?_
    simp (config := { maxSteps := 10000000 }) (disch := first | assumption | omega) only [go_sem, ↓reduceIte, Nat.reduceEqDiff, reduceCtorEq, Nat.reduceAdd, Nat.reduceMul, Nat.reduceLeDiff, zfu, Int.mul_def, Int.add_def, zfv, cond_false, cond_true, isub, Int.reduceToNat, s1, s2, r4096, s4, r4112, s5, r8304, r8224, r8272, s6, hi', hi, hlen, hset]
    refine WK_for (fun j st => st.sl 1 = e ∧ st.sl 2 = .ptr 4096 1 [] 0 ∧ st.ro 4096 1 = some (.bx [a, b]) ∧ st.sl 4 = .ptr 4112 1 [] 0 ∧ st.ro 4112 1 = some (.bx [nilA, nilA]) ∧ st.sl 5 = .ptr 8304 1 [] 0 ∧ st.ro 8304 1 = some (.bx [.ref 8224 1 [] 0 T.length, .ref 8272 1 [] 0 T.length]) ∧ st.sl 6 = i64 (i : Int) ∧ st.sl 7 = i64 (j : Int) ∧ st.ro 8224 1 = some (matA (RNf (fun x y => atI (row S x) y) p S i j) T.length T.length) ∧ st.ro 8272 1 = some (.row (rws (fun x => i64 (RNt (fun x => atI T x) p T (i + 1) x)) T.length))) T.length ?_ ?_ ?_
    · simp only [↓zcy, ↓zcz, ↓zda, ↓zdb, ↓reduceIte, Nat.reduceEqDiff, and_true, true_and, and_self, ne_eq, not_false_eq_true, eq_self, false_and, and_false, reduceCtorEq, rws_zero, s1, s2, r4096, s4, r4112, s5, r8304, r8224, r8272, s6, hi', hi]
      (repeat' first | rfl | exact i64c rfl | exact i64c (by omega) | exact trivial | apply And.intro)
    · rintro j sl ro gn hj ⟨s1, s2, r4096, s4, r4112, s5, r8304, s6, s7, r8224, r8272⟩
      dsimp only at s1 s2 r4096 s4 r4112 s5 r8304 s6 s7 r8224 r8272
      have hj' : (j : Int) < (T.length : Nat) := by omega
      obtain ⟨r, hr, eqj⟩ := hm.rng j hj
      have hjp : j < p.length := by omega
      have hrow := isLL_row ha (k := i) (by rw [sp.lS]; exact hi)
      have hlr : j < (row S i).length := by rw [sp.lR i hi]; exact hj
      have hSi : i < S.length := by rw [sp.lS]; exact hi
      simp (config := { maxSteps := 10000000 }) (disch := first | assumption | omega) only [go_sem, ↓reduceIte, Nat.reduceEqDiff, reduceCtorEq, Nat.reduceAdd, Nat.reduceMul, Nat.reduceLeDiff, zfu, Int.mul_def, Int.add_def, zfv, cond_false, cond_true, isub, Int.reduceToNat, s1, s2, r4096, s4, r4112, s5, r8304, s6, s7, r8224, r8272, hj', hj, hlen, eqi, eqj]
      refine FIN_of (by kernel_rfl) ?_
      simp (config := { maxSteps := 10000000 }) (disch := first | assumption | omega) only [go_sem, ↓reduceIte, Nat.reduceEqDiff, reduceCtorEq, Nat.reduceAdd, Nat.reduceMul, Nat.reduceLeDiff, zfu, Int.mul_def, Int.add_def, zfv, cond_false, cond_true, isub, Int.reduceToNat, s1, s2, r4096, s4, r4112, s5, r8304, s6, s7, r8224, r8272, hj', hj]
      refine ⟨i64c (by omega), congrArg some (mat_congr fun x y hx hy => RNf_step hm hi hj hq hr eqi eqj hx hy)⟩
    · rintro sl ro gn ⟨s1, s2, r4096, s4, r4112, s5, r8304, s6, s7, r8224, r8272⟩
      dsimp only at s1 s2 r4096 s4 r4112 s5 r8304 s6 s7 r8224 r8272
      have hj' : ¬ ((T.length : Nat) : Int) < (T.length : Nat) := by omega
      simp (config := { maxSteps := 10000000 }) (disch := first | assumption | omega) only [go_sem, ↓reduceIte, Nat.reduceEqDiff, reduceCtorEq, Nat.reduceAdd, Nat.reduceMul, Nat.reduceLeDiff, zfu, Int.mul_def, Int.add_def, zfv, cond_false, cond_true, isub, Int.reduceToNat, s1, s2, r4096, s4, r4112, s5, r8304, s6, s7, r8224, r8272, hj', hlen]
      exact ⟨congrArg some (mat_congr fun x y _ hy => RNf_next hm hy), i64c (by omega)⟩
  · rintro sl ro gn ⟨s1, s2, r4096, s4, r4112, s5, r8304, r8224, r8272, s6⟩
    dsimp only at s1 s2 r4096 s4 r4112 s5 r8304 r8224 r8272 s6
    have hi' : ¬ ((T.length : Nat) : Int) < (T.length : Nat) := by omega
    simp (config := { maxSteps := 10000000 }) (disch := first | assumption | omega) only [go_sem, ↓reduceIte, Nat.reduceEqDiff, reduceCtorEq, Nat.reduceAdd, Nat.reduceMul, Nat.reduceLeDiff, zfu, Int.mul_def, Int.add_def, zfv, cond_false, cond_true, isub, Int.reduceToNat, s1, s2, r4096, s4, r4112, s5, r8304, r8224, r8272, s6, hi', hlen]
    simp only [zbj, zbk, retR, resL, outT, zes, zez, oneV, ↓zcy, ↓zcz, ↓reduceIte, Nat.reduceEqDiff, Option.some.injEq, AV.sc.injEq, Value.bool.injEq, Value.int.injEq, outL, outT, zft, zcp, zed, zef, zei, zeh, List.length_cons, List.length_nil, Nat.reduceAdd, Nat.zero_add, Nat.reduceLeDiff, List.drop_zero, List.take_succ_cons, List.take_zero, zfi, zfh, Ro.dl, zdb, zda, zfe, and_self, and_true, true_and, eq_self, List.append_nil, List.nil_append, List.cons_append, ne_eq, not_false_eq_true, and_false, false_and, Bool.false_eq_true, St.ev, zes, zfn, zhk, List.length_map, ti25, s4, s5, r8304, r8224, r8272]

/-- Renumbered data by the reference: it is done. -/
theorem cLRt (ha : isLL a S) (hb : isL b T) (hc : isL e p) (hS : S.length ≤ maxN) (hT : T.length ≤ maxN) (hR : ∀ i, i < S.length → (row S i).length ≤ maxN) (hp : p.length ≤ maxN) (hd : DataP S T) (hm : PM p T.length) :
    CallOK Tryz.prog 16 [.agg [a, b], e] (.tup [.agg [rowLL (SN p S T.length), rowL (TN p T T.length)], i64 0]) := by
  have hK : CallOK Tryz.prog 59 [i64 (T.length : Int), e] (bo true) := cLKp hc hp (by
    refine ⟨fun _ => ⟨fun i hi => ?_, hm.len, hm.pos, hm.z⟩, fun _ => rfl⟩
    obtain ⟨k, hk, e⟩ := hm.sur i (by rw [← hm.len]; exact hi)
    exact ix_neg.2 ⟨k, by rw [hm.len]; exact hk, e⟩)
  refine call_of (fn := Tryz.f16) (code := bodyOf Tryz.f16) Tryz.func16 rfl (by kernel_rfl) (noRef_tupD _ _ _) ?_
  intro sl hs
  have s0 : sl 0 = .agg [a, b] := hs 0
  have s1 : sl 1 = e := hs 1
  dsimp only [Tryz.f16, bodyOf, Option.getD]
  simp (config := { maxSteps := 10000000 }) (disch := first | assumption | omega) only [go_sem, ↓reduceIte, Nat.reduceEqDiff, reduceCtorEq, Nat.reduceAdd, Nat.reduceMul, Nat.reduceLeDiff, zfu, Int.mul_def, Int.add_def, zfv, cond_false, cond_true, isub, Int.reduceToNat, s0, s1]
  refine CLL_pure _ (c66t ha hb hS hT hR hd) (by simp (disch := assumption) only [pureL, pureA, isL_pure, isLL_pure, isLLL_pure, pureL_map, Bool.and_self, Bool.and_true]) rfl rfl ?_
  simp (config := { maxSteps := 10000000 }) (disch := first | assumption | omega) only [go_sem, ↓reduceIte, Nat.reduceEqDiff, reduceCtorEq, Nat.reduceAdd, Nat.reduceMul, Nat.reduceLeDiff, zfu, Int.mul_def, Int.add_def, zfv, cond_false, cond_true, isub, Int.reduceToNat, s0, s1]
  refine CLL_pure _ hK (by simp (disch := assumption) only [pureL, pureA, isL_pure, isLL_pure, isLLL_pure, pureL_map, Bool.and_self, Bool.and_true]) rfl rfl ?_
  simp (config := { maxSteps := 10000000 }) (disch := first | assumption | omega) only [go_sem, ↓reduceIte, Nat.reduceEqDiff, reduceCtorEq, Nat.reduceAdd, Nat.reduceMul, Nat.reduceLeDiff, zfu, Int.mul_def, Int.add_def, zfv, cond_false, cond_true, isub, Int.reduceToNat, s0, s1]
  refine CLL_pure _ (cLRn ha hb hc hT hd.dat.shp hm) (by simp (disch := assumption) only [pureL, pureA, isL_pure, isLL_pure, isLLL_pure, pureL_map, Bool.and_self, Bool.and_true]) rfl rfl ?_
  simp (config := { maxSteps := 10000000 }) (disch := first | assumption | omega) only [go_sem, ↓reduceIte, Nat.reduceEqDiff, reduceCtorEq, Nat.reduceAdd, Nat.reduceMul, Nat.reduceLeDiff, zfu, Int.mul_def, Int.add_def, zfv, cond_false, cond_true, isub, Int.reduceToNat, s0, s1]
  simp only [zbj, zbk, retR, resL, outT, zes, zez, oneV, ↓zcy, ↓zcz, ↓reduceIte, Nat.reduceEqDiff, Option.some.injEq, AV.sc.injEq, Value.bool.injEq, Value.int.injEq, outL, outT, zft, zcp, zed, zef, zei, zeh, List.length_cons, List.length_nil, Nat.reduceAdd, Nat.zero_add, Nat.reduceLeDiff, List.drop_zero, List.take_succ_cons, List.take_zero, zfi, zfh, Ro.dl, zdb, zda, zfe, and_self, and_true, true_and, eq_self, List.append_nil, List.nil_append, List.cons_append, ne_eq, not_false_eq_true, and_false, false_and, Bool.false_eq_true, St.ev, zes, zfn, zhk, List.length_map, ti25]
theorem cLRm (ha : isLL a S) (hb : isL b T) (hc : isL e p) (hS : S.length ≤ maxN) (hT : T.length ≤ maxN) (hR : ∀ i, i < S.length → (row S i).length ≤ maxN) (hp : p.length ≤ maxN) (hd : DataP S T) (hm : ¬ PM p T.length) :
    CallOK Tryz.prog 16 [.agg [a, b], e] (.tup [.agg [nilA, nilA], i64 2]) := by
  have hK : CallOK Tryz.prog 59 [i64 (T.length : Int), e] (bo false) := cLKp hc hp (by
    refine ⟨fun h => (by cases h), fun ⟨h1, h2, h3, h4⟩ => absurd (PM.of_sur h2 h3 h4 fun i hi => ix_neg.1 (h1 i (by omega))) hm⟩)
  refine call_of (fn := Tryz.f16) (code := bodyOf Tryz.f16) Tryz.func16 rfl (by kernel_rfl) (rfl) ?_
  intro sl hs
  have s0 : sl 0 = .agg [a, b] := hs 0
  have s1 : sl 1 = e := hs 1
  dsimp only [Tryz.f16, bodyOf, Option.getD]
  simp (config := { maxSteps := 10000000 }) (disch := first | assumption | omega) only [go_sem, ↓reduceIte, Nat.reduceEqDiff, reduceCtorEq, Nat.reduceAdd, Nat.reduceMul, Nat.reduceLeDiff, zfu, Int.mul_def, Int.add_def, zfv, cond_false, cond_true, isub, Int.reduceToNat, s0, s1]
  refine CLL_pure _ (c66t ha hb hS hT hR hd) (by simp (disch := assumption) only [pureL, pureA, isL_pure, isLL_pure, isLLL_pure, pureL_map, Bool.and_self, Bool.and_true]) rfl rfl ?_
  simp (config := { maxSteps := 10000000 }) (disch := first | assumption | omega) only [go_sem, ↓reduceIte, Nat.reduceEqDiff, reduceCtorEq, Nat.reduceAdd, Nat.reduceMul, Nat.reduceLeDiff, zfu, Int.mul_def, Int.add_def, zfv, cond_false, cond_true, isub, Int.reduceToNat, s0, s1]
  refine CLL_pure _ hK (by simp (disch := assumption) only [pureL, pureA, isL_pure, isLL_pure, isLLL_pure, pureL_map, Bool.and_self, Bool.and_true]) rfl rfl ?_
  simp (config := { maxSteps := 10000000 }) (disch := first | assumption | omega) only [go_sem, ↓reduceIte, Nat.reduceEqDiff, reduceCtorEq, Nat.reduceAdd, Nat.reduceMul, Nat.reduceLeDiff, zfu, Int.mul_def, Int.add_def, zfv, cond_false, cond_true, isub, Int.reduceToNat, s0, s1]
  simp only [zbj, zbk, retR, resL, outT, zes, zez, oneV, ↓zcy, ↓zcz, ↓reduceIte, Nat.reduceEqDiff, Option.some.injEq, AV.sc.injEq, Value.bool.injEq, Value.int.injEq, outL, outT, zft, zcp, zed, zef, zei, zeh, List.length_cons, List.length_nil, Nat.reduceAdd, Nat.zero_add, Nat.reduceLeDiff, List.drop_zero, List.take_succ_cons, List.take_zero, zfi, zfh, Ro.dl, zdb, zda, zfe, and_self, and_true, true_and, eq_self, List.append_nil, List.nil_append, List.cons_append, ne_eq, not_false_eq_true, and_false, false_and, Bool.false_eq_true, St.ev, zes, zfn, zhk, List.length_map, ti25]
theorem cLRf (ha : isLL a S) (hb : isL b T) (hS : S.length ≤ maxN) (hT : T.length ≤ maxN) (hR : ∀ i, i < S.length → (row S i).length ≤ maxN) (hd : ¬ DataP S T) :
    CallOK Tryz.prog 16 [.agg [a, b], e] (.tup [.agg [nilA, nilA], i64 1]) := by
  refine call_of (fn := Tryz.f16) (code := bodyOf Tryz.f16) Tryz.func16 rfl (by kernel_rfl) (rfl) ?_
  intro sl hs
  have s0 : sl 0 = .agg [a, b] := hs 0
  have s1 : sl 1 = e := hs 1
  dsimp only [Tryz.f16, bodyOf, Option.getD]
  simp (config := { maxSteps := 10000000 }) (disch := first | assumption | omega) only [go_sem, ↓reduceIte, Nat.reduceEqDiff, reduceCtorEq, Nat.reduceAdd, Nat.reduceMul, Nat.reduceLeDiff, zfu, Int.mul_def, Int.add_def, zfv, cond_false, cond_true, isub, Int.reduceToNat, s0, s1]
  refine CLL_pure _ (c66f ha hb hS hT hR hd) (by simp (disch := assumption) only [pureL, pureA, isL_pure, isLL_pure, isLLL_pure, pureL_map, Bool.and_self, Bool.and_true]) rfl rfl ?_
  simp (config := { maxSteps := 10000000 }) (disch := first | assumption | omega) only [go_sem, ↓reduceIte, Nat.reduceEqDiff, reduceCtorEq, Nat.reduceAdd, Nat.reduceMul, Nat.reduceLeDiff, zfu, Int.mul_def, Int.add_def, zfv, cond_false, cond_true, isub, Int.reduceToNat, s0, s1]
  simp only [zbj, zbk, retR, resL, outT, zes, zez, oneV, ↓zcy, ↓zcz, ↓reduceIte, Nat.reduceEqDiff, Option.some.injEq, AV.sc.injEq, Value.bool.injEq, Value.int.injEq, outL, outT, zft, zcp, zed, zef, zei, zeh, List.length_cons, List.length_nil, Nat.reduceAdd, Nat.zero_add, Nat.reduceLeDiff, List.drop_zero, List.take_succ_cons, List.take_zero, zfi, zfh, Ro.dl, zdb, zda, zfe, and_self, and_true, true_and, eq_self, List.append_nil, List.nil_append, List.cons_append, ne_eq, not_false_eq_true, and_false, false_and, Bool.false_eq_true, St.ev, zes, zfn, zhk, List.length_map, ti25]
end
end Go.Proofs.YtbopenehooiekaaGreat

/- Renumbered data by the program. -/
namespace Go.Proofs.YtbopenehooiekaaGreat
open Go.RowKit
set_option maxRecDepth 1000000

section
variable {a b : AV} {S : List (List Int)} {T p : List Int}
theorem cCptS {ro : Ro} {gn : Nat → Nat} {s g : Nat} (hro : ro s g = some (rowL (srt p))) (hp : p.length ≤ maxN) : InOK Tryz.prog 63 [.ref s g [] 0 p.length] ro gn (.ref s g [] 0 (cpl (srt p))) (upr ro s g (rowL (cpA (srt p)))) gn := by
  have := cCpt (gn := gn) hro (by rw [srt_len]; exact hp)
  rwa [srt_len] at this
theorem cIRf {e : AV} (ha : isLL a S) (hb : isL b T) (hS : S.length ≤ maxN) (hT : T.length ≤ maxN) (hR : ∀ i, i < S.length → (row S i).length ≤ maxN) (hd : ¬ DataP S T) :
    CallOK Tryz.prog 18 [.agg [a, b], e] (.tup [.agg [nilA, nilA], i64 1]) := by
  refine call_of (fn := Tryz.f18) (code := bodyOf Tryz.f18) Tryz.func18 rfl (by kernel_rfl) (rfl) ?_
  intro sl hs
  have s0 : sl 0 = .agg [a, b] := hs 0
  have s1 : sl 1 = e := hs 1
  dsimp only [Tryz.f18, bodyOf, Option.getD]
  simp (config := { maxSteps := 10000000 }) (disch := first | assumption | omega) only [go_sem, ↓reduceIte, Nat.reduceEqDiff, reduceCtorEq, Nat.reduceAdd, Nat.reduceMul, Nat.reduceLeDiff, zfu, Int.mul_def, Int.add_def, zfv, cond_false, cond_true, isub, Int.reduceToNat, s0, s1]
  refine CLL_pure _ (c62f ha hb hS hT hR hd) (by simp (disch := assumption) only [pureL, pureA, isL_pure, isLL_pure, isLLL_pure, pureL_map, Bool.and_self, Bool.and_true]) rfl rfl ?_
  simp (config := { maxSteps := 10000000 }) (disch := first | assumption | omega) only [go_sem, ↓reduceIte, Nat.reduceEqDiff, reduceCtorEq, Nat.reduceAdd, Nat.reduceMul, Nat.reduceLeDiff, zfu, Int.mul_def, Int.add_def, zfv, cond_false, cond_true, isub, Int.reduceToNat, s0, s1]
  simp only [zbj, zbk, retR, resL, outT, zes, zez, oneV, ↓zcy, ↓zcz, ↓reduceIte, Nat.reduceEqDiff, Option.some.injEq, AV.sc.injEq, Value.bool.injEq, Value.int.injEq, outL, outT, zft, zcp, zed, zef, zei, zeh, List.length_cons, List.length_nil, Nat.reduceAdd, Nat.zero_add, Nat.reduceLeDiff, List.drop_zero, List.take_succ_cons, List.take_zero, zfi, zfh, Ro.dl, zdb, zda, zfe, and_self, and_true, true_and, eq_self, List.append_nil, List.nil_append, List.cons_append, ne_eq, not_false_eq_true, and_false, false_and, Bool.false_eq_true, St.ev, zes, zfn, zhk, List.length_map, ti25]
theorem cIRm (ha : isLL a S) (hb : isL b T) (hS : S.length ≤ maxN) (hT : T.length ≤ maxN) (hR : ∀ i, i < S.length → (row S i).length ≤ maxN) (hp : p.length ≤ maxN) (hd : DataP S T) (hm : ¬ PM p T.length) :
    CallOK Tryz.prog 18 [.agg [a, b], immL p] (.tup [.agg [nilA, nilA], i64 2]) := by
  have D := hd.dat
  have hpi := isL_imm p
  have hlS : (S.length : Int) = T.length := by have := D.shp.lS; omega
  have hpos := D.shp.pos
  have hT' : (T.length : Int) ≤ ((4294967296 : Nat) : Int) := by have : T.length ≤ 4294967296 := hT; omega
  refine call_of (fn := Tryz.f18) (code := bodyOf Tryz.f18) Tryz.func18 rfl (by kernel_rfl) (rfl) ?_
  intro sl hs
  have s0 : sl 0 = .agg [a, b] := hs 0
  have s1 : sl 1 = immL p := hs 1
  by_cases hl : p.length = T.length
  · have hl' : (p.length : Int) = T.length := by omega
    by_cases hk : cpl (srt p) = T.length
    · have hk' : (cpl (srt p) : Int) = T.length := by omega
      by_cases hw : allW p 0 ((T.length : Int) - 1) = true
      · have hz : ¬ atI p 0 = 0 := fun hz => hm (.of_nodup hl hpos hz hk hw)
        have cW := c129 (lo := 0) (hi := (T.length : Int) - 1) hpi hp
        rw [hw] at cW
        have hp0 : 0 < p.length := by omega
        dsimp only [Tryz.f18, bodyOf, Option.getD]
        simp (config := { maxSteps := 10000000 }) (disch := first | assumption | omega) only [go_sem, ↓reduceIte, Nat.reduceEqDiff, reduceCtorEq, Nat.reduceAdd, Nat.reduceMul, Nat.reduceLeDiff, zfu, Int.mul_def, Int.add_def, zfv, cond_false, cond_true, isub, Int.reduceToNat, s0, s1]
        refine CLL_pure _ (c62t ha hb hS hT hR hd) (by simp (disch := assumption) only [pureL, pureA, isL_pure, isLL_pure, isLLL_pure, pureL_map, Bool.and_self, Bool.and_true]) rfl rfl ?_
        simp (config := { maxSteps := 10000000 }) (disch := first | assumption | omega) only [go_sem, ↓reduceIte, Nat.reduceEqDiff, reduceCtorEq, Nat.reduceAdd, Nat.reduceMul, Nat.reduceLeDiff, zfu, Int.mul_def, Int.add_def, zfv, cond_false, cond_true, isub, Int.reduceToNat, s0, s1, hlS]
        refine CLL_pure _ (cClo hp) (by simp (disch := assumption) only [pureL, pureA, isL_pure, isLL_pure, isLLL_pure, pureL_map, Bool.and_self, Bool.and_true]) rfl rfl ?_
        simp (config := { maxSteps := 10000000 }) (disch := first | assumption | omega) only [go_sem, ↓reduceIte, Nat.reduceEqDiff, reduceCtorEq, Nat.reduceAdd, Nat.reduceMul, Nat.reduceLeDiff, zfu, Int.mul_def, Int.add_def, zfv, cond_false, cond_true, isub, Int.reduceToNat, s0, s1]
        refine CLL_in rfl _ _ _ (cSort (xs := p) (by simp only [↓zcy, ↓zcz, ↓zda, ↓zdb, ↓reduceIte, Nat.reduceEqDiff, and_true, true_and, and_self, ne_eq, not_false_eq_true, eq_self, false_and, and_false, reduceCtorEq]) hp) ?_
        simp (config := { maxSteps := 10000000 }) (disch := first | assumption | omega) only [go_sem, ↓reduceIte, Nat.reduceEqDiff, reduceCtorEq, Nat.reduceAdd, Nat.reduceMul, Nat.reduceLeDiff, zfu, Int.mul_def, Int.add_def, zfv, cond_false, cond_true, isub, Int.reduceToNat, s0, s1, hl', srt_len]
        refine CLL_in rfl _ _ _ (cCptS (by simp only [↓zcy, ↓zcz, ↓zda, ↓zdb, ↓reduceIte, Nat.reduceEqDiff, and_true, true_and, and_self, ne_eq, not_false_eq_true, eq_self, false_and, and_false, reduceCtorEq]) hp) ?_
        simp (config := { maxSteps := 10000000 }) (disch := first | assumption | omega) only [go_sem, ↓reduceIte, Nat.reduceEqDiff, reduceCtorEq, Nat.reduceAdd, Nat.reduceMul, Nat.reduceLeDiff, zfu, Int.mul_def, Int.add_def, zfv, cond_false, cond_true, isub, Int.reduceToNat, s0, s1, hk', eq_true hk']
        refine CLL_pure _ cW (by simp (disch := assumption) only [pureL, pureA, isL_pure, isLL_pure, isLLL_pure, pureL_map, Bool.and_self, Bool.and_true]) rfl rfl ?_
        simp (config := { maxSteps := 10000000 }) (disch := first | assumption | omega) only [go_sem, ↓reduceIte, Nat.reduceEqDiff, reduceCtorEq, Nat.reduceAdd, Nat.reduceMul, Nat.reduceLeDiff, zfu, Int.mul_def, Int.add_def, zfv, cond_false, cond_true, isub, Int.reduceToNat, s0, s1, isL_idx0, eq_false hz]
        simp only [zbj, zbk, retR, resL, outT, zes, zez, oneV, ↓zcy, ↓zcz, ↓reduceIte, Nat.reduceEqDiff, Option.some.injEq, AV.sc.injEq, Value.bool.injEq, Value.int.injEq, outL, outT, zft, zcp, zed, zef, zei, zeh, List.length_cons, List.length_nil, Nat.reduceAdd, Nat.zero_add, Nat.reduceLeDiff, List.drop_zero, List.take_succ_cons, List.take_zero, zfi, zfh, Ro.dl, zdb, zda, zfe, and_self, and_true, true_and, eq_self, List.append_nil, List.nil_append, List.cons_append, ne_eq, not_false_eq_true, and_false, false_and, Bool.false_eq_true, St.ev, zes, zfn, zhk, List.length_map, ti25]
      · have hw' : allW p 0 ((T.length : Int) - 1) = false := by simpa using hw
        have cW := c129 (lo := 0) (hi := (T.length : Int) - 1) hpi hp
        rw [hw'] at cW
        dsimp only [Tryz.f18, bodyOf, Option.getD]
        simp (config := { maxSteps := 10000000 }) (disch := first | assumption | omega) only [go_sem, ↓reduceIte, Nat.reduceEqDiff, reduceCtorEq, Nat.reduceAdd, Nat.reduceMul, Nat.reduceLeDiff, zfu, Int.mul_def, Int.add_def, zfv, cond_false, cond_true, isub, Int.reduceToNat, s0, s1]
        refine CLL_pure _ (c62t ha hb hS hT hR hd) (by simp (disch := assumption) only [pureL, pureA, isL_pure, isLL_pure, isLLL_pure, pureL_map, Bool.and_self, Bool.and_true]) rfl rfl ?_
        simp (config := { maxSteps := 10000000 }) (disch := first | assumption | omega) only [go_sem, ↓reduceIte, Nat.reduceEqDiff, reduceCtorEq, Nat.reduceAdd, Nat.reduceMul, Nat.reduceLeDiff, zfu, Int.mul_def, Int.add_def, zfv, cond_false, cond_true, isub, Int.reduceToNat, s0, s1, hlS]
        refine CLL_pure _ (cClo hp) (by simp (disch := assumption) only [pureL, pureA, isL_pure, isLL_pure, isLLL_pure, pureL_map, Bool.and_self, Bool.and_true]) rfl rfl ?_
        simp (config := { maxSteps := 10000000 }) (disch := first | assumption | omega) only [go_sem, ↓reduceIte, Nat.reduceEqDiff, reduceCtorEq, Nat.reduceAdd, Nat.reduceMul, Nat.reduceLeDiff, zfu, Int.mul_def, Int.add_def, zfv, cond_false, cond_true, isub, Int.reduceToNat, s0, s1]
        refine CLL_in rfl _ _ _ (cSort (xs := p) (by simp only [↓zcy, ↓zcz, ↓zda, ↓zdb, ↓reduceIte, Nat.reduceEqDiff, and_true, true_and, and_self, ne_eq, not_false_eq_true, eq_self, false_and, and_false, reduceCtorEq]) hp) ?_
        simp (config := { maxSteps := 10000000 }) (disch := first | assumption | omega) only [go_sem, ↓reduceIte, Nat.reduceEqDiff, reduceCtorEq, Nat.reduceAdd, Nat.reduceMul, Nat.reduceLeDiff, zfu, Int.mul_def, Int.add_def, zfv, cond_false, cond_true, isub, Int.reduceToNat, s0, s1, hl', srt_len]
        refine CLL_in rfl _ _ _ (cCptS (by simp only [↓zcy, ↓zcz, ↓zda, ↓zdb, ↓reduceIte, Nat.reduceEqDiff, and_true, true_and, and_self, ne_eq, not_false_eq_true, eq_self, false_and, and_false, reduceCtorEq]) hp) ?_
        simp (config := { maxSteps := 10000000 }) (disch := first | assumption | omega) only [go_sem, ↓reduceIte, Nat.reduceEqDiff, reduceCtorEq, Nat.reduceAdd, Nat.reduceMul, Nat.reduceLeDiff, zfu, Int.mul_def, Int.add_def, zfv, cond_false, cond_true, isub, Int.reduceToNat, s0, s1, hk', eq_true hk']
        refine CLL_pure _ cW (by simp (disch := assumption) only [pureL, pureA, isL_pure, isLL_pure, isLLL_pure, pureL_map, Bool.and_self, Bool.and_true]) rfl rfl ?_
        simp (config := { maxSteps := 10000000 }) (disch := first | assumption | omega) only [go_sem, ↓reduceIte, Nat.reduceEqDiff, reduceCtorEq, Nat.reduceAdd, Nat.reduceMul, Nat.reduceLeDiff, zfu, Int.mul_def, Int.add_def, zfv, cond_false, cond_true, isub, Int.reduceToNat, s0, s1]
        simp only [zbj, zbk, retR, resL, outT, zes, zez, oneV, ↓zcy, ↓zcz, ↓reduceIte, Nat.reduceEqDiff, Option.some.injEq, AV.sc.injEq, Value.bool.injEq, Value.int.injEq, outL, outT, zft, zcp, zed, zef, zei, zeh, List.length_cons, List.length_nil, Nat.reduceAdd, Nat.zero_add, Nat.reduceLeDiff, List.drop_zero, List.take_succ_cons, List.take_zero, zfi, zfh, Ro.dl, zdb, zda, zfe, and_self, and_true, true_and, eq_self, List.append_nil, List.nil_append, List.cons_append, ne_eq, not_false_eq_true, and_false, false_and, Bool.false_eq_true, St.ev, zes, zfn, zhk, List.length_map, ti25]
    · have hk' : ¬ (cpl (srt p) : Int) = T.length := by omega
      dsimp only [Tryz.f18, bodyOf, Option.getD]
      simp (config := { maxSteps := 10000000 }) (disch := first | assumption | omega) only [go_sem, ↓reduceIte, Nat.reduceEqDiff, reduceCtorEq, Nat.reduceAdd, Nat.reduceMul, Nat.reduceLeDiff, zfu, Int.mul_def, Int.add_def, zfv, cond_false, cond_true, isub, Int.reduceToNat, s0, s1]
      refine CLL_pure _ (c62t ha hb hS hT hR hd) (by simp (disch := assumption) only [pureL, pureA, isL_pure, isLL_pure, isLLL_pure, pureL_map, Bool.and_self, Bool.and_true]) rfl rfl ?_
      simp (config := { maxSteps := 10000000 }) (disch := first | assumption | omega) only [go_sem, ↓reduceIte, Nat.reduceEqDiff, reduceCtorEq, Nat.reduceAdd, Nat.reduceMul, Nat.reduceLeDiff, zfu, Int.mul_def, Int.add_def, zfv, cond_false, cond_true, isub, Int.reduceToNat, s0, s1, hlS]
      refine CLL_pure _ (cClo hp) (by simp (disch := assumption) only [pureL, pureA, isL_pure, isLL_pure, isLLL_pure, pureL_map, Bool.and_self, Bool.and_true]) rfl rfl ?_
      simp (config := { maxSteps := 10000000 }) (disch := first | assumption | omega) only [go_sem, ↓reduceIte, Nat.reduceEqDiff, reduceCtorEq, Nat.reduceAdd, Nat.reduceMul, Nat.reduceLeDiff, zfu, Int.mul_def, Int.add_def, zfv, cond_false, cond_true, isub, Int.reduceToNat, s0, s1]
      refine CLL_in rfl _ _ _ (cSort (xs := p) (by simp only [↓zcy, ↓zcz, ↓zda, ↓zdb, ↓reduceIte, Nat.reduceEqDiff, and_true, true_and, and_self, ne_eq, not_false_eq_true, eq_self, false_and, and_false, reduceCtorEq]) hp) ?_
      simp (config := { maxSteps := 10000000 }) (disch := first | assumption | omega) only [go_sem, ↓reduceIte, Nat.reduceEqDiff, reduceCtorEq, Nat.reduceAdd, Nat.reduceMul, Nat.reduceLeDiff, zfu, Int.mul_def, Int.add_def, zfv, cond_false, cond_true, isub, Int.reduceToNat, s0, s1, hl', srt_len]
      refine CLL_in rfl _ _ _ (cCptS (by simp only [↓zcy, ↓zcz, ↓zda, ↓zdb, ↓reduceIte, Nat.reduceEqDiff, and_true, true_and, and_self, ne_eq, not_false_eq_true, eq_self, false_and, and_false, reduceCtorEq]) hp) ?_
      simp (config := { maxSteps := 10000000 }) (disch := first | assumption | omega) only [go_sem, ↓reduceIte, Nat.reduceEqDiff, reduceCtorEq, Nat.reduceAdd, Nat.reduceMul, Nat.reduceLeDiff, zfu, Int.mul_def, Int.add_def, zfv, cond_false, cond_true, isub, Int.reduceToNat, s0, s1, eq_false hk']
      simp only [zbj, zbk, retR, resL, outT, zes, zez, oneV, ↓zcy, ↓zcz, ↓reduceIte, Nat.reduceEqDiff, Option.some.injEq, AV.sc.injEq, Value.bool.injEq, Value.int.injEq, outL, outT, zft, zcp, zed, zef, zei, zeh, List.length_cons, List.length_nil, Nat.reduceAdd, Nat.zero_add, Nat.reduceLeDiff, List.drop_zero, List.take_succ_cons, List.take_zero, zfi, zfh, Ro.dl, zdb, zda, zfe, and_self, and_true, true_and, eq_self, List.append_nil, List.nil_append, List.cons_append, ne_eq, not_false_eq_true, and_false, false_and, Bool.false_eq_true, St.ev, zes, zfn, zhk, List.length_map, ti25]
  · have hl' : ¬ (p.length : Int) = T.length := by omega
    dsimp only [Tryz.f18, bodyOf, Option.getD]
    simp (config := { maxSteps := 10000000 }) (disch := first | assumption | omega) only [go_sem, ↓reduceIte, Nat.reduceEqDiff, reduceCtorEq, Nat.reduceAdd, Nat.reduceMul, Nat.reduceLeDiff, zfu, Int.mul_def, Int.add_def, zfv, cond_false, cond_true, isub, Int.reduceToNat, s0, s1]
    refine CLL_pure _ (c62t ha hb hS hT hR hd) (by simp (disch := assumption) only [pureL, pureA, isL_pure, isLL_pure, isLLL_pure, pureL_map, Bool.and_self, Bool.and_true]) rfl rfl ?_
    simp (config := { maxSteps := 10000000 }) (disch := first | assumption | omega) only [go_sem, ↓reduceIte, Nat.reduceEqDiff, reduceCtorEq, Nat.reduceAdd, Nat.reduceMul, Nat.reduceLeDiff, zfu, Int.mul_def, Int.add_def, zfv, cond_false, cond_true, isub, Int.reduceToNat, s0, s1, hlS]
    refine CLL_pure _ (cClo hp) (by simp (disch := assumption) only [pureL, pureA, isL_pure, isLL_pure, isLLL_pure, pureL_map, Bool.and_self, Bool.and_true]) rfl rfl ?_
    simp (config := { maxSteps := 10000000 }) (disch := first | assumption | omega) only [go_sem, ↓reduceIte, Nat.reduceEqDiff, reduceCtorEq, Nat.reduceAdd, Nat.reduceMul, Nat.reduceLeDiff, zfu, Int.mul_def, Int.add_def, zfv, cond_false, cond_true, isub, Int.reduceToNat, s0, s1]
    refine CLL_in rfl _ _ _ (cSort (xs := p) (by simp only [↓zcy, ↓zcz, ↓zda, ↓zdb, ↓reduceIte, Nat.reduceEqDiff, and_true, true_and, and_self, ne_eq, not_false_eq_true, eq_self, false_and, and_false, reduceCtorEq]) hp) ?_
    simp (config := { maxSteps := 10000000 }) (disch := first | assumption | omega) only [go_sem, ↓reduceIte, Nat.reduceEqDiff, reduceCtorEq, Nat.reduceAdd, Nat.reduceMul, Nat.reduceLeDiff, zfu, Int.mul_def, Int.add_def, zfv, cond_false, cond_true, isub, Int.reduceToNat, s0, s1, eq_false hl', srt_len]
    simp only [zbj, zbk, retR, resL, outT, zes, zez, oneV, ↓zcy, ↓zcz, ↓reduceIte, Nat.reduceEqDiff, Option.some.injEq, AV.sc.injEq, Value.bool.injEq, Value.int.injEq, outL, outT, zft, zcp, zed, zef, zei, zeh, List.length_cons, List.length_nil, Nat.reduceAdd, Nat.zero_add, Nat.reduceLeDiff, List.drop_zero, List.take_succ_cons, List.take_zero, zfi, zfh, Ro.dl, zdb, zda, zfe, and_self, and_true, true_and, eq_self, List.append_nil, List.nil_append, List.cons_append, ne_eq, not_false_eq_true, and_false, false_and, Bool.false_eq_true, St.ev, zes, zfn, zhk, List.length_map, ti25]
theorem cIRt (ha : isLL a S) (hb : isL b T) (hS : S.length ≤ maxN) (hT : T.length ≤ maxN) (hR : ∀ i, i < S.length → (row S i).length ≤ maxN) (hp : p.length ≤ maxN) (hd : DataP S T) (hm : PM p T.length) :
    CallOK Tryz.prog 18 [.agg [a, b], immL p] (.tup [.agg [rowLL (SN p S T.length), rowL (TN p T T.length)], i64 0]) := by
  have D := hd.dat
  have sp := D.shp
  have hpi := isL_imm p
  have hlS : (S.length : Int) = T.length := by have := D.shp.lS; omega
  have hpos := D.shp.pos
  have hlen := hm.len
  have hl' : (p.length : Int) = T.length := by omega
  have hk' : (cpl (srt p) : Int) = T.length := by have := hm.cpl; omega
  have cW := c129 (lo := 0) (hi := (T.length : Int) - 1) hpi hp
  rw [hm.allW] at cW
  have hz := hm.z
  have hp0 : 0 < p.length := by omega
  have hT' : (T.length : Int) ≤ ((4294967296 : Nat) : Int) := by have : T.length ≤ 4294967296 := hT; omega
  have e1 : rowLL (SN p S T.length) = matA (RNf (fun _ _ => 0) p S T.length 0) T.length T.length := by
    rw [SN, rowLL_mat]
    exact mat_congr fun x y hx _ => (RNf_end hm hx).symm
  have e2 : rowL (TN p T T.length) = .row (rws (fun x => i64 (RNt (fun _ => 0) p T T.length x)) T.length) := by
    simp only [rowL, TN, rws_map]
    exact congrArg AV.row (rws_congr fun x hx => by rw [RNt_end hm hx])
  rw [e1, e2]
  refine call_of (fn := Tryz.f18) (code := bodyOf Tryz.f18) Tryz.func18 rfl (by kernel_rfl) (by rw [← e1, ← e2]; exact noRef_tupD _ _ _) ?_
  intro sl hs
  have s0 : sl 0 = .agg [a, b] := hs 0
  have s1 : sl 1 = immL p := hs 1
  dsimp only [Tryz.f18, bodyOf, Option.getD]
  simp (config := { maxSteps := 10000000 }) (disch := first | assumption | omega) only [go_sem, ↓reduceIte, Nat.reduceEqDiff, reduceCtorEq, Nat.reduceAdd, Nat.reduceMul, Nat.reduceLeDiff, zfu, Int.mul_def, Int.add_def, zfv, cond_false, cond_true, isub, Int.reduceToNat, s0, s1]
  refine CLL_pure _ (c62t ha hb hS hT hR hd) (by simp (disch := assumption) only [pureL, pureA, isL_pure, isLL_pure, isLLL_pure, pureL_map, Bool.and_self, Bool.and_true]) rfl rfl ?_
  simp (config := { maxSteps := 10000000 }) (disch := first | assumption | omega) only [go_sem, ↓reduceIte, Nat.reduceEqDiff, reduceCtorEq, Nat.reduceAdd, Nat.reduceMul, Nat.reduceLeDiff, zfu, Int.mul_def, Int.add_def, zfv, cond_false, cond_true, isub, Int.reduceToNat, s0, s1, hlS]
  refine CLL_pure _ (cClo hp) (by simp (disch := assumption) only [pureL, pureA, isL_pure, isLL_pure, isLLL_pure, pureL_map, Bool.and_self, Bool.and_true]) rfl rfl ?_
  simp (config := { maxSteps := 10000000 }) (disch := first | assumption | omega) only [go_sem, ↓reduceIte, Nat.reduceEqDiff, reduceCtorEq, Nat.reduceAdd, Nat.reduceMul, Nat.reduceLeDiff, zfu, Int.mul_def, Int.add_def, zfv, cond_false, cond_true, isub, Int.reduceToNat, s0, s1]
  refine CLL_in rfl _ _ _ (cSort (xs := p) (by simp only [↓zcy, ↓zcz, ↓zda, ↓zdb, ↓reduceIte, Nat.reduceEqDiff, and_true, true_and, and_self, ne_eq, not_false_eq_true, eq_self, false_and, and_false, reduceCtorEq]) hp) ?_
  simp (config := { maxSteps := 10000000 }) (disch := first | assumption | omega) only [go_sem, ↓reduceIte, Nat.reduceEqDiff, reduceCtorEq, Nat.reduceAdd, Nat.reduceMul, Nat.reduceLeDiff, zfu, Int.mul_def, Int.add_def, zfv, cond_false, cond_true, isub, Int.reduceToNat, s0, s1, hl', srt_len]
  refine CLL_in rfl _ _ _ (cCptS (by simp only [↓zcy, ↓zcz, ↓zda, ↓zdb, ↓reduceIte, Nat.reduceEqDiff, and_true, true_and, and_self, ne_eq, not_false_eq_true, eq_self, false_and, and_false, reduceCtorEq]) hp) ?_
  simp (config := { maxSteps := 10000000 }) (disch := first | assumption | omega) only [go_sem, ↓reduceIte, Nat.reduceEqDiff, reduceCtorEq, Nat.reduceAdd, Nat.reduceMul, Nat.reduceLeDiff, zfu, Int.mul_def, Int.add_def, zfv, cond_false, cond_true, isub, Int.reduceToNat, s0, s1, hk', eq_true hk']
  refine CLL_pure _ cW (by simp (disch := assumption) only [pureL, pureA, isL_pure, isLL_pure, isLLL_pure, pureL_map, Bool.and_self, Bool.and_true]) rfl rfl ?_
  simp (config := { maxSteps := 10000000 }) (disch := first | assumption | omega) only [go_sem, ↓reduceIte, Nat.reduceEqDiff, reduceCtorEq, Nat.reduceAdd, Nat.reduceMul, Nat.reduceLeDiff, zfu, Int.mul_def, Int.add_def, zfv, cond_false, cond_true, isub, Int.reduceToNat, s0, s1, isL_idx0, hz]
  refine CLLD_pure _ (c126m hT hT) rfl rfl ?_
  simp (config := { maxSteps := 10000000 }) (disch := first | assumption | omega) only [go_sem, ↓reduceIte, Nat.reduceEqDiff, reduceCtorEq, Nat.reduceAdd, Nat.reduceMul, Nat.reduceLeDiff, zfu, Int.mul_def, Int.add_def, zfv, cond_false, cond_true, isub, Int.reduceToNat, s0, s1, kMake, Int.natCast_nonneg, Int.le_refl, Int.toNat_natCast, hT', List.length_replicate, List.getD_cons_zero]
  refine FIN_of (by kernel_rfl) ?_
  simp (config := { maxSteps := 10000000 }) (disch := first | assumption | omega) only [go_sem, ↓reduceIte, Nat.reduceEqDiff, reduceCtorEq, Nat.reduceAdd, Nat.reduceMul, Nat.reduceLeDiff, zfu, Int.mul_def, Int.add_def, zfv, cond_false, cond_true, isub, Int.reduceToNat, s0, s1, hl']
  refine WK_for (fun i st => st.sl 1 = immL p ∧ st.sl 2 = .ptr 4096 1 [] 0 ∧ st.ro 4096 1 = some (.bx [a, b]) ∧ st.sl 4 = .ptr 4112 1 [] 0 ∧ st.ro 4112 1 = some (.bx [nilA, nilA]) ∧ st.sl 8 = .ptr 36960 1 [] 0 ∧ st.ro 36960 1 = some (.bx [.ref 36896 1 [] 0 T.length, .ref 36928 1 [] 0 T.length]) ∧ st.ro 36896 1 = some (matA (RNf (fun _ _ => 0) p S i 0) T.length T.length) ∧ st.ro 36928 1 = some (.row (rws (fun x => i64 (RNt (fun _ => 0) p T i x)) T.length)) ∧ st.sl 55 = immL p ∧ st.sl 56 = i64 (T.length : Int) ∧ st.sl 57 = i64 (i : Int)) T.length ?_ ?_ ?_
  · simp only [↓zcy, ↓zcz, ↓zda, ↓zdb, ↓reduceIte, Nat.reduceEqDiff, and_true, true_and, and_self, ne_eq, not_false_eq_true, eq_self, false_and, and_false, reduceCtorEq, rws_zero, s0, s1]
    exact ⟨congrArg some (mat_congr fun x y _ _ => (RNf_zero (g := fun _ _ => 0) x y).symm), congrArg some (congrArg AV.row ((rep_rws _ _).trans (rws_congr fun x _ => by rw [RNt_zero]))), rfl⟩
  · rintro i sl ro gn hi ⟨s1, s2, r4096, s4, r4112, s8, r36960, r36896, r36928, s55, s56, s57⟩
    dsimp only at s1 s2 r4096 s4 r4112 s8 r36960 r36896 r36928 s55 s56 s57
    have hi' : (i : Int) < (T.length : Nat) := by omega
    obtain ⟨q, hq, eqi⟩ := hm.rng i hi
    have hip : i < p.length := by omega
    have hset := RNt_set (h := fun _ => 0) (T := T) hm hi hq eqi
    simp (config := { maxSteps := 10000000 }) (disch := first | assumption | omega) only [go_sem, ↓reduceIte, Nat.reduceEqDiff, reduceCtorEq, Nat.reduceAdd, Nat.reduceMul, Nat.reduceLeDiff, zfu, Int.mul_def, Int.add_def, zfv, cond_false, cond_true, isub, Int.reduceToNat, s1, s2, r4096, s4, r4112, s8, r36960, r36896, r36928, s55, s56, s57, hi', hi, hl', eqi]
    refine FIN_of (by kernel_rfl) ?_
    simp (config := { maxSteps := 10000000 }) (disch := first | assumption | omega) only [go_sem, ↓reduceIte, Nat.reduceEqDiff, reduceCtorEq, Nat.reduceAdd, Nat.reduceMul, Nat.reduceLeDiff, zfu, Int.mul_def, Int.add_def, zfv, cond_false, cond_true, isub, Int.reduceToNat, s1, s2, r4096, s4, r4112, s8, r36960, r36896, r36928, s55, s56, s57, hi', hi, hl', hset]
    refine WK_for (fun j st => st.sl 1 = immL p ∧ st.sl 2 = .ptr 4096 1 [] 0 ∧ st.ro 4096 1 = some (.bx [a, b]) ∧ st.sl 4 = .ptr 4112 1 [] 0 ∧ st.ro 4112 1 = some (.bx [nilA, nilA]) ∧ st.sl 8 = .ptr 36960 1 [] 0 ∧ st.ro 36960 1 = some (.bx [.ref 36896 1 [] 0 T.length, .ref 36928 1 [] 0 T.length]) ∧ st.sl 55 = immL p ∧ st.sl 56 = i64 (T.length : Int) ∧ st.sl 57 = i64 (i : Int) ∧ st.sl 9 = i64 (i : Int) ∧ st.sl 10 = i64 (q : Int) ∧ st.sl 71 = immL p ∧ st.sl 72 = i64 (T.length : Int) ∧ st.sl 73 = i64 (j : Int) ∧ st.ro 36896 1 = some (matA (RNf (fun _ _ => 0) p S i j) T.length T.length) ∧ st.ro 36928 1 = some (.row (rws (fun x => i64 (RNt (fun _ => 0) p T (i + 1) x)) T.length))) T.length ?_ ?_ ?_
    · simp only [↓zcy, ↓zcz, ↓zda, ↓zdb, ↓reduceIte, Nat.reduceEqDiff, and_true, true_and, and_self, ne_eq, not_false_eq_true, eq_self, false_and, and_false, reduceCtorEq, rws_zero, s1, s2, r4096, s4, r4112, s8, r36960, r36896, r36928, s55, s56, s57, hi', hi]
      (repeat' first | rfl | exact i64c rfl | exact i64c (by omega) | exact trivial | apply And.intro)
    · rintro j sl ro gn hj ⟨s1, s2, r4096, s4, r4112, s8, r36960, s55, s56, s57, s9, s10, s71, s72, s73, r36896, r36928⟩
      dsimp only at s1 s2 r4096 s4 r4112 s8 r36960 s55 s56 s57 s9 s10 s71 s72 s73 r36896 r36928
      have hj' : (j : Int) < (T.length : Nat) := by omega
      obtain ⟨r, hr, eqj⟩ := hm.rng j hj
      have hjp : j < p.length := by omega
      have hrow := isLL_row ha (k := i) (by rw [sp.lS]; exact hi)
      have hlr : j < (row S i).length := by rw [sp.lR i hi]; exact hj
      have hSi : i < S.length := by rw [sp.lS]; exact hi
      simp (config := { maxSteps := 10000000 }) (disch := first | assumption | omega) only [go_sem, ↓reduceIte, Nat.reduceEqDiff, reduceCtorEq, Nat.reduceAdd, Nat.reduceMul, Nat.reduceLeDiff, zfu, Int.mul_def, Int.add_def, zfv, cond_false, cond_true, isub, Int.reduceToNat, s1, s2, r4096, s4, r4112, s8, r36960, s55, s56, s57, s9, s10, s71, s72, s73, r36896, r36928, hj', hj, hl', eqj]
      refine FIN_of (by kernel_rfl) ?_
      simp (config := { maxSteps := 10000000 }) (disch := first | assumption | omega) only [go_sem, ↓reduceIte, Nat.reduceEqDiff, reduceCtorEq, Nat.reduceAdd, Nat.reduceMul, Nat.reduceLeDiff, zfu, Int.mul_def, Int.add_def, zfv, cond_false, cond_true, isub, Int.reduceToNat, s1, s2, r4096, s4, r4112, s8, r36960, s55, s56, s57, s9, s10, s71, s72, s73, r36896, r36928, hj', hj]
      exact ⟨i64c (by omega), congrArg some (mat_congr fun x y hx hy => RNf_step hm hi hj hq hr eqi eqj hx hy)⟩
    · rintro sl ro gn ⟨s1, s2, r4096, s4, r4112, s8, r36960, s55, s56, s57, s9, s10, s71, s72, s73, r36896, r36928⟩
      dsimp only at s1 s2 r4096 s4 r4112 s8 r36960 s55 s56 s57 s9 s10 s71 s72 s73 r36896 r36928
      have hj' : ¬ ((T.length : Nat) : Int) < (T.length : Nat) := by omega
      simp (config := { maxSteps := 10000000 }) (disch := first | assumption | omega) only [go_sem, ↓reduceIte, Nat.reduceEqDiff, reduceCtorEq, Nat.reduceAdd, Nat.reduceMul, Nat.reduceLeDiff, zfu, Int.mul_def, Int.add_def, zfv, cond_false, cond_true, isub, Int.reduceToNat, s1, s2, r4096, s4, r4112, s8, r36960, s55, s56, s57, s9, s10, s71, s72, s73, r36896, r36928, hj']
      exact ⟨congrArg some (mat_congr fun x y _ hy => RNf_next hm hy), i64c (by omega)⟩
  · rintro sl ro gn ⟨s1, s2, r4096, s4, r4112, s8, r36960, r36896, r36928, s55, s56, s57⟩
    dsimp only at s1 s2 r4096 s4 r4112 s8 r36960 r36896 r36928 s55 s56 s57
    have hi' : ¬ ((T.length : Nat) : Int) < (T.length : Nat) := by omega
    simp (config := { maxSteps := 10000000 }) (disch := first | assumption | omega) only [go_sem, ↓reduceIte, Nat.reduceEqDiff, reduceCtorEq, Nat.reduceAdd, Nat.reduceMul, Nat.reduceLeDiff, zfu, Int.mul_def, Int.add_def, zfv, cond_false, cond_true, isub, Int.reduceToNat, s1, s2, r4096, s4, r4112, s8, r36960, r36896, r36928, s55, s56, s57, hi']
    simp only [zbj, zbk, retR, resL, outT, zes, zez, oneV, ↓zcy, ↓zcz, ↓reduceIte, Nat.reduceEqDiff, Option.some.injEq, AV.sc.injEq, Value.bool.injEq, Value.int.injEq, outL, outT, zft, zcp, zed, zef, zei, zeh, List.length_cons, List.length_nil, Nat.reduceAdd, Nat.zero_add, Nat.reduceLeDiff, List.drop_zero, List.take_succ_cons, List.take_zero, zfi, zfh, Ro.dl, zdb, zda, zfe, and_self, and_true, true_and, eq_self, List.append_nil, List.nil_append, List.cons_append, ne_eq, not_false_eq_true, and_false, false_and, Bool.false_eq_true, St.ev, zes, zfn, zhk, List.length_map, ti25, s4, s8, r36960, r36896, r36928]
end
end Go.Proofs.YtbopenehooiekaaGreat

/- The law of RenumberData answers true. -/
namespace Go.Proofs.YtbopenehooiekaaGreat
open Go.RowKit
set_option maxRecDepth 1000000

theorem in32k {s g : Nat} {xs : List Int} {ro : Ro} {gn : Nat → Nat} {k : Int} (hro : ro s g = some (rowL xs)) (hn : xs.length ≤ maxN) (hk : 0 ≤ k) (hk2 : k + xs.length ≤ 2^62) :
    InOK Tryz.prog 20 [.ref s g [] 0 xs.length, i64 k] ro gn (i64 (k + xs.length)) (upr ro s g (rowL (iota k xs.length))) gn := by
  have := in32 (plc_nil s g) (cs := xs.map i64) (ro := ro) (gn := gn) (k := k) hro (by rw [List.length_map]; exact hn) hk (by rw [List.length_map]; exact hk2)
  rw [List.length_map] at this
  exact this
theorem ren_both {S : List (List Int)} {T p : List Int} (hS : S.length ≤ maxN) (hT : T.length ≤ maxN) (hR : ∀ i, i < S.length → (row S i).length ≤ maxN) (hp : p.length ≤ maxN) :
    (∃ X Y, X.length ≤ 16 ∧ Y.length ≤ 16 ∧ (∀ j, j < X.length → (row X j).length ≤ 16) ∧ CallOK Tryz.prog 16 [.agg [immLL S, immL T], immL p] (.tup [.agg [rowLL X, rowL Y], i64 0]) ∧ CallOK Tryz.prog 18 [.agg [immLL S, immL T], immL p] (.tup [.agg [rowLL X, rowL Y], i64 0])) ∨
    ∃ z, CallOK Tryz.prog 16 [.agg [immLL S, immL T], immL p] (.tup [.agg [nilA, nilA], i64 z]) ∧ CallOK Tryz.prog 18 [.agg [immLL S, immL T], immL p] (.tup [.agg [nilA, nilA], i64 z]) := by
  have ha := isLL_imm S
  have hb := isL_imm T
  have hc := isL_imm p
  by_cases hd : DataP S T
  · by_cases hm : PM p T.length
    · have h16 := hd.dat.m16
      refine .inl ⟨_, _, by rw [SN, matL, zfe]; exact h16, by rw [TN, zfe]; exact h16, fun i hi => ?_, cLRt ha hb hc hS hT hR hp hd hm, cIRt ha hb hS hT hR hp hd hm⟩
      rw [SN, matL, zfe] at hi
      have : row (SN p S T.length) i = rws (fun j => SNf p S i j) T.length := matL_row hi
      rw [this, zfe]; exact h16
    · exact .inr ⟨2, cLRm ha hb hc hS hT hR hp hd hm, cIRm ha hb hS hT hR hp hd hm⟩
  · exact .inr ⟨1, cLRf ha hb hS hT hR hd, cIRf ha hb hS hT hR hd⟩
theorem cRen {a b d : AV} {S : List (List Int)} {T p : List Int} (ha : isLLw a S) (hb : isLw b T) (l1 : S.length < 2^63) (l2 : ∀ i, (row S i).length < 2^63) (l3 : T.length < 2^63) (hc : isLw d p) (l4 : p.length < 2^63) : CallOK Tryz.prog 4 [.agg [a, b], d] (bo true) := by
  have cZ := c25 (left := 1048576) ha hb l1 (fun i _ => l2 i) l3 (by decide) (by decide)
  refine call_of (fn := Tryz.f4) (code := bodyOf Tryz.f4) Tryz.func4 rfl (by kernel_rfl) (rfl) ?_
  intro sl hs
  have s0 : sl 0 = .agg [a, b] := hs 0
  have s1 : sl 1 = d := hs 1
  by_cases hq : (1048576 : Int) < p.length
  · skip
    dsimp only [Tryz.f4, bodyOf, Option.getD]
    simp (config := { maxSteps := 10000000 }) (disch := first | assumption | omega) only [go_sem, ↓reduceIte, Nat.reduceEqDiff, reduceCtorEq, Nat.reduceAdd, Nat.reduceMul, Nat.reduceLeDiff, zfu, Int.mul_def, Int.add_def, zfv, cond_false, cond_true, isub, Int.reduceToNat, s0, s1, hq]
    simp only [zbj, zbk, retR, resL, outT, zes, zez, oneV, ↓zcy, ↓zcz, ↓reduceIte, Nat.reduceEqDiff, Option.some.injEq, AV.sc.injEq, Value.bool.injEq, Value.int.injEq, outL, outT, zft, zcp, zed, zef, zei, zeh, List.length_cons, List.length_nil, Nat.reduceAdd, Nat.zero_add, Nat.reduceLeDiff, List.drop_zero, List.take_succ_cons, List.take_zero, zfi, zfh, Ro.dl, zdb, zda, zfe, and_self, and_true, true_and, eq_self, List.append_nil, List.nil_append, List.cons_append, ne_eq, not_false_eq_true, and_false, false_and, Bool.false_eq_true, St.ev, zes, zfn, zhk, List.length_map]
  have hp : p.length ≤ maxN := maxN_of (by omega)
  have hp2 : (p.length : Int) ≤ 1048576 := by omega
  have cP := c61 hc hp
  have cQ := c31t (isL_imm p) (isL_imm p) hp
  by_cases hz : szD S T 1048576 < 0
  · skip
    dsimp only [Tryz.f4, bodyOf, Option.getD]
    simp (config := { maxSteps := 10000000 }) (disch := first | assumption | omega) only [go_sem, ↓reduceIte, Nat.reduceEqDiff, reduceCtorEq, Nat.reduceAdd, Nat.reduceMul, Nat.reduceLeDiff, zfu, Int.mul_def, Int.add_def, zfv, cond_false, cond_true, isub, Int.reduceToNat, s0, s1, hq]
    refine CLL_pure _ cZ (by simp (disch := assumption) only [pureL, pureA, isLw_pure, isLLw_pure, pureL_map, Bool.and_self, Bool.and_true]) rfl rfl ?_
    simp (config := { maxSteps := 10000000 }) (disch := first | assumption | omega) only [go_sem, ↓reduceIte, Nat.reduceEqDiff, reduceCtorEq, Nat.reduceAdd, Nat.reduceMul, Nat.reduceLeDiff, zfu, Int.mul_def, Int.add_def, zfv, cond_false, cond_true, isub, Int.reduceToNat, s0, s1, hz]
    simp only [zbj, zbk, retR, resL, outT, zes, zez, oneV, ↓zcy, ↓zcz, ↓reduceIte, Nat.reduceEqDiff, Option.some.injEq, AV.sc.injEq, Value.bool.injEq, Value.int.injEq, outL, outT, zft, zcp, zed, zef, zei, zeh, List.length_cons, List.length_nil, Nat.reduceAdd, Nat.zero_add, Nat.reduceLeDiff, List.drop_zero, List.take_succ_cons, List.take_zero, zfi, zfh, Ro.dl, zdb, zda, zfe, and_self, and_true, true_and, eq_self, List.append_nil, List.nil_append, List.cons_append, ne_eq, not_false_eq_true, and_false, false_and, Bool.false_eq_true, St.ev, zes, zfn, zhk, List.length_map]
  · obtain ⟨z1, z2, z3⟩ := szD_ok hz
    have hsum := szD_sum hz
    have hS := maxN_of z1
    have hT := maxN_of z2
    have hR : ∀ i, i < S.length → (row S i).length ≤ maxN := fun i hi => maxN_of (z3 i hi)
    have cT := c27 ha hb hS hT hR
    have cE := c12 (isLL_imm S) (isLL_imm S) (isL_imm T) (isL_imm T) hS (row_max hR) hT
    rw [decide_eq_true ⟨rfl, rfl⟩] at cE
    have hpos : ¬ ((1 : Int) + (sumN (S.map List.length) : Nat) + T.length + p.length < 0) := by omega
    rcases ren_both (p := p) hS hT hR hp with ⟨X, Y, m1, m2, m3, hL, hI⟩ | ⟨z, hL, hI⟩
    · have hX : X.length ≤ maxN := Nat.le_trans m1 (by decide)
      have hY : Y.length ≤ maxN := Nat.le_trans m2 (by decide)
      have hXr : ∀ j, j < X.length → (row X j).length ≤ maxN := fun j hj => Nat.le_trans (m3 j hj) (by decide)
      have cD := c12t (xss := X) (us := Y) hX (row_max hXr) hY
      have hns : (X.map List.length).length ≤ maxN := by simpa using hX
      have hns2 : ∀ j, (X.map List.length).getD j 0 ≤ 16 := fun j => by
        rcases Nat.lt_or_ge j X.length with hj | hj
        · have := m3 j hj
          unfold row at this
          simp only [List.getD_eq_getElem?_getD, List.getElem?_map] at this ⊢
          cases h : X[j]? <;> simp_all
        · rw [List.getD_eq_getElem?_getD, List.getElem?_eq_none (by simpa using hj)]; exact Nat.zero_le _
      have hsum3 := sumN_le (X.map List.length) 16 hns2
      rw [List.length_map] at hsum3
      have hsum2 : sumN (X.map List.length) ≤ 256 := by omega
      have cH := c14' hns (fun j => Nat.le_trans (hns2 j) (by decide)) hY (by omega)
      have hl1 : X.length = (labs 1 (X.map List.length)).length := by rw [labs_len, List.length_map]
      have hl2 : Y.length = (iota (1 + sumN (X.map List.length)) Y.length).length := (iota_len _ _).symm
      have hge : ¬ ((1 : Int) + (sumN (X.map List.length) : Nat) + Y.length < 0) := by omega
      dsimp only [Tryz.f4, bodyOf, Option.getD]
      simp (config := { maxSteps := 10000000 }) (disch := first | assumption | omega) only [go_sem, ↓reduceIte, Nat.reduceEqDiff, reduceCtorEq, Nat.reduceAdd, Nat.reduceMul, Nat.reduceLeDiff, zfu, Int.mul_def, Int.add_def, zfv, cond_false, cond_true, isub, Int.reduceToNat, s0, s1, hq]
      refine CLL_pure _ cZ (by simp (disch := assumption) only [pureL, pureA, isLw_pure, isLLw_pure, pureL_map, Bool.and_self, Bool.and_true]) rfl rfl ?_
      simp (config := { maxSteps := 10000000 }) (disch := first | assumption | omega) only [go_sem, ↓reduceIte, Nat.reduceEqDiff, reduceCtorEq, Nat.reduceAdd, Nat.reduceMul, Nat.reduceLeDiff, zfu, Int.mul_def, Int.add_def, zfv, cond_false, cond_true, isub, Int.reduceToNat, s0, s1, hz]
      refine CLL_pure _ cT (by simp (disch := assumption) only [pureL, pureA, isLw_pure, isLLw_pure, pureL_map, Bool.and_self, Bool.and_true]) rfl rfl ?_
      simp (config := { maxSteps := 10000000 }) (disch := first | assumption | omega) only [go_sem, ↓reduceIte, Nat.reduceEqDiff, reduceCtorEq, Nat.reduceAdd, Nat.reduceMul, Nat.reduceLeDiff, zfu, Int.mul_def, Int.add_def, zfv, cond_false, cond_true, isub, Int.reduceToNat, s0, s1]
      refine CLL_pure _ cP (by simp (disch := assumption) only [pureL, pureA, isLw_pure, isLLw_pure, pureL_map, Bool.and_self, Bool.and_true]) rfl rfl ?_
      simp (config := { maxSteps := 10000000 }) (disch := first | assumption | omega) only [go_sem, ↓reduceIte, Nat.reduceEqDiff, reduceCtorEq, Nat.reduceAdd, Nat.reduceMul, Nat.reduceLeDiff, zfu, Int.mul_def, Int.add_def, zfv, cond_false, cond_true, isub, Int.reduceToNat, s0, s1]
      refine CLL_q _ hL (by repeat' first | exact exqL.nil | refine exqL.cons ?_ ?_ | exact exq_sc _ _ _ (by decide) | exact exq_L (by first | assumption | exact isL_imm _) (by decide) | exact exq_LL (by assumption) (by decide) | exact exq_LLL (by assumption) (by decide) | exact exq_refL (by first | assumption | (simp only [↓zcy, ↓zcz, ↓zda, ↓zdb, ↓reduceIte, Nat.reduceEqDiff, and_true, true_and, and_self, ne_eq, not_false_eq_true, eq_self, false_and, and_false, reduceCtorEq]; done) | (simp only [↓zcy, ↓zcz, ↓zda, ↓zdb, ↓reduceIte, Nat.reduceEqDiff, and_true, true_and, and_self, ne_eq, not_false_eq_true, eq_self, false_and, and_false, reduceCtorEq]; first | rfl | assumption)) (by first | rfl | (simp only [zfe, List.length_map, tms_len]; done)) (by decide) | exact exq_refLL (by first | assumption | (simp only [↓zcy, ↓zcz, ↓zda, ↓zdb, ↓reduceIte, Nat.reduceEqDiff, and_true, true_and, and_self, ne_eq, not_false_eq_true, eq_self, false_and, and_false, reduceCtorEq]; done) | (simp only [↓zcy, ↓zcz, ↓zda, ↓zdb, ↓reduceIte, Nat.reduceEqDiff, and_true, true_and, and_self, ne_eq, not_false_eq_true, eq_self, false_and, and_false, reduceCtorEq]; first | rfl | assumption)) (by first | rfl | (simp only [zfe, List.length_map, tms_len]; done)) (by decide) | exact exq_cube (by first | assumption | (simp only [↓zcy, ↓zcz, ↓zda, ↓zdb, ↓reduceIte, Nat.reduceEqDiff, and_true, true_and, and_self, ne_eq, not_false_eq_true, eq_self, false_and, and_false, reduceCtorEq]; done) | (simp only [↓zcy, ↓zcz, ↓zda, ↓zdb, ↓reduceIte, Nat.reduceEqDiff, and_true, true_and, and_self, ne_eq, not_false_eq_true, eq_self, false_and, and_false, reduceCtorEq]; first | rfl | assumption)) (by decide) | exact exq_mat (by first | assumption | (simp only [↓zcy, ↓zcz, ↓zda, ↓zdb, ↓reduceIte, Nat.reduceEqDiff, and_true, true_and, and_self, ne_eq, not_false_eq_true, eq_self, false_and, and_false, reduceCtorEq]; done) | (simp only [↓zcy, ↓zcz, ↓zda, ↓zdb, ↓reduceIte, Nat.reduceEqDiff, and_true, true_and, and_self, ne_eq, not_false_eq_true, eq_self, false_and, and_false, reduceCtorEq]; first | rfl | assumption)) (by decide) | refine exq_agg ?_) rfl rfl (noI_dat _ _ _) ?_
      simp (config := { maxSteps := 10000000 }) (disch := first | assumption | omega) only [go_sem, ↓reduceIte, Nat.reduceEqDiff, reduceCtorEq, Nat.reduceAdd, Nat.reduceMul, Nat.reduceLeDiff, zfu, Int.mul_def, Int.add_def, zfv, cond_false, cond_true, isub, Int.reduceToNat, s0, s1, impE_tupD]
      refine CLL_pure _ cT (by simp (disch := assumption) only [pureL, pureA, isLw_pure, isLLw_pure, pureL_map, Bool.and_self, Bool.and_true]) rfl rfl ?_
      simp (config := { maxSteps := 10000000 }) (disch := first | assumption | omega) only [go_sem, ↓reduceIte, Nat.reduceEqDiff, reduceCtorEq, Nat.reduceAdd, Nat.reduceMul, Nat.reduceLeDiff, zfu, Int.mul_def, Int.add_def, zfv, cond_false, cond_true, isub, Int.reduceToNat, s0, s1, impE_tupD]
      refine CLL_pure _ cP (by simp (disch := assumption) only [pureL, pureA, isLw_pure, isLLw_pure, pureL_map, Bool.and_self, Bool.and_true]) rfl rfl ?_
      simp (config := { maxSteps := 10000000 }) (disch := first | assumption | omega) only [go_sem, ↓reduceIte, Nat.reduceEqDiff, reduceCtorEq, Nat.reduceAdd, Nat.reduceMul, Nat.reduceLeDiff, zfu, Int.mul_def, Int.add_def, zfv, cond_false, cond_true, isub, Int.reduceToNat, s0, s1, impE_tupD]
      refine CLL_q _ hI (by repeat' first | exact exqL.nil | refine exqL.cons ?_ ?_ | exact exq_sc _ _ _ (by decide) | exact exq_L (by first | assumption | exact isL_imm _) (by decide) | exact exq_LL (by assumption) (by decide) | exact exq_LLL (by assumption) (by decide) | exact exq_refL (by first | assumption | (simp only [↓zcy, ↓zcz, ↓zda, ↓zdb, ↓reduceIte, Nat.reduceEqDiff, and_true, true_and, and_self, ne_eq, not_false_eq_true, eq_self, false_and, and_false, reduceCtorEq]; done) | (simp only [↓zcy, ↓zcz, ↓zda, ↓zdb, ↓reduceIte, Nat.reduceEqDiff, and_true, true_and, and_self, ne_eq, not_false_eq_true, eq_self, false_and, and_false, reduceCtorEq]; first | rfl | assumption)) (by first | rfl | (simp only [zfe, List.length_map, tms_len]; done)) (by decide) | exact exq_refLL (by first | assumption | (simp only [↓zcy, ↓zcz, ↓zda, ↓zdb, ↓reduceIte, Nat.reduceEqDiff, and_true, true_and, and_self, ne_eq, not_false_eq_true, eq_self, false_and, and_false, reduceCtorEq]; done) | (simp only [↓zcy, ↓zcz, ↓zda, ↓zdb, ↓reduceIte, Nat.reduceEqDiff, and_true, true_and, and_self, ne_eq, not_false_eq_true, eq_self, false_and, and_false, reduceCtorEq]; first | rfl | assumption)) (by first | rfl | (simp only [zfe, List.length_map, tms_len]; done)) (by decide) | exact exq_cube (by first | assumption | (simp only [↓zcy, ↓zcz, ↓zda, ↓zdb, ↓reduceIte, Nat.reduceEqDiff, and_true, true_and, and_self, ne_eq, not_false_eq_true, eq_self, false_and, and_false, reduceCtorEq]; done) | (simp only [↓zcy, ↓zcz, ↓zda, ↓zdb, ↓reduceIte, Nat.reduceEqDiff, and_true, true_and, and_self, ne_eq, not_false_eq_true, eq_self, false_and, and_false, reduceCtorEq]; first | rfl | assumption)) (by decide) | exact exq_mat (by first | assumption | (simp only [↓zcy, ↓zcz, ↓zda, ↓zdb, ↓reduceIte, Nat.reduceEqDiff, and_true, true_and, and_self, ne_eq, not_false_eq_true, eq_self, false_and, and_false, reduceCtorEq]; done) | (simp only [↓zcy, ↓zcz, ↓zda, ↓zdb, ↓reduceIte, Nat.reduceEqDiff, and_true, true_and, and_self, ne_eq, not_false_eq_true, eq_self, false_and, and_false, reduceCtorEq]; first | rfl | assumption)) (by decide) | refine exq_agg ?_) rfl rfl (noI_dat _ _ _) ?_
      simp (config := { maxSteps := 10000000 }) (disch := first | assumption | omega) only [go_sem, ↓reduceIte, Nat.reduceEqDiff, reduceCtorEq, Nat.reduceAdd, Nat.reduceMul, Nat.reduceLeDiff, zfu, Int.mul_def, Int.add_def, zfv, cond_false, cond_true, isub, Int.reduceToNat, s0, s1, impE_tupD]
      refine CLL_q _ cD (by repeat' first | exact exqL.nil | refine exqL.cons ?_ ?_ | exact exq_sc _ _ _ (by decide) | exact exq_L (by first | assumption | exact isL_imm _) (by decide) | exact exq_LL (by assumption) (by decide) | exact exq_LLL (by assumption) (by decide) | exact exq_refL (by first | assumption | (simp only [↓zcy, ↓zcz, ↓zda, ↓zdb, ↓reduceIte, Nat.reduceEqDiff, and_true, true_and, and_self, ne_eq, not_false_eq_true, eq_self, false_and, and_false, reduceCtorEq]; done) | (simp only [↓zcy, ↓zcz, ↓zda, ↓zdb, ↓reduceIte, Nat.reduceEqDiff, and_true, true_and, and_self, ne_eq, not_false_eq_true, eq_self, false_and, and_false, reduceCtorEq]; first | rfl | assumption)) (by first | rfl | (simp only [zfe, List.length_map, tms_len]; done)) (by decide) | exact exq_refLL (by first | assumption | (simp only [↓zcy, ↓zcz, ↓zda, ↓zdb, ↓reduceIte, Nat.reduceEqDiff, and_true, true_and, and_self, ne_eq, not_false_eq_true, eq_self, false_and, and_false, reduceCtorEq]; done) | (simp only [↓zcy, ↓zcz, ↓zda, ↓zdb, ↓reduceIte, Nat.reduceEqDiff, and_true, true_and, and_self, ne_eq, not_false_eq_true, eq_self, false_and, and_false, reduceCtorEq]; first | rfl | assumption)) (by first | rfl | (simp only [zfe, List.length_map, tms_len]; done)) (by decide) | exact exq_cube (by first | assumption | (simp only [↓zcy, ↓zcz, ↓zda, ↓zdb, ↓reduceIte, Nat.reduceEqDiff, and_true, true_and, and_self, ne_eq, not_false_eq_true, eq_self, false_and, and_false, reduceCtorEq]; done) | (simp only [↓zcy, ↓zcz, ↓zda, ↓zdb, ↓reduceIte, Nat.reduceEqDiff, and_true, true_and, and_self, ne_eq, not_false_eq_true, eq_self, false_and, and_false, reduceCtorEq]; first | rfl | assumption)) (by decide) | exact exq_mat (by first | assumption | (simp only [↓zcy, ↓zcz, ↓zda, ↓zdb, ↓reduceIte, Nat.reduceEqDiff, and_true, true_and, and_self, ne_eq, not_false_eq_true, eq_self, false_and, and_false, reduceCtorEq]; done) | (simp only [↓zcy, ↓zcz, ↓zda, ↓zdb, ↓reduceIte, Nat.reduceEqDiff, and_true, true_and, and_self, ne_eq, not_false_eq_true, eq_self, false_and, and_false, reduceCtorEq]; first | rfl | assumption)) (by decide) | refine exq_agg ?_) rfl rfl rfl ?_
      simp (config := { maxSteps := 10000000 }) (disch := first | assumption | omega) only [go_sem, ↓reduceIte, Nat.reduceEqDiff, reduceCtorEq, Nat.reduceAdd, Nat.reduceMul, Nat.reduceLeDiff, zfu, Int.mul_def, Int.add_def, zfv, cond_false, cond_true, isub, Int.reduceToNat, s0, s1, impE_tupD]
      refine CLLD_pure _ cT (by simp (disch := assumption) only [pureL, pureA, isLw_pure, isLLw_pure, pureL_map, Bool.and_self, Bool.and_true]) rfl ?_
      simp (config := { maxSteps := 10000000 }) (disch := first | assumption | omega) only [go_sem, ↓reduceIte, Nat.reduceEqDiff, reduceCtorEq, Nat.reduceAdd, Nat.reduceMul, Nat.reduceLeDiff, zfu, Int.mul_def, Int.add_def, zfv, cond_false, cond_true, isub, Int.reduceToNat, s0, s1]
      refine CLLD_q _ cE (by repeat' first | exact exqL.nil | refine exqL.cons ?_ ?_ | exact exq_sc _ _ _ (by decide) | exact exq_L (by first | assumption | exact isL_imm _) (by decide) | exact exq_LL (by assumption) (by decide) | exact exq_LLL (by assumption) (by decide) | exact exq_refL (by first | assumption | (simp only [↓zcy, ↓zcz, ↓zda, ↓zdb, ↓reduceIte, Nat.reduceEqDiff, and_true, true_and, and_self, ne_eq, not_false_eq_true, eq_self, false_and, and_false, reduceCtorEq]; done) | (simp only [↓zcy, ↓zcz, ↓zda, ↓zdb, ↓reduceIte, Nat.reduceEqDiff, and_true, true_and, and_self, ne_eq, not_false_eq_true, eq_self, false_and, and_false, reduceCtorEq]; first | rfl | assumption)) (by first | rfl | (simp only [zfe, List.length_map, tms_len]; done)) (by decide) | exact exq_refLL (by first | assumption | (simp only [↓zcy, ↓zcz, ↓zda, ↓zdb, ↓reduceIte, Nat.reduceEqDiff, and_true, true_and, and_self, ne_eq, not_false_eq_true, eq_self, false_and, and_false, reduceCtorEq]; done) | (simp only [↓zcy, ↓zcz, ↓zda, ↓zdb, ↓reduceIte, Nat.reduceEqDiff, and_true, true_and, and_self, ne_eq, not_false_eq_true, eq_self, false_and, and_false, reduceCtorEq]; first | rfl | assumption)) (by first | rfl | (simp only [zfe, List.length_map, tms_len]; done)) (by decide) | exact exq_cube (by first | assumption | (simp only [↓zcy, ↓zcz, ↓zda, ↓zdb, ↓reduceIte, Nat.reduceEqDiff, and_true, true_and, and_self, ne_eq, not_false_eq_true, eq_self, false_and, and_false, reduceCtorEq]; done) | (simp only [↓zcy, ↓zcz, ↓zda, ↓zdb, ↓reduceIte, Nat.reduceEqDiff, and_true, true_and, and_self, ne_eq, not_false_eq_true, eq_self, false_and, and_false, reduceCtorEq]; first | rfl | assumption)) (by decide) | exact exq_mat (by first | assumption | (simp only [↓zcy, ↓zcz, ↓zda, ↓zdb, ↓reduceIte, Nat.reduceEqDiff, and_true, true_and, and_self, ne_eq, not_false_eq_true, eq_self, false_and, and_false, reduceCtorEq]; done) | (simp only [↓zcy, ↓zcz, ↓zda, ↓zdb, ↓reduceIte, Nat.reduceEqDiff, and_true, true_and, and_self, ne_eq, not_false_eq_true, eq_self, false_and, and_false, reduceCtorEq]; first | rfl | assumption)) (by decide) | refine exq_agg ?_) rfl rfl ?_
      simp (config := { maxSteps := 10000000 }) (disch := first | assumption | omega) only [go_sem, ↓reduceIte, Nat.reduceEqDiff, reduceCtorEq, Nat.reduceAdd, Nat.reduceMul, Nat.reduceLeDiff, zfu, Int.mul_def, Int.add_def, zfv, cond_false, cond_true, isub, Int.reduceToNat, s0, s1]
      refine FIN_of (by kernel_rfl) ?_
      simp (config := { maxSteps := 10000000 }) (disch := first | assumption | omega) only [go_sem, ↓reduceIte, Nat.reduceEqDiff, reduceCtorEq, Nat.reduceAdd, Nat.reduceMul, Nat.reduceLeDiff, zfu, Int.mul_def, Int.add_def, zfv, cond_false, cond_true, isub, Int.reduceToNat, s0, s1]
      refine CLL_pure _ cP (by simp (disch := assumption) only [pureL, pureA, isLw_pure, isLLw_pure, pureL_map, Bool.and_self, Bool.and_true]) rfl rfl ?_
      simp (config := { maxSteps := 10000000 }) (disch := first | assumption | omega) only [go_sem, ↓reduceIte, Nat.reduceEqDiff, reduceCtorEq, Nat.reduceAdd, Nat.reduceMul, Nat.reduceLeDiff, zfu, Int.mul_def, Int.add_def, zfv, cond_false, cond_true, isub, Int.reduceToNat, s0, s1]
      refine CLL_q _ cQ (by repeat' first | exact exqL.nil | refine exqL.cons ?_ ?_ | exact exq_sc _ _ _ (by decide) | exact exq_L (by first | assumption | exact isL_imm _) (by decide) | exact exq_LL (by assumption) (by decide) | exact exq_LLL (by assumption) (by decide) | exact exq_refL (by first | assumption | (simp only [↓zcy, ↓zcz, ↓zda, ↓zdb, ↓reduceIte, Nat.reduceEqDiff, and_true, true_and, and_self, ne_eq, not_false_eq_true, eq_self, false_and, and_false, reduceCtorEq]; done) | (simp only [↓zcy, ↓zcz, ↓zda, ↓zdb, ↓reduceIte, Nat.reduceEqDiff, and_true, true_and, and_self, ne_eq, not_false_eq_true, eq_self, false_and, and_false, reduceCtorEq]; first | rfl | assumption)) (by first | rfl | (simp only [zfe, List.length_map, tms_len]; done)) (by decide) | exact exq_refLL (by first | assumption | (simp only [↓zcy, ↓zcz, ↓zda, ↓zdb, ↓reduceIte, Nat.reduceEqDiff, and_true, true_and, and_self, ne_eq, not_false_eq_true, eq_self, false_and, and_false, reduceCtorEq]; done) | (simp only [↓zcy, ↓zcz, ↓zda, ↓zdb, ↓reduceIte, Nat.reduceEqDiff, and_true, true_and, and_self, ne_eq, not_false_eq_true, eq_self, false_and, and_false, reduceCtorEq]; first | rfl | assumption)) (by first | rfl | (simp only [zfe, List.length_map, tms_len]; done)) (by decide) | exact exq_cube (by first | assumption | (simp only [↓zcy, ↓zcz, ↓zda, ↓zdb, ↓reduceIte, Nat.reduceEqDiff, and_true, true_and, and_self, ne_eq, not_false_eq_true, eq_self, false_and, and_false, reduceCtorEq]; done) | (simp only [↓zcy, ↓zcz, ↓zda, ↓zdb, ↓reduceIte, Nat.reduceEqDiff, and_true, true_and, and_self, ne_eq, not_false_eq_true, eq_self, false_and, and_false, reduceCtorEq]; first | rfl | assumption)) (by decide) | exact exq_mat (by first | assumption | (simp only [↓zcy, ↓zcz, ↓zda, ↓zdb, ↓reduceIte, Nat.reduceEqDiff, and_true, true_and, and_self, ne_eq, not_false_eq_true, eq_self, false_and, and_false, reduceCtorEq]; done) | (simp only [↓zcy, ↓zcz, ↓zda, ↓zdb, ↓reduceIte, Nat.reduceEqDiff, and_true, true_and, and_self, ne_eq, not_false_eq_true, eq_self, false_and, and_false, reduceCtorEq]; first | rfl | assumption)) (by decide) | refine exq_agg ?_) rfl rfl rfl ?_
      simp (config := { maxSteps := 10000000 }) (disch := first | assumption | omega) only [go_sem, ↓reduceIte, Nat.reduceEqDiff, reduceCtorEq, Nat.reduceAdd, Nat.reduceMul, Nat.reduceLeDiff, zfu, Int.mul_def, Int.add_def, zfv, cond_false, cond_true, isub, Int.reduceToNat, s0, s1]
      refine CLL_in rfl _ _ _ (in13' (xss := S) (us := T) (k := 1) (by simp only [↓zcy, ↓zcz, ↓zda, ↓zdb, ↓reduceIte, Nat.reduceEqDiff, and_true, true_and, and_self, ne_eq, not_false_eq_true, eq_self, false_and, and_false, reduceCtorEq]) (by simp only [↓zcy, ↓zcz, ↓zda, ↓zdb, ↓reduceIte, Nat.reduceEqDiff, and_true, true_and, and_self, ne_eq, not_false_eq_true, eq_self, false_and, and_false, reduceCtorEq]) (by decide) (by first | (simp only [↓zcy, ↓zcz, ↓zda, ↓zdb, ↓reduceIte, Nat.reduceEqDiff, and_true, true_and, and_self, ne_eq, not_false_eq_true, eq_self, false_and, and_false, reduceCtorEq]; done) | (simp only [↓zcy, ↓zcz, ↓zda, ↓zdb, ↓reduceIte, Nat.reduceEqDiff, and_true, true_and, and_self, ne_eq, not_false_eq_true, eq_self, false_and, and_false, reduceCtorEq]; decide)) (by first | (simp only [↓zcy, ↓zcz, ↓zda, ↓zdb, ↓reduceIte, Nat.reduceEqDiff, and_true, true_and, and_self, ne_eq, not_false_eq_true, eq_self, false_and, and_false, reduceCtorEq]; done) | (simp only [↓zcy, ↓zcz, ↓zda, ↓zdb, ↓reduceIte, Nat.reduceEqDiff, and_true, true_and, and_self, ne_eq, not_false_eq_true, eq_self, false_and, and_false, reduceCtorEq]; decide)) hS (row_max hR) hT (by decide) (by omega)) ?_
      simp (config := { maxSteps := 10000000 }) (disch := first | assumption | omega) only [go_sem, ↓reduceIte, Nat.reduceEqDiff, reduceCtorEq, Nat.reduceAdd, Nat.reduceMul, Nat.reduceLeDiff, zfu, Int.mul_def, Int.add_def, zfv, cond_false, cond_true, isub, Int.reduceToNat, s0, s1]
      refine CLL_in rfl _ _ _ (in32k (xs := p) (by simp only [↓zcy, ↓zcz, ↓zda, ↓zdb, ↓reduceIte, Nat.reduceEqDiff, and_true, true_and, and_self, ne_eq, not_false_eq_true, eq_self, false_and, and_false, reduceCtorEq]) hp (by omega) (by omega)) ?_
      simp (config := { maxSteps := 10000000 }) (disch := first | assumption | omega) only [go_sem, ↓reduceIte, Nat.reduceEqDiff, reduceCtorEq, Nat.reduceAdd, Nat.reduceMul, Nat.reduceLeDiff, zfu, Int.mul_def, Int.add_def, zfv, cond_false, cond_true, isub, Int.reduceToNat, s0, s1, hpos]
      refine CLL_q _ cD (by repeat' first | exact exqL.nil | refine exqL.cons ?_ ?_ | exact exq_sc _ _ _ (by decide) | exact exq_L (by first | assumption | exact isL_imm _) (by decide) | exact exq_LL (by assumption) (by decide) | exact exq_LLL (by assumption) (by decide) | exact exq_refL (by first | assumption | (simp only [↓zcy, ↓zcz, ↓zda, ↓zdb, ↓reduceIte, Nat.reduceEqDiff, and_true, true_and, and_self, ne_eq, not_false_eq_true, eq_self, false_and, and_false, reduceCtorEq]; done) | (simp only [↓zcy, ↓zcz, ↓zda, ↓zdb, ↓reduceIte, Nat.reduceEqDiff, and_true, true_and, and_self, ne_eq, not_false_eq_true, eq_self, false_and, and_false, reduceCtorEq]; first | rfl | assumption)) (by first | rfl | (simp only [zfe, List.length_map, tms_len]; done)) (by decide) | exact exq_refLL (by first | assumption | (simp only [↓zcy, ↓zcz, ↓zda, ↓zdb, ↓reduceIte, Nat.reduceEqDiff, and_true, true_and, and_self, ne_eq, not_false_eq_true, eq_self, false_and, and_false, reduceCtorEq]; done) | (simp only [↓zcy, ↓zcz, ↓zda, ↓zdb, ↓reduceIte, Nat.reduceEqDiff, and_true, true_and, and_self, ne_eq, not_false_eq_true, eq_self, false_and, and_false, reduceCtorEq]; first | rfl | assumption)) (by first | rfl | (simp only [zfe, List.length_map, tms_len]; done)) (by decide) | exact exq_cube (by first | assumption | (simp only [↓zcy, ↓zcz, ↓zda, ↓zdb, ↓reduceIte, Nat.reduceEqDiff, and_true, true_and, and_self, ne_eq, not_false_eq_true, eq_self, false_and, and_false, reduceCtorEq]; done) | (simp only [↓zcy, ↓zcz, ↓zda, ↓zdb, ↓reduceIte, Nat.reduceEqDiff, and_true, true_and, and_self, ne_eq, not_false_eq_true, eq_self, false_and, and_false, reduceCtorEq]; first | rfl | assumption)) (by decide) | exact exq_mat (by first | assumption | (simp only [↓zcy, ↓zcz, ↓zda, ↓zdb, ↓reduceIte, Nat.reduceEqDiff, and_true, true_and, and_self, ne_eq, not_false_eq_true, eq_self, false_and, and_false, reduceCtorEq]; done) | (simp only [↓zcy, ↓zcz, ↓zda, ↓zdb, ↓reduceIte, Nat.reduceEqDiff, and_true, true_and, and_self, ne_eq, not_false_eq_true, eq_self, false_and, and_false, reduceCtorEq]; first | rfl | assumption)) (by decide) | refine exq_agg ?_) rfl rfl rfl ?_
      simp (config := { maxSteps := 10000000 }) (disch := first | assumption | omega) only [go_sem, ↓reduceIte, Nat.reduceEqDiff, reduceCtorEq, Nat.reduceAdd, Nat.reduceMul, Nat.reduceLeDiff, zfu, Int.mul_def, Int.add_def, zfv, cond_false, cond_true, isub, Int.reduceToNat, s0, s1]
      refine CLL_in rfl _ _ _ (in13' (xss := X) (us := Y) (k := 1) (by simp only [↓zcy, ↓zcz, ↓zda, ↓zdb, ↓reduceIte, Nat.reduceEqDiff, and_true, true_and, and_self, ne_eq, not_false_eq_true, eq_self, false_and, and_false, reduceCtorEq]) (by simp only [↓zcy, ↓zcz, ↓zda, ↓zdb, ↓reduceIte, Nat.reduceEqDiff, and_true, true_and, and_self, ne_eq, not_false_eq_true, eq_self, false_and, and_false, reduceCtorEq]) (by decide) (by first | (simp only [↓zcy, ↓zcz, ↓zda, ↓zdb, ↓reduceIte, Nat.reduceEqDiff, and_true, true_and, and_self, ne_eq, not_false_eq_true, eq_self, false_and, and_false, reduceCtorEq]; done) | (simp only [↓zcy, ↓zcz, ↓zda, ↓zdb, ↓reduceIte, Nat.reduceEqDiff, and_true, true_and, and_self, ne_eq, not_false_eq_true, eq_self, false_and, and_false, reduceCtorEq]; decide)) (by first | (simp only [↓zcy, ↓zcz, ↓zda, ↓zdb, ↓reduceIte, Nat.reduceEqDiff, and_true, true_and, and_self, ne_eq, not_false_eq_true, eq_self, false_and, and_false, reduceCtorEq]; done) | (simp only [↓zcy, ↓zcz, ↓zda, ↓zdb, ↓reduceIte, Nat.reduceEqDiff, and_true, true_and, and_self, ne_eq, not_false_eq_true, eq_self, false_and, and_false, reduceCtorEq]; decide)) hX (row_max hXr) hY (by decide) (by omega)) ?_
      simp (config := { maxSteps := 10000000 }) (disch := first | assumption | omega) only [go_sem, ↓reduceIte, Nat.reduceEqDiff, reduceCtorEq, Nat.reduceAdd, Nat.reduceMul, Nat.reduceLeDiff, zfu, Int.mul_def, Int.add_def, zfv, cond_false, cond_true, isub, Int.reduceToNat, s0, s1]
      refine CLL_q _ cH (.cons (exq_agg (.cons (exq_refLL (by simp only [↓zcy, ↓zcz, ↓zda, ↓zdb, ↓reduceIte, Nat.reduceEqDiff, and_true, true_and, and_self, ne_eq, not_false_eq_true, eq_self, false_and, and_false, reduceCtorEq]) hl1 (by decide)) (.cons (exq_refL (by simp only [↓zcy, ↓zcz, ↓zda, ↓zdb, ↓reduceIte, Nat.reduceEqDiff, and_true, true_and, and_self, ne_eq, not_false_eq_true, eq_self, false_and, and_false, reduceCtorEq]) hl2 (by decide)) .nil))) (.cons (exq_sc _ _ _ (by decide)) .nil)) rfl rfl rfl ?_
      simp (config := { maxSteps := 10000000 }) (disch := first | assumption | omega) only [go_sem, ↓reduceIte, Nat.reduceEqDiff, reduceCtorEq, Nat.reduceAdd, Nat.reduceMul, Nat.reduceLeDiff, zfu, Int.mul_def, Int.add_def, zfv, cond_false, cond_true, isub, Int.reduceToNat, s0, s1, hge]
      refine CLL_pure _ cT (by simp (disch := assumption) only [pureL, pureA, isLw_pure, isLLw_pure, pureL_map, Bool.and_self, Bool.and_true]) rfl rfl ?_
      simp (config := { maxSteps := 10000000 }) (disch := first | assumption | omega) only [go_sem, ↓reduceIte, Nat.reduceEqDiff, reduceCtorEq, Nat.reduceAdd, Nat.reduceMul, Nat.reduceLeDiff, zfu, Int.mul_def, Int.add_def, zfv, cond_false, cond_true, isub, Int.reduceToNat, s0, s1]
      refine CLL_pure _ cP (by simp (disch := assumption) only [pureL, pureA, isLw_pure, isLLw_pure, pureL_map, Bool.and_self, Bool.and_true]) rfl rfl ?_
      simp (config := { maxSteps := 10000000 }) (disch := first | assumption | omega) only [go_sem, ↓reduceIte, Nat.reduceEqDiff, reduceCtorEq, Nat.reduceAdd, Nat.reduceMul, Nat.reduceLeDiff, zfu, Int.mul_def, Int.add_def, zfv, cond_false, cond_true, isub, Int.reduceToNat, s0, s1]
      refine CLL_q _ hI (by repeat' first | exact exqL.nil | refine exqL.cons ?_ ?_ | exact exq_sc _ _ _ (by decide) | exact exq_L (by first | assumption | exact isL_imm _) (by decide) | exact exq_LL (by assumption) (by decide) | exact exq_LLL (by assumption) (by decide) | exact exq_refL (by first | assumption | (simp only [↓zcy, ↓zcz, ↓zda, ↓zdb, ↓reduceIte, Nat.reduceEqDiff, and_true, true_and, and_self, ne_eq, not_false_eq_true, eq_self, false_and, and_false, reduceCtorEq]; done) | (simp only [↓zcy, ↓zcz, ↓zda, ↓zdb, ↓reduceIte, Nat.reduceEqDiff, and_true, true_and, and_self, ne_eq, not_false_eq_true, eq_self, false_and, and_false, reduceCtorEq]; first | rfl | assumption)) (by first | rfl | (simp only [zfe, List.length_map, tms_len]; done)) (by decide) | exact exq_refLL (by first | assumption | (simp only [↓zcy, ↓zcz, ↓zda, ↓zdb, ↓reduceIte, Nat.reduceEqDiff, and_true, true_and, and_self, ne_eq, not_false_eq_true, eq_self, false_and, and_false, reduceCtorEq]; done) | (simp only [↓zcy, ↓zcz, ↓zda, ↓zdb, ↓reduceIte, Nat.reduceEqDiff, and_true, true_and, and_self, ne_eq, not_false_eq_true, eq_self, false_and, and_false, reduceCtorEq]; first | rfl | assumption)) (by first | rfl | (simp only [zfe, List.length_map, tms_len]; done)) (by decide) | exact exq_cube (by first | assumption | (simp only [↓zcy, ↓zcz, ↓zda, ↓zdb, ↓reduceIte, Nat.reduceEqDiff, and_true, true_and, and_self, ne_eq, not_false_eq_true, eq_self, false_and, and_false, reduceCtorEq]; done) | (simp only [↓zcy, ↓zcz, ↓zda, ↓zdb, ↓reduceIte, Nat.reduceEqDiff, and_true, true_and, and_self, ne_eq, not_false_eq_true, eq_self, false_and, and_false, reduceCtorEq]; first | rfl | assumption)) (by decide) | exact exq_mat (by first | assumption | (simp only [↓zcy, ↓zcz, ↓zda, ↓zdb, ↓reduceIte, Nat.reduceEqDiff, and_true, true_and, and_self, ne_eq, not_false_eq_true, eq_self, false_and, and_false, reduceCtorEq]; done) | (simp only [↓zcy, ↓zcz, ↓zda, ↓zdb, ↓reduceIte, Nat.reduceEqDiff, and_true, true_and, and_self, ne_eq, not_false_eq_true, eq_self, false_and, and_false, reduceCtorEq]; first | rfl | assumption)) (by decide) | refine exq_agg ?_) rfl rfl (noI_dat _ _ _) ?_
      simp (config := { maxSteps := 10000000 }) (disch := first | assumption | omega) only [go_sem, ↓reduceIte, Nat.reduceEqDiff, reduceCtorEq, Nat.reduceAdd, Nat.reduceMul, Nat.reduceLeDiff, zfu, Int.mul_def, Int.add_def, zfv, cond_false, cond_true, isub, Int.reduceToNat, s0, s1, impE_tupD]
      refine CLL_q _ cD (by repeat' first | exact exqL.nil | refine exqL.cons ?_ ?_ | exact exq_sc _ _ _ (by decide) | exact exq_L (by first | assumption | exact isL_imm _) (by decide) | exact exq_LL (by assumption) (by decide) | exact exq_LLL (by assumption) (by decide) | exact exq_refL (by first | assumption | (simp only [↓zcy, ↓zcz, ↓zda, ↓zdb, ↓reduceIte, Nat.reduceEqDiff, and_true, true_and, and_self, ne_eq, not_false_eq_true, eq_self, false_and, and_false, reduceCtorEq]; done) | (simp only [↓zcy, ↓zcz, ↓zda, ↓zdb, ↓reduceIte, Nat.reduceEqDiff, and_true, true_and, and_self, ne_eq, not_false_eq_true, eq_self, false_and, and_false, reduceCtorEq]; first | rfl | assumption)) (by first | rfl | (simp only [zfe, List.length_map, tms_len]; done)) (by decide) | exact exq_refLL (by first | assumption | (simp only [↓zcy, ↓zcz, ↓zda, ↓zdb, ↓reduceIte, Nat.reduceEqDiff, and_true, true_and, and_self, ne_eq, not_false_eq_true, eq_self, false_and, and_false, reduceCtorEq]; done) | (simp only [↓zcy, ↓zcz, ↓zda, ↓zdb, ↓reduceIte, Nat.reduceEqDiff, and_true, true_and, and_self, ne_eq, not_false_eq_true, eq_self, false_and, and_false, reduceCtorEq]; first | rfl | assumption)) (by first | rfl | (simp only [zfe, List.length_map, tms_len]; done)) (by decide) | exact exq_cube (by first | assumption | (simp only [↓zcy, ↓zcz, ↓zda, ↓zdb, ↓reduceIte, Nat.reduceEqDiff, and_true, true_and, and_self, ne_eq, not_false_eq_true, eq_self, false_and, and_false, reduceCtorEq]; done) | (simp only [↓zcy, ↓zcz, ↓zda, ↓zdb, ↓reduceIte, Nat.reduceEqDiff, and_true, true_and, and_self, ne_eq, not_false_eq_true, eq_self, false_and, and_false, reduceCtorEq]; first | rfl | assumption)) (by decide) | exact exq_mat (by first | assumption | (simp only [↓zcy, ↓zcz, ↓zda, ↓zdb, ↓reduceIte, Nat.reduceEqDiff, and_true, true_and, and_self, ne_eq, not_false_eq_true, eq_self, false_and, and_false, reduceCtorEq]; done) | (simp only [↓zcy, ↓zcz, ↓zda, ↓zdb, ↓reduceIte, Nat.reduceEqDiff, and_true, true_and, and_self, ne_eq, not_false_eq_true, eq_self, false_and, and_false, reduceCtorEq]; first | rfl | assumption)) (by decide) | refine exq_agg ?_) rfl rfl rfl ?_
      simp (config := { maxSteps := 10000000 }) (disch := first | assumption | omega) only [go_sem, ↓reduceIte, Nat.reduceEqDiff, reduceCtorEq, Nat.reduceAdd, Nat.reduceMul, Nat.reduceLeDiff, zfu, Int.mul_def, Int.add_def, zfv, cond_false, cond_true, isub, Int.reduceToNat, s0, s1]
      refine CLL_q _ cH (.cons (exq_agg (.cons (exq_refLL (by simp only [↓zcy, ↓zcz, ↓zda, ↓zdb, ↓reduceIte, Nat.reduceEqDiff, and_true, true_and, and_self, ne_eq, not_false_eq_true, eq_self, false_and, and_false, reduceCtorEq]) hl1 (by decide)) (.cons (exq_refL (by simp only [↓zcy, ↓zcz, ↓zda, ↓zdb, ↓reduceIte, Nat.reduceEqDiff, and_true, true_and, and_self, ne_eq, not_false_eq_true, eq_self, false_and, and_false, reduceCtorEq]) hl2 (by decide)) .nil))) (.cons (exq_sc _ _ _ (by decide)) .nil)) rfl rfl rfl ?_
      simp (config := { maxSteps := 10000000 }) (disch := first | assumption | omega) only [go_sem, ↓reduceIte, Nat.reduceEqDiff, reduceCtorEq, Nat.reduceAdd, Nat.reduceMul, Nat.reduceLeDiff, zfu, Int.mul_def, Int.add_def, zfv, cond_false, cond_true, isub, Int.reduceToNat, s0, s1, hge]
      simp only [zbj, zbk, retR, resL, outT, zes, zez, oneV, ↓zcy, ↓zcz, ↓reduceIte, Nat.reduceEqDiff, Option.some.injEq, AV.sc.injEq, Value.bool.injEq, Value.int.injEq, outL, outT, zft, zcp, zed, zef, zei, zeh, List.length_cons, List.length_nil, Nat.reduceAdd, Nat.zero_add, Nat.reduceLeDiff, List.drop_zero, List.take_succ_cons, List.take_zero, zfi, zfh, Ro.dl, zdb, zda, zfe, and_self, and_true, true_and, eq_self, List.append_nil, List.nil_append, List.cons_append, ne_eq, not_false_eq_true, and_false, false_and, Bool.false_eq_true, St.ev, zes, zfn, zhk, List.length_map]
    · have e12 : CallOK Tryz.prog 13 [.agg [nilA, nilA], .agg [nilA, nilA]] (bo true) := by
        have := c12 (a := nilA) (b := nilA) (c := nilA) (d := nilA) (xs := []) (ys := []) (us := []) (vs := []) (.inr ⟨rfl, rfl⟩) (.inr ⟨rfl, rfl⟩) (.inr ⟨rfl, rfl⟩) (.inr ⟨rfl, rfl⟩) (by decide) (fun j => by simp) (by decide)
        rwa [decide_eq_true ⟨rfl, rfl⟩] at this
      have e14 : CallOK Tryz.prog 15 [.agg [nilA, nilA], i64 1] (i64 1) :=
        c14 (a := nilA) (b := nilA) (ns := []) (m := 0) (k := 1) (.inr ⟨rfl, rfl⟩) (.inr ⟨rfl, rfl⟩) (by decide) (fun j => by simp) (by decide) (by decide) (by decide)
      have hge : ¬ ((1 : Int) < 0) := by omega
      dsimp only [Tryz.f4, bodyOf, Option.getD]
      simp (config := { maxSteps := 10000000 }) (disch := first | assumption | omega) only [go_sem, ↓reduceIte, Nat.reduceEqDiff, reduceCtorEq, Nat.reduceAdd, Nat.reduceMul, Nat.reduceLeDiff, zfu, Int.mul_def, Int.add_def, zfv, cond_false, cond_true, isub, Int.reduceToNat, s0, s1, hq]
      refine CLL_pure _ cZ (by simp (disch := assumption) only [pureL, pureA, isLw_pure, isLLw_pure, pureL_map, Bool.and_self, Bool.and_true]) rfl rfl ?_
      simp (config := { maxSteps := 10000000 }) (disch := first | assumption | omega) only [go_sem, ↓reduceIte, Nat.reduceEqDiff, reduceCtorEq, Nat.reduceAdd, Nat.reduceMul, Nat.reduceLeDiff, zfu, Int.mul_def, Int.add_def, zfv, cond_false, cond_true, isub, Int.reduceToNat, s0, s1, hz]
      refine CLL_pure _ cT (by simp (disch := assumption) only [pureL, pureA, isLw_pure, isLLw_pure, pureL_map, Bool.and_self, Bool.and_true]) rfl rfl ?_
      simp (config := { maxSteps := 10000000 }) (disch := first | assumption | omega) only [go_sem, ↓reduceIte, Nat.reduceEqDiff, reduceCtorEq, Nat.reduceAdd, Nat.reduceMul, Nat.reduceLeDiff, zfu, Int.mul_def, Int.add_def, zfv, cond_false, cond_true, isub, Int.reduceToNat, s0, s1]
      refine CLL_pure _ cP (by simp (disch := assumption) only [pureL, pureA, isLw_pure, isLLw_pure, pureL_map, Bool.and_self, Bool.and_true]) rfl rfl ?_
      simp (config := { maxSteps := 10000000 }) (disch := first | assumption | omega) only [go_sem, ↓reduceIte, Nat.reduceEqDiff, reduceCtorEq, Nat.reduceAdd, Nat.reduceMul, Nat.reduceLeDiff, zfu, Int.mul_def, Int.add_def, zfv, cond_false, cond_true, isub, Int.reduceToNat, s0, s1]
      refine CLL_q _ hL (by repeat' first | exact exqL.nil | refine exqL.cons ?_ ?_ | exact exq_sc _ _ _ (by decide) | exact exq_L (by first | assumption | exact isL_imm _) (by decide) | exact exq_LL (by assumption) (by decide) | exact exq_LLL (by assumption) (by decide) | exact exq_refL (by first | assumption | (simp only [↓zcy, ↓zcz, ↓zda, ↓zdb, ↓reduceIte, Nat.reduceEqDiff, and_true, true_and, and_self, ne_eq, not_false_eq_true, eq_self, false_and, and_false, reduceCtorEq]; done) | (simp only [↓zcy, ↓zcz, ↓zda, ↓zdb, ↓reduceIte, Nat.reduceEqDiff, and_true, true_and, and_self, ne_eq, not_false_eq_true, eq_self, false_and, and_false, reduceCtorEq]; first | rfl | assumption)) (by first | rfl | (simp only [zfe, List.length_map, tms_len]; done)) (by decide) | exact exq_refLL (by first | assumption | (simp only [↓zcy, ↓zcz, ↓zda, ↓zdb, ↓reduceIte, Nat.reduceEqDiff, and_true, true_and, and_self, ne_eq, not_false_eq_true, eq_self, false_and, and_false, reduceCtorEq]; done) | (simp only [↓zcy, ↓zcz, ↓zda, ↓zdb, ↓reduceIte, Nat.reduceEqDiff, and_true, true_and, and_self, ne_eq, not_false_eq_true, eq_self, false_and, and_false, reduceCtorEq]; first | rfl | assumption)) (by first | rfl | (simp only [zfe, List.length_map, tms_len]; done)) (by decide) | exact exq_cube (by first | assumption | (simp only [↓zcy, ↓zcz, ↓zda, ↓zdb, ↓reduceIte, Nat.reduceEqDiff, and_true, true_and, and_self, ne_eq, not_false_eq_true, eq_self, false_and, and_false, reduceCtorEq]; done) | (simp only [↓zcy, ↓zcz, ↓zda, ↓zdb, ↓reduceIte, Nat.reduceEqDiff, and_true, true_and, and_self, ne_eq, not_false_eq_true, eq_self, false_and, and_false, reduceCtorEq]; first | rfl | assumption)) (by decide) | exact exq_mat (by first | assumption | (simp only [↓zcy, ↓zcz, ↓zda, ↓zdb, ↓reduceIte, Nat.reduceEqDiff, and_true, true_and, and_self, ne_eq, not_false_eq_true, eq_self, false_and, and_false, reduceCtorEq]; done) | (simp only [↓zcy, ↓zcz, ↓zda, ↓zdb, ↓reduceIte, Nat.reduceEqDiff, and_true, true_and, and_self, ne_eq, not_false_eq_true, eq_self, false_and, and_false, reduceCtorEq]; first | rfl | assumption)) (by decide) | refine exq_agg ?_) rfl rfl rfl ?_
      simp (config := { maxSteps := 10000000 }) (disch := first | assumption | omega) only [go_sem, ↓reduceIte, Nat.reduceEqDiff, reduceCtorEq, Nat.reduceAdd, Nat.reduceMul, Nat.reduceLeDiff, zfu, Int.mul_def, Int.add_def, zfv, cond_false, cond_true, isub, Int.reduceToNat, s0, s1, impE_tupN]
      refine CLL_pure _ cT (by simp (disch := assumption) only [pureL, pureA, isLw_pure, isLLw_pure, pureL_map, Bool.and_self, Bool.and_true]) rfl rfl ?_
      simp (config := { maxSteps := 10000000 }) (disch := first | assumption | omega) only [go_sem, ↓reduceIte, Nat.reduceEqDiff, reduceCtorEq, Nat.reduceAdd, Nat.reduceMul, Nat.reduceLeDiff, zfu, Int.mul_def, Int.add_def, zfv, cond_false, cond_true, isub, Int.reduceToNat, s0, s1]
      refine CLL_pure _ cP (by simp (disch := assumption) only [pureL, pureA, isLw_pure, isLLw_pure, pureL_map, Bool.and_self, Bool.and_true]) rfl rfl ?_
      simp (config := { maxSteps := 10000000 }) (disch := first | assumption | omega) only [go_sem, ↓reduceIte, Nat.reduceEqDiff, reduceCtorEq, Nat.reduceAdd, Nat.reduceMul, Nat.reduceLeDiff, zfu, Int.mul_def, Int.add_def, zfv, cond_false, cond_true, isub, Int.reduceToNat, s0, s1]
      refine CLL_q _ hI (by repeat' first | exact exqL.nil | refine exqL.cons ?_ ?_ | exact exq_sc _ _ _ (by decide) | exact exq_L (by first | assumption | exact isL_imm _) (by decide) | exact exq_LL (by assumption) (by decide) | exact exq_LLL (by assumption) (by decide) | exact exq_refL (by first | assumption | (simp only [↓zcy, ↓zcz, ↓zda, ↓zdb, ↓reduceIte, Nat.reduceEqDiff, and_true, true_and, and_self, ne_eq, not_false_eq_true, eq_self, false_and, and_false, reduceCtorEq]; done) | (simp only [↓zcy, ↓zcz, ↓zda, ↓zdb, ↓reduceIte, Nat.reduceEqDiff, and_true, true_and, and_self, ne_eq, not_false_eq_true, eq_self, false_and, and_false, reduceCtorEq]; first | rfl | assumption)) (by first | rfl | (simp only [zfe, List.length_map, tms_len]; done)) (by decide) | exact exq_refLL (by first | assumption | (simp only [↓zcy, ↓zcz, ↓zda, ↓zdb, ↓reduceIte, Nat.reduceEqDiff, and_true, true_and, and_self, ne_eq, not_false_eq_true, eq_self, false_and, and_false, reduceCtorEq]; done) | (simp only [↓zcy, ↓zcz, ↓zda, ↓zdb, ↓reduceIte, Nat.reduceEqDiff, and_true, true_and, and_self, ne_eq, not_false_eq_true, eq_self, false_and, and_false, reduceCtorEq]; first | rfl | assumption)) (by first | rfl | (simp only [zfe, List.length_map, tms_len]; done)) (by decide) | exact exq_cube (by first | assumption | (simp only [↓zcy, ↓zcz, ↓zda, ↓zdb, ↓reduceIte, Nat.reduceEqDiff, and_true, true_and, and_self, ne_eq, not_false_eq_true, eq_self, false_and, and_false, reduceCtorEq]; done) | (simp only [↓zcy, ↓zcz, ↓zda, ↓zdb, ↓reduceIte, Nat.reduceEqDiff, and_true, true_and, and_self, ne_eq, not_false_eq_true, eq_self, false_and, and_false, reduceCtorEq]; first | rfl | assumption)) (by decide) | exact exq_mat (by first | assumption | (simp only [↓zcy, ↓zcz, ↓zda, ↓zdb, ↓reduceIte, Nat.reduceEqDiff, and_true, true_and, and_self, ne_eq, not_false_eq_true, eq_self, false_and, and_false, reduceCtorEq]; done) | (simp only [↓zcy, ↓zcz, ↓zda, ↓zdb, ↓reduceIte, Nat.reduceEqDiff, and_true, true_and, and_self, ne_eq, not_false_eq_true, eq_self, false_and, and_false, reduceCtorEq]; first | rfl | assumption)) (by decide) | refine exq_agg ?_) rfl rfl rfl ?_
      simp (config := { maxSteps := 10000000 }) (disch := first | assumption | omega) only [go_sem, ↓reduceIte, Nat.reduceEqDiff, reduceCtorEq, Nat.reduceAdd, Nat.reduceMul, Nat.reduceLeDiff, zfu, Int.mul_def, Int.add_def, zfv, cond_false, cond_true, isub, Int.reduceToNat, s0, s1, impE_tupN]
      refine CLL_pure _ e12 rfl rfl rfl ?_
      simp (config := { maxSteps := 10000000 }) (disch := first | assumption | omega) only [go_sem, ↓reduceIte, Nat.reduceEqDiff, reduceCtorEq, Nat.reduceAdd, Nat.reduceMul, Nat.reduceLeDiff, zfu, Int.mul_def, Int.add_def, zfv, cond_false, cond_true, isub, Int.reduceToNat, s0, s1]
      refine CLLD_pure _ cT (by simp (disch := assumption) only [pureL, pureA, isLw_pure, isLLw_pure, pureL_map, Bool.and_self, Bool.and_true]) rfl ?_
      simp (config := { maxSteps := 10000000 }) (disch := first | assumption | omega) only [go_sem, ↓reduceIte, Nat.reduceEqDiff, reduceCtorEq, Nat.reduceAdd, Nat.reduceMul, Nat.reduceLeDiff, zfu, Int.mul_def, Int.add_def, zfv, cond_false, cond_true, isub, Int.reduceToNat, s0, s1]
      refine CLLD_q _ cE (by repeat' first | exact exqL.nil | refine exqL.cons ?_ ?_ | exact exq_sc _ _ _ (by decide) | exact exq_L (by first | assumption | exact isL_imm _) (by decide) | exact exq_LL (by assumption) (by decide) | exact exq_LLL (by assumption) (by decide) | exact exq_refL (by first | assumption | (simp only [↓zcy, ↓zcz, ↓zda, ↓zdb, ↓reduceIte, Nat.reduceEqDiff, and_true, true_and, and_self, ne_eq, not_false_eq_true, eq_self, false_and, and_false, reduceCtorEq]; done) | (simp only [↓zcy, ↓zcz, ↓zda, ↓zdb, ↓reduceIte, Nat.reduceEqDiff, and_true, true_and, and_self, ne_eq, not_false_eq_true, eq_self, false_and, and_false, reduceCtorEq]; first | rfl | assumption)) (by first | rfl | (simp only [zfe, List.length_map, tms_len]; done)) (by decide) | exact exq_refLL (by first | assumption | (simp only [↓zcy, ↓zcz, ↓zda, ↓zdb, ↓reduceIte, Nat.reduceEqDiff, and_true, true_and, and_self, ne_eq, not_false_eq_true, eq_self, false_and, and_false, reduceCtorEq]; done) | (simp only [↓zcy, ↓zcz, ↓zda, ↓zdb, ↓reduceIte, Nat.reduceEqDiff, and_true, true_and, and_self, ne_eq, not_false_eq_true, eq_self, false_and, and_false, reduceCtorEq]; first | rfl | assumption)) (by first | rfl | (simp only [zfe, List.length_map, tms_len]; done)) (by decide) | exact exq_cube (by first | assumption | (simp only [↓zcy, ↓zcz, ↓zda, ↓zdb, ↓reduceIte, Nat.reduceEqDiff, and_true, true_and, and_self, ne_eq, not_false_eq_true, eq_self, false_and, and_false, reduceCtorEq]; done) | (simp only [↓zcy, ↓zcz, ↓zda, ↓zdb, ↓reduceIte, Nat.reduceEqDiff, and_true, true_and, and_self, ne_eq, not_false_eq_true, eq_self, false_and, and_false, reduceCtorEq]; first | rfl | assumption)) (by decide) | exact exq_mat (by first | assumption | (simp only [↓zcy, ↓zcz, ↓zda, ↓zdb, ↓reduceIte, Nat.reduceEqDiff, and_true, true_and, and_self, ne_eq, not_false_eq_true, eq_self, false_and, and_false, reduceCtorEq]; done) | (simp only [↓zcy, ↓zcz, ↓zda, ↓zdb, ↓reduceIte, Nat.reduceEqDiff, and_true, true_and, and_self, ne_eq, not_false_eq_true, eq_self, false_and, and_false, reduceCtorEq]; first | rfl | assumption)) (by decide) | refine exq_agg ?_) rfl rfl ?_
      simp (config := { maxSteps := 10000000 }) (disch := first | assumption | omega) only [go_sem, ↓reduceIte, Nat.reduceEqDiff, reduceCtorEq, Nat.reduceAdd, Nat.reduceMul, Nat.reduceLeDiff, zfu, Int.mul_def, Int.add_def, zfv, cond_false, cond_true, isub, Int.reduceToNat, s0, s1]
      refine FIN_of (by kernel_rfl) ?_
      simp (config := { maxSteps := 10000000 }) (disch := first | assumption | omega) only [go_sem, ↓reduceIte, Nat.reduceEqDiff, reduceCtorEq, Nat.reduceAdd, Nat.reduceMul, Nat.reduceLeDiff, zfu, Int.mul_def, Int.add_def, zfv, cond_false, cond_true, isub, Int.reduceToNat, s0, s1]
      refine CLL_pure _ cP (by simp (disch := assumption) only [pureL, pureA, isLw_pure, isLLw_pure, pureL_map, Bool.and_self, Bool.and_true]) rfl rfl ?_
      simp (config := { maxSteps := 10000000 }) (disch := first | assumption | omega) only [go_sem, ↓reduceIte, Nat.reduceEqDiff, reduceCtorEq, Nat.reduceAdd, Nat.reduceMul, Nat.reduceLeDiff, zfu, Int.mul_def, Int.add_def, zfv, cond_false, cond_true, isub, Int.reduceToNat, s0, s1]
      refine CLL_q _ cQ (by repeat' first | exact exqL.nil | refine exqL.cons ?_ ?_ | exact exq_sc _ _ _ (by decide) | exact exq_L (by first | assumption | exact isL_imm _) (by decide) | exact exq_LL (by assumption) (by decide) | exact exq_LLL (by assumption) (by decide) | exact exq_refL (by first | assumption | (simp only [↓zcy, ↓zcz, ↓zda, ↓zdb, ↓reduceIte, Nat.reduceEqDiff, and_true, true_and, and_self, ne_eq, not_false_eq_true, eq_self, false_and, and_false, reduceCtorEq]; done) | (simp only [↓zcy, ↓zcz, ↓zda, ↓zdb, ↓reduceIte, Nat.reduceEqDiff, and_true, true_and, and_self, ne_eq, not_false_eq_true, eq_self, false_and, and_false, reduceCtorEq]; first | rfl | assumption)) (by first | rfl | (simp only [zfe, List.length_map, tms_len]; done)) (by decide) | exact exq_refLL (by first | assumption | (simp only [↓zcy, ↓zcz, ↓zda, ↓zdb, ↓reduceIte, Nat.reduceEqDiff, and_true, true_and, and_self, ne_eq, not_false_eq_true, eq_self, false_and, and_false, reduceCtorEq]; done) | (simp only [↓zcy, ↓zcz, ↓zda, ↓zdb, ↓reduceIte, Nat.reduceEqDiff, and_true, true_and, and_self, ne_eq, not_false_eq_true, eq_self, false_and, and_false, reduceCtorEq]; first | rfl | assumption)) (by first | rfl | (simp only [zfe, List.length_map, tms_len]; done)) (by decide) | exact exq_cube (by first | assumption | (simp only [↓zcy, ↓zcz, ↓zda, ↓zdb, ↓reduceIte, Nat.reduceEqDiff, and_true, true_and, and_self, ne_eq, not_false_eq_true, eq_self, false_and, and_false, reduceCtorEq]; done) | (simp only [↓zcy, ↓zcz, ↓zda, ↓zdb, ↓reduceIte, Nat.reduceEqDiff, and_true, true_and, and_self, ne_eq, not_false_eq_true, eq_self, false_and, and_false, reduceCtorEq]; first | rfl | assumption)) (by decide) | exact exq_mat (by first | assumption | (simp only [↓zcy, ↓zcz, ↓zda, ↓zdb, ↓reduceIte, Nat.reduceEqDiff, and_true, true_and, and_self, ne_eq, not_false_eq_true, eq_self, false_and, and_false, reduceCtorEq]; done) | (simp only [↓zcy, ↓zcz, ↓zda, ↓zdb, ↓reduceIte, Nat.reduceEqDiff, and_true, true_and, and_self, ne_eq, not_false_eq_true, eq_self, false_and, and_false, reduceCtorEq]; first | rfl | assumption)) (by decide) | refine exq_agg ?_) rfl rfl rfl ?_
      simp (config := { maxSteps := 10000000 }) (disch := first | assumption | omega) only [go_sem, ↓reduceIte, Nat.reduceEqDiff, reduceCtorEq, Nat.reduceAdd, Nat.reduceMul, Nat.reduceLeDiff, zfu, Int.mul_def, Int.add_def, zfv, cond_false, cond_true, isub, Int.reduceToNat, s0, s1]
      refine CLL_in rfl _ _ _ (in13' (xss := S) (us := T) (k := 1) (by simp only [↓zcy, ↓zcz, ↓zda, ↓zdb, ↓reduceIte, Nat.reduceEqDiff, and_true, true_and, and_self, ne_eq, not_false_eq_true, eq_self, false_and, and_false, reduceCtorEq]) (by simp only [↓zcy, ↓zcz, ↓zda, ↓zdb, ↓reduceIte, Nat.reduceEqDiff, and_true, true_and, and_self, ne_eq, not_false_eq_true, eq_self, false_and, and_false, reduceCtorEq]) (by decide) (by first | (simp only [↓zcy, ↓zcz, ↓zda, ↓zdb, ↓reduceIte, Nat.reduceEqDiff, and_true, true_and, and_self, ne_eq, not_false_eq_true, eq_self, false_and, and_false, reduceCtorEq]; done) | (simp only [↓zcy, ↓zcz, ↓zda, ↓zdb, ↓reduceIte, Nat.reduceEqDiff, and_true, true_and, and_self, ne_eq, not_false_eq_true, eq_self, false_and, and_false, reduceCtorEq]; decide)) (by first | (simp only [↓zcy, ↓zcz, ↓zda, ↓zdb, ↓reduceIte, Nat.reduceEqDiff, and_true, true_and, and_self, ne_eq, not_false_eq_true, eq_self, false_and, and_false, reduceCtorEq]; done) | (simp only [↓zcy, ↓zcz, ↓zda, ↓zdb, ↓reduceIte, Nat.reduceEqDiff, and_true, true_and, and_self, ne_eq, not_false_eq_true, eq_self, false_and, and_false, reduceCtorEq]; decide)) hS (row_max hR) hT (by decide) (by omega)) ?_
      simp (config := { maxSteps := 10000000 }) (disch := first | assumption | omega) only [go_sem, ↓reduceIte, Nat.reduceEqDiff, reduceCtorEq, Nat.reduceAdd, Nat.reduceMul, Nat.reduceLeDiff, zfu, Int.mul_def, Int.add_def, zfv, cond_false, cond_true, isub, Int.reduceToNat, s0, s1]
      refine CLL_in rfl _ _ _ (in32k (xs := p) (by simp only [↓zcy, ↓zcz, ↓zda, ↓zdb, ↓reduceIte, Nat.reduceEqDiff, and_true, true_and, and_self, ne_eq, not_false_eq_true, eq_self, false_and, and_false, reduceCtorEq]) hp (by omega) (by omega)) ?_
      simp (config := { maxSteps := 10000000 }) (disch := first | assumption | omega) only [go_sem, ↓reduceIte, Nat.reduceEqDiff, reduceCtorEq, Nat.reduceAdd, Nat.reduceMul, Nat.reduceLeDiff, zfu, Int.mul_def, Int.add_def, zfv, cond_false, cond_true, isub, Int.reduceToNat, s0, s1, hpos]
      refine CLL_pure _ e12 rfl rfl rfl ?_
      simp (config := { maxSteps := 10000000 }) (disch := first | assumption | omega) only [go_sem, ↓reduceIte, Nat.reduceEqDiff, reduceCtorEq, Nat.reduceAdd, Nat.reduceMul, Nat.reduceLeDiff, zfu, Int.mul_def, Int.add_def, zfv, cond_false, cond_true, isub, Int.reduceToNat, s0, s1]
      refine CLL_in rfl _ _ _ in13n ?_
      simp (config := { maxSteps := 10000000 }) (disch := first | assumption | omega) only [go_sem, ↓reduceIte, Nat.reduceEqDiff, reduceCtorEq, Nat.reduceAdd, Nat.reduceMul, Nat.reduceLeDiff, zfu, Int.mul_def, Int.add_def, zfv, cond_false, cond_true, isub, Int.reduceToNat, s0, s1]
      refine CLL_pure _ e14 rfl rfl rfl ?_
      simp (config := { maxSteps := 10000000 }) (disch := first | assumption | omega) only [go_sem, ↓reduceIte, Nat.reduceEqDiff, reduceCtorEq, Nat.reduceAdd, Nat.reduceMul, Nat.reduceLeDiff, zfu, Int.mul_def, Int.add_def, zfv, cond_false, cond_true, isub, Int.reduceToNat, s0, s1, hge]
      refine CLL_pure _ cT (by simp (disch := assumption) only [pureL, pureA, isLw_pure, isLLw_pure, pureL_map, Bool.and_self, Bool.and_true]) rfl rfl ?_
      simp (config := { maxSteps := 10000000 }) (disch := first | assumption | omega) only [go_sem, ↓reduceIte, Nat.reduceEqDiff, reduceCtorEq, Nat.reduceAdd, Nat.reduceMul, Nat.reduceLeDiff, zfu, Int.mul_def, Int.add_def, zfv, cond_false, cond_true, isub, Int.reduceToNat, s0, s1]
      refine CLL_pure _ cP (by simp (disch := assumption) only [pureL, pureA, isLw_pure, isLLw_pure, pureL_map, Bool.and_self, Bool.and_true]) rfl rfl ?_
      simp (config := { maxSteps := 10000000 }) (disch := first | assumption | omega) only [go_sem, ↓reduceIte, Nat.reduceEqDiff, reduceCtorEq, Nat.reduceAdd, Nat.reduceMul, Nat.reduceLeDiff, zfu, Int.mul_def, Int.add_def, zfv, cond_false, cond_true, isub, Int.reduceToNat, s0, s1]
      refine CLL_q _ hI (by repeat' first | exact exqL.nil | refine exqL.cons ?_ ?_ | exact exq_sc _ _ _ (by decide) | exact exq_L (by first | assumption | exact isL_imm _) (by decide) | exact exq_LL (by assumption) (by decide) | exact exq_LLL (by assumption) (by decide) | exact exq_refL (by first | assumption | (simp only [↓zcy, ↓zcz, ↓zda, ↓zdb, ↓reduceIte, Nat.reduceEqDiff, and_true, true_and, and_self, ne_eq, not_false_eq_true, eq_self, false_and, and_false, reduceCtorEq]; done) | (simp only [↓zcy, ↓zcz, ↓zda, ↓zdb, ↓reduceIte, Nat.reduceEqDiff, and_true, true_and, and_self, ne_eq, not_false_eq_true, eq_self, false_and, and_false, reduceCtorEq]; first | rfl | assumption)) (by first | rfl | (simp only [zfe, List.length_map, tms_len]; done)) (by decide) | exact exq_refLL (by first | assumption | (simp only [↓zcy, ↓zcz, ↓zda, ↓zdb, ↓reduceIte, Nat.reduceEqDiff, and_true, true_and, and_self, ne_eq, not_false_eq_true, eq_self, false_and, and_false, reduceCtorEq]; done) | (simp only [↓zcy, ↓zcz, ↓zda, ↓zdb, ↓reduceIte, Nat.reduceEqDiff, and_true, true_and, and_self, ne_eq, not_false_eq_true, eq_self, false_and, and_false, reduceCtorEq]; first | rfl | assumption)) (by first | rfl | (simp only [zfe, List.length_map, tms_len]; done)) (by decide) | exact exq_cube (by first | assumption | (simp only [↓zcy, ↓zcz, ↓zda, ↓zdb, ↓reduceIte, Nat.reduceEqDiff, and_true, true_and, and_self, ne_eq, not_false_eq_true, eq_self, false_and, and_false, reduceCtorEq]; done) | (simp only [↓zcy, ↓zcz, ↓zda, ↓zdb, ↓reduceIte, Nat.reduceEqDiff, and_true, true_and, and_self, ne_eq, not_false_eq_true, eq_self, false_and, and_false, reduceCtorEq]; first | rfl | assumption)) (by decide) | exact exq_mat (by first | assumption | (simp only [↓zcy, ↓zcz, ↓zda, ↓zdb, ↓reduceIte, Nat.reduceEqDiff, and_true, true_and, and_self, ne_eq, not_false_eq_true, eq_self, false_and, and_false, reduceCtorEq]; done) | (simp only [↓zcy, ↓zcz, ↓zda, ↓zdb, ↓reduceIte, Nat.reduceEqDiff, and_true, true_and, and_self, ne_eq, not_false_eq_true, eq_self, false_and, and_false, reduceCtorEq]; first | rfl | assumption)) (by decide) | refine exq_agg ?_) rfl rfl rfl ?_
      simp (config := { maxSteps := 10000000 }) (disch := first | assumption | omega) only [go_sem, ↓reduceIte, Nat.reduceEqDiff, reduceCtorEq, Nat.reduceAdd, Nat.reduceMul, Nat.reduceLeDiff, zfu, Int.mul_def, Int.add_def, zfv, cond_false, cond_true, isub, Int.reduceToNat, s0, s1, impE_tupN]
      refine CLL_pure _ e12 rfl rfl rfl ?_
      simp (config := { maxSteps := 10000000 }) (disch := first | assumption | omega) only [go_sem, ↓reduceIte, Nat.reduceEqDiff, reduceCtorEq, Nat.reduceAdd, Nat.reduceMul, Nat.reduceLeDiff, zfu, Int.mul_def, Int.add_def, zfv, cond_false, cond_true, isub, Int.reduceToNat, s0, s1]
      refine CLL_pure _ e14 rfl rfl rfl ?_
      simp (config := { maxSteps := 10000000 }) (disch := first | assumption | omega) only [go_sem, ↓reduceIte, Nat.reduceEqDiff, reduceCtorEq, Nat.reduceAdd, Nat.reduceMul, Nat.reduceLeDiff, zfu, Int.mul_def, Int.add_def, zfv, cond_false, cond_true, isub, Int.reduceToNat, s0, s1, hge]
      simp only [zbj, zbk, retR, resL, outT, zes, zez, oneV, ↓zcy, ↓zcz, ↓reduceIte, Nat.reduceEqDiff, Option.some.injEq, AV.sc.injEq, Value.bool.injEq, Value.int.injEq, outL, outT, zft, zcp, zed, zef, zei, zeh, List.length_cons, List.length_nil, Nat.reduceAdd, Nat.zero_add, Nat.reduceLeDiff, List.drop_zero, List.take_succ_cons, List.take_zero, zfi, zfh, Ro.dl, zdb, zda, zfe, and_self, and_true, true_and, eq_self, List.append_nil, List.nil_append, List.cons_append, ne_eq, not_false_eq_true, and_false, false_and, Bool.false_eq_true, St.ev, zes, zfn, zhk, List.length_map]
end Go.Proofs.YtbopenehooiekaaGreat
