/- Texts joined: EaS EaA. -/
import Derived.Shelf.SlSortCmp.WholeK
import Derived.Test.YtilfkbgdpmimlaaGreatOd
set_option linter.all false
/- slices.SortFunc at this program: the kit's contract, laid; a list of rings is sorted in place. -/
namespace Go.Proofs.YtilfkbgdpmimlaaGreat
open Go.RowKit Go.Sort
set_option maxRecDepth 1000000
def laysSortF_ren : Go.Shelf.Ren := ⟨fun | 6 => 45 | 15 => 76 | 14 => 75 | 28 => 106 | 29 => 107 | 20 => 98 | 21 => 99 | 22 => 100 | 23 => 101 | 24 => 102 | 25 => 103 | 26 => 104 | 27 => 105 | 46 => 121 | 47 => 122 | 48 => 123 | 49 => 124 | 50 => 125 | 57 => 130 | n => n, fun | 22 => 26 | 24 => 32 | 25 => 66 | 3 => 3 | 39 => 64 | 0 => 0 | 53 => 129 | 55 => 41 | 4 => 4 | 46 => 122 | 45 => 121 | 50 => 126 | 5 => 5 | 9 => 9 | 66 => 139 | 70 => 143 | 76 => 148 | 77 => 149 | n => n, fun n => n⟩
theorem laysSortF : SlLaysF0.n6 Tryz.prog laysSortF_ren where
 mixed := by kernel_rfl
 f6 := ⟨"slices.SortFunc[[]loop.example/g01132/impl.Ring,loop.example/g01132/impl.Ring]", by decide, Tryz.func45.trans (congrArg some (by kernel_rfl))⟩
 f14 := ⟨"slices.pdqsortCmpFunc[loop.example/g01132/impl.Ring]", by decide, Tryz.func75.trans (congrArg some (by kernel_rfl))⟩
 f15 := Tryz.func76.trans (congrArg some (by kernel_rfl))
 f20 := ⟨"slices.insertionSortCmpFunc[loop.example/g01132/impl.Ring]", by decide, Tryz.func98.trans (congrArg some (by kernel_rfl))⟩
 f21 := ⟨"slices.heapSortCmpFunc[loop.example/g01132/impl.Ring]", by decide, Tryz.func99.trans (congrArg some (by kernel_rfl))⟩
 f22 := ⟨"slices.breakPatternsCmpFunc[loop.example/g01132/impl.Ring]", by decide, Tryz.func100.trans (congrArg some (by kernel_rfl))⟩
 f23 := ⟨"slices.choosePivotCmpFunc[loop.example/g01132/impl.Ring]", by decide, Tryz.func101.trans (congrArg some (by kernel_rfl))⟩
 f24 := ⟨"slices.reverseRangeCmpFunc[loop.example/g01132/impl.Ring]", by decide, Tryz.func102.trans (congrArg some (by kernel_rfl))⟩
 f25 := ⟨"slices.partialInsertionSortCmpFunc[loop.example/g01132/impl.Ring]", by decide, Tryz.func103.trans (congrArg some (by kernel_rfl))⟩
 f26 := ⟨"slices.partitionEqualCmpFunc[loop.example/g01132/impl.Ring]", by decide, Tryz.func104.trans (congrArg some (by kernel_rfl))⟩
 f27 := ⟨"slices.partitionCmpFunc[loop.example/g01132/impl.Ring]", by decide, Tryz.func105.trans (congrArg some (by kernel_rfl))⟩
 f28 := Tryz.func106.trans (congrArg some (by kernel_rfl))
 f29 := Tryz.func107.trans (congrArg some (by kernel_rfl))
 f46 := ⟨"slices.siftDownCmpFunc[loop.example/g01132/impl.Ring]", by decide, Tryz.func121.trans (congrArg some (by kernel_rfl))⟩
 f47 := Tryz.func122.trans (congrArg some (by kernel_rfl))
 f48 := Tryz.func123.trans (congrArg some (by kernel_rfl))
 f49 := ⟨"slices.medianAdjacentCmpFunc[loop.example/g01132/impl.Ring]", by decide, Tryz.func124.trans (congrArg some (by kernel_rfl))⟩
 f50 := ⟨"slices.medianCmpFunc[loop.example/g01132/impl.Ring]", by decide, Tryz.func125.trans (congrArg some (by kernel_rfl))⟩
 f57 := ⟨"slices.order2CmpFunc[loop.example/g01132/impl.Ring]", by decide, Tryz.func130.trans (congrArg some (by kernel_rfl))⟩
 t0 := Tryz.underlying0
 a0 := Tryz.isAgg0
 z0 := Tryz.sizeOf0
 v0 := Tryz.zeroValue0
 t3 := Tryz.underlying3
 a3 := Tryz.isAgg3
 z3 := Tryz.sizeOf3
 v3 := Tryz.zeroValue3
 t4 := Tryz.underlying4
 a4 := Tryz.isAgg4
 z4 := Tryz.sizeOf4
 v4 := Tryz.zeroValue4
 t5 := Tryz.underlying5
 a5 := Tryz.isAgg5
 z5 := Tryz.sizeOf5
 v5 := Tryz.zeroValue5
 t9 := Tryz.underlying9
 a9 := Tryz.isAgg9
 z9 := Tryz.sizeOf9
 v9 := Tryz.zeroValue9
 t22 := Tryz.underlying26
 a22 := Tryz.isAgg26
 z22 := Tryz.sizeOf26
 v22 := Tryz.zeroValue26
 t25 := Tryz.underlying66
 a25 := Tryz.isAgg66
 z25 := Tryz.sizeOf66
 v25 := Tryz.zeroValue66
 t39 := Tryz.underlying64
 a39 := Tryz.isAgg64
 z39 := Tryz.sizeOf64
 v39 := Tryz.zeroValue64
 t45 := Tryz.underlying121
 a45 := Tryz.isAgg121
 z45 := Tryz.sizeOf121
 v45 := Tryz.zeroValue121
 t46 := Tryz.underlying122
 a46 := Tryz.isAgg122
 z46 := Tryz.sizeOf122
 v46 := Tryz.zeroValue122
 t50 := Tryz.underlying126
 a50 := Tryz.isAgg126
 z50 := Tryz.sizeOf126
 v50 := Tryz.zeroValue126
 t53 := Tryz.underlying129
 a53 := Tryz.isAgg129
 z53 := Tryz.sizeOf129
 v53 := Tryz.zeroValue129
 t55 := Tryz.underlying41
 a55 := Tryz.isAgg41
 z55 := Tryz.sizeOf41
 v55 := Tryz.zeroValue41
 t66 := Tryz.underlying139
 a66 := Tryz.isAgg139
 z66 := Tryz.sizeOf139
 v66 := Tryz.zeroValue139
 t70 := Tryz.underlying143
 a70 := Tryz.isAgg143
 z70 := Tryz.sizeOf143
 v70 := Tryz.zeroValue143
 t76 := Tryz.underlying148
 a76 := Tryz.isAgg148
 z76 := Tryz.sizeOf148
 v76 := Tryz.zeroValue148
 t77 := Tryz.underlying149
 a77 := Tryz.isAgg149
 z77 := Tryz.sizeOf149
 v77 := Tryz.zeroValue149
theorem prV_other (w : World) (g off : Nat) (d : Array Value) (k : Nat) (h : k ≠ g) : (putRow id w g off d).heap[k]? = w.heap[k]? := by
 simp only [putRow, mapBlock, Array.getElem?_modify]
 rw [if_neg (Ne.symm h)]
theorem prV_same (w : World) (g off : Nat) (d : Array Value) {arr : Array Value} {E : TypeId} {fr : Nat × Nat} (h : w.heap[g]? = some (.cells arr E fr)) : (putRow id w g off d).heap[g]? = some (.cells (putCells id off d arr) E fr) := by
 simp only [putRow, mapBlock, Array.getElem?_modify, if_true, h, Option.map_some, onCells]
theorem putCellsV (ys : List Value) (arr : Array Value) (off : Nat) (h : off + ys.length ≤ arr.size) :
  putCells id off ys.toArray arr = (arr.toList.take off ++ ys ++ arr.toList.drop (off + ys.length)).toArray := by
 have hlt : (arr.toList.take off).length = off := by rw [List.length_take, Array.length_toList]; omega
 apply Array.ext_getElem?
 intro k
 simp only [putCells, Array.getElem?_mapIdx, List.getElem?_toArray, List.size_toArray]
 by_cases e1 : k < off
 ·rw [List.append_assoc, List.getElem?_append_left (by omega), List.getElem?_take, if_pos e1, Array.getElem?_toList]
  cases hk : arr[k]? with
  | none => rfl
  | some u => simp only [Option.map_some]; rw [if_neg (by omega)]
 ·by_cases e2 : k < off + ys.length
  ·have hka : k < arr.size := by omega
   rw [List.getElem?_append_left (by simp only [List.length_append]; omega), List.getElem?_append_right (by omega), hlt, Array.getElem?_eq_getElem hka, Option.map_some, if_pos ⟨by omega, e2⟩, List.getElem?_eq_getElem (by omega)]
   congr 1
   exact getElem!_pos ys.toArray (k - off) (by simp only [List.size_toArray]; omega)
  ·rw [List.getElem?_append_right (by simp only [List.length_append]; omega)]
   simp only [List.length_append, hlt, List.getElem?_drop, Array.getElem?_toList]
   rw [show off + ys.length + (k - (off + ys.length)) = k by omega]
   cases hk : arr[k]? with
   | none => rfl
   | some u => simp only [Option.map_some]; rw [if_neg (by omega)]
theorem flat1 {α : Type} [Inhabited α] (u : α → Value) (d : Array α) : Go.Sort.flatK (fun x => [u x]) 1 d = (d.toList.map u).toArray := by
 have hs : (Go.Sort.flatK (fun x => [u x]) 1 d).size = d.size := by simp [Go.Sort.flatK]
 apply Array.ext
 ·simp [hs]
 intro i h1 h2
 rw [hs] at h1
 have := get_flatK (fun x => [u x]) 1 d i (by omega)
 rw [getElem!_pos _ i (by rw [hs]; exact h1)] at this
 rw [this]
 simp [Nat.mod_one, getElem!_pos d i h1]
theorem put_at {arr : Array Value} {b i : Nat} {ys : List Value} {v : Value} (h : b + ys.length ≤ arr.size) (hv : ys[i]? = some v) : (arr.toList.take b ++ ys ++ arr.toList.drop (b + ys.length)).toArray[b + i]? = some v := by
 have hi : i < ys.length := (List.getElem?_eq_some_iff.1 hv).1
 have hl : (arr.toList.take b).length = b := by rw [List.length_take, Array.length_toList]; omega
 rw [List.getElem?_toArray, List.append_assoc, List.getElem?_append_right (by omega), List.getElem?_append_left (by omega), hl, show b + i - b = i by omega]
 exact hv
theorem put_same {arr : Array Value} {k : Nat} {u : Value} (h : arr[k + 0]? = some u) : (arr.toList.take (k + 0) ++ [u] ++ arr.toList.drop (k + 0 + [u].length)).toArray = arr := by
 have hk : k < arr.toList.length := by rw [Array.length_toList]; exact (Array.getElem?_eq_some_iff.1 h).1
 have hu : arr.toList[k] = u := by rw [Array.getElem_toList]; exact (Array.getElem?_eq_some_iff.1 h).2
 have e : arr.toList.take k ++ [u] ++ arr.toList.drop (k + 1) = arr.toList := by
  rw [List.append_assoc, List.singleton_append, ← hu, ← List.drop_eq_getElem_cons hk, List.take_append_drop]
 show (arr.toList.take k ++ [u] ++ arr.toList.drop (k + 1)).toArray = arr
 rw [e]
theorem setRow_same {w : World} {b : Nat} {arr : Array Value} {E : TypeId} {fr : Nat × Nat} (h : w.heap[b]? = some (.cells arr E fr)) : w.setRow b arr = w := by
 have : (w.setRow b arr).heap = w.heap := by
  apply Array.ext_getElem?
  intro k
  by_cases e : k = b
  ·subst e; rw [setRow_heap _ _ _ _ _ _ h, h]
  ·rw [setRow_other _ _ _ _ e]
 show { w with heap := (w.setRow b arr).heap } = w
 rw [this]
theorem RelL.perm {c : Cx} {ps ps' : List (AV × Value)} (hp : ps.Perm ps') : ∀ {G : List Nat}, RelL c (ps.map Prod.fst) (ps.map Prod.snd) G → ∃ G', (∀ x, x ∈ G' ↔ x ∈ G) ∧ RelL c (ps'.map Prod.fst) (ps'.map Prod.snd) G' := by
 induction hp with
 | nil => exact fun h => ⟨_, fun _ => Iff.rfl, h⟩
 | cons p _ ih =>
  intro G h
  obtain ⟨v, us, F1, F2, e1, rfl, h1, h2, hd⟩ := RelL.uncons h
  obtain ⟨rfl, rfl⟩ := List.cons.inj e1
  obtain ⟨G2, k1, k2⟩ := ih h2
  refine ⟨F1 ++ G2, fun x => by simp only [List.mem_append, k1 x], RelL.cons h1 k2 fun x hx hg => hd x hx ((k1 x).1 hg)⟩
 | swap p q l =>
  intro G h
  obtain ⟨v, us, F1, F2, e1, rfl, h1, h2, hd⟩ := RelL.uncons h
  obtain ⟨rfl, rfl⟩ := List.cons.inj e1
  obtain ⟨v, us, F3, F4, e1, rfl, h3, h4, hd2⟩ := RelL.uncons h2
  obtain ⟨rfl, rfl⟩ := List.cons.inj e1
  refine ⟨F3 ++ (F1 ++ F4), fun x => by simp only [List.mem_append]; constructor <;> (intro h; rcases h with h | h | h <;> simp [h]), RelL.cons h3 (RelL.cons h1 h4 fun x hx hg => hd x hx (by simp [hg])) fun x hx hg => ?_⟩
  rcases List.mem_append.1 hg with hg | hg
  ·exact hd x hg (by simp [hx])
  ·exact hd2 x hx hg
 | trans _ _ ih1 ih2 =>
  intro G h
  obtain ⟨G1, k1, k2⟩ := ih1 h
  obtain ⟨G2, k3, k4⟩ := ih2 k2
  exact ⟨G2, fun x => (k3 x).trans (k1 x), k4⟩
theorem frz_cubes (Ls : List C3) (n : Nat) : frzL (Ls.map fun F => cubeA F n) = Ls.map fun F => immC F n := by
 have h1 : ∀ (f : Nat → AV), frzL (rws f n) = rws (fun i => frzV (f i)) n := fun f => by rw [frzL_map, rws_map]
 rw [frzL_map, List.map_map]
 refine List.map_congr_left fun F _ => ?_
 show frzV (cubeA F n) = immC F n
 unfold cubeA
 simp only [frzV, h1]
theorem immC_pure (Ls : List C3) (n : Nat) : pureL (Ls.map fun F => immC F n) = true := by
 induction Ls with
 | nil => rfl
 | cons F Ls ih => rw [List.map_cons, pureL, isLLL_pure (isLLL_immC F n), ih]; rfl
theorem extr {α : Type} {a : Array α} {k : Nat} (h : a.size = k) : a.extract 0 k = a := by
 subst h
 exact Array.extract_size
theorem grow_of {w w' : World} (h : Blw w w' []) : ∃ q os', w' = grow (w.drewN q) os' := by
 refine ⟨w'.drawn - w.drawn, w'.heap.extract w.heap.size w'.heap.size, ?_⟩
 have e1 : w'.heap = w.heap ++ w'.heap.extract w.heap.size w'.heap.size := by
  apply Array.ext_getElem?
  intro k
  rw [Array.getElem?_append]
  split
  ·rename_i hk; exact h.block k hk (by simp)
  ·rename_i hk
   rw [Array.getElem?_extract]
   have := h.size
   split
   ·congr 1; omega
   ·rename_i h2
    rw [Array.getElem?_eq_none (by omega)]
 have e2 : w'.drawn = w.drawn + (w'.drawn - w.drawn) := by have := h.output.2; omega
 have e3 := h.os
 have e4 := h.tape
 have e5 := h.output.1
 unfold grow World.drewN
 generalize w'.heap.extract w.heap.size w'.heap.size = ex at e1
 generalize w'.drawn - w.drawn = q at e2
 cases w'
 cases w
 simp only at e1 e2 e3 e4 e5 ⊢
 rw [e1, e2, e3, e4, e5]
section
variable {ro : Ro} {gn : Nat → Nat} {s g n : Nat} {Ls : List C3}
set_option maxHeartbeats 4000000 in
theorem sSortR {sc gc : Nat} (hn : n ≤ maxN) (hN : Ls.length ≤ 1000000) (rL : ro s g = some (listA n Ls)) (rc : ro sc gc = some (.bx [.ref s g [] 0 Ls.length])) (hsc : sc ≠ s) :
  InS Tryz.prog 45 [.ref s g [] 0 Ls.length, .fn 37 []] ro gn (fun r ro' gn' => r = .tup [] ∧ gn' = upg gn s (gn s + 1) ∧ ∃ Ls' : List C3, Ls'.Perm Ls ∧ Ls'.Pairwise (fun F G => ¬ cmp3 (cubeL G n) (cubeL F n) < 0) ∧ ro' = upr (upr (upr ro s g .dead) s (gn s + 1) (listA n Ls')) sc gc (.bx [.ref s (gn s + 1) [] 0 Ls.length])) := by
 refine ⟨⟨_, Tryz.func45, by kernel_rfl, by kernel_rfl⟩, fun w0 A0 F0 c Φ vs hS hcro hcgn hv => ?_⟩
 obtain ⟨v, vs1, rfl, h1, h2⟩ := RelL.uncons0 hv
 obtain ⟨v2, vs2, rfl, h3, h4⟩ := RelL.uncons0 h2
 obtain rfl := (RelL.nilF h4).1
 obtain ⟨ucap, rfl, hu⟩ := Rel.fn_inv h3
 obtain rfl := (RelL.nilF hu).1
 obtain ⟨hg, hpl⟩ := Rel.ref_inv h1
 have hcells : c.ro.cells s g [] = some (Ls.map fun F => cubeA F n) := by rw [hcro]; simp only [Ro.cells, rL, listA, blk]
 obtain ⟨x, hx, hh, hle⟩ := hpl _ hcells
 obtain ⟨b', cap, arr, E, rfl, hb', hheap, hsz, hnc, hcap⟩ := hh
 -- the cell that holds the list
 have hbc : c.ro.cells sc gc [] = some [.ref s g [] 0 Ls.length] := by rw [hcro]; simp only [Ro.cells, rc, blk]
 obtain ⟨xb, usb, Fb, capb, hxb, hrelb, hownb, -, hxbo, -, -⟩ := hS.place hbc
 obtain ⟨ub, usb2, Fb1, Fb2, rfl, -, hub, hub2, -⟩ := hrelb.uncons
 obtain rfl := (RelL.nilF hub2).1
 obtain ⟨-, hplb⟩ := Rel.ref_inv hub
 obtain ⟨x', hx', hhb, -⟩ := hplb _ hcells
 rw [hx] at hx'
 obtain rfl : x = x' := by simpa using hx'
 -- the list is taken out
 obtain ⟨ct, Φt, vt, het, kpt, hSt, hrt, hdt⟩ := hS.takeG (s := s) (g := g) (a := listA n Ls) (by rw [hcro]; exact rL)
 obtain ⟨gb, ob, capt, us, F, rfl, hΦ, hrel, hown, hgF⟩ := Rel.row_inv hrt
 obtain ⟨capt2, hvt⟩ := hdt
 have hLx : c.L s g = x := by simpa [locp] using hx
 simp only [Value.slice.injEq, Option.some.injEq, Addr.mk.injEq, hLx] at hvt
 obtain ⟨⟨rfl, rfl, -⟩, -, -⟩ := hvt
 have hwt : ct.w = c.w := by rw [het]
 have husl : us.length = Ls.length := by rw [← hrel.len, List.length_map]
 have hone := hrel.ones (List.all_eq_true.2 fun a ha => by obtain ⟨G, -, rfl⟩ := List.mem_map.1 ha; rfl)
 rw [hwt] at hown
 have hcA : c.A x.1 ∧ ¬ A0 x.1 ∧ (w0.heap.size ≤ x.1 ∨ x.1 ∈ F0) := hS.own s g x.1 (by rw [hΦ]; simp)
 have hcx : RelL (cx0 c.w (fun y => y = x.1)) (Ls.map fun F => immC F n) us [] := by
  have := RelL.frz (c' := cx0 c.w (fun y => y = x.1)) hrel hwt.symm (noIL_map _ (fun F => noI_cube F n) _) (fun y hy e => hgF (by rw [show y = x.1 from e] at hy; exact hy))
  rwa [frz_cubes] at this
 have hblk : x.1 < c.w.heap.size := (Array.getElem?_eq_some_iff.1 hheap).1
 obtain ⟨wI, gI1, gI2, gI3⟩ := hS.gd
 have hbI : wI.heap.size ≤ x.1 := by
  rcases hcA.2.2 with h | h
  ·exact Nat.le_trans gI2.size h
  ·exact gI3 _ h
 -- what stands where, by number
 let T : Fin (Ls.length + 1) → List (List (List Int)) := fun i => (Ls.map fun F => cubeL F n).getD i []
 let A : Fin (Ls.length + 1) → AV := fun i => (Ls.map fun F => immC F n).getD i nilA
 let u : Fin (Ls.length + 1) → Value := fun i => us.getD i (.slice none 0 0)
 let cf : Fin (Ls.length + 1) → Fin (Ls.length + 1) → Int := fun i j => cmp3 (T i) (T j)
 have hAT : ∀ i, isLLL (A i) (T i) := by
  intro i
  show isLLL ((Ls.map fun F => immC F n).getD i nilA) ((Ls.map fun F => cubeL F n).getD i [])
  rw [List.getD_eq_getElem?_getD, List.getD_eq_getElem?_getD, List.getElem?_map, List.getElem?_map]
  cases h : Ls[i.1]? with
  | none => exact .inr ⟨rfl, rfl⟩
  | some F => exact isLLL_immC F n
 have hAu : ∀ i, Rel (cx0 c.w (fun y => y = x.1)) (A i) (u i) [] := by
  intro i
  show Rel _ ((Ls.map fun F => immC F n).getD i nilA) (us.getD i (.slice none 0 0)) []
  rw [List.getD_eq_getElem?_getD, List.getD_eq_getElem?_getD]
  by_cases hi : i.1 < Ls.length
  ·have := hcx.nthZ (k := i.1) (by rw [List.length_map]; exact hi) (by omega)
   rw [List.getElem?_eq_getElem (by rw [List.length_map]; exact hi), List.getElem?_eq_getElem (show i.1 < us.length by omega)]
   exact this
  ·rw [List.getElem?_eq_none (by rw [List.length_map]; omega), List.getElem?_eq_none (by omega)]
   exact .sc _ .nil
 have hTl : ∀ i, (T i).length ≤ maxN ∧ ∀ j, j < (T i).length → (mat (T i) j).length ≤ maxN ∧ ∀ k, k < (mat (T i) j).length → (row (mat (T i) j) k).length ≤ maxN := by
  intro i
  show ((Ls.map fun F => cubeL F n).getD i []).length ≤ maxN ∧ _
  rw [show T i = (Ls.map fun F => cubeL F n).getD i [] from rfl, List.getD_eq_getElem?_getD, List.getElem?_map]
  cases h : Ls[i.1]? with
  | none => exact ⟨Nat.zero_le _, fun j hj => absurd hj (Nat.not_lt_zero _)⟩
  | some F =>
   show (cubeL F n).length ≤ maxN ∧ ∀ j, j < (cubeL F n).length → (mat (cubeL F n) j).length ≤ maxN ∧ ∀ k, k < (mat (cubeL F n) j).length → (row (mat (cubeL F n) j) k).length ≤ maxN
   rw [lenC]
   refine ⟨hn, fun j hj => ?_⟩
   rw [lenM hj]
   refine ⟨hn, fun k hk => ?_⟩
   rw [lenR hj hk]
   exact hn
 have hO : SWO (ltOf cf) := by
  refine ⟨fun x => ?_, fun x y z h1 h2 => ?_, fun x y z h1 h2 => ?_⟩
  ·have := (cmp3_O.eq0 (T x) (T x)).2 rfl
   exact decide_eq_false (by show ¬ cmp3 (T x) (T x) < 0; omega)
  ·have h1 : cmp3 (T x) (T y) < 0 := of_decide_eq_true h1
   have h2 : cmp3 (T y) (T z) < 0 := of_decide_eq_true h2
   exact decide_eq_true (cmp3_O.trans _ _ _ h1 h2)
  ·have h1 : ¬ cmp3 (T x) (T y) < 0 := of_decide_eq_false h1
   have h2 : ¬ cmp3 (T y) (T z) < 0 := of_decide_eq_false h2
   refine decide_eq_false fun h3 => ?_
   have h3 : cmp3 (T x) (T z) < 0 := h3
   by_cases e : cmp3 (T x) (T y) = 0
   ·have e := (cmp3_O.eq0 _ _).1 e
    rw [e] at h3; exact h2 h3
   ·have h4 : cmp3 (T y) (T x) < 0 := (cmp3_O.anti _ _).2 (by omega)
    exact h2 (cmp3_O.trans _ _ _ h4 h3)
 have hcmp : CmpLays Tryz.prog 37 #[] (fun i => [u i]) 1 cf x.1 b' Ls.length c.w := by
  intro m os dk hdk i j
  obtain ⟨sw, hsw⟩ : ∃ sw, sw = sortWorldK (fun i => [u i]) 1 c.w x.1 b' m dk os := ⟨_, rfl⟩
  rw [← hsw]
  have hs1 : c.w.heap.size ≤ sw.heap.size := by rw [hsw]; exact size_sortWorldK_c _ _ _ _ _ _ _ _
  have hs2 : ∀ k, k < c.w.heap.size → k ≠ x.1 → sw.heap[k]? = c.w.heap[k]? := by
   intro k hk hkx
   rw [hsw]
   unfold sortWorldK putRowK
   rw [heap_grow_old _ _ (by simp; exact hk), prV_other _ _ _ _ _ hkx]
   rfl
  have hK : Keep (cx0 c.w (fun y => y = x.1)) (cx0 sw (fun y => y = x.1)) := by
   refine ⟨hs1, fun b _ h => h, fun b hb hna => hs2 b hb hna, fun _ => Nat.le_refl _, fun s g p cs _ h => ?_⟩
   exfalso
   revert h
   cases p <;> simp [cx0, Ro.cells, Ro.at, blk, ath]
  have hr : RelL (cx0 sw (fun y => y = x.1)) [.agg [A i], .agg [A j]] [.agg #[u i], .agg #[u j]] [] := RelL.agg ((hAu i).mono hK (by simp)) (by simp) (RelL.agg ((hAu j).mono hK (by simp)) (by simp) .nil)
  have hGd : Gd sw := by
   refine ⟨wI, gI1, ?_, ?_, ?_, ?_, fun k hk _ => ?_⟩
   ·rw [hsw]; exact hS.bw.os.trans gI2.os
   ·rw [hsw]; exact hS.bw.tape.trans gI2.tape
   ·refine (gI2.output.trans hS.bw.output).trans ?_
    rw [hsw]
    exact ⟨rfl, Nat.le_add_right _ _⟩
   ·exact Nat.le_trans gI2.size (Nat.le_trans hS.bw.size hs1)
   ·rw [hs2 k (by have := gI2.size; have := hS.bw.size; omega) (by omega), hS.bw.block k (by have := gI2.size; omega) (fun hF => by have := gI3 k hF; omega), gI2.block k hk (by simp)]
  have hC := (cCmpR (hAT i) (hAT j) (hTl i).1 (hTl j).1 (fun a ha => ((hTl i).2 a ha).1) (fun a ha => ((hTl j).2 a ha).1) (fun a ha b hb => ((hTl i).2 a ha).2 b hb) (fun a ha b hb => ((hTl j).2 a ha).2 b hb)).2.2 sw (fun y => y = x.1) _ hr (fun y hy => by rw [show y = x.1 from hy]; omega) hGd
  refine hC.mono ?_
  rintro e w' ⟨v, A', F', rfl, k1, k2, k3, k4⟩
  obtain ⟨rfl, -⟩ := Rel.sc_inv k1
  exact ⟨rfl, grow_of k4⟩
 obtain ⟨d, hd⟩ : ∃ d : Array (Fin (Ls.length + 1)), d = Array.ofFn (fun i : Fin Ls.length => (⟨i.1, by omega⟩ : Fin (Ls.length + 1))) := ⟨_, rfl⟩
 have hds : d.size = Ls.length := by rw [hd]; simp
 have hdg : ∀ j, (hj : j < d.size) → (d[j]).1 = j := by intro j hj; simp [hd]
 have hdl : d.toList.map u = us := by
  apply List.ext_getElem
  ·rw [List.length_map, Array.length_toList, hds, husl]
  ·intro j h1 h2
   rw [List.getElem_map, Array.getElem_toList]
   rw [List.length_map, Array.length_toList] at h1
   show us.getD (d[j]).1 _ = _
   rw [hdg j h1, List.getD_eq_getElem?_getD, List.getElem?_eq_getElem h2]
   rfl
 have hoff : 0 < Ls.length → b' = x.2 := by
  intro h0
  rcases hb' with e | e
  ·omega
  ·omega
 have hH : HoldsK (fun i => [u i]) 1 c.w x.1 b' d := by
  unfold HoldsK
  rw [flat1, hdl]
  intro j hj
  have hj' : j < us.length := by simpa using hj
  obtain rfl := hoff (by omega)
  refine ⟨?_, ?_⟩
  ·rw [hown.cell (List.getElem?_eq_getElem hj'), getElem!_pos us.toArray j hj]
   rfl
  ·simp only [World.frozen?, hheap]
   simp
 have h1' : ∀ i : Fin (Ls.length + 1), ∀ v ∈ [u i], v.oneCell' = true := by
  intro i v hv
  rw [List.mem_singleton] at hv
  subst hv
  show (us.getD i.1 (.slice none 0 0)).oneCell' = true
  rw [List.getD_eq_getElem?_getD]
  cases h : us[i.1]? with
  | none => rfl
  | some v =>
   have := hone v (List.mem_of_getElem? h)
   show v.oneCell' = true
   cases v <;> first | rfl | exact this
 have hs := AnyQ.slices_SortFunc laysSortF 1 Tryz.isAgg32 Tryz.sizeOf32 (fun i => [u i]) (fun _ => rfl) h1' cf hO 37 #[] x.1 b' cap d c.w (fun args w => run_enter ⟨_, Tryz.func37, by kernel_rfl, by kernel_rfl⟩ args w) (by rw [hds]; exact hcmp) hH hblk (by omega)
 rw [hds] at hs
 refine hs.mono ?_
 rintro e w' ⟨rfl, d', m, os, hperm, hsort, rfl⟩
 obtain ⟨p1, -, p3⟩ := hperm
 rw [hds] at p1
 have hp : d'.toList.Perm d.toList := by
  rwa [extr p1, extr hds] at p3
 have hlt : ∀ i, i ∈ d'.toList → i.1 < Ls.length := by
  intro i hi
  obtain ⟨j, hj, e⟩ := List.mem_iff_getElem.1 (hp.mem_iff.1 hi)
  rw [Array.length_toList] at hj
  rw [Array.getElem_toList] at e
  rw [← e, hdg j hj]
  omega
 let G : Fin (Ls.length + 1) → C3 := fun i => Ls.getD i.1 (fun _ _ _ => 0)
 have hLd : d.toList.map G = Ls := by
  apply List.ext_getElem
  ·rw [List.length_map, Array.length_toList, hds]
  ·intro j h1 h2
   rw [List.getElem_map, Array.getElem_toList]
   rw [List.length_map, Array.length_toList] at h1
   show Ls.getD (d[j]).1 _ = _
   rw [hdg j h1, List.getD_eq_getElem?_getD, List.getElem?_eq_getElem h2]
   rfl
 have hTG : ∀ i : Fin (Ls.length + 1), i.1 < Ls.length → T i = cubeL (G i) n := by
  intro i hi
  show (Ls.map fun F => cubeL F n).getD i.1 [] = cubeL (Ls.getD i.1 _) n
  rw [List.getD_eq_getElem?_getD, List.getD_eq_getElem?_getD, List.getElem?_map, List.getElem?_eq_getElem hi]
  rfl
 have hul' : (d'.toList.map u).length = Ls.length := by rw [List.length_map, Array.length_toList, p1]
 have hl' : (d'.toList.map G).length = Ls.length := by rw [List.length_map, Array.length_toList, p1]
 have hsw : sortWorldK (fun i => [u i]) 1 c.w x.1 b' m d' os = grow (putRow id (Sort.ahead c.w m) x.1 b' (d'.toList.map u).toArray) os := by
  unfold sortWorldK putRowK
  rw [flat1]
 rw [hsw]
 obtain ⟨w2, hw2⟩ : ∃ w2, w2 = grow (putRow id (Sort.ahead c.w m) x.1 b' (d'.toList.map u).toArray) os := ⟨_, rfl⟩
 rw [← hw2]
 have hother : ∀ q, q < c.w.heap.size → q ≠ x.1 → w2.heap[q]? = c.w.heap[q]? := by
  intro q hq hqx
  rw [hw2, heap_grow_old _ _ (by simp; exact hq), prV_other _ _ _ _ _ hqx]
  rfl
 have hfitb : b' + (d'.toList.map u).length ≤ arr.size := by omega
 have hself : w2.heap[x.1]? = some (.cells (arr.toList.take b' ++ d'.toList.map u ++ arr.toList.drop (b' + (d'.toList.map u).length)).toArray E (0, 0)) := by
  rw [hw2, heap_grow_old _ _ (by simp; exact hblk), prV_same (w := Sort.ahead c.w m) _ _ _ hheap, putCellsV _ arr b' hfitb]
 have hsize : c.w.heap.size ≤ w2.heap.size := by rw [hw2]; simp
 have hlen2 : (arr.toList.take b' ++ d'.toList.map u ++ arr.toList.drop (b' + (d'.toList.map u).length)).toArray.size = arr.size := by
  simp only [List.size_toArray, List.length_append, List.length_take, List.length_drop, Array.length_toList]
  omega
 obtain ⟨c3, d1, d2, d3, dL, d5, d6, d7⟩ := hSt.wchg w2 (x.1 :: F) (by rw [hwt, hw2]; rfl) (by rw [hwt, hw2]; rfl) (by rw [hwt, hw2]; exact ⟨rfl, Nat.le_add_right _ _⟩) (by rw [hwt]; exact hsize)
  (fun q hq hnq => by
   rw [hwt] at hq ⊢
   exact hother q hq (fun e => hnq (by rw [hΦ]; simp [e])))
  (fun q hq => .inl (by rw [hΦ]; simpa using hq))
 have hFs : ∀ q, q ∈ F → q < c.w.heap.size := by
  intro q hq
  have := hSt.al q (hSt.rown q (by rw [hΦ]; simp [hq])).1
  rwa [hwt] at this
 have hrel3 : RelL c3 (Ls.map fun F => cubeA F n) us F := hrel.mono d6 (fun q hq => by
  rw [d1, hwt]
  exact hother q (hFs q hq) (fun e => hgF (e ▸ hq)))
 obtain ⟨F2, hF2, hRp⟩ := RelL.perm (c := c3) (ps := d.toList.map fun i => (cubeA (G i) n, u i)) (ps' := d'.toList.map fun i => (cubeA (G i) n, u i)) (hp.symm.map _) (G := F) (by
  rw [List.map_map, List.map_map]
  have e1 := congrArg (List.map fun F => cubeA F n) hLd
  rw [List.map_map] at e1
  have e1 : d.toList.map (Prod.fst ∘ fun i => (cubeA (G i) n, u i)) = Ls.map fun F => cubeA F n := e1
  have e2 : d.toList.map (Prod.snd ∘ fun i => (cubeA (G i) n, u i)) = us := hdl
  rw [e1, e2]
  exact hrel3)
 rw [List.map_map, List.map_map] at hRp
 have hRq : RelL c3 ((d'.toList.map G).map fun F => cubeA F n) (d'.toList.map u) F2 := by
  rw [List.map_map]
  exact hRp
 have hF2x : x.1 ∉ F2 := fun h => hgF ((hF2 _).1 h)
 have hown3 : ownB c3.w x.1 x.2 (d'.toList.map u) capt := by
  obtain ⟨arr0, E0, o1, o2, o3, o4, o5⟩ := hown
  rw [hheap] at o1
  obtain ⟨rfl, rfl⟩ : arr = arr0 ∧ E = E0 := by simpa using o1
  refine ⟨_, E, by rw [d1]; exact hself, by rw [hlen2]; exact o2, by omega, o4, fun i v hiv => ?_⟩
  have hi : i < (d'.toList.map u).length := (List.getElem?_eq_some_iff.1 hiv).1
  rw [← hoff (by omega)]
  exact put_at hfitb hiv
 have hrow := Rel.mk_row (c := c3) x.1 x.2 capt hRq hown3 hF2x
 obtain ⟨c4, Φ4, g41, g42, g43, g44⟩ := Sim.renew (R := []) (by simpa using d7.sub (R' := x.1 :: F2) (fun q hq => by
  rcases List.mem_cons.1 hq with rfl | hq
  ·simp
  ·simp [(hF2 _).1 hq])) s (x.1, x.2) hrow ⟨capt, by rw [hRq.len]⟩ (by simp)
 have hc3g : c3.gn s = gn s := by rw [d3, het]; show c.gn s = _; rw [hcgn]
 have hkp : Keep c c4 := kpt.trans (d6.trans g42)
 -- the cell is read anew
 have hw4 : c4.w = w2 := by rw [g41]; exact d1
 have hro4 : c4.ro = upr (upr ro s g .dead) s (gn s + 1) (listA n (d'.toList.map G)) := by
  rw [g41]
  show upr c3.ro s (c3.gn s + 1) _ = _
  rw [hc3g, d2, het, hcro]
  rfl
 have hgn4 : c4.gn = upg gn s (gn s + 1) := by
  rw [g41]
  show upg c3.gn s (c3.gn s + 1) = _
  rw [hc3g, d3, het, hcgn]
 have hL4 : c4.L sc gc = c.L sc gc := by
  rw [g41]
  show (if sc = s ∧ gc = c3.gn s + 1 then _ else c3.L sc gc) = _
  rw [if_neg (fun e => hsc e.1), dL, het]
 have hL4s : c4.L s (gn s + 1) = x := by rw [← hc3g]; exact g44
 have hbc4 : c4.ro.cells sc gc [] = some [.ref s g [] 0 Ls.length] := by
  rw [hro4]
  simp only [Ro.cells, zdb, if_neg (fun e : sc = s ∧ gc = gn s + 1 => hsc e.1), if_neg (fun e : sc = s ∧ gc = g => hsc e.1), rc, blk]
 have hxbs : xb.1 ≠ x.1 := by
  intro e
  have h1 : xb.1 ∈ Φ s g := by rw [hΦ, e]; simp
  exact hS.dj sc gc s g (fun e => hsc e.1) xb.1 hxbo h1
 have hLb : c.L sc gc = xb := by simpa [locp] using hxb
 obtain ⟨arrb, Eb, ob1, ob2, ob3, ob4, ob5⟩ := hownb
 have hxblt : xb.1 < c.w.heap.size := (Array.getElem?_eq_some_iff.1 ob1).1
 have hcells4 : c4.ro.cells s (gn s + 1) [] = some ((d'.toList.map G).map fun F => cubeA F n) := by
  rw [hro4]
  simp [Ro.cells, zdb, listA, blk]
 have hnewref : RelL c4 [.ref s (gn s + 1) [] 0 Ls.length] [ub] [] := by
  refine .ref s (gn s + 1) [] 0 _ _ (by rw [hgn4]; simp [upg]) (fun ds hds => ?_) .nil
  rw [hcells4] at hds
  obtain rfl := Option.some.inj hds
  refine ⟨x, by simp [locp, hL4s], ?_, by rw [List.length_map, hl']; omega⟩
  obtain ⟨bb, capb2, arrB, EB, q1, q2, q3, q4, q5, q6⟩ := hhb
  rw [hheap] at q3
  obtain ⟨rfl, rfl⟩ : arr = arrB ∧ E = EB := by simpa using q3
  exact ⟨bb, capb2, _, E, q1, q2, by rw [hw4]; exact hself, by rw [hlen2]; exact q4, q5, q6⟩
 obtain ⟨x5, arr5, E5, hx5, hheap5, hfit5, c5, Φ5, e1, e2, e3, e4, kp5, hS5⟩ := g43.store hbc4 0 [.ref s (gn s + 1) [] 0 Ls.length] [ub] (by simp) hnewref (by
  intro a ha ds e
  rw [List.mem_singleton] at ha
  subst ha
  cases e)
 have hx5b : x5 = xb := by
  have : some (c4.L sc gc) = some x5 := by simpa [locp] using hx5
  rw [hL4, hLb] at this
  exact (Option.some.inj this).symm
 subst hx5b
 have hheapb : c4.w.heap[x5.1]? = some (.cells arrb Eb (0, 0)) := by rw [hw4, hother _ hxblt hxbs]; exact ob1
 rw [hheapb] at hheap5
 obtain ⟨rfl, rfl⟩ : arrb = arr5 ∧ Eb = E5 := by simpa using hheap5
 have hsame : (arrb.toList.take (x5.2 + 0) ++ [ub] ++ arrb.toList.drop (x5.2 + 0 + [ub].length)).toArray = arrb := put_same (ob5 0 ub rfl)
 rw [hsame, setRow_same hheapb] at e1
 refine ⟨.tuple #[], c5, Φ5, .tup [], rfl, e1.trans hw4, ⟨rfl, by rw [e3, hgn4], d'.toList.map G, ?_, ?_, ?_⟩, hS5, hkp.trans kp5, .tup .nil (by simp) .nil⟩
 ·have := hp.map G
  rwa [hLd] at this
 ·rw [List.pairwise_map, List.pairwise_iff_getElem]
  intro i j hi hj hij
  rw [Array.length_toList] at hi hj
  rw [Array.getElem_toList, Array.getElem_toList]
  have h := hsort i j (Nat.zero_le _) hij (by omega)
  rw [getElem!_pos d' j hj, getElem!_pos d' i hi] at h
  have h : ¬ cmp3 (T d'[j]) (T d'[i]) < 0 := of_decide_eq_false h
  rw [hTG _ (hlt _ (Array.mem_toList_iff.2 (Array.getElem_mem hj))), hTG _ (hlt _ (Array.mem_toList_iff.2 (Array.getElem_mem hi)))] at h
  exact h
 ·rw [e2, hro4, zfb]
  have hr : (upr (upr ro s g .dead) s (gn s + 1) (listA n (d'.toList.map G))) sc gc = some (.bx [.ref s g [] 0 Ls.length]) := by
   simp only [zdb, if_neg (fun e : sc = s ∧ gc = gn s + 1 => hsc e.1), if_neg (fun e : sc = s ∧ gc = g => hsc e.1), rc]
  rw [hr, zfd]
  rfl
end
end Go.Proofs.YtilfkbgdpmimlaaGreat
/- Enumeration of rings: all rings of few labels. -/
namespace Go.Proofs.YtilfkbgdpmimlaaGreat
open Go.RowKit
set_option maxRecDepth 1000000
theorem prm_of (l : List Nat) (n : Nat) (h : (l.length == n && (List.range n).all fun i => decide (l.getD i 0 < n) && (l.getD (l.getD i 0) 0 == i)) = true) : PrmI (zl l) n := by
 simp only [Bool.and_eq_true, beq_iff_eq, List.all_eq_true, List.mem_range, decide_eq_true_eq] at h
 obtain ⟨h1, h2⟩ := h
 have ha : ∀ i, i < n → atI (zl l) i = ((l.getD i 0 : Nat) : Int) := by
  intro i hi
  unfold atI zl
  rw [List.getD_eq_getElem?_getD, List.getElem?_map, List.getD_eq_getElem?_getD, List.getElem?_eq_getElem (by omega)]
  rfl
 have hs : ∀ i, i < n → sg (zl l) i = l.getD i 0 := by
  intro i hi
  unfold sg
  rw [ha i hi]
  exact Int.toNat_natCast _
 refine ⟨by rw [zl_len]; exact h1, fun i hi => ?_, fun i hi => ?_⟩
 ·rw [hs i hi]; exact ⟨ha i hi, (h2 i hi).1⟩
 ·rw [hs i hi, hs _ (h2 i hi).1]; exact (h2 i hi).2
theorem vis_ok : ∀ n, 1 ≤ n → n ≤ 3 → ∀ l, l ∈ vis n (n - 1) [0] → PrmI (zl l) n := by
 intro n h1 h3 l hl
 refine prm_of l n ?_
 have : ∀ n, n < 4 → 1 ≤ n → ((vis n (n - 1) [0]).all fun l => (l.length == n && (List.range n).all fun i => decide (l.getD i 0 < n) && (l.getD (l.getD i 0) 0 == i))) = true := by decide
 exact List.all_eq_true.1 (this n (by omega) h1) l hl
def trnB (x : List Nat) (n : Nat) : Bool :=
 ((List.range n).all fun a => (List.range n).all fun b => (List.range n).all fun c =>
  let t : T33 := (a, b, c)
  (trn x t).length == kf x t && ((List.range (kf x t)).all fun i => decide (i < (trI x t i).length)) && ((List.range (kf x t + 1)).all fun i => decide ((trI x t i).length ≤ 100) && ((trI x t i).all fun u => decide (u.1 < n) && (decide (u.2.1 < n) && decide (u.2.2 < n)))))
 && ((List.range n).all fun i => decide (x.getD i 0 < n)) && decide (n ≤ x.length)
 && ((orbs x n).all fun o => decide (o.length ≤ 100) && o.all fun t => decide (t.1 < n) && (decide (t.2.1 < n) && decide (t.2.2 < n))) && decide ((orbs x n).length ≤ 100)
theorem trnB_ok {x : List Nat} {n : Nat} (h : trnB x n = true) : TrnOK x n := by
 unfold trnB at h
 simp only [Bool.and_eq_true, List.all_eq_true, List.mem_range, decide_eq_true_eq, beq_iff_eq] at h
 obtain ⟨⟨⟨⟨h1, h2⟩, h3⟩, h4⟩, h5⟩ := h
 refine ⟨fun t ha hb hc => ?_, h2, h3, fun o ho => ⟨Nat.le_trans (h4 o ho).1 (by decide), fun t ht => (h4 o ho).2 t ht⟩, Nat.le_trans h5 (by decide)⟩
 obtain ⟨⟨k1, k2⟩, k3⟩ := h1 t.1 ha t.2.1 hb t.2.2 hc
 exact ⟨k1, k2, fun i hi => Nat.le_trans (k3 i (Nat.lt_succ_of_le hi)).1 (by decide), fun i hi => (k3 i (Nat.lt_succ_of_le hi)).2⟩
theorem trn_1 : TrnOK [0, 1, 2] 1 := trnB_ok (by kernel_rfl)
theorem trn_2 : TrnOK [0, 1, 2] 2 := trnB_ok (by kernel_rfl)
theorem trn_3 : TrnOK [0, 1, 2] 3 := trnB_ok (by kernel_rfl)
theorem trn_t : TrnOK [0, 2, 1] 3 := trnB_ok (by kernel_rfl)
theorem trn_n {n : Nat} (h1 : 1 ≤ n) (h3 : n ≤ 3) : TrnOK [0, 1, 2] n := by
 obtain rfl | rfl | rfl : n = 1 ∨ n = 2 ∨ n = 3 := by omega
 ·exact trn_1
 ·exact trn_2
 ·exact trn_3
theorem orbs_n {n : Nat} (h1 : 1 ≤ n) (h3 : n ≤ 3) : (orbs [0, 1, 2] n).length ≤ 8 ∧ (orbs [0, 2, 1] 3).length ≤ 8 := by
 have : ∀ n, n < 4 → 1 ≤ n → (orbs [0, 1, 2] n).length ≤ 8 ∧ (orbs [0, 2, 1] 3).length ≤ 8 := by decide
 exact this n (by omega) h1
noncomputable def tabs (n m : Nat) : List C3 := (filS n m (orbs [0, 1, 2] n) (uF [0, 1, 2] n)).1 ++ if n = 3 then (filS 3 m (orbs [0, 2, 1] 3) (uF [0, 2, 1] 3)).1 else []
noncomputable def tabsA (n m : Nat) : List C3 := (filA n m (orbs [0, 1, 2] n) (uF [0, 1, 2] n)).1 ++ if n = 3 then (filA 3 m (orbs [0, 2, 1] 3) (uF [0, 2, 1] 3)).1 else []
theorem tabs_A (n m : Nat) : tabs n m = (tabsA n m).filter (fun G => lstB G n) := by
 unfold tabs tabsA
 rw [List.filter_append, (filS_A n m _ _).1]
 split
 ·rename_i h
  subst h
  rw [(filS_A 3 m _ _).1]
 ·rfl
theorem filS_4 {n m : Nat} (hm : m ≤ 4) {os : List (List T33)} (h : os.length ≤ 8) (F : C3) : (filS n m os F).1.length ≤ 390625 := by
 have h1 := filS_len n m os F
 have h2 : (m + 1) ^ os.length ≤ 5 ^ os.length := Nat.pow_le_pow_left (by omega) _
 have h3 : 5 ^ os.length ≤ 5 ^ 8 := Nat.pow_le_pow_right (by decide) h
 have h4 : (5 : Nat) ^ 8 = 390625 := by decide
 omega
theorem pow_4 {m k : Nat} (hm : m ≤ 4) (h : k ≤ 8) : (m + 1) ^ k ≤ 390625 := by
 have h2 : (m + 1) ^ k ≤ 5 ^ k := Nat.pow_le_pow_left (by omega) _
 have h3 : 5 ^ k ≤ 5 ^ 8 := Nat.pow_le_pow_right (by decide) h
 have h4 : (5 : Nat) ^ 8 = 390625 := by decide
 omega
def W21 : List Nat := W36
theorem filA_4 {n m : Nat} (hm : m ≤ 4) {os : List (List T33)} (h : os.length ≤ 8) (F : C3) : (filA n m os F).1.length ≤ 390625 := by
 have h1 := filA_len n m os F
 have h2 : (m + 1) ^ os.length ≤ 5 ^ os.length := Nat.pow_le_pow_left (by omega) _
 have h3 : 5 ^ os.length ≤ 5 ^ 8 := Nat.pow_le_pow_right (by decide) h
 have h4 : (5 : Nat) ^ 8 = 390625 := by decide
 omega
theorem tabsA_len {n m : Nat} (h1 : 1 ≤ n) (h3 : n ≤ 3) (hm : m ≤ 4) : (tabsA n m).length ≤ 1000000 := by
 have ho := orbs_n h1 h3
 have hf1 := filA_4 (n := n) hm ho.1 (uF [0, 1, 2] n)
 have hf2 := filA_4 (n := 3) hm ho.2 (uF [0, 2, 1] 3)
 unfold tabsA
 rw [List.length_append]
 split
 ·omega
 ·simp; omega
section
variable {ro0 : Ro} {gn0 : Nat → Nat} {n m fv : Nat} {caps : List AV} {Sv : Nat → Nat → Prop} {P : Ro → (Nat → Nat) → List C3 → Prop}
set_option maxHeartbeats 4000000 in
theorem sTab (V : VisP n fv caps Sv P) (h1 : 1 ≤ n) (h3 : n ≤ 3) (hm : m ≤ 4) (hPv : P ro0 gn0 []) :
  InS Tryz.prog 25 [i64 (n : Int), i64 (m : Int), .fn fv caps] ro0 gn0 (fun r ro' gn' => r = .tup [] ∧ Frx W21 Sv ro0 gn0 ro' gn' ∧ P ro' gn' (tabsA n m)) := by
 have ho := orbs_n h1 h3
 have T1 := trn_n h1 h3
 have hn3 : n ≤ 3 := h3
 have hf1 := filA_4 (n := n) hm ho.1 (uF [0, 1, 2] n)
 have hp1 := pow_4 hm ho.1
 have hp2 := pow_4 hm ho.2
 refine in_ofS (fn := Tryz.f25) (code := bodyOf Tryz.f25) Tryz.func25 rfl (by kernel_rfl) ?_
 intro sl hs
 have s0 : sl 0 = i64 (n : Int) := hs 0
 have s1 : sl 1 = i64 (m : Int) := hs 1
 have s2 : sl 2 = .fn fv caps := hs 2
 dsimp only [Tryz.f25, bodyOf, Option.getD]
 simp (disch := first | assumption | omega) only [go_sem, ↓reduceIte, Nat.reduceEqDiff, Nat.reduceAdd, Nat.reduceMul, zc, s0, s1, s2, ti3, ti2, kSlice_hi, hn3, Option.map_none, Option.map_some]
 have hP1 : P (upr ro0 4096 (gn0 4096 + 1) (rowL (zl [0, 1, 2]))) (upg gn0 4096 (gn0 4096 + 1)) [] := V.keep _ _ _ _ _ hPv (fun x y hx hy => by
  simp only [zdb]
  repeat' (first | rfl | rw [if_neg (by rintro ⟨rfl, rfl⟩; rcases SVs_of hx with e | e | e <;> omega)])) (fun x => by
  simp only [zda]
  repeat' (first | exact Nat.le_refl _ | (split; rename_i e; subst e; omega) | omega))
 have I := sRings V (ro0 := upr ro0 4096 (gn0 4096 + 1) (rowL (zl [0, 1, 2]))) (gn0 := upg gn0 4096 (gn0 4096 + 1)) (sp := 4096) (.inl rfl) (x := [0, 1, 2]) (gp := gn0 4096 + 1) (Ls := []) h1 (by omega) (m := m) (by omega) T1 Ur Ur hP1 (by show 0 + _ < _; unfold maxN; omega)
 refine CLL_inS rfl I ?_
 rintro _ ro1 gn1 ⟨rfl, fr1, pl1⟩
 rw [List.nil_append] at pl1
 have frA : Frx W21 Sv ro0 gn0 ro1 gn1 := (show Frx W21 Sv ro0 gn0 _ _ from KFt).trans (fr1.monoB (by decide)) (fun a b h => .inr h)
 by_cases hn : n = 3
 ·have e3 : ((n : Int) = 3) := by omega
  have hta : tabsA n m = (filA n m (orbs [0, 1, 2] n) (uF [0, 1, 2] n)).1 ++ (filA 3 m (orbs [0, 2, 1] 3) (uF [0, 2, 1] 3)).1 := by unfold tabsA; rw [if_pos hn]
  rw [hta]
  generalize (filA n m (orbs [0, 1, 2] n) (uF [0, 1, 2] n)).1 = Ms at pl1 hf1
  simp (disch := first | assumption | omega) only [go_sem, ↓reduceIte, Nat.reduceEqDiff, Nat.reduceAdd, Nat.reduceMul, zc, s0, s1, s2, ti2, eq_true e3]
  subst hn
  have hP2 : P (upr ro1 16384 (gn1 16384 + 1) (rowL (zl [0, 2, 1]))) (upg gn1 16384 (gn1 16384 + 1)) Ms := V.keep _ _ _ _ _ pl1 (fun x y hx hy => by
   simp only [zdb]
   repeat' (first | rfl | rw [if_neg (by rintro ⟨rfl, rfl⟩; omega)])) (fun x => by
   simp only [zda]
   repeat' (first | exact Nat.le_refl _ | (split; rename_i e; subst e; omega) | omega))
  have I2 := sRings V (ro0 := upr ro1 16384 (gn1 16384 + 1) (rowL (zl [0, 2, 1]))) (gn0 := upg gn1 16384 (gn1 16384 + 1)) (sp := 16384) (.inr rfl) (x := [0, 2, 1]) (n := 3) (gp := gn1 16384 + 1) (Ls := Ms) (by decide) (by decide) (m := m) (by omega) trn_t Ur Ur hP2 (by unfold maxN; omega)
  refine CLL_inS rfl I2 ?_
  rintro _ ro2 gn2 ⟨rfl, fr2, pl2⟩
  refine Ybp ?_
  refine RETS_0 (.inl rfl) ⟨rfl, ?_, pl2⟩
  exact (show Frx W21 Sv ro0 gn0 _ _ from KFt).trans (fr2.monoB (by decide)) (fun a b h => .inr h)
 ·have e3 : ¬ ((n : Int) = 3) := by omega
  simp (disch := first | assumption | omega) only [go_sem, ↓reduceIte, Nat.reduceEqDiff, Nat.reduceAdd, Nat.reduceMul, zc, s0, s1, s2, ti2, eq_false e3]
  have hta : tabsA n m = (filA n m (orbs [0, 1, 2] n) (uF [0, 1, 2] n)).1 := by unfold tabsA; rw [if_neg hn, List.append_nil]
  rw [hta]
  exact RETS_0 (.inl rfl) ⟨rfl, frA, pl1⟩
end
def SvL (gc gL0 x y : Nat) : Prop := (x = 8208 ∧ y = gc) ∨ (x = 8192 ∧ gL0 ≤ y)
def PvL (n gc gL0 : Nat) (ro : Ro) (gn : Nat → Nat) (Ls : List C3) : Prop := gc ≤ gn 8208 ∧ ∃ gL, gL0 ≤ gL ∧ gL ≤ gn 8192 ∧ ro 8208 gc = some (.bx [.ref 8192 gL [] 0 (Ls.filter fun G => lstB G n).length]) ∧ ro 8192 gL = some (listA n (Ls.filter fun G => lstB G n))
theorem visL {n gc gL0 : Nat} (h1 : 1 ≤ n) (hn : n ≤ 16) (hP : ∀ l, l ∈ vis n (n - 1) [0] → PrmI (zl l) n) : VisP n 44 [.ptr 8208 gc [] 0] (SvL gc gL0) (PvL n gc gL0) := by
 refine ⟨?_, ?_, ?_, rfl, fun _ _ _ => rfl, ?_⟩
 ·rintro x y (⟨rfl, _⟩ | ⟨rfl, _⟩) <;> decide
 ·rintro ro gn ro2 gn2 Ls h ⟨k1, gL, k2, k3, k4, k5⟩
  have a1 := h 8208 (by decide)
  have a2 := h 8192 (by decide)
  exact ⟨by rw [a1.2]; exact k1, gL, k2, by rw [a2.2]; exact k3, by rw [a1.1]; exact k4, by rw [a2.1]; exact k5⟩
 ·rintro ro gn ro2 gn2 Ls ⟨k1, gL, k2, k3, k4, k5⟩ hk hg
  exact ⟨Nat.le_trans k1 (hg _), gL, k2, Nat.le_trans k3 (hg _), (hk _ _ (by decide) k1).trans k4, (hk _ _ (by decide) k3).trans k5⟩
 ·rintro ro gn F gr Ls ⟨k1, gL, k2, k3, k4, k5⟩ rr lr hl
  have hfl : (Ls.filter fun G => lstB G n).length ≤ Ls.length := List.length_filter_le _ _
  refine (sVisR h1 (by unfold maxN; omega) hP rr lr k4 k1 k5 k3 (by omega)).mono ?_
  rintro r ro' gn' ⟨rfl, fr, gL', e1, e2, e3, e4⟩
  have hfe : (Ls ++ [F]).filter (fun G => lstB G n) = if lstB F n then (Ls.filter fun G => lstB G n) ++ [F] else Ls.filter fun G => lstB G n := by
   rw [List.filter_append]
   cases h : lstB F n
   ·simp [h]
   ·simp [h]
  refine ⟨rfl, ?_, Nat.le_trans k1 (fr.up _), gL', by omega, e4, by rw [hfe]; exact e1, by rw [hfe]; exact e2⟩
  refine ⟨fun s hs => fr.off s fun e => hs ?_, fr.up, fun x y hy hC => fr.kp x y hy fun e => hC ?_⟩
  ·exact List.contains_iff_mem.1 (List.all_eq_true.1 (show W22.all (fun s => W22v.contains s) = true by decide) s e)
  ·rcases e with ⟨rfl, rfl⟩ | ⟨rfl, rfl⟩ | ⟨rfl, rfl⟩
   ·exact .inl (.inl ⟨rfl, rfl⟩)
   ·exact .inl (.inr ⟨rfl, k2⟩)
   ·exact .inr ⟨rfl, rfl⟩
def leR (n : Nat) (F G : C3) : Bool := decide (¬ cmp3 (cubeL G n) (cubeL F n) < 0)
def srtL (n : Nat) (Ls : List C3) : List C3 := Ls.mergeSort (leR n)
theorem srt_uniq {n : Nat} {Ls Ls' : List C3} (h1 : Ls'.Perm Ls) (h2 : Ls'.Pairwise (fun F G => ¬ cmp3 (cubeL G n) (cubeL F n) < 0)) : Ls'.map (fun F => cubeL F n) = (srtL n Ls).map (fun F => cubeL F n) := by
 have p2 : (srtL n Ls).Pairwise (fun F G => leR n F G = true) := by
  refine List.pairwise_mergeSort (le := leR n) (fun a b c h1 h2 => ?_) (fun a b => ?_) Ls
  ·have h1 := of_decide_eq_true h1
   have h2 := of_decide_eq_true h2
   refine decide_eq_true fun h3 => ?_
   by_cases e : cmp3 (cubeL b n) (cubeL c n) = 0
   ·have e := (cmp3_O.eq0 _ _).1 e
    rw [← e] at h3
    exact h1 h3
   ·have h4 : cmp3 (cubeL b n) (cubeL c n) < 0 := by
     have := cmp3_O.anti (cubeL c n) (cubeL b n)
     omega
    exact h1 (cmp3_O.trans _ _ _ h4 h3)
  ·by_cases h : cmp3 (cubeL b n) (cubeL a n) < 0
   ·have h' := (cmp3_O.anti _ _).1 h
    have : leR n b a = true := decide_eq_true (by omega)
    rw [this, Bool.or_true]
   ·have : leR n a b = true := decide_eq_true h
    rw [this, Bool.true_or]
 refine List.Perm.eq_of_pairwise (le := fun X Y => ¬ cmp3 Y X < 0) (fun X Y _ _ h1 h2 => ?_) ?_ ?_ ((h1.trans (List.mergeSort_perm Ls (leR n)).symm).map _)
 ·have := cmp3_O.anti Y X
  exact (cmp3_O.eq0 _ _).1 (by omega)
 ·exact List.pairwise_map.2 h2
 ·exact List.pairwise_map.2 (p2.imp fun h => of_decide_eq_true h)
theorem listA_of {n : Nat} {Ls Ls' : List C3} (h : Ls'.map (fun F => cubeL F n) = Ls.map (fun F => cubeL F n)) : listA n Ls' = listA n Ls := by
 have e : ∀ F : C3, cubeA F n = (fun T : List (List (List Int)) => AV.row (T.map fun r => AV.row (r.map fun q => AV.row (q.map i64)))) (cubeL F n) := by
  intro F
  show _ = AV.row ((cubeL F n).map _)
  unfold cubeA
  simp only [cubeL, rws_map]
 unfold listA
 have : ∀ Ls : List C3, (Ls.map fun F => cubeA F n) = (Ls.map fun F => cubeL F n).map (fun T : List (List (List Int)) => AV.row (T.map fun r => AV.row (r.map fun q => AV.row (q.map i64)))) := by
  intro Ls
  rw [List.map_map]
  exact List.map_congr_left fun F _ => e F
 rw [this, this, h]
theorem srt_len (n : Nat) (Ls : List C3) : (srtL n Ls).length = Ls.length := (List.mergeSort_perm Ls (leR n)).length_eq
theorem noRef_listA (n : Nat) (Ls : List C3) : noRef (listA n Ls) = true := noRef_row _ (by
 induction Ls with
 | nil => rfl
 | cons F Ls ih => rw [List.map_cons, noRefL, noRef_cube, ih]; rfl)
theorem tabs_len {n m : Nat} (h1 : 1 ≤ n) (h3 : n ≤ 3) (hm : m ≤ 4) : (tabs n m).length ≤ 1000000 := by
 have ho := orbs_n h1 h3
 have hf1 := filS_4 (n := n) hm ho.1 (uF [0, 1, 2] n)
 have hf2 := filS_4 (n := 3) hm ho.2 (uF [0, 2, 1] 3)
 unfold tabs
 rw [List.length_append]
 split
 ·omega
 ·simp; omega
set_option maxHeartbeats 4000000 in
theorem cAllR {n m : Nat} (h1 : 1 ≤ n) (h3 : n ≤ 3) (hm : m ≤ 4) : CallOK Tryz.prog 22 [i64 (n : Int), i64 (m : Int)] (listA n (srtL n (tabs n m))) := by
 refine call_of (fn := Tryz.f22) (code := bodyOf Tryz.f22) Tryz.func22 rfl (by kernel_rfl) (noRef_listA _ _) ?_
 intro sl hs
 have s0 : sl 0 = i64 (n : Int) := hs 0
 have s1 : sl 1 = i64 (m : Int) := hs 1
 dsimp only [Tryz.f22, bodyOf, Option.getD]
 simp (disch := first | assumption | omega) only [go_sem, ↓reduceIte, Nat.reduceEqDiff, Nat.reduceAdd, Nat.reduceMul, zc, s0, s1, ti3, ti2]
 refine CLL_inS rfl (sTab (visL (gc := 1) (gL0 := 1) h1 (by omega) (vis_ok n h1 h3)) h1 h3 hm ⟨Ur, 1, Nat.le_refl _, Ur, by simp only [↓za, ↓reduceIte, Nat.reduceEqDiff, zb, reduceCtorEq]; rfl, by simp only [↓za, ↓reduceIte, Nat.reduceEqDiff, zb, reduceCtorEq]; rfl⟩) ?_
 rintro _ ro1 gn1 ⟨rfl, fr1, k1, gL1, c3, c4, c1, c2⟩
 rw [← tabs_A] at c1 c2
 simp (disch := first | assumption | omega) only [go_sem, ↓reduceIte, Nat.reduceEqDiff, Nat.reduceAdd, Nat.reduceMul, zc, s0, s1, c1]
 refine CLL_inS rfl (sSortR (sc := 8208) (gc := 1) (by unfold maxN; omega) (tabs_len h1 h3 hm) c2 c1 (by decide)) ?_
 rintro _ ro2 gn2 ⟨rfl, rfl, Ls', k1, k2, rfl⟩
 have hlen := k1.length_eq
 rw [listA_of (srt_uniq k1 k2)]
 refine Yac ?_
 simp only [zr, zb, retR, resL, outT, outL, zes, zez, oneV, zcp, zed, zfi, Ro.dl, St.ev, zhk, ↓za, ↓reduceIte, Nat.reduceEqDiff, Nat.reduceAdd, Nat.reduceLeDiff, listA, List.length_map, srt_len]
theorem cIsList {n m : Int} : CallOK Tryz.prog 21 [i64 n, i64 m] (bo (decide ((1 ≤ n ∧ n ≤ 3) ∧ 0 ≤ m ∧ m ≤ 4))) := by
 by_cases h : 1 ≤ n ∧ n ≤ 3
 ·refine call_of (fn := Tryz.f21) (code := bodyOf Tryz.f21) Tryz.func21 rfl (by kernel_rfl) (rfl) ?_
  intro sl hs
  have s0 : sl 0 = i64 n := hs 0
  have s1 : sl 1 = i64 m := hs 1
  dsimp only [Tryz.f21, bodyOf, Option.getD]
  refine Yae ?_
  refine CLL_pure _ (c40 (a := n) (b := 1) (c := 3)) rfl rfl rfl ?_
  simp (disch := first | assumption | omega) only [go_sem, ↓reduceIte, Nat.reduceEqDiff, Nat.reduceAdd, Nat.reduceMul, zc, s0, s1, ti4, eq_true h]
  refine CLL_pure _ (c40 (a := m) (b := 0) (c := 4)) rfl rfl rfl ?_
  simp (disch := first | assumption | omega) only [go_sem, ↓reduceIte, Nat.reduceEqDiff, Nat.reduceAdd, Nat.reduceMul, zc, s0, s1, ti4, eq_true h]
  exact Yab
 ·refine call_of (fn := Tryz.f21) (code := bodyOf Tryz.f21) Tryz.func21 rfl (by kernel_rfl) (rfl) ?_
  intro sl hs
  have s0 : sl 0 = i64 n := hs 0
  have s1 : sl 1 = i64 m := hs 1
  dsimp only [Tryz.f21, bodyOf, Option.getD]
  refine Yae ?_
  refine CLL_pure _ (c40 (a := n) (b := 1) (c := 3)) rfl rfl rfl ?_
  simp (disch := first | assumption | omega) only [go_sem, ↓reduceIte, Nat.reduceEqDiff, Nat.reduceAdd, Nat.reduceMul, zc, s0, s1, ti4, eq_false h]
  exact Yab
theorem cAll1 {n m : Nat} (h1 : 1 ≤ n) (h3 : n ≤ 3) (hm : m ≤ 4) : CallOK Tryz.prog 6 [i64 (n : Int), i64 (m : Int)] (.tup [listA n (srtL n (tabs n m)), i64 0]) := by
 have h : (1 ≤ (n : Int) ∧ (n : Int) ≤ 3) ∧ 0 ≤ (m : Int) ∧ (m : Int) ≤ 4 := by omega
 refine call_of (fn := Tryz.f6) (code := bodyOf Tryz.f6) Tryz.func6 rfl (by kernel_rfl) (by rw [noRef, noRefL, noRef_listA]; rfl) ?_
 intro sl hs
 have s0 : sl 0 = i64 (n : Int) := hs 0
 have s1 : sl 1 = i64 (m : Int) := hs 1
 dsimp only [Tryz.f6, bodyOf, Option.getD]
 refine Yae ?_
 refine CLL_pure _ (cIsList (n := (n : Int)) (m := (m : Int))) rfl rfl rfl ?_
 rw [decide_eq_true h]
 refine Yae ?_
 refine CLL_pure _ (cAllR h1 h3 hm) rfl rfl rfl ?_
 simp (disch := first | assumption | omega) only [go_sem, ↓reduceIte, Nat.reduceEqDiff, Nat.reduceAdd, Nat.reduceMul, zc, s0, s1, listA, impE_row, List.length_map, srt_len]
 simp only [zr, zb, retR, resL, outT, outL, zes, zez, oneV, zcp, zed, zfi, Ro.dl, St.ev, zhk, ↓za, ↓reduceIte, Nat.reduceEqDiff, Nat.reduceAdd, Nat.reduceLeDiff, List.length_map, srt_len]
theorem cAll0 {n m : Int} (h : ¬ ((1 ≤ n ∧ n ≤ 3) ∧ 0 ≤ m ∧ m ≤ 4)) : CallOK Tryz.prog 6 [i64 n, i64 m] (.tup [nilA, i64 2]) := by
 refine call_of (fn := Tryz.f6) (code := bodyOf Tryz.f6) Tryz.func6 rfl (by kernel_rfl) (rfl) ?_
 intro sl hs
 have s0 : sl 0 = i64 n := hs 0
 have s1 : sl 1 = i64 m := hs 1
 dsimp only [Tryz.f6, bodyOf, Option.getD]
 refine Yae ?_
 refine CLL_pure _ (cIsList (n := n) (m := m)) rfl rfl rfl ?_
 rw [decide_eq_false h]
 refine Yae ?_
 exact Yab
end Go.Proofs.YtilfkbgdpmimlaaGreat
