/- Texts joined: W1 W2. -/
import Derived.RangeFuncBox
import Derived.RangeFuncLeaves
import Derived.Shelf.Abstract
import Derived.WalkKit
import Derived.OwnWalkIn
import Derived.TacticsInMore
import Derived.LoopNIn
import Derived.LoopIn
import Derived.Test.YtgcnmlecihegcaaGreatProg
import Derived.Test.YtgcnmlecihegcaaGreatMd
import Derived.Test.YtgcnmlecihegcaaGreatMv
set_option linter.all false
/- The library's slices.Backward over numbers, and the program's sum of two elements of a group, by the kit's own walk. -/
namespace Go.Proofs.YtgcnmlecihegcaaGreat
open Go.RowKit Go.Shelf
attribute [local go_sem] Oper.semAt_some
def upto {α : Type} (f : Nat → α) (k : Nat) : List α := (List.range k).map f
theorem upto_succ {α : Type} (f : Nat → α) (k : Nat) : upto f (k + 1) = upto f k ++ [f k] := by simp [upto, List.range_succ]
theorem upto_length {α : Type} (f : Nat → α) (k : Nat) : (upto f k).length = k := by simp [upto]
def KpB (n₀ B : Nat) (X Y : World) : Prop := Below n₀ X Y ∧ ∀ v, X.cell? ⟨B, 0, none⟩ = some v → Y.cell? ⟨B, 0, none⟩ = some v
theorem KpB.refl (n₀ B : Nat) (X : World) : KpB n₀ B X X := ⟨Below.refl _ _, fun _ h => h⟩
theorem KpB.trans {n₀ B : Nat} {X Y Z : World} (h : KpB n₀ B X Y) (k : KpB n₀ B Y Z) : KpB n₀ B X Z := ⟨h.1.trans k.1, fun v hv => k.2 v (h.2 v hv)⟩
set_option maxRecDepth 100000 in
set_option maxHeartbeats 2000000 in
theorem bwd1_in {α : Type} (ei ev : α → Int) (f : Nat → α) (F : Fence) (n : Nat) (h8 : F.fn 161) (hro : F.round = none) (hn : 1 ≤ n) (l Bs n₀ b off cap : Nat) (zs : List Int) (hreach : zs.length * 8 ≤ 140737488351232) (hb : b < n₀) (hf : ∀ m, m < zs.length → ei (f (zs.length - (m + 1))) = m ∧ ev (f (zs.length - (m + 1))) = zs[m]?.getD 0) (J Jx : List α → World → Prop)
   (hY : ∀ pre x W, J pre W → pre.length < zs.length → YieldAt F (n - 1) Tryz.prog l #[.int .i64 (ei x), .int .i64 (ev x)] W fun e W' =>
     (e = .returned (.bool true) ∧ J (pre ++ [x]) W' ∧ KpB n₀ Bs W W') ∨ (e = .returned (.bool false) ∧ Jx (pre ++ [x]) W'))
   (W : World) (hBs : W.cell? ⟨Bs, 0, none⟩ = some (.slice (some ⟨b, off, none⟩) zs.length cap)) (hc : ∀ j, j < zs.length → W.cell? ⟨b, off + j, none⟩ = some (.int .i64 (zs[j]?.getD 0))) (h0 : J [] W) :
   CallsIn F n Tryz.prog 161 #[.func (.yield l) #[] #[], .pointer (some ⟨Bs, 0, none⟩)] W fun e W' => (∃ v, e = .returned v) ∧
     ((∃ ys, ys = upto f zs.length ∧ J ys W') ∨ (∃ pre, (∃ k, k ≤ zs.length ∧ pre = upto f k) ∧ Jx pre W')) := by
 refine callsIn_of_wp Tryz.func161 rfl h8 ?_ hro
 simp only [Tryz.ntmps161, List.size_toArray, List.length_cons, List.length_nil, Nat.reduceAdd, Nat.reduceSub, Array.replicate_succ, Array.replicate_zero, List.push_toArray, List.append_toArray, List.nil_append, List.cons_append]
 gi_wp2
 gi_loopw [3] (fun i wr => ∃ k : Nat, k ≤ zs.length ∧ i = .int .i64 ((k : Int) - 1) ∧ J (upto f (zs.length - k)) wr ∧ KpB n₀ Bs W wr)
   (fun i _ => (intOf i + 1).toNat)
 case atStart => exact ⟨zs.length, Nat.le_refl _, rfl, by rw [Nat.sub_self]; exact h0, KpB.refl _ _ _⟩
 case round =>
   obtain ⟨k, hk, rfl, hJs, hnx⟩ := hrel
   have hBs' := hnx.2 _ hBs
   cases k with
   | zero =>
     gi_wp2
     go_end0
     exact ⟨⟨_, rfl⟩, .inl ⟨_, rfl, hJs⟩⟩
   | succ m =>
     have hcx : wr.cell? ⟨b, off + m, none⟩ = some (.int .i64 (zs[m]?.getD 0)) := (hnx.1.cell (p := ⟨b, off + m, none⟩) hb).trans (hc m (by omega))
     obtain ⟨f1, f2⟩ := hf m (by omega)
     obtain ⟨fn, tmps, assign, body, hy, hR⟩ := hY _ (f (zs.length - (m + 1))) wr hJs (by rw [upto_length]; omega)
     rw [f1, f2] at hy
     have em : ((m + 1 : Nat) : Int) - 1 = (m : Int) := by omega
     rw [em]
     gi_wp2
     refine hR.mono ?_
     rintro e W3 (⟨rfl, hJ3, hk3⟩ | ⟨rfl, hJx3⟩)
     · gi_wp2
       go_roundw
       case rel => exact ⟨m, by omega, by simp, by
         have e1 : zs.length - m = (zs.length - (m + 1)) + 1 := by omega
         rw [e1, upto_succ]; exact hJ3, hnx.trans hk3⟩
       case measure => simp [intOf]
     · gi_wp2
       refine bodyPost_ret (results_none rfl _ _ _) rfl ?_
       exact ⟨⟨_, rfl⟩, .inr ⟨_, ⟨zs.length - (m + 1) + 1, by omega, by rw [upto_succ]⟩, hJx3⟩⟩
set_option maxHeartbeats 1000000 in
theorem bwd_in (F : Fence) (n : Nat) (h5 : F.fn 160) (hro : F.round = none) (a : Option Addr) (len cap : Nat) (w : World) :
   CallsIn F n Tryz.prog 160 #[.slice a len cap] w fun e w' => e = .returned (.func (.func 161) #[] #[.pointer (some ⟨w.heap.size, 0, none⟩)]) ∧ w' = w.alloc (.cells #[.slice a len cap] 25) := by
 refine callsIn_of_wp Tryz.func160 rfl h5 ?_ hro
 simp only [Tryz.ntmps160, List.size_toArray, List.length_cons, List.length_nil, Nat.reduceAdd, Nat.reduceSub, Array.replicate_succ, Array.replicate_zero, List.push_toArray, List.append_toArray, List.nil_append, List.cons_append]
 gi_wp2
 go_ret
 exact ⟨rfl, rfl⟩
def IntsA (n₀ : Nat) (W : World) (sv : Value) (zs : List Int) : Prop :=
 ∃ b off cap, sv = .slice (some ⟨b, off, none⟩) zs.length cap ∧ b < n₀ ∧ ∀ j, j < zs.length → W.cell? ⟨b, off + j, none⟩ = some (.int .i64 (zs[j]?.getD 0))
theorem IntsA.below {n₀ : Nat} {A B : World} (h : Below n₀ A B) {sv : Value} {zs : List Int} : IntsA n₀ A sv zs → IntsA n₀ B sv zs
 | ⟨b, off, cap, e, hb, hc⟩ => ⟨b, off, cap, e, hb, fun j hj => (h.cell (p := ⟨b, off + j, none⟩) hb).trans (hc j hj)⟩
theorem bwd_stops {α : Type} (ei ev : α → Int) (f : Nat → α) (F : Fence) (n : Nat) (h8 : F.fn 161) (hro : F.round = none) (hn : 1 ≤ n) (Bs n₀ : Nat) (sv : Value) (zs : List Int) (hreach : zs.length * 8 ≤ 140737488351232) (w : World) (hBs : Bs < w.heap.size) (hn₀ : n₀ ≤ w.heap.size)
   (hc : w.cell? ⟨Bs, 0, none⟩ = some sv) (hI : IntsA n₀ w sv zs) (hf : ∀ m, m < zs.length → ei (f (zs.length - (m + 1))) = m ∧ ev (f (zs.length - (m + 1))) = zs[m]?.getD 0) :
   SeqStopsK F n Tryz.prog 161 #[.pointer (some ⟨Bs, 0, none⟩)] (fun x : α => #[Value.int .i64 (ei x), Value.int .i64 (ev x)]) (KpB n₀ Bs) (fun ys => ys = upto f zs.length)
     (fun pre => ∃ k, k ≤ zs.length ∧ pre = upto f k) zs.length w := fun l J Jx W hW _ _ hY h0 => by
 have hc' := (hW.cell (p := ⟨Bs, 0, none⟩) hBs).trans hc
 obtain ⟨b, off, cap, rfl, hb, hcs⟩ := hI.below (hW.mono hn₀)
 exact bwd1_in ei ev f F n h8 hro hn l Bs n₀ b off cap zs hreach hb hf J Jx hY W hc' hcs h0
end Go.Proofs.YtgcnmlecihegcaaGreat
/- The sum of two elements of a group: the program's addElements, by the kit's walk. -/
namespace Go.Proofs.YtgcnmlecihegcaaGreat
open Go.RowKit Go.Shelf
attribute [local go_sem] Oper.semAt_some
structure Ord16 where
 i : Int
 m : Nat
 h : 2 ≤ m ∧ m ≤ 16
def adR (t : Int × Int × Int × Int) (o : Ord16) : Int × Int × Int × Int := (t.1 + (t.2.2.1 % o.m + t.2.2.2 % o.m) % o.m * t.2.1, t.2.1 * o.m, t.2.2.1 / o.m, t.2.2.2 / o.m)
def adT (x y : Int) (pre : List Ord16) : Int × Int × Int × Int := pre.foldl adR (0, 1, x, y)
theorem adT_snoc (x y : Int) (pre : List Ord16) (o : Ord16) : adT x y (pre ++ [o]) = adR (adT x y pre) o := by simp [adT]
theorem adT_ok {x y : Int} (hx : 0 ≤ x ∧ x < 4294967296) (hy : 0 ≤ y ∧ y < 4294967296) : ∀ (n : Nat) (pre : List Ord16), pre.length = n →
   0 ≤ (adT x y pre).1 ∧ (adT x y pre).1 < (adT x y pre).2.1 ∧ (adT x y pre).2.1 ≤ 16 ^ n ∧ 0 ≤ (adT x y pre).2.2.1 ∧ (adT x y pre).2.2.1 < 4294967296 ∧ 0 ≤ (adT x y pre).2.2.2 ∧ (adT x y pre).2.2.2 < 4294967296
 | 0, pre, h => by
   obtain rfl := List.length_eq_zero_iff.1 h
   simp only [adT, List.foldl_nil]
   refine ⟨by decide, by decide, by decide, hx.1, hx.2, hy.1, hy.2⟩
 | n + 1, pre, h => by
   obtain ⟨ini, o, rfl⟩ : ∃ ini o, pre = ini ++ [o] := by
     have hne : pre ≠ [] := by rintro rfl; simp at h
     exact ⟨pre.dropLast, pre.getLast hne, (List.dropLast_concat_getLast hne).symm⟩
   rw [List.length_append] at h
   have ih := adT_ok hx hy n ini (by simpa using h)
   rw [adT_snoc]
   generalize adT x y ini = t at ih ⊢
   obtain ⟨s, p, a, b⟩ := t
   obtain ⟨h1, h2, h3, h4, h5, h6, h7⟩ := ih
   simp only [adR] at h1 h2 h3 h4 h5 h6 h7 ⊢
   obtain ⟨hm1, hm2⟩ := o.h
   have hm : (0 : Int) < o.m := by omega
   have hd0 : 0 ≤ (a % o.m + b % o.m) % o.m := Int.emod_nonneg _ (by omega)
   have hd1 : (a % o.m + b % o.m) % o.m < o.m := Int.emod_lt_of_pos _ hm
   generalize (a % o.m + b % o.m) % o.m = d at hd0 hd1
   have hp : 0 < p := by omega
   have hdp : 0 ≤ d * p := Int.mul_nonneg hd0 (by omega)
   have hdp2 : d * p ≤ (o.m - 1) * p := Int.mul_le_mul_of_nonneg_right (by omega) (by omega)
   have hmp : (o.m - 1 : Int) * p = p * o.m - p := by rw [Int.sub_mul, Int.one_mul, Int.mul_comm]
   have h16 : p * o.m ≤ 16 ^ n * 16 := Int.mul_le_mul h3 (by omega) (by omega) (by exact_mod_cast Nat.zero_le _)
   have e16 : (16 : Int) ^ (n + 1) = 16 ^ n * 16 := Int.pow_succ _ _
   have ha : a / o.m ≤ a := Int.ediv_le_self _ h4
   have hb : b / o.m ≤ b := Int.ediv_le_self _ h6
   refine ⟨by omega, by omega, by omega, Int.ediv_nonneg h4 (by omega), by omega, Int.ediv_nonneg h6 (by omega), by omega⟩
section
variable {W : World} {k : Nat} {B : Nat → Nat} {v : Nat → Value}
def bxC (W : World) (k : Nat) (B : Nat → Nat) (v : Nat → Value) : Cx :=
 ⟨W, fun x => ∃ i, i < k ∧ x = B i, fun s g => if s < k ∧ g = 1 then some (.bx [.sc (v s)]) else none, fun _ => 1, fun s _ => (B s, 0)⟩
def bxF (k : Nat) (B : Nat → Nat) (s g : Nat) : List Nat := if s < k ∧ g = 1 then [B s] else []
def bxL (k : Nat) (B : Nat → Nat) : List Nat := (List.range k).map B
theorem bx_sim (hd : ∀ i j, i < k → j < k → B i = B j → i = j) (ho : ∀ i, i < k → ownB W (B i) 0 [v i] 1) : Sim W (fun _ => False) (bxL k B) (bxC W k B v) (bxF k B) [] := by
 have hmem : ∀ s g x, x ∈ bxF k B s g → s < k ∧ g = 1 ∧ x = B s := by
   intro s g x hx
   unfold bxF at hx
   split at hx
   · rename_i h; exact ⟨h.1, h.2, by simpa using hx⟩
   · cases hx
 constructor
 · intro s g a ha
   simp only [bxC] at ha ⊢
   split at ha
   · rename_i h
     obtain rfl : AV.bx [.sc (v s)] = a := by simpa using ha
     refine ⟨by omega, .pointer (some ⟨B s, 0, none⟩), ?_, rfl⟩
     have := Rel.mk_bx (c := bxC W k B v) (B s) 0 1 (RelL.sc (v s) .nil) (ho s h.1) (by simp)
     unfold bxF
     rw [if_pos h]
     exact this
   · cases ha
 · intro s g h
   simp only [bxC] at h
   unfold bxF
   split at h
   · cases h
   · rename_i h2; rw [if_neg h2]
 · intro s g s' g' hne x hx hx'
   obtain ⟨h1, h2, h3⟩ := hmem _ _ _ hx
   obtain ⟨h4, h5, h6⟩ := hmem _ _ _ hx'
   exact hne ⟨hd _ _ h1 h4 (h3.symm.trans h6), by omega⟩
 · intro s g x hx
   obtain ⟨h1, h2, h3⟩ := hmem _ _ _ hx
   exact ⟨⟨s, h1, h3⟩, id, .inr (List.mem_map.2 ⟨s, List.mem_range.2 h1, h3.symm⟩)⟩
 · intro s g x _ hx; cases hx
 · intro x hx; cases hx
 · intro x hx; exact hx.elim
 · rintro x ⟨i, hi, rfl⟩; exact (ho i hi).lt
 · exact ⟨rfl, rfl, rfl, Nat.le_refl _, fun _ _ _ => rfl⟩
theorem bx_ptr {s : Nat} (_hs : s < k) : Rel (bxC W k B v) (.ptr s 1 [] 0) (.pointer (some ⟨B s, 0, none⟩)) [] :=
 .ptr s 1 [] 0 _ (Nat.le_refl _) (fun _ _ => ⟨(B s, 0), rfl, rfl⟩) .nil
theorem bx_end {A0 : Nat → Prop} {F0 : List Nat} {W0 : World} {c' : Cx} {Φ' : Nat → Nat → List Nat} {R : List Nat} (h : Sim W0 A0 F0 c' Φ' R) (kp : Keep (bxC W k B v) c') {s : Nat} (hs : s < k) {u : Value} (hr : c'.ro s 1 = some (.bx [.sc u])) : ownB c'.w (B s) 0 [u] 1 := by
 obtain ⟨_, pv, h1, h2⟩ := h.rt s 1 _ hr
 obtain ⟨g, b, cap, us, F', rfl, _, hu, ho, _⟩ := Rel.bx_inv h1
 simp only [hd, Value.pointer.injEq, Option.some.injEq, Addr.mk.injEq] at h2
 obtain ⟨cs0, _, _, hL⟩ := kp.hP s 1 [] [.sc u] (Nat.le_refl _) (by simp only [Ro.cells, hr, blk])
 have hl := (hL (B s, 0) rfl).1
 simp only [locp, Option.some.injEq] at hl
 rw [hl] at h2
 obtain ⟨rfl, rfl, _⟩ := h2
 obtain ⟨u', us', F1, G1, rfl, _, hs1, hs2, _⟩ := hu.uncons
 obtain rfl := Rel.sc_inv hs1 |>.1
 obtain ⟨rfl, _⟩ := hs2.nilF
 obtain ⟨arr, E, k1, k2, k3, k4, k5⟩ := ho
 simp only [List.length_cons, List.length_nil] at k3
 exact ⟨arr, E, k1, by omega, Nat.le_refl _, by decide, k5⟩
end
theorem cell_spotA {w : World} {a : Addr} {v : Value} (h : w.cell? a = some v) : a.block < w.heap.size := by
 unfold World.cell? at h
 split at h
 · rename_i hb
   exact (Array.getElem?_eq_some_iff.1 hb).1
 · cases h
def AdI (H : Nat) (t : Int × Int × Int × Int) (W : World) : Prop :=
 ownB W H 0 [.int .i64 t.2.2.1] 1 ∧ ownB W (H + 1) 0 [.int .i64 t.2.2.2] 1 ∧ ownB W (H + 2) 0 [.int .i64 t.1] 1 ∧ ownB W (H + 3) 0 [.int .i64 t.2.1] 1
theorem ownB_boxed {W : World} {B : Nat} {t : TypeId} {v : Value} (h : Boxed W B t v) : ownB W B 0 [v] 1 := ⟨#[v], t, h, by simp, by simp, by decide, fun i u hu => by
 cases i with
 | zero => simpa using hu
 | succ i => simp at hu⟩
theorem ownB_grown {W W' : World} {B : Nat} {v : List Value} {row : Option Nat} (h : ownB W B 0 v 1) (hg : W.grownBy W' row) (hr : ∀ r, row = some r → ∃ o : Obj, W.heap[r]? = some o ∧ o.isCells = false) : ownB W' B 0 v 1 := by
 refine h.keep (hg.block B h.lt fun e => ?_)
 obtain ⟨o, ho, hc⟩ := hr B e.symm
 obtain ⟨arr, E, k1, _⟩ := h
 rw [k1] at ho
 cases ho
 cases hc
set_option maxRecDepth 100000 in
set_option maxHeartbeats 4000000 in
theorem addE_in (F : Fence) (n : Nat) (h3 : F.fn 152) (h5 : F.fn 160) (h8 : F.fn 161) (hro : F.round = none) (hn : 3 ≤ n) (b off cap : Nat) (zs : List Int) (hlen : zs.length ≤ 4) (x y : Int) (hx : 0 ≤ x ∧ x < 4294967296) (hy : 0 ≤ y ∧ y < 4294967296)
   (f : Nat → Ord16) (hf : ∀ m, m < zs.length → (f (zs.length - (m + 1))).i = m ∧ ((f (zs.length - (m + 1))).m : Int) = zs[m]?.getD 0) (w : World) (hI : IntsA w.heap.size w (.slice (some ⟨b, off, none⟩) zs.length cap) zs) :
   CallsIn F n Tryz.prog 152 #[.slice (some ⟨b, off, none⟩) zs.length cap, .int .i64 x, .int .i64 y] w fun e W' => e = .returned (.int .i64 (adT x y (upto f zs.length)).1) ∧ Below w.heap.size w W' := by
 have h1 : 1 ≤ n := by omega
 refine callsIn_of_wp_marks Tryz.func152 rfl h3 ?_ hro
 simp only [Tryz.ntmps152, List.size_toArray, List.length_cons, List.length_nil, Nat.reduceAdd, Nat.reduceSub, Array.replicate_succ, Array.replicate_zero, List.push_toArray, List.append_toArray, List.nil_append, List.cons_append]
 gi_wp2_with (gi_at_call 160; refine (bwd_in F (n - 1) h5 hro _ _ _ _).mono ?_; rintro e w' ⟨rfl, rfl⟩)
 have hW : Below w.heap.size w (((((w.alloc (.cells #[.int .i64 x] 2)).alloc (.cells #[.int .i64 y] 2)).alloc (.cells #[.int .i64 0] 2)).alloc (.cells #[.int .i64 1] 2)).alloc (.cells #[.slice (some ⟨b, off, none⟩) zs.length cap] 25)) :=
   (((((Below.refl _ w).alloc (Nat.le_refl _) _).alloc (by simp) _).alloc (by simp; omega) _).alloc (by simp; omega) _).alloc (by simp; omega) _
 have b0 := ((((Boxed.new w 2 (.int .i64 x)).alloc (.cells #[.int .i64 y] 2)).alloc (.cells #[.int .i64 0] 2)).alloc (.cells #[.int .i64 1] 2)).alloc (.cells #[.slice (some ⟨b, off, none⟩) zs.length cap] 25)
 have b1 := (((Boxed.new (w.alloc (.cells #[.int .i64 x] 2)) 2 (.int .i64 y)).alloc (.cells #[.int .i64 0] 2)).alloc (.cells #[.int .i64 1] 2)).alloc (.cells #[.slice (some ⟨b, off, none⟩) zs.length cap] 25)
 have b2 := ((Boxed.new ((w.alloc (.cells #[.int .i64 x] 2)).alloc (.cells #[.int .i64 y] 2)) 2 (.int .i64 0)).alloc (.cells #[.int .i64 1] 2)).alloc (.cells #[.slice (some ⟨b, off, none⟩) zs.length cap] 25)
 have b3 := (Boxed.new (((w.alloc (.cells #[.int .i64 x] 2)).alloc (.cells #[.int .i64 y] 2)).alloc (.cells #[.int .i64 0] 2)) 2 (.int .i64 1)).alloc (.cells #[.slice (some ⟨b, off, none⟩) zs.length cap] 25)
 have b4 := Boxed.new ((((w.alloc (.cells #[.int .i64 x] 2)).alloc (.cells #[.int .i64 y] 2)).alloc (.cells #[.int .i64 0] 2)).alloc (.cells #[.int .i64 1] 2)) 25 (.slice (some ⟨b, off, none⟩) zs.length cap)
 simp only [World.size_alloc] at b0 b1 b2 b3 b4
 have hsz : (((((w.alloc (.cells #[.int .i64 x] 2)).alloc (.cells #[.int .i64 y] 2)).alloc (.cells #[.int .i64 0] 2)).alloc (.cells #[.int .i64 1] 2)).alloc (.cells #[.slice (some ⟨b, off, none⟩) zs.length cap] 25)).heap.size = w.heap.size + 1 + 1 + 1 + 1 + 1 := by simp only [World.size_alloc]
 generalize (((((w.alloc (.cells #[.int .i64 x] 2)).alloc (.cells #[.int .i64 y] 2)).alloc (.cells #[.int .i64 0] 2)).alloc (.cells #[.int .i64 1] 2)).alloc (.cells #[.slice (some ⟨b, off, none⟩) zs.length cap] 25)) = W0 at hW b0 b1 b2 b3 b4 hsz ⊢
 refine wpIn_rangeFunc_ownG hro h1 (gf := 161) (lb := #[.pointer (some ⟨w.heap.size + 1 + 1 + 1 + 1, 0, none⟩)]) rfl h8 (enters_of Tryz.func161 (by kernel_rfl) rfl)
   (bwd_stops (fun o : Ord16 => o.i) (fun o => (o.m : Int)) f F (n - 1) h8 hro (by omega) (w.heap.size + 1 + 1 + 1 + 1) w.heap.size _ zs (by omega) _ (by omega) (by omega) b4.cell (hI.below hW) hf) KpB.trans
   (fun W l o o' hl ho hc _ => ⟨belowK_b (w := w) (Nat.le_refl _) W l o o' (by omega) ho hc (by assumption), fun v hv => (cell_kept hv (grownBy_putObj' W l o') (fun r e => by cases e; exact ⟨_, ho, hc⟩))⟩) (Below.refl _ _) (fun _ => rfl)
   (fun pre W => AdI w.heap.size (adT x y pre) W ∧ Below w.heap.size w W)
   (fun _ _ _ => False)
   (OwnFrom.and (Own.from (fun s A B row hs hg hr => by
     obtain ⟨c0, c1, c2, c3⟩ := hs
     exact ⟨ownB_grown c0 hg hr, ownB_grown c1 hg hr, ownB_grown c2 hg hr, ownB_grown c3 hg hr⟩) _) (ownFrom_below (Nat.le_refl _) (by omega)))
   (fun _ _ _ _ _ hs _ _ => hs)
   ⟨⟨ownB_boxed b0, ownB_boxed b1, ownB_boxed b2, ownB_boxed b3⟩, hW⟩
   (fun o => { tmps := (.slice (some ⟨b, off, none⟩) zs.length cap :: .int .i64 x :: .int .i64 y :: undef :: .pointer (some ⟨w.heap.size, 0, none⟩) :: .pointer (some ⟨w.heap.size + 1, 0, none⟩) :: .int .i64 0 :: .pointer (some ⟨w.heap.size + 1 + 1, 0, none⟩) :: .pointer (some ⟨w.heap.size + 1 + 1 + 1, 0, none⟩) :: undef :: .int .i64 o.m :: .slice (some ⟨b, off, none⟩) zs.length cap :: .func (.func 161) #[] #[.pointer (some ⟨w.heap.size + 1 + 1 + 1 + 1, 0, none⟩)] :: .int .i64 o.i :: .int .i64 o.m :: undef :: undef :: undef :: undef :: undef :: undef :: undef :: undef :: undef :: undef :: undef :: undef :: undef :: undef :: undef :: undef :: undef :: undef :: undef :: undef :: undef :: undef :: undef :: []).toArray, defers := [] }) ?assign ?body ?done ?stop
 case assign =>
   intro l x W K hK
   gi_wp2
   exact hK
 case body =>
   rintro l pre o W ⟨hA, hB⟩ hl
   have hok := adT_ok hx hy _ pre rfl
   have hsn := adT_snoc x y pre o
   generalize adT x y pre = t at hA hok hsn
   obtain ⟨s, p, u, v⟩ := t
   obtain ⟨o0, o1, o2, o3⟩ := hA
   dsimp only at o0 o1 o2 o3 hok
   obtain ⟨i, m, hm⟩ := o
   obtain ⟨q1, q2, q3, q4, q5, q6, q7⟩ := hok
   have hl4 : pre.length ≤ 3 := by omega
   have h16 : (16 : Int) ^ pre.length ≤ 4096 := by
     have : pre.length = 0 ∨ pre.length = 1 ∨ pre.length = 2 ∨ pre.length = 3 := by omega
     rcases this with e | e | e | e <;> rw [e] <;> decide
   let vF : Nat → Value := fun i => match i with
     | 0 => .int .i64 u
     | 1 => .int .i64 v
     | 2 => .int .i64 s
     | _ => .int .i64 p
   have hS := bx_sim (W := W) (k := 4) (B := fun i => w.heap.size + i) (v := vF) (by intro i j _ _ h; omega) (by
     intro i hi
     match i, hi with
     | 0, _ => exact o0
     | 1, _ => exact o1
     | 2, _ => exact o2
     | 3, _ => exact o3)
   obtain ⟨st, hst⟩ : ∃ st : St, st = ⟨fun k => if k = 4 then .ptr 0 1 [] 0 else if k = 5 then .ptr 1 1 [] 0 else if k = 7 then .ptr 2 1 [] 0 else if k = 8 then .ptr 3 1 [] 0 else if k = 10 then i64 m else .dead, (bxC W 4 (fun i => w.heap.size + i) vF).ro, fun _ => 1⟩ := ⟨_, rfl⟩
   refine wpIn_mono (codeW_in (C := XX.cfg) (w0 := W) (A0 := fun _ => False) (F0 := bxL 4 fun i => w.heap.size + i) (cS := bxC W 4 (fun i => w.heap.size + i) vF) (n := 38) (c := bxC W 4 (fun i => w.heap.size + i) vF) (st := st) (Φ := bxF 4 fun i => w.heap.size + i) (Q := fun e st' => e = .normal ∧ st'.ro 0 1 = some (.bx [i64 (u / m)]) ∧ st'.ro 1 1 = some (.bx [i64 (v / m)]) ∧ st'.ro 2 1 = some (.bx [i64 (s + (u % m + v % m) % m * p)]) ∧ st'.ro 3 1 = some (.bx [i64 (p * m)])) (tiG_ok _) mixed0 _ (by rfl) ⟨hS, Keep.refl _, by rw [hst], by rw [hst]; rfl, fun k => ?slots, rfl, by rfl⟩ (by rfl) ?code) ?post
   case slots =>
     rw [hst]
     dsimp only
     by_cases e4 : k = 4
     · subst e4; exact bx_ptr (s := 0) (by omega)
     rw [if_neg e4]
     by_cases e5 : k = 5
     · subst e5; exact bx_ptr (s := 1) (by omega)
     rw [if_neg e5]
     by_cases e7 : k = 7
     · subst e7; exact bx_ptr (s := 2) (by omega)
     rw [if_neg e7]
     by_cases e8 : k = 8
     · subst e8; exact bx_ptr (s := 3) (by omega)
     rw [if_neg e8]
     by_cases e10 : k = 10
     · subst e10; exact .sc _ .nil
     rw [if_neg e10]
     exact .dead _ .nil
   case code =>
     have s4 : st.sl 4 = .ptr 0 1 [] 0 := by rw [hst]; rfl
     have s5 : st.sl 5 = .ptr 1 1 [] 0 := by rw [hst]; rfl
     have s7 : st.sl 7 = .ptr 2 1 [] 0 := by rw [hst]; rfl
     have s8 : st.sl 8 = .ptr 3 1 [] 0 := by rw [hst]; rfl
     have s10 : st.sl 10 = i64 m := by rw [hst]; rfl
     have r0 : st.ro 0 1 = some (.bx [i64 u]) := by rw [hst]; rfl
     have r1 : st.ro 1 1 = some (.bx [i64 v]) := by rw [hst]; rfl
     have r2 : st.ro 2 1 = some (.bx [i64 s]) := by rw [hst]; rfl
     have r3 : st.ro 3 1 = some (.bx [i64 p]) := by rw [hst]; rfl
     clear hst
     obtain ⟨sl, ro, gn⟩ := st
     dsimp only at s4 s5 s7 s8 s10 r0 r1 r2 r3
     refine wk_ok (X := XX) _ ?_
     show WK XX _ [] _ _
     have hmp : (0 : Int) < m := by omega
     have hm16 : (m : Int) ≤ 16 := by omega
     have eu : u.tmod m = u % m := Int.tmod_eq_emod_of_nonneg q4
     have ev : v.tmod m = v % m := Int.tmod_eq_emod_of_nonneg q6
     have du : u.tdiv m = u / m := Int.tdiv_eq_ediv_of_nonneg q4
     have dv : v.tdiv m = v / m := Int.tdiv_eq_ediv_of_nonneg q6
     have c1 : 0 ≤ u % m := Int.emod_nonneg _ (by omega)
     have c2 : u % m < m := Int.emod_lt_of_pos _ hmp
     have c3 : 0 ≤ v % m := Int.emod_nonneg _ (by omega)
     have c4 : v % m < m := Int.emod_lt_of_pos _ hmp
     have ed : (u % m + v % m).tmod m = (u % m + v % m) % m := Int.tmod_eq_emod_of_nonneg (by omega)
     have c5 : 0 ≤ (u % m + v % m) % m := Int.emod_nonneg _ (by omega)
     have c6 : (u % m + v % m) % m < m := Int.emod_lt_of_pos _ hmp
     have c7 : 0 ≤ (u % m + v % m) % m * p := Int.mul_nonneg c5 (by omega)
     have c8 : (u % m + v % m) % m * p ≤ 16 * 4096 := Int.mul_le_mul (by omega) (by omega) (by omega) (by omega)
     have c9 : 0 ≤ p * m := Int.mul_nonneg (by omega) (by omega)
     have c10 : p * m ≤ 4096 * 16 := Int.mul_le_mul (by omega) hm16 (by omega) (by omega)
     have c11 : 0 ≤ u / m := Int.ediv_nonneg q4 (by omega)
     have c12 : u / m ≤ u := Int.ediv_le_self _ q4
     have c13 : 0 ≤ v / m := Int.ediv_nonneg q6 (by omega)
     have c14 : v / m ≤ v := Int.ediv_le_self _ q6
     simp (maxSteps := 10000000) (disch := first | omega | assumption) only [go_sem, ↓reduceIte, Nat.reduceEqDiff, reduceCtorEq, Nat.reduceAdd, Nat.reduceMul, Nat.reduceLeDiff, zfu, Int.mul_def, Int.add_def, zfv, cond_false, cond_true, isub, ti2, s4, s5, s7, s8, s10, r0, r1, r2, r3, eu, ev, ed]
     refine FIN_of (by kernel_rfl) ?_
     simp (maxSteps := 10000000) (disch := first | omega | assumption) only [go_sem, ↓reduceIte, Nat.reduceEqDiff, reduceCtorEq, Nat.reduceAdd, Nat.reduceMul, Nat.reduceLeDiff, zfu, Int.mul_def, Int.add_def, zfv, cond_false, cond_true, isub, ti2, s4, s5, s7, s8, s10, r0, r1, r2, r3, eu, ev, ed, du, dv]
     refine FIN_of (by kernel_rfl) ?_
     simp (maxSteps := 10000000) (disch := first | omega | assumption) only [go_sem, ↓reduceIte, Nat.reduceEqDiff, reduceCtorEq, Nat.reduceAdd, Nat.reduceMul, Nat.reduceLeDiff, zfu, Int.mul_def, Int.add_def, zfv, cond_false, cond_true, isub, ti2, s4, s5, s7, s8, s10, r0, r1, r2, r3, eu, ev, ed, du, dv]
   case post =>
     rintro e a' w' ⟨st', c', Φ', rfl, h', rfl, r0, r1, r2, r3⟩
     have bw := h'.sim.bw
     have hnot : ∀ k, (k < w.heap.size ∨ w.heap.size + 4 ≤ k) → k ∉ bxL 4 fun i => w.heap.size + i := by
       intro k hk hm
       obtain ⟨i, hi, e⟩ := List.mem_map.1 hm
       have := List.mem_range.1 hi
       omega
     have hWs := hB.size
     have hbel : Below w.heap.size W c'.w := ⟨bw.os, bw.tape, bw.output, bw.size, fun k hk => bw.block k (by omega) (hnot k (.inl hk))⟩
     refine ⟨⟨bw.size, fun k o hk ho _ => (bw.block k (Array.getElem?_eq_some_iff.1 ho).1 (hnot k (.inr (by omega)))).trans ho⟩, ⟨hbel, fun z hz => ?_⟩, ?_, hB.trans hbel⟩
     · have hlt : w.heap.size + 1 + 1 + 1 + 1 < W.heap.size := (cell_spotA hz)
       rw [World.cell?_of_block (bw.block (w.heap.size + 1 + 1 + 1 + 1) hlt (hnot (w.heap.size + 1 + 1 + 1 + 1) (.inr (by omega))))]
       exact hz
     · rw [hsn]
       simp only [AdI, adR]
       exact ⟨bx_end h'.sim h'.kp (s := 0) (by omega) (by rw [h'.ro]; exact r0), bx_end h'.sim h'.kp (s := 1) (by omega) (by rw [h'.ro]; exact r1), bx_end h'.sim h'.kp (s := 2) (by omega) (by rw [h'.ro]; exact r2), bx_end h'.sim h'.kp (s := 3) (by omega) (by rw [h'.ro]; exact r3)⟩
 case done =>
   rintro D ys W hD rfl ⟨⟨_, _, hc0, _⟩, hB⟩ hK
   have hc := hc0.cell (i := 0) rfl
   gi_wp2
   refine ⟨by simp, .inl ⟨_, _, rfl, run_takeDeferred hK, ?_⟩⟩
   exact ⟨_, results_tmp rfl _ _ _, rfl, hB.trans (belowK_b (w := w) (Nat.le_refl _) W D _ _ (by omega) hK rfl rfl)⟩
 case stop =>
   rintro D c pre W _ _ h _
   exact h.elim
end Go.Proofs.YtgcnmlecihegcaaGreat
