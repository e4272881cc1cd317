/- Texts joined: Q1 Q2 Q3 Q4 Q4z. -/
import Derived.Test.YthpmddoakefbmaaGreatMd
import Derived.Test.YthpmddoakefbmaaGreatMh
import Derived.Test.YthpmddoakefbmaaGreatMv
set_option linter.all false
/- The sum of two elements of a group: the program's addElements, by the kit's walk. -/
namespace Go.Proofs.YthpmddoakefbmaaGreat
open Go.RowKit Go.Shelf
attribute [local go_sem] Oper.semAt_some
structure Ord16 where
 i : Int
 m : Nat
 h : 1 ≤ m ∧ m ≤ 16
def adR (t : Int × Int × Int × Int) (o : Ord16) : Int × Int × Int × Int := (t.1 + (t.2.2.1 % o.m + t.2.2.2 % o.m) % o.m * t.2.1, t.2.1 * o.m, t.2.2.1 / o.m, t.2.2.2 / o.m)
def adT (x y : Int) (pre : List Ord16) : Int × Int × Int × Int := pre.foldl adR (0, 1, x, y)
theorem adT_snoc (x y : Int) (pre : List Ord16) (o : Ord16) : adT x y (pre ++ [o]) = adR (adT x y pre) o := by simp [adT]
theorem adT_ok {x y : Int} (hx : 0 ≤ x ∧ x < 4294967296) (hy : 0 ≤ y ∧ y < 4294967296) : ∀ (n : Nat) (pre : List Ord16), pre.length = n →
  0 ≤ (adT x y pre).1 ∧ (adT x y pre).1 < (adT x y pre).2.1 ∧ (adT x y pre).2.1 ≤ 16 ^ n ∧ 0 ≤ (adT x y pre).2.2.1 ∧ (adT x y pre).2.2.1 < 4294967296 ∧ 0 ≤ (adT x y pre).2.2.2 ∧ (adT x y pre).2.2.2 < 4294967296
 | 0, pre, h => by
  obtain rfl := List.length_eq_zero_iff.1 h
  simp only [adT, List.foldl_nil]
  refine ⟨by decide, by decide, by decide, hx.1, hx.2, hy.1, hy.2⟩
 | n + 1, pre, h => by
  obtain ⟨ini, o, rfl⟩ : ∃ ini o, pre = ini ++ [o] := by
   have hne : pre ≠ [] := by rintro rfl; simp at h
   exact ⟨pre.dropLast, pre.getLast hne, (List.dropLast_concat_getLast hne).symm⟩
  rw [List.length_append] at h
  have ih := adT_ok hx hy n ini (by simpa using h)
  rw [adT_snoc]
  generalize adT x y ini = t at ih ⊢
  obtain ⟨s, p, a, b⟩ := t
  obtain ⟨h1, h2, h3, h4, h5, h6, h7⟩ := ih
  simp only [adR] at h1 h2 h3 h4 h5 h6 h7 ⊢
  obtain ⟨hm1, hm2⟩ := o.h
  have hm : (0 : Int) < o.m := by omega
  have hd0 : 0 ≤ (a % o.m + b % o.m) % o.m := Int.emod_nonneg _ (by omega)
  have hd1 : (a % o.m + b % o.m) % o.m < o.m := Int.emod_lt_of_pos _ hm
  generalize (a % o.m + b % o.m) % o.m = d at hd0 hd1
  have hp : 0 < p := by omega
  have hdp : 0 ≤ d * p := Int.mul_nonneg hd0 (by omega)
  have hdp2 : d * p ≤ (o.m - 1) * p := Int.mul_le_mul_of_nonneg_right (by omega) (by omega)
  have hmp : (o.m - 1 : Int) * p = p * o.m - p := by rw [Int.sub_mul, Int.one_mul, Int.mul_comm]
  have h16 : p * o.m ≤ 16 ^ n * 16 := Int.mul_le_mul h3 (by omega) (by omega) (by exact_mod_cast Nat.zero_le _)
  have e16 : (16 : Int) ^ (n + 1) = 16 ^ n * 16 := Int.pow_succ _ _
  have ha : a / o.m ≤ a := Int.ediv_le_self _ h4
  have hb : b / o.m ≤ b := Int.ediv_le_self _ h6
  refine ⟨by omega, by omega, by omega, Int.ediv_nonneg h4 (by omega), by omega, Int.ediv_nonneg h6 (by omega), by omega⟩
section
variable {W : World} {k : Nat} {B : Nat → Nat} {v : Nat → Value}
def bxC (W : World) (k : Nat) (B : Nat → Nat) (v : Nat → Value) : Cx :=
 ⟨W, fun x => ∃ i, i < k ∧ x = B i, fun s g => if s < k ∧ g = 1 then some (.bx [.sc (v s)]) else none, fun _ => 1, fun s _ => (B s, 0)⟩
def bxF (k : Nat) (B : Nat → Nat) (s g : Nat) : List Nat := if s < k ∧ g = 1 then [B s] else []
def bxL (k : Nat) (B : Nat → Nat) : List Nat := (List.range k).map B
theorem bx_sim (hd : ∀ i j, i < k → j < k → B i = B j → i = j) (ho : ∀ i, i < k → ownB W (B i) 0 [v i] 1) : Sim W (fun _ => False) (bxL k B) (bxC W k B v) (bxF k B) [] := by
 have hmem : ∀ s g x, x ∈ bxF k B s g → s < k ∧ g = 1 ∧ x = B s := by
  intro s g x hx
  unfold bxF at hx
  split at hx
  ·rename_i h; exact ⟨h.1, h.2, by simpa using hx⟩
  ·cases hx
 constructor
 ·intro s g a ha
  simp only [bxC] at ha ⊢
  split at ha
  ·rename_i h
   obtain rfl : AV.bx [.sc (v s)] = a := by simpa using ha
   refine ⟨by omega, .pointer (some ⟨B s, 0, none⟩), ?_, rfl⟩
   have := Rel.mk_bx (c := bxC W k B v) (B s) 0 1 (RelL.sc (v s) .nil) (ho s h.1) (by simp)
   unfold bxF
   rw [if_pos h]
   exact this
  ·cases ha
 ·intro s g h
  simp only [bxC] at h
  unfold bxF
  split at h
  ·cases h
  ·rename_i h2; rw [if_neg h2]
 ·intro s g s' g' hne x hx hx'
  obtain ⟨h1, h2, h3⟩ := hmem _ _ _ hx
  obtain ⟨h4, h5, h6⟩ := hmem _ _ _ hx'
  exact hne ⟨hd _ _ h1 h4 (h3.symm.trans h6), by omega⟩
 ·intro s g x hx
  obtain ⟨h1, h2, h3⟩ := hmem _ _ _ hx
  exact ⟨⟨s, h1, h3⟩, id, .inr (List.mem_map.2 ⟨s, List.mem_range.2 h1, h3.symm⟩)⟩
 ·intro s g x _ hx; cases hx
 ·intro x hx; cases hx
 ·intro x hx; exact hx.elim
 ·rintro x ⟨i, hi, rfl⟩; exact (ho i hi).lt
 ·exact ⟨rfl, rfl, rfl, Nat.le_refl _, fun _ _ _ => rfl⟩
theorem bx_ptr {s : Nat} (_hs : s < k) : Rel (bxC W k B v) (.ptr s 1 [] 0) (.pointer (some ⟨B s, 0, none⟩)) [] :=
 .ptr s 1 [] 0 _ (Nat.le_refl _) (fun _ _ => ⟨(B s, 0), rfl, rfl⟩) .nil
theorem bx_end {A0 : Nat → Prop} {F0 : List Nat} {W0 : World} {c' : Cx} {Φ' : Nat → Nat → List Nat} {R : List Nat} (h : Sim W0 A0 F0 c' Φ' R) (kp : Keep (bxC W k B v) c') {s : Nat} (hs : s < k) {u : Value} (hr : c'.ro s 1 = some (.bx [.sc u])) : ownB c'.w (B s) 0 [u] 1 := by
 obtain ⟨_, pv, h1, h2⟩ := h.rt s 1 _ hr
 obtain ⟨g, b, cap, us, F', rfl, _, hu, ho, _⟩ := Rel.bx_inv h1
 simp only [hd, Value.pointer.injEq, Option.some.injEq, Addr.mk.injEq] at h2
 obtain ⟨cs0, _, _, hL⟩ := kp.hP s 1 [] [.sc u] (Nat.le_refl _) (by simp only [Ro.cells, hr, blk])
 have hl := (hL (B s, 0) rfl).1
 simp only [locp, Option.some.injEq] at hl
 rw [hl] at h2
 obtain ⟨rfl, rfl, _⟩ := h2
 obtain ⟨u', us', F1, G1, rfl, _, hs1, hs2, _⟩ := hu.uncons
 obtain rfl := Rel.sc_inv hs1 |>.1
 obtain ⟨rfl, _⟩ := hs2.nilF
 obtain ⟨arr, E, k1, k2, k3, k4, k5⟩ := ho
 simp only [List.length_cons, List.length_nil] at k3
 exact ⟨arr, E, k1, by omega, Nat.le_refl _, by decide, k5⟩
end
theorem cell_spotA {w : World} {a : Addr} {v : Value} (h : w.cell? a = some v) : a.block < w.heap.size := by
 unfold World.cell? at h
 split at h
 ·rename_i hb
  exact (Array.getElem?_eq_some_iff.1 hb).1
 ·cases h
def AdI (H : Nat) (t : Int × Int × Int × Int) (W : World) : Prop :=
 ownB W H 0 [.int .i64 t.2.2.1] 1 ∧ ownB W (H + 1) 0 [.int .i64 t.2.2.2] 1 ∧ ownB W (H + 2) 0 [.int .i64 t.1] 1 ∧ ownB W (H + 3) 0 [.int .i64 t.2.1] 1
theorem ownB_boxed {W : World} {B : Nat} {t : TypeId} {v : Value} (h : Boxed W B t v) : ownB W B 0 [v] 1 := ⟨#[v], t, h, by simp, by simp, by decide, fun i u hu => by
 cases i with
 | zero => simpa using hu
 | succ i => simp at hu⟩
theorem ownB_grown {W W' : World} {B : Nat} {v : List Value} {row : Option Nat} (h : ownB W B 0 v 1) (hg : W.grownBy W' row) (hr : ∀ r, row = some r → ∃ o : Obj, W.heap[r]? = some o ∧ o.isCells = false) : ownB W' B 0 v 1 := by
 refine h.keep (hg.block B h.lt fun e => ?_)
 obtain ⟨o, ho, hc⟩ := hr B e.symm
 obtain ⟨arr, E, k1, _⟩ := h
 rw [k1] at ho
 cases ho
 cases hc
set_option maxRecDepth 100000 in
set_option maxHeartbeats 4000000 in
theorem addE_in (F : Fence) (n : Nat) (h3 : F.fn 130) (h5 : F.fn 120) (h8 : F.fn 134) (hro : F.round = none) (hn : 3 ≤ n) (b off cap : Nat) (zs : List Int) (hlen : zs.length ≤ 6) (x y : Int) (hx : 0 ≤ x ∧ x < 4294967296) (hy : 0 ≤ y ∧ y < 4294967296)
  (f : Nat → Ord16) (hf : ∀ m, m < zs.length → (f (zs.length - (m + 1))).i = m ∧ ((f (zs.length - (m + 1))).m : Int) = zs[m]?.getD 0) (w : World) (hI : IntsA w.heap.size w (.slice (some ⟨b, off, none⟩) zs.length cap) zs) :
  CallsIn F n Tryz.prog 130 #[.slice (some ⟨b, off, none⟩) zs.length cap, .int .i64 x, .int .i64 y] w fun e W' => e = .returned (.int .i64 (adT x y (upto f zs.length)).1) ∧ Below w.heap.size w W' := by
 have h1 : 1 ≤ n := by omega
 refine callsIn_of_wp_marks Tryz.func130 rfl h3 ?_ hro
 simp only [Tryz.ntmps130, List.size_toArray, List.length_cons, List.length_nil, Nat.reduceAdd, Nat.reduceSub, Array.replicate_succ, Array.replicate_zero, List.push_toArray, List.append_toArray, List.nil_append, List.cons_append]
 gi_wp2_with (gi_at_call 120; refine (bwd_in F (n - 1) h5 hro _ _ _ _).mono ?_; rintro e w' ⟨rfl, rfl⟩)
 have hW : Below w.heap.size w (((((w.alloc (.cells #[.int .i64 x] 2)).alloc (.cells #[.int .i64 y] 2)).alloc (.cells #[.int .i64 0] 2)).alloc (.cells #[.int .i64 1] 2)).alloc (.cells #[.slice (some ⟨b, off, none⟩) zs.length cap] 24)) :=
  (((((Below.refl _ w).alloc (Nat.le_refl _) _).alloc (by simp) _).alloc (by simp; omega) _).alloc (by simp; omega) _).alloc (by simp; omega) _
 have b0 := ((((Boxed.new w 2 (.int .i64 x)).alloc (.cells #[.int .i64 y] 2)).alloc (.cells #[.int .i64 0] 2)).alloc (.cells #[.int .i64 1] 2)).alloc (.cells #[.slice (some ⟨b, off, none⟩) zs.length cap] 24)
 have b1 := (((Boxed.new (w.alloc (.cells #[.int .i64 x] 2)) 2 (.int .i64 y)).alloc (.cells #[.int .i64 0] 2)).alloc (.cells #[.int .i64 1] 2)).alloc (.cells #[.slice (some ⟨b, off, none⟩) zs.length cap] 24)
 have b2 := ((Boxed.new ((w.alloc (.cells #[.int .i64 x] 2)).alloc (.cells #[.int .i64 y] 2)) 2 (.int .i64 0)).alloc (.cells #[.int .i64 1] 2)).alloc (.cells #[.slice (some ⟨b, off, none⟩) zs.length cap] 24)
 have b3 := (Boxed.new (((w.alloc (.cells #[.int .i64 x] 2)).alloc (.cells #[.int .i64 y] 2)).alloc (.cells #[.int .i64 0] 2)) 2 (.int .i64 1)).alloc (.cells #[.slice (some ⟨b, off, none⟩) zs.length cap] 24)
 have b4 := Boxed.new ((((w.alloc (.cells #[.int .i64 x] 2)).alloc (.cells #[.int .i64 y] 2)).alloc (.cells #[.int .i64 0] 2)).alloc (.cells #[.int .i64 1] 2)) 24 (.slice (some ⟨b, off, none⟩) zs.length cap)
 simp only [World.size_alloc] at b0 b1 b2 b3 b4
 have hsz : (((((w.alloc (.cells #[.int .i64 x] 2)).alloc (.cells #[.int .i64 y] 2)).alloc (.cells #[.int .i64 0] 2)).alloc (.cells #[.int .i64 1] 2)).alloc (.cells #[.slice (some ⟨b, off, none⟩) zs.length cap] 24)).heap.size = w.heap.size + 1 + 1 + 1 + 1 + 1 := by simp only [World.size_alloc]
 generalize (((((w.alloc (.cells #[.int .i64 x] 2)).alloc (.cells #[.int .i64 y] 2)).alloc (.cells #[.int .i64 0] 2)).alloc (.cells #[.int .i64 1] 2)).alloc (.cells #[.slice (some ⟨b, off, none⟩) zs.length cap] 24)) = W0 at hW b0 b1 b2 b3 b4 hsz ⊢
 refine wpIn_rangeFunc_ownG hro h1 (gf := 134) (lb := #[.pointer (some ⟨w.heap.size + 1 + 1 + 1 + 1, 0, none⟩)]) rfl h8 (enters_of Tryz.func134 (by kernel_rfl) rfl)
  (bwd_stops (fun o : Ord16 => o.i) (fun o => (o.m : Int)) f F (n - 1) h8 hro (by omega) (w.heap.size + 1 + 1 + 1 + 1) w.heap.size _ zs (by omega) _ (by omega) (by omega) b4.cell (hI.below hW) hf) KpB.trans
  (fun W l o o' hl ho hc _ => ⟨belowK_b (w := w) (Nat.le_refl _) W l o o' (by omega) ho hc (by assumption), fun v hv => (cell_kept hv (grownBy_putObj' W l o') (fun r e => by cases e; exact ⟨_, ho, hc⟩))⟩) (Below.refl _ _) (fun _ => rfl)
  (fun pre W => AdI w.heap.size (adT x y pre) W ∧ Below w.heap.size w W)
  (fun _ _ _ => False)
  (OwnFrom.and (Own.from (fun s A B row hs hg hr => by
   obtain ⟨c0, c1, c2, c3⟩ := hs
   exact ⟨ownB_grown c0 hg hr, ownB_grown c1 hg hr, ownB_grown c2 hg hr, ownB_grown c3 hg hr⟩) _) (ownFrom_below (Nat.le_refl _) (by omega)))
  (fun _ _ _ _ _ hs _ _ => hs)
  ⟨⟨ownB_boxed b0, ownB_boxed b1, ownB_boxed b2, ownB_boxed b3⟩, hW⟩
  (fun o => { tmps := (.slice (some ⟨b, off, none⟩) zs.length cap :: .int .i64 x :: .int .i64 y :: undef :: .pointer (some ⟨w.heap.size, 0, none⟩) :: .pointer (some ⟨w.heap.size + 1, 0, none⟩) :: .int .i64 0 :: .pointer (some ⟨w.heap.size + 1 + 1, 0, none⟩) :: .pointer (some ⟨w.heap.size + 1 + 1 + 1, 0, none⟩) :: undef :: .int .i64 o.m :: .slice (some ⟨b, off, none⟩) zs.length cap :: .func (.func 134) #[] #[.pointer (some ⟨w.heap.size + 1 + 1 + 1 + 1, 0, none⟩)] :: .int .i64 o.i :: .int .i64 o.m :: undef :: undef :: undef :: undef :: undef :: undef :: undef :: undef :: undef :: undef :: undef :: undef :: undef :: undef :: undef :: undef :: undef :: undef :: undef :: undef :: undef :: undef :: undef :: []).toArray, defers := [] }) ?assign ?body ?done ?stop
 case assign =>
  intro l x W K hK
  gi_wp2
  exact hK
 case body =>
  rintro l pre o W ⟨hA, hB⟩ hl
  have hok := adT_ok hx hy _ pre rfl
  have hsn := adT_snoc x y pre o
  generalize adT x y pre = t at hA hok hsn
  obtain ⟨s, p, u, v⟩ := t
  obtain ⟨o0, o1, o2, o3⟩ := hA
  dsimp only at o0 o1 o2 o3 hok
  obtain ⟨i, m, hm⟩ := o
  obtain ⟨q1, q2, q3, q4, q5, q6, q7⟩ := hok
  have hl4 : pre.length ≤ 5 := by omega
  have h16 : (16 : Int) ^ pre.length ≤ 1048576 := by
   have : pre.length = 0 ∨ pre.length = 1 ∨ pre.length = 2 ∨ pre.length = 3 ∨ pre.length = 4 ∨ pre.length = 5 := by omega
   rcases this with e | e | e | e | e | e <;> rw [e] <;> decide
  let vF : Nat → Value := fun i => match i with
   | 0 => .int .i64 u
   | 1 => .int .i64 v
   | 2 => .int .i64 s
   | _ => .int .i64 p
  have hS := bx_sim (W := W) (k := 4) (B := fun i => w.heap.size + i) (v := vF) (by intro i j _ _ h; omega) (by
   intro i hi
   match i, hi with
   | 0, _ => exact o0
   | 1, _ => exact o1
   | 2, _ => exact o2
   | 3, _ => exact o3)
  obtain ⟨st, hst⟩ : ∃ st : St, st = ⟨fun k => if k = 4 then .ptr 0 1 [] 0 else if k = 5 then .ptr 1 1 [] 0 else if k = 7 then .ptr 2 1 [] 0 else if k = 8 then .ptr 3 1 [] 0 else if k = 10 then i64 m else .dead, (bxC W 4 (fun i => w.heap.size + i) vF).ro, fun _ => 1⟩ := ⟨_, rfl⟩
  refine wpIn_mono (codeW_in (C := XX.cfg) (w0 := W) (A0 := fun _ => False) (F0 := bxL 4 fun i => w.heap.size + i) (cS := bxC W 4 (fun i => w.heap.size + i) vF) (n := 38) (c := bxC W 4 (fun i => w.heap.size + i) vF) (st := st) (Φ := bxF 4 fun i => w.heap.size + i) (Q := fun e st' => e = .normal ∧ st'.ro 0 1 = some (.bx [i64 (u / m)]) ∧ st'.ro 1 1 = some (.bx [i64 (v / m)]) ∧ st'.ro 2 1 = some (.bx [i64 (s + (u % m + v % m) % m * p)]) ∧ st'.ro 3 1 = some (.bx [i64 (p * m)])) (tiG_ok _) mixed0 _ (by rfl) ⟨hS, Keep.refl _, by rw [hst], by rw [hst]; rfl, fun k => ?slots, rfl, by rfl⟩ (by rfl) ?code) ?post
  case slots =>
   rw [hst]
   dsimp only
   by_cases e4 : k = 4
   ·subst e4; exact bx_ptr (s := 0) (by omega)
   rw [if_neg e4]
   by_cases e5 : k = 5
   ·subst e5; exact bx_ptr (s := 1) (by omega)
   rw [if_neg e5]
   by_cases e7 : k = 7
   ·subst e7; exact bx_ptr (s := 2) (by omega)
   rw [if_neg e7]
   by_cases e8 : k = 8
   ·subst e8; exact bx_ptr (s := 3) (by omega)
   rw [if_neg e8]
   by_cases e10 : k = 10
   ·subst e10; exact .sc _ .nil
   rw [if_neg e10]
   exact .dead _ .nil
  case code =>
   have s4 : st.sl 4 = .ptr 0 1 [] 0 := by rw [hst]; rfl
   have s5 : st.sl 5 = .ptr 1 1 [] 0 := by rw [hst]; rfl
   have s7 : st.sl 7 = .ptr 2 1 [] 0 := by rw [hst]; rfl
   have s8 : st.sl 8 = .ptr 3 1 [] 0 := by rw [hst]; rfl
   have s10 : st.sl 10 = i64 m := by rw [hst]; rfl
   have r0 : st.ro 0 1 = some (.bx [i64 u]) := by rw [hst]; rfl
   have r1 : st.ro 1 1 = some (.bx [i64 v]) := by rw [hst]; rfl
   have r2 : st.ro 2 1 = some (.bx [i64 s]) := by rw [hst]; rfl
   have r3 : st.ro 3 1 = some (.bx [i64 p]) := by rw [hst]; rfl
   clear hst
   obtain ⟨sl, ro, gn⟩ := st
   dsimp only at s4 s5 s7 s8 s10 r0 r1 r2 r3
   refine wk_ok (X := XX) _ ?_
   show WK XX _ [] _ _
   have hmp : (0 : Int) < m := by omega
   have hm16 : (m : Int) ≤ 16 := by omega
   have eu : u.tmod m = u % m := Int.tmod_eq_emod_of_nonneg q4
   have ev : v.tmod m = v % m := Int.tmod_eq_emod_of_nonneg q6
   have du : u.tdiv m = u / m := Int.tdiv_eq_ediv_of_nonneg q4
   have dv : v.tdiv m = v / m := Int.tdiv_eq_ediv_of_nonneg q6
   have c1 : 0 ≤ u % m := Int.emod_nonneg _ (by omega)
   have c2 : u % m < m := Int.emod_lt_of_pos _ hmp
   have c3 : 0 ≤ v % m := Int.emod_nonneg _ (by omega)
   have c4 : v % m < m := Int.emod_lt_of_pos _ hmp
   have ed : (u % m + v % m).tmod m = (u % m + v % m) % m := Int.tmod_eq_emod_of_nonneg (by omega)
   have c5 : 0 ≤ (u % m + v % m) % m := Int.emod_nonneg _ (by omega)
   have c6 : (u % m + v % m) % m < m := Int.emod_lt_of_pos _ hmp
   have c7 : 0 ≤ (u % m + v % m) % m * p := Int.mul_nonneg c5 (by omega)
   have c8 : (u % m + v % m) % m * p ≤ 16 * 1048576 := Int.mul_le_mul (by omega) (by omega) (by omega) (by omega)
   have c9 : 0 ≤ p * m := Int.mul_nonneg (by omega) (by omega)
   have c10 : p * m ≤ 1048576 * 16 := Int.mul_le_mul (by omega) hm16 (by omega) (by omega)
   have c11 : 0 ≤ u / m := Int.ediv_nonneg q4 (by omega)
   have c12 : u / m ≤ u := Int.ediv_le_self _ q4
   have c13 : 0 ≤ v / m := Int.ediv_nonneg q6 (by omega)
   have c14 : v / m ≤ v := Int.ediv_le_self _ q6
   simp (maxSteps := 10000000) (disch := first | omega | assumption) only [go_sem, ↓reduceIte, Nat.reduceEqDiff, reduceCtorEq, Nat.reduceAdd, Nat.reduceMul, Nat.reduceLeDiff, zc, ti2, s4, s5, s7, s8, s10, r0, r1, r2, r3, eu, ev, ed]
   refine FIN_of (by kernel_rfl) ?_
   simp (maxSteps := 10000000) (disch := first | omega | assumption) only [go_sem, ↓reduceIte, Nat.reduceEqDiff, reduceCtorEq, Nat.reduceAdd, Nat.reduceMul, Nat.reduceLeDiff, zc, ti2, s4, s5, s7, s8, s10, r0, r1, r2, r3, eu, ev, ed, du, dv]
   refine FIN_of (by kernel_rfl) ?_
   simp (maxSteps := 10000000) (disch := first | omega | assumption) only [go_sem, ↓reduceIte, Nat.reduceEqDiff, reduceCtorEq, Nat.reduceAdd, Nat.reduceMul, Nat.reduceLeDiff, zc, ti2, s4, s5, s7, s8, s10, r0, r1, r2, r3, eu, ev, ed, du, dv]
  case post =>
   rintro e a' w' ⟨st', c', Φ', rfl, h', rfl, r0, r1, r2, r3⟩
   have bw := h'.sim.bw
   have hnot : ∀ k, (k < w.heap.size ∨ w.heap.size + 4 ≤ k) → k ∉ bxL 4 fun i => w.heap.size + i := by
    intro k hk hm
    obtain ⟨i, hi, e⟩ := List.mem_map.1 hm
    have := List.mem_range.1 hi
    omega
   have hWs := hB.size
   have hbel : Below w.heap.size W c'.w := ⟨bw.os, bw.tape, bw.output, bw.size, fun k hk => bw.block k (by omega) (hnot k (.inl hk))⟩
   refine ⟨⟨bw.size, fun k o hk ho _ => (bw.block k (Array.getElem?_eq_some_iff.1 ho).1 (hnot k (.inr (by omega)))).trans ho⟩, ⟨hbel, fun z hz => ?_⟩, ?_, hB.trans hbel⟩
   ·have hlt : w.heap.size + 1 + 1 + 1 + 1 < W.heap.size := (cell_spotA hz)
    rw [World.cell?_of_block (bw.block (w.heap.size + 1 + 1 + 1 + 1) hlt (hnot (w.heap.size + 1 + 1 + 1 + 1) (.inr (by omega))))]
    exact hz
   ·rw [hsn]
    simp only [AdI, adR]
    exact ⟨bx_end h'.sim h'.kp (s := 0) (by omega) (by rw [h'.ro]; exact r0), bx_end h'.sim h'.kp (s := 1) (by omega) (by rw [h'.ro]; exact r1), bx_end h'.sim h'.kp (s := 2) (by omega) (by rw [h'.ro]; exact r2), bx_end h'.sim h'.kp (s := 3) (by omega) (by rw [h'.ro]; exact r3)⟩
 case done =>
  rintro D ys W hD rfl ⟨⟨_, _, hc0, _⟩, hB⟩ hK
  have hc := hc0.cell (i := 0) rfl
  gi_wp2
  refine ⟨by simp, .inl ⟨_, _, rfl, run_takeDeferred hK, ?_⟩⟩
  exact ⟨_, results_tmp rfl _ _ _, rfl, hB.trans (belowK_b (w := w) (Nat.le_refl _) W D _ _ (by omega) hK rfl rfl)⟩
 case stop =>
  rintro D c pre W _ _ h _
  exact h.elim
end Go.Proofs.YthpmddoakefbmaaGreat
/- Groups of orders from 1 on: sums and sizes, in plain terms; the contract of addElements. -/
namespace Go.Proofs.YthpmddoakefbmaaGreat
open Go.RowKit
set_option maxRecDepth 1000000
def adB : List Int → Int → Int → Int
 | [], _, _ => 0
 | m :: ms, a, b => (a % m + b % m) % m + m * adB ms (a / m) (b / m)
def prB : List Int → Int
 | [] => 1
 | m :: ms => m * prB ms
theorem adB_rng : ∀ {R : List Int} {a b : Int}, (∀ m, m ∈ R → 1 ≤ m) → 0 ≤ adB R a b ∧ adB R a b < prB R
 | [], _, _, _ => by simp [adB, prB]
 | m :: ms, a, b, h => by
  have h2 := h m (by simp)
  obtain ⟨h3, h4⟩ := adB_rng (R := ms) (a := a / m) (b := b / m) fun x hx => h x (by simp [hx])
  have h5 : 0 ≤ (a % m + b % m) % m := Int.emod_nonneg _ (by omega)
  have h6 : (a % m + b % m) % m < m := Int.emod_lt_of_pos _ (by omega)
  have h7 : 0 ≤ m * adB ms (a / m) (b / m) := Int.mul_nonneg (by omega) h3
  have h8 : m * adB ms (a / m) (b / m) ≤ m * (prB ms - 1) := Int.mul_le_mul_of_nonneg_left (by omega) (by omega)
  have h9 : m * (prB ms - 1) = m * prB ms - m := by rw [Int.mul_sub, Int.mul_one]
  simp only [adB, prB]
  omega
theorem adB_comm : ∀ {R : List Int} {a b : Int}, adB R a b = adB R b a
 | [], _, _ => rfl
 | m :: ms, a, b => by simp only [adB]; rw [Int.add_comm (a % m), adB_comm]
theorem adB_dig {m a b : Int} {ms : List Int} (hm : 1 ≤ m) : adB (m :: ms) a b % m = (a % m + b % m) % m ∧ adB (m :: ms) a b / m = adB ms (a / m) (b / m) := by
 have h5 : 0 ≤ (a % m + b % m) % m := Int.emod_nonneg _ (by omega)
 have h6 : (a % m + b % m) % m < m := Int.emod_lt_of_pos _ (by omega)
 simp only [adB]
 constructor
 ·rw [Int.add_mul_emod_self_left, Int.emod_eq_of_lt h5 h6]
 ·rw [Int.add_mul_ediv_left _ _ (by omega), Int.ediv_eq_zero_of_lt h5 h6, Int.zero_add]
theorem adB_assoc : ∀ {R : List Int} {a b c : Int}, (∀ m, m ∈ R → 1 ≤ m) → adB R (adB R a b) c = adB R a (adB R b c)
 | [], _, _, _, _ => rfl
 | m :: ms, a, b, c, h => by
  have h2 := h m (by simp)
  obtain ⟨e1, e2⟩ := adB_dig (m := m) (a := a) (b := b) (ms := ms) h2
  obtain ⟨e3, e4⟩ := adB_dig (m := m) (a := b) (b := c) (ms := ms) h2
  rw [adB, e1, e2, adB, e3, e4, adB_assoc fun x hx => h x (by simp [hx])]
  congr 1
  generalize a % m = x
  generalize b % m = y
  generalize c % m = z
  rw [Int.emod_add_emod, Int.add_emod_emod, Int.add_assoc]
theorem adB_zero : ∀ {R : List Int} {x : Int}, (∀ m, m ∈ R → 1 ≤ m) → 0 ≤ x → x < prB R → adB R 0 x = x
 | [], x, _, h0, h1 => by simp only [prB] at h1; simp only [adB]; omega
 | m :: ms, x, h, h0, h1 => by
  have h2 := h m (by simp)
  simp only [prB] at h1
  have hb0 : 0 ≤ x / m := Int.ediv_nonneg h0 (by omega)
  have hb1 : x / m < prB ms := Int.ediv_lt_of_lt_mul (by omega) (by rw [Int.mul_comm]; exact h1)
  have ih := adB_zero (R := ms) (fun y hy => h y (by simp [hy])) hb0 hb1
  have := Int.emod_add_mul_ediv x m
  simp only [adB, Int.zero_ediv, Int.zero_emod, Int.zero_add, Int.emod_emod, ih]
  exact this
def pfx (O : List Int) : Nat → Int
 | 0 => 1
 | i + 1 => pfx O i * atI O i
structure GrpP (O : List Int) : Prop where
 l1 : 1 ≤ O.length
 l4 : O.length ≤ 6
 rg : ∀ i, i < O.length → 1 ≤ atI O i ∧ atI O i ≤ 16
 sz : pfx O O.length ≤ 16
def ordF (O : List Int) (k : Nat) : Ord16 :=
 if h : 1 ≤ (atI O (O.length - 1 - k)).toNat ∧ (atI O (O.length - 1 - k)).toNat ≤ 16 then ⟨((O.length - 1 - k : Nat) : Int), (atI O (O.length - 1 - k)).toNat, h⟩ else ⟨0, 2, by decide⟩
theorem ordF_at {O : List Int} (h : ∀ i, i < O.length → 1 ≤ atI O i ∧ atI O i ≤ 16) {k : Nat} (hk : k < O.length) : (ordF O k).i = ((O.length - 1 - k : Nat) : Int) ∧ ((ordF O k).m : Int) = atI O (O.length - 1 - k) := by
 have := h (O.length - 1 - k) (by omega)
 unfold ordF
 rw [dif_pos (by omega)]
 exact ⟨rfl, by show ((atI O (O.length - 1 - k)).toNat : Int) = _; omega⟩
def rvO (O : List Int) : List Int := (upto (ordF O) O.length).map fun o => (o.m : Int)
theorem rvO_two (O : List Int) : ∀ m, m ∈ rvO O → 1 ≤ m := by
 intro m hm
 obtain ⟨o, _, rfl⟩ := List.mem_map.1 hm
 have := o.h.1
 omega
def adO (O : List Int) (x y : Int) : Int := adB (rvO O) x y
theorem adR_sum : ∀ (pre : List Ord16) (t : Int × Int × Int × Int), (pre.foldl adR t).1 = t.1 + t.2.1 * adB (pre.map fun o => (o.m : Int)) t.2.2.1 t.2.2.2
 | [], t => by simp [adB]
 | o :: pre, t => by
  rw [List.foldl_cons, adR_sum pre]
  simp only [adR, List.map_cons, adB]
  rw [Int.mul_add, Int.mul_comm _ t.2.1, Int.mul_assoc, Int.add_assoc]
theorem adT_sum (O : List Int) (x y : Int) : (adT x y (upto (ordF O) O.length)).1 = adO O x y := by
 unfold adT adO rvO
 rw [adR_sum]
 simp
theorem pfx_pos {O : List Int} (h : ∀ i, i < O.length → 1 ≤ atI O i ∧ atI O i ≤ 16) : ∀ {i : Nat}, i ≤ O.length → 1 ≤ pfx O i
 | 0, _ => by simp [pfx]
 | i + 1, hi => by
  have h1 := pfx_pos h (i := i) (by omega)
  have h2 := h i (by omega)
  have : 1 * 1 ≤ pfx O i * atI O i := Int.mul_le_mul h1 (by omega) (by omega) (by omega)
  simp only [pfx]; omega
theorem upto_drop {α : Type} (f : Nat → α) (n k : Nat) (h : k < n) : (upto f n).drop k = f k :: (upto f n).drop (k + 1) := by
 rw [List.drop_eq_getElem_cons (by rw [upto_length]; exact h)]
 simp [upto]
theorem pfx_rv {O : List Int} (h : ∀ i, i < O.length → 1 ≤ atI O i ∧ atI O i ≤ 16) : ∀ {i : Nat}, i ≤ O.length → prB ((rvO O).drop (O.length - i)) = pfx O i
 | 0, _ => by
  rw [List.drop_of_length_le (by simp [rvO, upto_length])]; rfl
 | i + 1, hi => by
  have ih := pfx_rv h (i := i) (by omega)
  have e : O.length - (i + 1) + 1 = O.length - i := by omega
  have e2 : O.length - 1 - (O.length - (i + 1)) = i := by omega
  have ho := (ordF_at h (k := O.length - (i + 1)) (by omega)).2
  rw [e2] at ho
  unfold rvO at ih ⊢
  rw [← List.map_drop, upto_drop _ _ _ (by omega), List.map_cons, e]
  rw [← List.map_drop] at ih
  simp only [prB, pfx]
  rw [ih, ho, Int.mul_comm]
theorem GrpP.prB {O : List Int} (h : GrpP O) : prB (rvO O) = pfx O O.length := by
 have := pfx_rv h.rg (i := O.length) (Nat.le_refl _)
 rwa [Nat.sub_self, List.drop_zero] at this
theorem GrpP.ad {O : List Int} (h : GrpP O) (x y : Int) : 0 ≤ adO O x y ∧ adO O x y < pfx O O.length := by
 have := adB_rng (R := rvO O) (a := x) (b := y) (rvO_two O)
 rwa [h.prB] at this
theorem GrpP.cm {O : List Int} (x y : Int) : adO O x y = adO O y x := adB_comm
theorem GrpP.ac {O : List Int} (_h : GrpP O) (x y z : Int) : adO O (adO O x y) z = adO O x (adO O y z) := adB_assoc (rvO_two O)
theorem GrpP.z0 {O : List Int} (h : GrpP O) {x : Int} (h0 : 0 ≤ x) (h1 : x < pfx O O.length) : adO O 0 x = x := adB_zero (rvO_two O) h0 (by rw [h.prB]; exact h1)
theorem relL_i64 {c : Cx} : ∀ {xs : List Int} {us : List Value} {F : List Nat}, RelL c (xs.map i64) us F → us = xs.map (Value.int .i64)
 | [], us, F, h => (RelL.nilF h).1
 | x :: xs, us, F, h => by
  obtain ⟨v, vs, F1, G1, rfl, _, h1, h2, _⟩ := RelL.uncons h
  obtain ⟨rfl, _⟩ := Rel.sc_inv h1
  rw [relL_i64 h2]; rfl
theorem cAddI {O : List Int} (hO : GrpP O) {x y : Int} (hx : 0 ≤ x ∧ x < 4294967296) (hy : 0 ≤ y ∧ y < 4294967296) : CallOK Tryz.prog 130 [immL O, i64 x, i64 y] (i64 (adO O x y)) := by
 refine ⟨⟨_, Tryz.func130, by kernel_rfl, by kernel_rfl⟩, rfl, fun w A vs hv hA => ?_⟩
 obtain ⟨v0, vs1, rfl, h0, hv1⟩ := RelL.uncons0 hv
 obtain ⟨v1, vs2, rfl, h1, hv2⟩ := RelL.uncons0 hv1
 obtain ⟨v2, vs3, rfl, h2, hv3⟩ := RelL.uncons0 hv2
 obtain rfl := (RelL.nilF hv3).1
 obtain ⟨rfl, _⟩ := Rel.sc_inv h1
 obtain ⟨rfl, _⟩ := Rel.sc_inv h2
 obtain ⟨g, b, cap, us, rfl, hr, hin, hcap, _⟩ := Rel.imm_inv h0
 obtain rfl := relL_i64 hr
 have hl4 := hO.l4
 have hI : IntsA w.heap.size w (.slice (some ⟨g, b, none⟩) O.length cap) O := by
  refine ⟨g, b, cap, rfl, hin.2.1, fun j hj => hin.2.2 j _ ?_⟩
  rw [List.getElem?_map, List.getElem?_eq_getElem hj]
  simp
 rw [List.length_map] at hcap ⊢
 have hc := addE_in Fence.wide 3 trivial trivial trivial rfl (Nat.le_refl _) g b cap O hl4 x y hx hy (ordF O) (fun m hm => by
  have := ordF_at hO.rg (k := O.length - (m + 1)) (by omega)
  have e : O.length - 1 - (O.length - (m + 1)) = m := by omega
  rw [e] at this
  refine ⟨this.1, this.2.trans ?_⟩
  unfold atI
  rw [List.getD_eq_getElem?_getD]) w hI
 refine (callsIn_wide.1 hc).mono ?_
 rintro e w' ⟨rfl, hb⟩
 rw [adT_sum]
 exact ⟨_, A, [], rfl, .sc _ .nil, fun _ h => h, fun _ h => (by cases h), ⟨hb.os, hb.tape, hb.output, hb.size, fun k hk _ => hb.block k hk⟩⟩
end Go.Proofs.YthpmddoakefbmaaGreat
/- Orders and sizes of groups; sums of elements (reference). -/
namespace Go.Proofs.YthpmddoakefbmaaGreat
open Go.RowKit
set_option maxRecDepth 1000000
def mnI (a b : Int) : Int := if b < a then b else a
def mxI (a b : Int) : Int := if b > a then b else a
theorem kMin_i (a b : Int) : kMin (i64 a) (.sc (.int .i64 b)) = some ⟨i64 (mnI a b), none, [], []⟩ := nr _
theorem kMax_i (a b : Int) : kMax (i64 a) (.sc (.int .i64 b)) = some ⟨i64 (mxI a b), none, [], []⟩ := nr _
attribute [go_sem] kMin_i kMax_i
theorem mnI_le (a b : Int) : mnI a b ≤ a ∧ mnI a b ≤ b := by unfold mnI; split <;> omega
theorem mnI_or (a b : Int) : mnI a b = a ∨ mnI a b = b := by unfold mnI; split <;> omega
def gsF (O : List Int) : Nat → Int
 | 0 => 1
 | i + 1 => mnI 17 (gsF O i * mnI (atI O i) 17)
def OrdP (O : List Int) : Prop := 0 < O.length ∧ ∀ i, i < O.length → 1 ≤ atI O i
open Classical in
noncomputable def gs5 (O : List Int) : Int := if OrdP O then gsF O O.length else 0
theorem gsF_rng {O : List Int} : ∀ {i : Nat}, (∀ j, j < i → 1 ≤ atI O j) → 1 ≤ gsF O i ∧ gsF O i ≤ 17
 | 0, _ => by simp [gsF]
 | i + 1, h => by
  obtain ⟨h1, h2⟩ := gsF_rng (i := i) fun j hj => h j (by omega)
  have h3 := h i (by omega)
  have h4 : 1 ≤ mnI (atI O i) 17 := by rcases mnI_or (atI O i) 17 with e | e <;> omega
  have h5 : 1 * 1 ≤ gsF O i * mnI (atI O i) 17 := Int.mul_le_mul h1 h4 (by omega) (by omega)
  simp only [gsF]
  have := mnI_le 17 (gsF O i * mnI (atI O i) 17)
  rcases mnI_or 17 (gsF O i * mnI (atI O i) 17) with e | e <;> omega
theorem pfx_pos1 {O : List Int} : ∀ {i : Nat}, (∀ j, j < i → 1 ≤ atI O j) → 1 ≤ pfx O i
 | 0, _ => by simp [pfx]
 | i + 1, h => by
  have h1 := pfx_pos1 (i := i) fun j hj => h j (by omega)
  have : 1 * 1 ≤ pfx O i * atI O i := Int.mul_le_mul h1 (h i (by omega)) (by omega) (by omega)
  simp only [pfx]; omega
theorem gsF_pfx {O : List Int} : ∀ {i : Nat}, (∀ j, j < i → 1 ≤ atI O j) → gsF O i = mnI 17 (pfx O i)
 | 0, _ => by simp [gsF, pfx, mnI]
 | i + 1, h => by
  have hp := pfx_pos1 (O := O) (i := i) fun j hj => h j (by omega)
  have ih := gsF_pfx (O := O) (i := i) fun j hj => h j (by omega)
  have h3 := h i (by omega)
  simp only [gsF, pfx]
  rw [ih]
  by_cases h1 : pfx O i < 17
  ·have e1 : mnI 17 (pfx O i) = pfx O i := by unfold mnI; rw [if_pos h1]
   rw [e1]
   by_cases h2 : 17 < atI O i
   ·have e2 : mnI (atI O i) 17 = 17 := by unfold mnI; rw [if_pos h2]
    have h4 : 1 * 17 ≤ pfx O i * 17 := Int.mul_le_mul_of_nonneg_right hp (by omega)
    have h5 : 1 * atI O i ≤ pfx O i * atI O i := Int.mul_le_mul_of_nonneg_right hp (by omega)
    rw [e2]; unfold mnI; split <;> split <;> omega
   ·have e2 : mnI (atI O i) 17 = atI O i := by unfold mnI; rw [if_neg h2]
    rw [e2]
  ·have e1 : mnI 17 (pfx O i) = 17 := by unfold mnI; rw [if_neg h1]
   have h4 : 1 ≤ mnI (atI O i) 17 := by rcases mnI_or (atI O i) 17 with e | e <;> omega
   have h5 : 17 * 1 ≤ 17 * mnI (atI O i) 17 := Int.mul_le_mul_of_nonneg_left h4 (by omega)
   have h6 : 17 * 1 ≤ pfx O i * atI O i := Int.mul_le_mul (by omega) h3 (by omega) (by omega)
   rw [e1]; unfold mnI at *; split <;> split <;> omega
def l6s (O : List Int) : Int := if pfx O O.length ≤ 8 then pfx O O.length else 9
theorem pfx_ge {O : List Int} {i : Nat} : ∀ {n : Nat}, (∀ j, j < n → 1 ≤ atI O j) → i ≤ n → pfx O i ≤ pfx O n
 | 0, _, h => by
  have : i = 0 := by omega
  subst this; omega
 | n + 1, h, hi => by
  rcases Nat.lt_or_ge i (n + 1) with h1 | h1
  ·have ih := pfx_ge (O := O) (i := i) (n := n) (fun j hj => h j (by omega)) (by omega)
   have hp := pfx_pos1 (O := O) (i := n) fun j hj => h j (by omega)
   have : pfx O n * 1 ≤ pfx O n * atI O n := Int.mul_le_mul_of_nonneg_left (h n (by omega)) (by omega)
   simp only [pfx]; omega
  ·have : i = n + 1 := by omega
   subst this; omega
theorem pfx_at {O : List Int} {i n : Nat} (h : ∀ j, j < n → 1 ≤ atI O j) (hi : i < n) : atI O i ≤ pfx O n := by
 have h1 := pfx_ge (i := i + 1) h (by omega)
 have hp := pfx_pos1 (O := O) (i := i) fun j hj => h j (by omega)
 have : 1 * atI O i ≤ pfx O i * atI O i := Int.mul_le_mul_of_nonneg_right hp (by have := h i hi; omega)
 simp only [pfx] at h1; omega
theorem OrdP.grp {O : List Int} (h : OrdP O) (hl : O.length ≤ 6) (hp : pfx O O.length ≤ 16) : GrpP O :=
 ⟨h.1, hl, fun i hi => ⟨h.2 i hi, by have := pfx_at h.2 hi; omega⟩, hp⟩
theorem gs5_eq {O : List Int} (h : OrdP O) (hp : pfx O O.length ≤ 16) : gs5 O = pfx O O.length := by
 unfold gs5
 rw [if_pos h, gsF_pfx h.2]
 unfold mnI; rw [if_pos (by omega)]
theorem gs5_of {O : List Int} (h1 : 1 ≤ gs5 O) (h8 : gs5 O ≤ 16) : OrdP O ∧ pfx O O.length = gs5 O := by
 unfold gs5 at *
 split at h1
 ·rename_i h
  rw [if_pos h] at h8
  rw [if_pos h]
  refine ⟨h, ?_⟩
  rw [gsF_pfx h.2] at h8 ⊢
  unfold mnI at *
  split at h8
  ·rename_i h2; rw [if_pos h2]
  ·omega
 ·omega
theorem gs5_0 {O : List Int} : gs5 O = 0 ↔ ¬ OrdP O := by
 unfold gs5
 constructor
 ·intro h hO
  rw [if_pos hO] at h
  have := gsF_rng hO.2
  omega
 ·intro h; rw [if_neg h]
theorem gs5_rng {O : List Int} : 0 ≤ gs5 O ∧ gs5 O ≤ 17 := by
 unfold gs5
 split
 ·rename_i h; have := gsF_rng h.2; omega
 ·omega
theorem OrdP_not {O : List Int} (i : Nat) (hi : i < O.length) (h : atI O i < 1) : ¬ OrdP O := fun h2 => by have := h2.2 i hi; omega
theorem cGs {a : AV} {O : List Int} (ha : isL a O) (hx : O.length ≤ maxN) : CallOK Tryz.prog 109 [a] (i64 (gs5 O)) := by
 have hx' : O.length ≤ 4294967296 := hx
 refine call_of (fn := Tryz.f109) (code := bodyOf Tryz.f109) Tryz.func109 rfl (by kernel_rfl) (rfl) ?_
 intro sl hs
 have s0 : sl 0 = a := hs 0
 dsimp only [Tryz.f109, bodyOf, Option.getD]
 simp (maxSteps := 10000000) (disch := first | assumption | omega) only [go_sem, ↓reduceIte, Nat.reduceEqDiff, reduceCtorEq, Nat.reduceAdd, Nat.reduceMul, Nat.reduceLeDiff, zc, Int.reduceToNat, s0]
 refine WK_for (fun i st => st.sl 0 = a ∧ st.sl 3 = i64 (gsF O i) ∧ st.sl 6 = a ∧ st.sl 7 = i64 (O.length : Int) ∧ st.sl 8 = i64 (i : Int) ∧ (∀ x, x < i → 1 ≤ atI O x)) O.length ?_ ?_ ?_
 ·simp only [↓za, ↓reduceIte, Nat.reduceEqDiff, zb, reduceCtorEq, rws_zero, s0]
  exact ⟨rfl, rfl, fun x hx => absurd hx (Nat.not_lt_zero _)⟩
 ·rintro i sl ro gn hi ⟨s0, s3, s6, s7, s8, q⟩
  dsimp only at s0 s3 s6 s7 s8
  have hi' : (i : Int) < (O.length : Nat) := by omega
  obtain ⟨g1, g2⟩ := gsF_rng q
  by_cases h1 : atI O i < 1
  ·have e : gs5 O = 0 := gs5_0.2 (OrdP_not i hi h1)
   rw [e]
   simp (maxSteps := 10000000) (disch := first | assumption | omega) only [go_sem, ↓reduceIte, Nat.reduceEqDiff, reduceCtorEq, Nat.reduceAdd, Nat.reduceMul, Nat.reduceLeDiff, zc, Int.reduceToNat, s0, s3, s6, s7, s8, hi', hi, eq_true h1]
   simp only [zr, zb, retR, resL, outT, outL, zes, zez, oneV, zcp, zed, zfi, Ro.dl, St.ev, zhk, ↓za, ↓reduceIte, Nat.reduceEqDiff, Nat.reduceAdd, Nat.reduceLeDiff]
  ·have hm := mnI_le (atI O i) 17
   have hm0 : 1 ≤ mnI (atI O i) 17 := by rcases mnI_or (atI O i) 17 with e | e <;> omega
   have hp1 : 0 ≤ gsF O i * mnI (atI O i) 17 := Int.mul_nonneg (by omega) (by omega)
   have hp2 : gsF O i * mnI (atI O i) 17 ≤ 17 * 17 := Int.mul_le_mul g2 hm.2 (by omega) (by omega)
   simp (maxSteps := 10000000) (disch := first | assumption | omega) only [go_sem, ↓reduceIte, Nat.reduceEqDiff, reduceCtorEq, Nat.reduceAdd, Nat.reduceMul, Nat.reduceLeDiff, zc, Int.reduceToNat, s0, s3, s6, s7, s8, hi', hi, eq_false h1]
   exact ⟨rfl, i64c (by omega), fun x hx => by
    rcases Nat.lt_or_ge x i with h | h
    ·exact q x h
    ·have : x = i := by omega
     subst this; omega⟩
 ·rintro sl ro gn ⟨s0, s3, s6, s7, s8, q⟩
  dsimp only at s0 s3 s6 s7 s8
  have hi' : ¬ ((O.length : Nat) : Int) < (O.length : Nat) := by omega
  by_cases h0 : O.length = 0
  ·have e : gs5 O = 0 := gs5_0.2 fun h => by have := h.1; omega
   have h0' : (O.length : Int) = 0 := by omega
   rw [e]
   simp (maxSteps := 10000000) (disch := first | assumption | omega) only [go_sem, ↓reduceIte, Nat.reduceEqDiff, reduceCtorEq, Nat.reduceAdd, Nat.reduceMul, Nat.reduceLeDiff, zc, Int.reduceToNat, s0, s3, s6, s7, s8, hi', h0']
   simp only [zr, zb, retR, resL, outT, outL, zes, zez, oneV, zcp, zed, zfi, Ro.dl, St.ev, zhk, ↓za, ↓reduceIte, Nat.reduceEqDiff, Nat.reduceAdd, Nat.reduceLeDiff]
  ·have e : gs5 O = gsF O O.length := by unfold gs5; rw [if_pos ⟨by omega, q⟩]
   have h0' : ¬ (O.length : Int) = 0 := by omega
   rw [e]
   simp (maxSteps := 10000000) (disch := first | assumption | omega) only [go_sem, ↓reduceIte, Nat.reduceEqDiff, reduceCtorEq, Nat.reduceAdd, Nat.reduceMul, Nat.reduceLeDiff, zc, Int.reduceToNat, s0, s3, s6, s7, s8, hi', eq_false h0']
   simp only [zr, zb, retR, resL, outT, outL, zes, zez, oneV, zcp, zed, zfi, Ro.dl, St.ev, zhk, ↓za, ↓reduceIte, Nat.reduceEqDiff, Nat.reduceAdd, Nat.reduceLeDiff]
theorem cL6o {a : AV} {O : List Int} (ha : isL a O) (hx : O.length ≤ maxN) {t : Bool} (ht : t = true ↔ OrdP O) : CallOK Tryz.prog 112 [a] (bo t) := by
 have hx' : O.length ≤ 4294967296 := hx
 refine call_of (fn := Tryz.f112) (code := bodyOf Tryz.f112) Tryz.func112 rfl (by kernel_rfl) (rfl) ?_
 intro sl hs
 have s0 : sl 0 = a := hs 0
 dsimp only [Tryz.f112, bodyOf, Option.getD]
 simp (maxSteps := 10000000) (disch := first | assumption | omega) only [go_sem, ↓reduceIte, Nat.reduceEqDiff, reduceCtorEq, Nat.reduceAdd, Nat.reduceMul, Nat.reduceLeDiff, zc, Int.reduceToNat, s0]
 refine WK_for (fun i st => st.sl 0 = a ∧ st.sl 3 = i64 (i : Int) ∧ (∀ x, x < i → 1 ≤ atI O x)) O.length ?_ ?_ ?_
 ·simp only [↓za, ↓reduceIte, Nat.reduceEqDiff, zb, reduceCtorEq, rws_zero, s0]
  exact ⟨rfl, fun x hx => absurd hx (Nat.not_lt_zero _)⟩
 ·rintro i sl ro gn hi ⟨s0, s3, q⟩
  dsimp only at s0 s3
  have hi' : (i : Int) < (O.length : Nat) := by omega
  by_cases h1 : atI O i < 1
  ·have e : t = false := by
    cases t with
    | false => rfl
    | true => exact absurd (ht.1 rfl) (OrdP_not i hi h1)
   subst e
   simp (maxSteps := 10000000) (disch := first | assumption | omega) only [go_sem, ↓reduceIte, Nat.reduceEqDiff, reduceCtorEq, Nat.reduceAdd, Nat.reduceMul, Nat.reduceLeDiff, zc, Int.reduceToNat, s0, s3, hi', hi, eq_true h1]
   simp only [zr, zb, retR, resL, outT, outL, zes, zez, oneV, zcp, zed, zfi, Ro.dl, St.ev, zhk, ↓za, ↓reduceIte, Nat.reduceEqDiff, Nat.reduceAdd, Nat.reduceLeDiff]
  ·simp (maxSteps := 10000000) (disch := first | assumption | omega) only [go_sem, ↓reduceIte, Nat.reduceEqDiff, reduceCtorEq, Nat.reduceAdd, Nat.reduceMul, Nat.reduceLeDiff, zc, Int.reduceToNat, s0, s3, hi', hi, eq_false h1]
   exact ⟨i64c (by omega), fun x hx => by
    rcases Nat.lt_or_ge x i with h | h
    ·exact q x h
    ·have : x = i := by omega
     subst this; omega⟩
 ·rintro sl ro gn ⟨s0, s3, q⟩
  dsimp only at s0 s3
  have hi' : ¬ ((O.length : Nat) : Int) < (O.length : Nat) := by omega
  have e : decide (0 < (O.length : Int)) = t := by
   cases t with
   | true =>
    have := (ht.1 rfl).1
    exact decide_eq_true (by omega)
   | false =>
    refine decide_eq_false fun h => ?_
    have := ht.2 ⟨by omega, q⟩
    cases this
  simp (maxSteps := 10000000) (disch := first | assumption | omega) only [go_sem, ↓reduceIte, Nat.reduceEqDiff, reduceCtorEq, Nat.reduceAdd, Nat.reduceMul, Nat.reduceLeDiff, zc, Int.reduceToNat, s0, s3, hi', e]
  simp only [zr, zb, retR, resL, outT, outL, zes, zez, oneV, zcp, zed, zfi, Ro.dl, St.ev, zhk, ↓za, ↓reduceIte, Nat.reduceEqDiff, Nat.reduceAdd, Nat.reduceLeDiff, e]
theorem cL6s {a : AV} {O : List Int} (ha : isL a O) (hx : O.length ≤ maxN) (h1 : ∀ i, i < O.length → 1 ≤ atI O i) : CallOK Tryz.prog 108 [a, i64 8] (i64 (l6s O)) := by
 have hx' : O.length ≤ 4294967296 := hx
 refine call_of (fn := Tryz.f108) (code := bodyOf Tryz.f108) Tryz.func108 rfl (by kernel_rfl) (rfl) ?_
 intro sl hs
 have s0 : sl 0 = a := hs 0
 have s1 : sl 1 = i64 8 := hs 1
 dsimp only [Tryz.f108, bodyOf, Option.getD]
 simp (maxSteps := 10000000) (disch := first | assumption | omega) only [go_sem, ↓reduceIte, Nat.reduceEqDiff, reduceCtorEq, Nat.reduceAdd, Nat.reduceMul, Nat.reduceLeDiff, zc, Int.reduceToNat, s0, s1]
 refine WK_for (fun i st => st.sl 0 = a ∧ st.sl 1 = i64 8 ∧ st.sl 5 = i64 (pfx O i) ∧ st.sl 6 = i64 (i : Int) ∧ (pfx O i ≤ 8)) O.length ?_ ?_ ?_
 ·simp only [↓za, ↓reduceIte, Nat.reduceEqDiff, zb, reduceCtorEq, rws_zero, s0, s1]
  exact ⟨rfl, rfl, by simp [pfx]⟩
 ·rintro i sl ro gn hi ⟨s0, s1, s5, s6, q⟩
  dsimp only at s0 s1 s5 s6
  have hi' : (i : Int) < (O.length : Nat) := by omega
  have hp := pfx_pos1 (O := O) (i := i) fun j hj => h1 j (by omega)
  have hb := h1 i hi
  by_cases h2 : 8 < atI O i
  ·have e : l6s O = 9 := by
    have := pfx_at h1 hi
    unfold l6s; rw [if_neg (by omega)]
   rw [e]
   simp (maxSteps := 10000000) (disch := first | assumption | omega) only [go_sem, ↓reduceIte, Nat.reduceEqDiff, reduceCtorEq, Nat.reduceAdd, Nat.reduceMul, Nat.reduceLeDiff, zc, Int.reduceToNat, s0, s1, s5, s6, hi', hi, eq_true h2]
   simp only [zr, zb, retR, resL, outT, outL, zes, zez, oneV, zcp, zed, zfi, Ro.dl, St.ev, zhk, ↓za, ↓reduceIte, Nat.reduceEqDiff, Nat.reduceAdd, Nat.reduceLeDiff]
   rfl
  ·have m1 : 1 * 1 ≤ pfx O i * atI O i := Int.mul_le_mul hp hb (by omega) (by omega)
   have m2 : pfx O i * atI O i ≤ 8 * 8 := Int.mul_le_mul q (by omega) (by omega) (by omega)
   have m3 : pfx O i * atI O i = pfx O (i + 1) := rfl
   by_cases h3 : 8 < pfx O i * atI O i
   ·have e : l6s O = 9 := by
     have := pfx_ge (O := O) (i := i + 1) (n := O.length) h1 (by omega)
     unfold l6s; rw [if_neg (by omega)]
    rw [e]
    simp (maxSteps := 10000000) (disch := first | assumption | omega) only [go_sem, ↓reduceIte, Nat.reduceEqDiff, reduceCtorEq, Nat.reduceAdd, Nat.reduceMul, Nat.reduceLeDiff, zc, Int.reduceToNat, s0, s1, s5, s6, hi', hi, eq_false h2, eq_true h3]
    simp only [zr, zb, retR, resL, outT, outL, zes, zez, oneV, zcp, zed, zfi, Ro.dl, St.ev, zhk, ↓za, ↓reduceIte, Nat.reduceEqDiff, Nat.reduceAdd, Nat.reduceLeDiff]
    rfl
   ·simp (maxSteps := 10000000) (disch := first | assumption | omega) only [go_sem, ↓reduceIte, Nat.reduceEqDiff, reduceCtorEq, Nat.reduceAdd, Nat.reduceMul, Nat.reduceLeDiff, zc, Int.reduceToNat, s0, s1, s5, s6, hi', hi, eq_false h2, eq_false h3]
    exact ⟨rfl, i64c (by omega), by omega⟩
 ·rintro sl ro gn ⟨s0, s1, s5, s6, q⟩
  dsimp only at s0 s1 s5 s6
  have hi' : ¬ ((O.length : Nat) : Int) < (O.length : Nat) := by omega
  have e : l6s O = pfx O O.length := by unfold l6s; rw [if_pos q]
  rw [e]
  simp (maxSteps := 10000000) (disch := first | assumption | omega) only [go_sem, ↓reduceIte, Nat.reduceEqDiff, reduceCtorEq, Nat.reduceAdd, Nat.reduceMul, Nat.reduceLeDiff, zc, Int.reduceToNat, s0, s1, s5, s6, hi']
  simp only [zr, zb, retR, resL, outT, outL, zes, zez, oneV, zcp, zed, zfi, Ro.dl, St.ev, zhk, ↓za, ↓reduceIte, Nat.reduceEqDiff, Nat.reduceAdd, Nat.reduceLeDiff]
theorem cL7s {a : AV} {O : List Int} (ha : isL a O) (hx : O.length ≤ maxN) (h1 : ∀ i, i < O.length → 1 ≤ atI O i) : CallOK Tryz.prog 63 [a] (i64 (l6s O)) := by
 refine call_of (fn := Tryz.f63) (code := bodyOf Tryz.f63) Tryz.func63 rfl (by kernel_rfl) (rfl) ?_
 intro sl hs
 have s0 : sl 0 = a := hs 0
 dsimp only [Tryz.f63, bodyOf, Option.getD]
 simp (maxSteps := 10000000) (disch := first | assumption | omega) only [go_sem, ↓reduceIte, Nat.reduceEqDiff, reduceCtorEq, Nat.reduceAdd, Nat.reduceMul, Nat.reduceLeDiff, zc, Int.reduceToNat, s0]
 refine CLL_pure _ (cL6s ha hx h1) PUt rfl rfl ?_
 simp (maxSteps := 10000000) (disch := first | assumption | omega) only [go_sem, ↓reduceIte, Nat.reduceEqDiff, reduceCtorEq, Nat.reduceAdd, Nat.reduceMul, Nat.reduceLeDiff, zc, Int.reduceToNat, s0]
 simp only [zr, zb, retR, resL, outT, outL, zes, zez, oneV, zcp, zed, zfi, Ro.dl, St.ev, zhk, ↓za, ↓reduceIte, Nat.reduceEqDiff, Nat.reduceAdd, Nat.reduceLeDiff]
end Go.Proofs.YthpmddoakefbmaaGreat
/- Bytes, numbers of 64 bits without a sign, sources of numbers; what draws leave. -/
namespace Go.Proofs.YthpmddoakefbmaaGreat
open Go.RowKit
set_option maxRecDepth 1000000
theorem impE_t2 (b : Nat) (gn : Nat → Nat) (v x : Value) : impE b gn (.tup [.sc v, .sc x]) = ⟨.tup [.sc v, .sc x], none, [], []⟩ := nr _
attribute [go_sem] impE_t2 kFieldV
abbrev u64 (n : Int) : AV := .sc (.int .u64 n)
abbrev u8 (n : Int) : AV := .sc (.int .u8 n)
def isB (a : AV) (xs : List Int) : Prop := a = .imm (xs.map u8) ∨ (xs = [] ∧ ∃ o c, a = .sc (.slice o 0 c))
theorem isB_pure {a : AV} {xs : List Int} (h : isB a xs) : pureA a = true := by
 rcases h with rfl | ⟨_, o, c, rfl⟩
 ·simp only [pureA]
  induction xs with
  | nil => rfl
  | cons x xs ih => simp only [List.map_cons, pureL, pureA, ih, Bool.and_self]
 ·rfl
theorem isB_sites {a : AV} {xs : List Int} (h : isB a xs) : zdy a = [] := by
 rcases h with rfl | ⟨_, o, c, rfl⟩ <;> rfl
theorem isB_cellB {a : AV} {xs : List Int} (ro : Ro) (h : isB a xs) : cellOkB ro a = true := by
 rcases h with rfl | ⟨_, o, c, rfl⟩ <;> rfl
theorem isB_lift {a : AV} {xs : List Int} (s g : Nat) (p : List Nat) (h : isB a xs) : lift s g p a = a := by
 rcases h with rfl | ⟨_, o, c, rfl⟩ <;> rfl
theorem isB_len {a : AV} {xs : List Int} (h : isB a xs) {ro : Ro} {a1 : Nat} {a2 : Bool} {a3 : List Value} {e : Nat} {a5 : List (Nat × Nat)} {a6 : Option IntKind} {a7 a8 : Bool} : kLen1 (some ⟨a1, a2, a3, some e, a5, a6, a7, a8⟩) ro a = some ⟨i64 xs.length, none, [], []⟩ := by
 rcases h with rfl | ⟨rfl, o, c, rfl⟩
 ·simp [kLen1]
 ·rfl
theorem isB_idx {a : AV} {xs : List Int} (h : isB a xs) {k : Nat} (hk : k < xs.length) {ro : Ro} {a1 : Nat} {a2 : Bool} {a3 : List Value} {e : Nat} {a5 : List (Nat × Nat)} {a6 : Option IntKind} {a7 a8 : Bool} : kIdx (some ⟨a1, a2, a3, some e, a5, a6, a7, a8⟩) ro a (i64 (k : Int)) = some ⟨.iptr [u8 (atI xs k)], none, [], []⟩ := by
 rcases h with rfl | ⟨rfl, o, c, rfl⟩
 ·simp [kIdx, hk, atI]
 ·simp at hk
theorem tiB1 : ti0 5 = some ⟨1, false, [Value.int .u8 0], none, [], some .u8, false, false⟩ := by kernel_rfl
theorem tiB2 : ti0 22 = some ⟨1, false, [Value.slice none 0 0], some 5, [], none, false, false⟩ := by kernel_rfl
theorem tiB3 : ti0 93 = some ⟨1, false, [Value.int .u64 0], none, [], some .u64, false, false⟩ := by kernel_rfl
theorem tiB4 : ti0 95 = some ⟨3, true, [Value.slice none 0 0, Value.int .i64 0, Value.int .u64 0], none, [(0, 22), (1, 3), (2, 93)], none, false, false⟩ := by kernel_rfl
attribute [go_sem] isB_len isB_idx isB_lift isB_cellB isB_sites isB_pure tiB1 tiB2 tiB3 tiB4
def wU (n : Int) : Int := IntKind.wrap .u64 n
def shU (n : Int) : Int := n.fdiv (2 ^ 33)
def anU (n : Int) : Int := IntKind.wrap .u64 ((BitVec.ofInt 64 n &&& BitVec.ofInt 64 16777215).toNat : Nat)
theorem anU_rng (n : Int) : 0 ≤ anU n ∧ anU n ≤ 16777215 := by
 have h : (BitVec.ofInt 64 n &&& BitVec.ofInt 64 16777215).toNat ≤ 16777215 := by
  rw [BitVec.toNat_and]
  have : (BitVec.ofInt 64 16777215).toNat = 16777215 := by decide
  rw [this]
  exact Nat.and_le_right
 unfold anU
 have e : IntKind.bits .u64 = 64 := rfl
 have s : IntKind.signed .u64 = false := rfl
 simp only [IntKind.wrap, e, s, Bool.false_and, Bool.false_eq_true, if_false]
 generalize (BitVec.ofInt 64 n &&& BitVec.ofInt 64 16777215).toNat = m at h
 omega
section
variable {ro : Ro} {a b : Int} {a1 : Nat} {a2 : Bool} {a3 : List Value} {e : Option Nat} {a5 : List (Nat × Nat)} {a6 : Option IntKind} {a7 a8 : Bool}
theorem kB_addU : kBin0 (some ⟨a1, a2, a3, e, a5, a6, a7, a8⟩) ro .add (u64 a) (u64 b) = some ⟨u64 (wU (a + b)), none, [], []⟩ := nr _
theorem kB_mulU : kBin0 (some ⟨a1, a2, a3, e, a5, a6, a7, a8⟩) ro .mul (u64 a) (u64 b) = some ⟨u64 (wU (a * b)), none, [], []⟩ := nr _
theorem kB_shrU : kBin0 (some ⟨a1, a2, a3, e, a5, a6, a7, a8⟩) ro .shr (u64 a) (u64 33) = some ⟨u64 (shU a), none, [], []⟩ := nr _
theorem kB_andU : kBin0 (some ⟨a1, a2, a3, e, a5, a6, a7, a8⟩) ro .and (u64 a) (u64 16777215) = some ⟨u64 (anU a), none, [], []⟩ := nr _
variable {k1 : IntKind} {c1 : Nat} {c2 : Bool} {c3 : List Value} {f : Option Nat} {c5 : List (Nat × Nat)} {c7 c8 : Bool}
theorem kConv_iU : kConv (some ⟨a1, a2, a3, e, a5, some k1, a7, a8⟩) (some ⟨c1, c2, c3, f, c5, some .u64, c7, c8⟩) (i64 a) = some ⟨u64 (wU a), none, [], []⟩ := nr _
theorem kConv_bU : kConv (some ⟨a1, a2, a3, e, a5, some k1, a7, a8⟩) (some ⟨c1, c2, c3, f, c5, some .u64, c7, c8⟩) (u8 a) = some ⟨u64 (wU a), none, [], []⟩ := nr _
theorem kConv_Ui : kConv (some ⟨a1, a2, a3, e, a5, some k1, a7, a8⟩) (some ⟨c1, c2, c3, f, c5, some .i64, c7, c8⟩) (u64 a) = some ⟨i64 (wrF a), none, [], []⟩ := by rw [wrF_eq]; rfl
theorem kConv_bi : kConv (some ⟨a1, a2, a3, e, a5, some k1, a7, a8⟩) (some ⟨c1, c2, c3, f, c5, some .i64, c7, c8⟩) (u8 a) = some ⟨i64 (wrF a), none, [], []⟩ := by rw [wrF_eq]; rfl
end
attribute [go_sem] kB_addU kB_mulU kB_shrU kB_andU kConv_iU kConv_bU kConv_Ui kConv_bi
def nxH (h : Int) : Int := wU (wU (h * 6364136223846793005) + 1442695040888963407)
def nxX (h : Int) : Int := anU (shU (nxH h))
abbrev srcV (a : AV) (at' h : Int) : AV := .bx [a, i64 at', u64 h]
section
variable {a : AV} {bs : List Int} {s g : Nat} {ro : Ro} {gn : Nat → Nat} {n h : Int} {k : Nat}
theorem inNext0 (hn : n < 1) : InOK Tryz.prog 40 [.ptr s g [] 0, i64 n] ro gn (i64 0) ro gn := by
 refine in_of (fn := Tryz.f40) (code := bodyOf Tryz.f40) Tryz.func40 rfl (by kernel_rfl) ?_
 intro sl hs
 have s0 : sl 0 = .ptr s g [] 0 := hs 0
 have s1 : sl 1 = i64 n := hs 1
 dsimp only [Tryz.f40, bodyOf, Option.getD]
 simp (maxSteps := 10000000) (disch := first | assumption | omega) only [go_sem, ↓reduceIte, Nat.reduceEqDiff, reduceCtorEq, Nat.reduceAdd, Nat.reduceMul, Nat.reduceLeDiff, zc, s0, s1]
 refine ⟨.inr rfl, ⟨_, rfl, ?_⟩, rfl, rfl⟩
 simp only [↓za, ↓reduceIte, Nat.reduceEqDiff, zb, reduceCtorEq, oneOrA]
theorem inNext1 (hn : 1 ≤ n ∧ n < 4611686018427387904) (ha : isB a bs) (hb : ∀ k, k < bs.length → 0 ≤ atI bs k ∧ atI bs k < 256) (hl : bs.length < 4611686018427387904) (hk : k < bs.length) (hro : ro s g = some (srcV a (k : Int) h)) : InOK Tryz.prog 40 [.ptr s g [] 0, i64 n] ro gn (i64 ((nxX h + atI bs k).tmod n)) (upr ro s g (srcV a ((k + 1 : Nat) : Int) (nxH h))) gn := by
 refine in_of (fn := Tryz.f40) (code := bodyOf Tryz.f40) Tryz.func40 rfl (by kernel_rfl) ?_
 intro sl hs
 have s0 : sl 0 = .ptr s g [] 0 := hs 0
 have s1 : sl 1 = i64 n := hs 1
 have hx := anU_rng (shU (wU (wU (h * 6364136223846793005) + 1442695040888963407)))
 have hbk := hb k hk
 have hk' : (k : Int) < bs.length := by omega
 dsimp only [Tryz.f40, bodyOf, Option.getD]
 simp (maxSteps := 10000000) (disch := first | assumption | omega) only [go_sem, ↓reduceIte, Nat.reduceEqDiff, reduceCtorEq, Nat.reduceAdd, Nat.reduceMul, Nat.reduceLeDiff, zc, s0, s1, hro]
 refine FIN_of (by kernel_rfl) ?_
 simp (maxSteps := 10000000) (disch := first | assumption | omega) only [go_sem, ↓reduceIte, Nat.reduceEqDiff, reduceCtorEq, Nat.reduceAdd, Nat.reduceMul, Nat.reduceLeDiff, zc, s0, s1, hro, hk']
 refine FIN_of (by kernel_rfl) ?_
 simp (maxSteps := 10000000) (disch := first | assumption | omega) only [go_sem, ↓reduceIte, Nat.reduceEqDiff, reduceCtorEq, Nat.reduceAdd, Nat.reduceMul, Nat.reduceLeDiff, zc, s0, s1, hro, hk']
 refine ⟨.inr rfl, ⟨_, rfl, ?_⟩, ?_, rfl⟩
 ·simp only [↓za, ↓reduceIte, Nat.reduceEqDiff, zb, reduceCtorEq, oneOrA, nxX, nxH]
 ·simp only [upr_upr, nxH, Int.natCast_add, Int.natCast_one]
theorem inNext2 (hn : 1 ≤ n ∧ n < 4611686018427387904) (ha : isB a bs) (hl : bs.length < 4611686018427387904) (hk : k = bs.length) (hro : ro s g = some (srcV a (k : Int) h)) : InOK Tryz.prog 40 [.ptr s g [] 0, i64 n] ro gn (i64 ((nxX h).tmod n)) (upr ro s g (srcV a (k : Int) (nxH h))) gn := by
 refine in_of (fn := Tryz.f40) (code := bodyOf Tryz.f40) Tryz.func40 rfl (by kernel_rfl) ?_
 intro sl hs
 have s0 : sl 0 = .ptr s g [] 0 := hs 0
 have s1 : sl 1 = i64 n := hs 1
 have hx := anU_rng (shU (wU (wU (h * 6364136223846793005) + 1442695040888963407)))
 have hk' : ¬ (k : Int) < bs.length := by omega
 dsimp only [Tryz.f40, bodyOf, Option.getD]
 simp (maxSteps := 10000000) (disch := first | assumption | omega) only [go_sem, ↓reduceIte, Nat.reduceEqDiff, reduceCtorEq, Nat.reduceAdd, Nat.reduceMul, Nat.reduceLeDiff, zc, s0, s1, hro]
 refine FIN_of (by kernel_rfl) ?_
 simp (maxSteps := 10000000) (disch := first | assumption | omega) only [go_sem, ↓reduceIte, Nat.reduceEqDiff, reduceCtorEq, Nat.reduceAdd, Nat.reduceMul, Nat.reduceLeDiff, zc, s0, s1, hro, hk']
 refine ⟨.inr rfl, ⟨_, rfl, ?_⟩, ?_, rfl⟩
 ·simp only [↓za, ↓reduceIte, Nat.reduceEqDiff, zb, reduceCtorEq, oneOrA, nxX, nxH]
 ·simp only [upr_upr, nxH]
theorem inNext (hn : n < 4611686018427387904) (ha : isB a bs) (hb : ∀ k, k < bs.length → 0 ≤ atI bs k ∧ atI bs k < 256) (hl : bs.length < 4611686018427387904) (hk : k ≤ bs.length) (h : Int) :
  ∃ (v : Int) (k' : Nat) (h' : Int), k' ≤ bs.length ∧ (n < 1 → v = 0) ∧ (1 ≤ n → 0 ≤ v ∧ v < n) ∧ ∀ (s g : Nat) (ro : Ro) (gn : Nat → Nat), ro s g = some (srcV a (k : Int) h) → InOK Tryz.prog 40 [.ptr s g [] 0, i64 n] ro gn (i64 v) (upr ro s g (srcV a (k' : Int) h')) gn := by
 rcases (by omega : n < 1 ∨ 1 ≤ n) with h1 | h1
 ·refine ⟨0, k, h, hk, fun _ => rfl, fun h2 => by omega, fun s g ro gn hro => ?_⟩
  rw [upr_id _ _ _ _ hro]
  exact inNext0 h1
 ·have hx : 0 ≤ nxX h := (anU_rng _).1
  rcases Nat.lt_or_ge k bs.length with h2 | h2
  ·have := hb k h2
   exact ⟨_, k + 1, _, h2, fun h3 => by omega, fun _ => ⟨Int.tmod_nonneg _ (by omega), Int.tmod_lt_of_pos _ (by omega)⟩, fun s g ro gn hro => inNext1 ⟨h1, hn⟩ ha hb hl h2 hro⟩
  ·exact ⟨_, k, _, hk, fun h3 => by omega, fun _ => ⟨Int.tmod_nonneg _ hx, Int.tmod_lt_of_pos _ (by omega)⟩, fun s g ro gn hro => inNext2 ⟨h1, hn⟩ ha hl (by omega) hro⟩
def hFrom (bs : List Int) : Nat → Int
 | 0 => wU (7219 + wU (bs.length : Int))
 | i + 1 => wU (wU (wU (hFrom bs i * 1099511628211) + wU (atI bs i)) + 11)
theorem inFrom (ha : isB a bs) (hl : bs.length ≤ 4096) (ro : Ro) (gn : Nat → Nat) : InOK Tryz.prog 37 [a] ro gn (.ptr 8288 (gn 8288 + 1) [] 0) (upr ro 8288 (gn 8288 + 1) (srcV a 0 (hFrom bs bs.length))) (upg gn 8288 (gn 8288 + 1)) := by
 refine in_of (fn := Tryz.f37) (code := bodyOf Tryz.f37) Tryz.func37 rfl (by kernel_rfl) ?_
 intro sl hs
 have s0 : sl 0 = a := hs 0
 have ha0 := ha
 rcases ha0 with h0 | ⟨_, o, c, h0⟩
 all_goals
  have ha' := ha
  rw [h0] at ha'
  have s0' := s0
  rw [h0] at s0'
  dsimp only [Tryz.f37, bodyOf, Option.getD]
  simp (maxSteps := 10000000) (disch := first | assumption | omega) only [go_sem, ↓reduceIte, Nat.reduceEqDiff, reduceCtorEq, Nat.reduceAdd, Nat.reduceMul, Nat.reduceLeDiff, zc, setL, s0']
  simp only [← h0]
  refine WK_for (fun i st => st.sl 0 = a ∧ st.sl 3 = .ptr 8288 (gn 8288 + 1) [] 0 ∧ st.sl 4 = i64 (i : Int) ∧ st.ro = upr ro 8288 (gn 8288 + 1) (srcV a 0 (hFrom bs i)) ∧ st.gn = upg gn 8288 (gn 8288 + 1)) bs.length ?_ ?_ ?_
  ·simp only [↓za, ↓reduceIte, Nat.reduceEqDiff, zb, reduceCtorEq, s0, hFrom]
   trivial
  ·rintro i sl ro' gn' hi ⟨s0, sp, si, rfl, rfl⟩
   dsimp only at s0 sp si
   have hi' : (i : Int) < (bs.length : Nat) := by omega
   simp (maxSteps := 10000000) (disch := first | assumption | omega) only [go_sem, ↓reduceIte, Nat.reduceEqDiff, reduceCtorEq, Nat.reduceAdd, Nat.reduceMul, Nat.reduceLeDiff, zc, s0, sp, si, hi']
   refine FIN_of (by kernel_rfl) ?_
   simp (maxSteps := 10000000) (disch := first | assumption | omega) only [go_sem, ↓reduceIte, Nat.reduceEqDiff, reduceCtorEq, Nat.reduceAdd, Nat.reduceMul, Nat.reduceLeDiff, zc, s0, sp, si, hi']
   exact ⟨i64c (by omega), by rw [upr_upr]; rfl⟩
  ·rintro sl ro' gn' ⟨s0, sp, si, rfl, rfl⟩
   dsimp only at s0 sp si
   have hi' : ¬ ((bs.length : Nat) : Int) < (bs.length : Nat) := by omega
   simp (maxSteps := 10000000) (disch := first | assumption | omega) only [go_sem, ↓reduceIte, Nat.reduceEqDiff, reduceCtorEq, Nat.reduceAdd, Nat.reduceMul, Nat.reduceLeDiff, zc, s0, sp, si, hi']
   refine ⟨.inr rfl, ⟨_, rfl, ?_⟩, rfl, rfl⟩
   simp only [↓za, ↓reduceIte, Nat.reduceEqDiff, zb, reduceCtorEq, oneOrA, sp]
end
theorem in_ofS {f : Nat} {fn : Func} {code : Code} {args : List AV} {ro : Ro} {gn : Nat → Nat} {Po : AV → Ro → (Nat → Nat) → Prop} (hf : Tryz.prog.funcs[f]? = some fn) (hb : fn.body = some code)
  (hok : (!(fn.name == "runtime.NumGoroutine") && dstOK fn.ntmps code && decide (args.length ≤ fn.ntmps)) = true)
  (h : ∀ sl : Nat → AV, (∀ k, sl k = args.getD k (.sc undef)) → WK XX code [] (RETS ti0 fn.results.toList Po) ⟨sl, ro, gn⟩) : InS Tryz.prog f args ro gn Po :=
 in_ofGS _ (tiG_ok _) mixed0 hf hb hok h
theorem InS.mono {P : Program} {f : Nat} {args : List AV} {ro : Ro} {gn : Nat → Nat} {Po Po' : AV → Ro → (Nat → Nat) → Prop} (h : InS P f args ro gn Po) (hp : ∀ a b c, Po a b c → Po' a b c) : InS P f args ro gn Po' := by
 refine ⟨h.1, fun w0 A0 F0 c Φ vs h1 h2 h3 h4 => (h.2 w0 A0 F0 c Φ vs h1 h2 h3 h4).mono ?_⟩
 rintro en w' ⟨v, c', Φ', r', k1, k2, k3, k4, k5, k6⟩
 exact ⟨v, c', Φ', r', k1, k2, hp _ _ _ k3, k4, k5, k6⟩
theorem RETS_1 {ti : Nat → Option TI} {k : Nat} {Po : AV → Ro → (Nat → Nat) → Prop} {sl : Nat → AV} {ro : Ro} {gn : Nat → Nat} (v : AV) (h : sl k = v) (hp : Po v ro gn) : RETS ti [.tmp k] Po .ret ⟨sl, ro, gn⟩ := ⟨.inr rfl, [sl k], rfl, by show Po (sl k) ro gn; rw [h]; exact hp⟩
abbrev e0 : FP := ⟨some [], []⟩
structure Cod (a : AV) (bs : List Int) : Prop where
 b : isB a bs
 r : ∀ k, k < bs.length → 0 ≤ atI bs k ∧ atI bs k < 256
 l : bs.length < 4611686018427387904
def Src (a : AV) (bs : List Int) (o : Option AV) : Prop := ∃ (k : Nat) (h : Int), k ≤ bs.length ∧ o = some (srcV a (k : Int) h)
structure Frm (W : List Nat) (g : Nat) (ro : Ro) (gn : Nat → Nat) (ro' : Ro) (gn' : Nat → Nat) : Prop where
 off : ∀ s, s ∉ W → ro' s = ro s ∧ gn' s = gn s
 up : ∀ x, gn x ≤ gn' x
 kp : ∀ x y, y ≤ gn x → ¬ (x = 8288 ∧ y = g) → ro' x y = ro x y
section
variable {W : List Nat} {g : Nat} {ro ro' ro'' : Ro} {gn gn' gn'' : Nat → Nat}
theorem Frm.refl (W : List Nat) (g : Nat) (ro : Ro) (gn : Nat → Nat) : Frm W g ro gn ro gn := ⟨fun _ _ => ⟨rfl, rfl⟩, fun _ => Nat.le_refl _, fun _ _ _ _ => rfl⟩
theorem Frm.trans (h : Frm W g ro gn ro' gn') (h' : Frm W g ro' gn' ro'' gn'') : Frm W g ro gn ro'' gn'' :=
 ⟨fun s hs => ⟨(h'.off s hs).1.trans (h.off s hs).1, (h'.off s hs).2.trans (h.off s hs).2⟩, fun x => Nat.le_trans (h.up x) (h'.up x), fun x y h1 h2 => (h'.kp x y (Nat.le_trans h1 (h.up x)) h2).trans (h.kp x y h1 h2)⟩
theorem Frm.mono {W' : List Nat} (h : Frm W g ro gn ro' gn') (hw : ∀ s, s ∈ W → s ∈ W') : Frm W' g ro gn ro' gn' := ⟨fun s hs => h.off s fun e => hs (hw s e), h.up, h.kp⟩
theorem Frm.monoB {W' : List Nat} (h : Frm W g ro gn ro' gn') (hw : W.all (fun s => W'.contains s) = true) : Frm W' g ro gn ro' gn' := h.mono fun s hs => List.contains_iff_mem.1 (List.all_eq_true.1 hw s hs)
theorem upr_col {ro : Ro} {s g s' : Nat} {v : AV} (h : s' ≠ s) : upr ro s g v s' = ro s' := by
 funext y; rw [zdb, if_neg (fun e => h e.1)]
theorem Frm.src (h : Frm W g ro gn ro' gn') (v : AV) (hW : 8288 ∈ W) : Frm W g ro gn (upr ro' 8288 g v) gn' :=
 ⟨fun s hs => ⟨(upr_col (fun e => hs (by rw [e]; exact hW))).trans (h.off s hs).1, (h.off s hs).2⟩, h.up, fun x y h1 h2 => by rw [zdb, if_neg h2]; exact h.kp x y h1 h2⟩
theorem Frm.al (h : Frm W g ro gn ro' gn') (t u : Nat) (v : AV) (hW : t ∈ W) (hu : u = gn' t + 1) : Frm W g ro gn (upr ro' t u v) (upg gn' t u) := by
 subst hu
 refine ⟨fun s hs => ?_, fun x => ?_, fun x y h1 h2 => ?_⟩
 ·have hne : s ≠ t := fun e => hs (e ▸ hW)
  exact ⟨(upr_col hne).trans (h.off s hs).1, by rw [zda, if_neg hne]; exact (h.off s hs).2⟩
 ·have := h.up x
  rw [zda]
  split
  ·rename_i e; subst e; omega
  ·exact this
 ·rw [zdb, if_neg]
  ·exact h.kp x y h1 h2
  ·rintro ⟨rfl, rfl⟩
   have := h.up x
   omega
theorem Frm.wr (h : Frm W g ro gn ro' gn') (t u : Nat) (v : AV) (hW : t ∈ W) (ht : gn t < u) : Frm W g ro gn (upr ro' t u v) gn' :=
 ⟨fun s hs => ⟨(upr_col (fun e => hs (by rw [e]; exact hW))).trans (h.off s hs).1, (h.off s hs).2⟩, h.up, fun x y h1 h2 => by
  rw [zdb, if_neg]
  ·exact h.kp x y h1 h2
  ·rintro ⟨rfl, rfl⟩; omega⟩
def aftB (ops : Array Oper) (i : Nat) : Bool := (List.range ops.size).all fun k => !(decide (i < k)) || befB ops ops.size i k
theorem aftB_ok {ops : Array Oper} {i : Nat} (h : aftB ops i = true) : ∀ k, i < k → k < ops.size → befB ops ops.size i k = true := by
 intro k h1 h2
 have := List.all_eq_true.1 h k (List.mem_range.2 h2)
 simpa [h1] using this
theorem inX_frm {X : WX} {ops : Array Oper} {i f : Nat} {args : List AV} {st : St} {a : AV} {bs : List Int} {R : List Nat} {Res : (Nat → Nat) → AV → Ro → (Nat → Nat) → Prop} (h8 : 8288 ∈ W)
  (hc : ∀ ro1 gn1, (∀ s, s ∈ R ∨ s ∈ W → ro1 s = st.ro s) → (∀ s, s ∈ W → gn1 s = st.gn s) → InS X.P f args ro1 gn1 (fun r ro' gn' => Frm W g ro1 gn1 ro' gn' ∧ Src a bs (ro' 8288 g) ∧ Res gn1 r ro' gn'))
  (hloc : ∀ gn r ro' gn' ro2 gn1 gn2, (∀ s, s ∈ W → ro2 s = ro' s ∧ gn1 s = gn s ∧ gn2 s = gn' s) → Res gn r ro' gn' → Res gn1 r ro2 gn2) (ha : callsAft ops i = true)
  (hn : (∃ r ro' gn', Frm W g st.ro st.gn ro' gn' ∧ Src a bs (ro' 8288 g) ∧ Res st.gn r ro' gn') ∨ ∀ k, i < k → k < ops.size → befB ops ops.size i k = true) :
  inX X ops i f args st (fun r ro' gn' => Frm W g st.ro st.gn ro' gn' ∧ Src a bs (ro' 8288 g) ∧ Res st.gn r ro' gn') R W := by
 refine ⟨fun ro1 gn1 h1 h2 => (hc ro1 gn1 h1 h2).mono ?_, fun r ro' gn' h => h.1.off, ha, hn⟩
 rintro r ro' gn' ⟨k1, k2, k3⟩
 refine ⟨mixF W ro' st.ro, mixF W gn' st.gn, ⟨⟨fun s hs => ⟨mixF_out hs, mixF_out hs⟩, fun x => ?_, fun x y hy hxy => ?_⟩, by rw [mixF_in h8]; exact k2, hloc gn1 r ro' gn' _ _ _ (fun s hs => ⟨mixF_in hs, (h2 s hs).symm, mixF_in hs⟩) k3⟩, ?_, ?_⟩
 ·by_cases hx : x ∈ W
  ·rw [mixF_in hx, ← h2 x hx]; exact k1.up x
  ·rw [mixF_out hx]; exact Nat.le_refl _
 ·by_cases hx : x ∈ W
  ·rw [mixF_in hx, k1.kp x y (by rw [h2 x hx]; exact hy) hxy, h1 x (.inr hx)]
  ·rw [mixF_out hx]
 ·rw [mixF_mix]; exact (mixF_id fun s hs => (k1.off s hs).1).symm
 ·rw [mixF_mix]; exact (mixF_id fun s hs => (k1.off s hs).2).symm
end
section
variable {a : AV} {bs : List Int} {g : Nat} {ro : Ro} {gn : Nat → Nat} {n : Int}
def NxP (a : AV) (bs : List Int) (g : Nat) (ro : Ro) (gn : Nat → Nat) (n : Int) (r : AV) (ro' : Ro) (gn' : Nat → Nat) : Prop := ∃ v : Int, r = i64 v ∧ (n < 1 → v = 0) ∧ (1 ≤ n → 0 ≤ v ∧ v < n) ∧ gn = gn' ∧ ∃ w, ro' = upr ro 8288 g w ∧ Src a bs (some w)
theorem sNext (hc : Cod a bs) (hs : Src a bs (ro 8288 g)) (hn : n < 4611686018427387904) : InS Tryz.prog 40 [.ptr 8288 g [] 0, i64 n] ro gn (NxP a bs g ro gn n) := by
 obtain ⟨k, h, hk, hro⟩ := hs
 obtain ⟨v, k', h', h1, h2, h3, h4⟩ := inNext hn hc.b hc.r hc.l hk h
 refine (h4 8288 g ro gn hro).toS.mono ?_
 rintro _ _ _ ⟨rfl, rfl, rfl⟩
 exact ⟨v, rfl, h2, h3, rfl, _, rfl, k', h', h1, rfl⟩
theorem mix_upr {ro ro1 : Ro} {g : Nat} {w : AV} (h : ro1 8288 = ro 8288) : upr ro1 8288 g w = mixF [8288] (upr ro 8288 g w) ro1 := by
 funext s
 by_cases hs : s = 8288
 ·subst hs
  rw [mixF_in (by simp)]
  funext y
  rw [zdb, zdb, h]
 ·rw [mixF_out (by simpa using hs), upr_col hs]
theorem mix_gn {gn gn1 : Nat → Nat} (h : gn1 8288 = gn 8288) : gn1 = mixF [8288] gn gn1 := by
 funext s
 by_cases hs : s = 8288
 ·subst hs; rw [mixF_in (by simp), h]
 ·rw [mixF_out (by simpa using hs)]
theorem NxP.off {r : AV} {ro' : Ro} {gn' : Nat → Nat} (h : NxP a bs g ro gn n r ro' gn') : ∀ s, s ∉ [8288] → ro' s = ro s ∧ gn' s = gn s := by
 obtain ⟨v, _, _, _, rfl, w, rfl, _⟩ := h
 intro s hs
 exact ⟨upr_col (by simpa using hs), rfl⟩
theorem NxP.ne (hs : Src a bs (ro 8288 g)) : ∃ r ro' gn', NxP a bs g ro gn n r ro' gn' := by
 obtain ⟨k, h, hk, hro⟩ := hs
 exact ⟨_, _, _, 0, rfl, fun _ => rfl, fun _ => ⟨Int.le_refl _, by omega⟩, rfl, _, rfl, k, h, hk, rfl⟩
theorem NxP.loc {r : AV} {ro1 ro' : Ro} {gn1 gn' : Nat → Nat} (h1 : ro1 8288 = ro 8288) (h2 : gn1 8288 = gn 8288) (h : NxP a bs g ro1 gn1 n r ro' gn') : ∃ ro2 gn2, NxP a bs g ro gn n r ro2 gn2 ∧ ro' = mixF [8288] ro2 ro1 ∧ gn' = mixF [8288] gn2 gn1 := by
 obtain ⟨v, e1, e2, e3, rfl, w, rfl, e4⟩ := h
 exact ⟨upr ro 8288 g w, gn, ⟨v, e1, e2, e3, rfl, w, rfl, e4⟩, mix_upr h1, mix_gn h2⟩
theorem NxP.out {r : AV} {ro' : Ro} {gn' : Nat → Nat} (h : NxP a bs g ro gn n r ro' gn') : ∃ v : Int, r = i64 v ∧ (n < 1 → v = 0) ∧ (1 ≤ n → 0 ≤ v ∧ v < n) ∧ gn = gn' ∧ (∀ s u, s ≠ 8288 → ro' s u = ro s u) ∧ Src a bs (ro' 8288 g) ∧ ∀ W rb gb, 8288 ∈ W → Frm W g rb gb ro gn → Frm W g rb gb ro' gn := by
 obtain ⟨v, e1, e2, e3, rfl, w, rfl, e4⟩ := h
 exact ⟨v, e1, e2, e3, rfl, fun s u hs => by rw [upr_col hs], by rw [upr_same]; exact e4, fun W rb gb hW hF => hF.src w hW⟩
theorem xNext {ops : Array Oper} {i : Nat} {st : St} (hc : Cod a bs) (hs : Src a bs (st.ro 8288 g)) (hn : n < 4611686018427387904) (ha : callsAft ops i = true) : inX XX ops i 40 [.ptr 8288 g [] 0, i64 n] st (NxP a bs g st.ro st.gn n) [] [8288] :=
 ⟨fun ro1 gn1 h1 h2 => (sNext hc (by rw [h1 8288 (.inr (by simp))]; exact hs) hn).mono fun _ _ _ h => h.loc (h1 8288 (.inr (by simp))) (h2 8288 (by simp)), fun _ _ _ h => h.off, ha, .inl (NxP.ne hs)⟩
def PkP (a : AV) (bs : List Int) (g : Nat) (ro : Ro) (gn : Nat → Nat) (xs : List Int) (r : AV) (ro' : Ro) (gn' : Nat → Nat) : Prop := ∃ k, k < xs.length ∧ r = i64 (atI xs k) ∧ gn = gn' ∧ ∃ w, ro' = upr ro 8288 g w ∧ Src a bs (some w)
theorem getI {xs : List Int} {k : Nat} (hk : k < xs.length) : (List.map i64 xs)[k]? = some (i64 (atI xs k)) := by simp [atI, hk]
theorem sPick {s2 g2 : Nat} {xs : List Int} (hc : Cod a bs) (hs : Src a bs (ro 8288 g)) (h2 : ro s2 g2 = some (rowL xs)) (hne : s2 ≠ 8288) (h0 : 0 < xs.length) (hx : xs.length < 4611686018427387904) : InS Tryz.prog 62 [.ptr 8288 g [] 0, .ref s2 g2 [] 0 xs.length] ro gn (PkP a bs g ro gn xs) := by
 refine in_ofS (fn := Tryz.f62) (code := bodyOf Tryz.f62) Tryz.func62 rfl (by kernel_rfl) ?_
 intro sl hs'
 have s0 : sl 0 = .ptr 8288 g [] 0 := hs' 0
 have s1 : sl 1 = .ref s2 g2 [] 0 xs.length := hs' 1
 dsimp only [Tryz.f62, bodyOf, Option.getD]
 simp (maxSteps := 10000000) (disch := first | assumption | omega) only [go_sem, ↓reduceIte, Nat.reduceEqDiff, reduceCtorEq, Nat.reduceAdd, Nat.reduceMul, Nat.reduceLeDiff, zc, s0, s1, h2]
 refine CLL_inS rfl (sNext hc hs (n := (xs.length : Int)) (by omega)) ?_
 rintro _ _ _ ⟨v, rfl, -, hv, rfl, w, rfl, hw⟩
 obtain ⟨v0, v1⟩ := hv (by omega)
 obtain ⟨k, rfl⟩ := Int.eq_ofNat_of_zero_le v0
 have hk : k < xs.length := by omega
 have h2' : upr ro 8288 g w s2 g2 = some (rowL xs) := by rw [upr_col hne]; exact h2
 have hkn : ((k : Int)) < xs.length := by omega
 simp (maxSteps := 10000000) (disch := first | assumption | omega) only [go_sem, ↓reduceIte, Nat.reduceEqDiff, reduceCtorEq, Nat.reduceAdd, Nat.reduceMul, Nat.reduceLeDiff, zc, s0, s1, h2', h2, hkn, upr_col hne, getI hk]
 refine ⟨.inr rfl, _, rfl, k, hk, ?_, rfl, w, rfl, hw⟩
 simp only [↓za, ↓reduceIte, Nat.reduceEqDiff, zb, reduceCtorEq, oneOrA]
theorem PkP.off {xs : List Int} {r : AV} {ro' : Ro} {gn' : Nat → Nat} (h : PkP a bs g ro gn xs r ro' gn') : ∀ s, s ∉ [8288] → ro' s = ro s ∧ gn' s = gn s := by
 obtain ⟨k, _, _, rfl, w, rfl, _⟩ := h
 intro s hs
 exact ⟨upr_col (by simpa using hs), rfl⟩
theorem PkP.ne {xs : List Int} (hs : Src a bs (ro 8288 g)) (h0 : 0 < xs.length) : ∃ r ro' gn', PkP a bs g ro gn xs r ro' gn' := by
 obtain ⟨k, h, hk, hro⟩ := hs
 exact ⟨_, _, _, 0, h0, rfl, rfl, _, rfl, k, h, hk, rfl⟩
theorem PkP.loc {xs : List Int} {r : AV} {ro1 ro' : Ro} {gn1 gn' : Nat → Nat} (h1 : ro1 8288 = ro 8288) (h2 : gn1 8288 = gn 8288) (h : PkP a bs g ro1 gn1 xs r ro' gn') : ∃ ro2 gn2, PkP a bs g ro gn xs r ro2 gn2 ∧ ro' = mixF [8288] ro2 ro1 ∧ gn' = mixF [8288] gn2 gn1 := by
 obtain ⟨k, e1, e2, rfl, w, rfl, e4⟩ := h
 exact ⟨upr ro 8288 g w, gn, ⟨k, e1, e2, rfl, w, rfl, e4⟩, mix_upr h1, mix_gn h2⟩
theorem PkP.out {xs : List Int} {r : AV} {ro' : Ro} {gn' : Nat → Nat} (h : PkP a bs g ro gn xs r ro' gn') : ∃ k, k < xs.length ∧ r = i64 (atI xs k) ∧ gn = gn' ∧ (∀ s u, s ≠ 8288 → ro' s u = ro s u) ∧ Src a bs (ro' 8288 g) ∧ ∀ W rb gb, 8288 ∈ W → Frm W g rb gb ro gn → Frm W g rb gb ro' gn := by
 obtain ⟨k, e1, e2, rfl, w, rfl, e4⟩ := h
 exact ⟨k, e1, e2, rfl, fun s u hs => by rw [upr_col hs], by rw [upr_same]; exact e4, fun W rb gb hW hF => hF.src w hW⟩
theorem xPick {ops : Array Oper} {i : Nat} {st : St} {s2 g2 : Nat} {xs : List Int} (hc : Cod a bs) (hs : Src a bs (st.ro 8288 g)) (h2 : st.ro s2 g2 = some (rowL xs)) (hne : s2 ≠ 8288) (h0 : 0 < xs.length) (hx : xs.length < 4611686018427387904) (ha : callsAft ops i = true) :
  inX XX ops i 62 [.ptr 8288 g [] 0, .ref s2 g2 [] 0 xs.length] st (PkP a bs g st.ro st.gn xs) [s2] [8288] :=
 ⟨fun ro1 gn1 h3 h4 => (sPick hc (by rw [h3 8288 (.inr (by simp))]; exact hs) (by rw [h3 s2 (.inl (by simp))]; exact h2) hne h0 hx).mono fun _ _ _ h => h.loc (h3 8288 (.inr (by simp))) (h4 8288 (by simp)), fun _ _ _ h => h.off, ha, .inl (PkP.ne hs h0)⟩
end
end Go.Proofs.YthpmddoakefbmaaGreat
/- Short names, III. -/
namespace Go.Proofs.YthpmddoakefbmaaGreat
open Go.RowKit
theorem KPt {p : Prop} (h : p := by (repeat' first | assumption | exact Frm.refl _ _ _ _ | refine Frm.al ?_ _ _ _ (by decide) rfl | refine Frm.wr ?_ _ _ _ (by decide) (by omega) | refine Frm.src ?_ _ (by decide))) : p := h
end Go.Proofs.YthpmddoakefbmaaGreat
