/- Texts joined: Cs5 Ac1 Ac2. -/
import Derived.Test.YtdpinkgkmcbckaaGreatCg
set_option linter.all false
/- All characters by the reference and by the program; the codes. -/
namespace Go.Proofs.YtdpinkgkmcbckaaGreat
open Go.RowKit
set_option maxRecDepth 1000000
theorem cAllS {c : AV} {T : List (List (List Int))} (hc : isLLL c T) (hT : CubeP T) : CallOK Tryz.prog 20 [.agg [c]] (rowLL (chsS T)) := by
 obtain ⟨t1, t16, hcu⟩ := id hT
 have hfew : (chsS T).length ≤ T.length := by rw [← chs_same hT]; exact chs_few hT
 refine call_of (fn := Tryz.f20) (code := bodyOf Tryz.f20) Tryz.func20 rfl (by kernel_rfl) (noRef_rowLL _) ?_
 intro sl hs
 have s0 : sl 0 = .agg [c] := hs 0
 dsimp only [Tryz.f20, bodyOf, Option.getD]
 refine Yag ?_
 refine WK_for (fun i st => st.sl 1 = .ptr 4096 1 [] 0 ∧ st.ro 4096 1 = some (.bx [c]) ∧ st.sl 3 = .ref 8192 (st.gn 8192) [] 0 i ∧ st.ro 8192 (st.gn 8192) = some (.row (rws (fun k => rowL (vlS T k)) i)) ∧ st.sl 4 = i64 (i : Int)) T.length ?_ ?_ ?_
 ·refine Yaj ?_
  repeat' first | rfl | apply And.intro
 ·rintro i sl ro gn hi ⟨s1, r4096, s3, r8192, s4⟩
  dsimp only at s1 r4096 s3 r8192 s4
  have hi' : (i : Int) < (T.length : Nat) := by omega
  have hi2 : i + 1 ≤ 4294967296 := by omega
  have hm := isLLL_mat hc hi
  rw [ringM_mat hT hi] at hm
  have cv : CallOK Tryz.prog 37 [atA c i] (rowL (vlS T i)) := cValS hm (by omega) (by omega) (ringM_num hT i)
  simp (maxSteps := 10000000) (disch := first | assumption | omega) only [go_sem, ↓reduceIte, Nat.reduceEqDiff, reduceCtorEq, Nat.reduceAdd, Nat.reduceMul, Nat.reduceLeDiff, zc, Int.reduceToNat, s1, r4096, s3, r8192, s4, hi', hi, isLLL_len hc]
  refine CLL_pure _ cv PUt rfl rfl ?_
  simp (maxSteps := 10000000) (disch := first | assumption | omega) only [go_sem, ↓reduceIte, Nat.reduceEqDiff, reduceCtorEq, Nat.reduceAdd, Nat.reduceMul, Nat.reduceLeDiff, zc, Int.reduceToNat, s1, r4096, s3, r8192, s4, hi', hi, impE_row, List.length_map, hi2]
  exact i64c (by omega)
 ·rintro sl ro gn ⟨s1, r4096, s3, r8192, s4⟩
  dsimp only at s1 r4096 s3 r8192 s4
  have hi' : ¬ ((T.length : Nat) : Int) < (T.length : Nat) := by omega
  simp (maxSteps := 10000000) (disch := first | assumption | omega) only [go_sem, ↓reduceIte, Nat.reduceEqDiff, reduceCtorEq, Nat.reduceAdd, Nat.reduceMul, Nat.reduceLeDiff, zc, Int.reduceToNat, s1, r4096, s3, r8192, s4, hi', isLLL_len hc]
  refine CLL_inS rfl (inGrow hc hT T.length _ _ [] [] 28704 _ _ _ (by simp) (fun j => by rw [atI_out (by simp)]; unfold num; decide) ?_ ?_ ?_ ?_ (.inl rfl) ?_ ?_ ?_) ?_
  ·show 0 + (chsS T).length ≤ 65536
   omega
  ·refine Ycn ?_
   rw [r8192, rowLL, rws_map]
  ·simp only [↓za, ↓reduceIte, Nat.reduceEqDiff, zb, reduceCtorEq]; rfl
  ·simp only [↓za, ↓reduceIte, Nat.reduceEqDiff, zb, reduceCtorEq]; rfl
  ·simp only [↓za, ↓reduceIte, Nat.reduceEqDiff, zb, reduceCtorEq]; exact Nat.le_refl _
  ·simp only [↓za, ↓reduceIte, Nat.reduceEqDiff, zb, reduceCtorEq]; exact Nat.le_refl _
  ·simp only [↓za, ↓reduceIte, Nat.reduceEqDiff, zb, reduceCtorEq]; exact Nat.le_refl _
  rintro r ro' gn' ⟨⟨g', rfl, hro', -, -⟩, -, -⟩
  rw [List.nil_append] at hro' ⊢
  simp (maxSteps := 10000000) (disch := first | assumption | omega) only [go_sem, ↓reduceIte, Nat.reduceEqDiff, reduceCtorEq, Nat.reduceAdd, Nat.reduceMul, Nat.reduceLeDiff, zc, Int.reduceToNat, s1, r4096, s3, r8192, s4, hi']
  simp only [zr, zb, retR, resL, outT, outL, zes, zez, oneV, zcp, zed, zfi, Ro.dl, St.ev, zhk, ↓za, ↓reduceIte, Nat.reduceEqDiff, Nat.reduceAdd, Nat.reduceLeDiff, hro', rowLL]
  rfl
theorem RF_F2 {T : List (List (List Int))} (h : RF T = none) : F2 T = none := by
 cases h1 : F1 T with
 | some l => rw [RF1 h1] at h; cases h
 | none =>
  cases h2 : F2 T with
  | some l => rw [RF2 h1 h2] at h; cases h
  | none => rfl
noncomputable def dd (T : List (List (List Int))) (j : Nat) : Nat := (dlT T j).toNat
theorem dd_ok {T : List (List (List Int))} (h : RngP T) {j : Nat} (hj : j < T.length) : dlT T j = (dd T j : Nat) ∧ dd T j < T.length := by
 obtain ⟨m, h1, h2⟩ := dl_ok (RF_F2 h.2) hj
 have e : dd T j = m := by unfold dd; rw [h1]; exact Int.toNat_natCast m
 rw [e]
 exact ⟨h1, h2⟩
noncomputable def cdg (T : List (List (List Int))) (x : List Int) : Int := sm (fun j => atI x j * atI x (dd T j)) T.length % 55441
theorem cDualsS {c : AV} {T : List (List (List Int))} (ha : isLLL c T) (hc : CubeP T) : CallOK Tryz.prog 67 [.agg [c]] (.row (rws (fun i => i64 (dlT T i)) T.length)) := by
 obtain ⟨h1, h2, h3⟩ := id hc
 refine call_of (fn := Tryz.f67) (code := bodyOf Tryz.f67) Tryz.func67 rfl (by kernel_rfl) (noRef_row _ (noRefL_rws _ _ fun _ => rfl)) ?_
 intro sl hs
 have s0 : sl 0 = .agg [c] := hs 0
 dsimp only [Tryz.f67, bodyOf, Option.getD]
 refine Yag ?_
 refine WK_for (fun i st => st.sl 1 = .ptr 4096 1 [] 0 ∧ st.ro 4096 1 = some (.bx [c]) ∧ st.sl 4 = i64 (i : Int) ∧ st.sl 3 = .ref 8192 (st.gn 8192) [] 0 i ∧ st.ro 8192 (st.gn 8192) = some (.row (rws (fun i => i64 (dlT T i)) i))) T.length ?_ ?_ ?_
 ·refine Yaj ?_
  repeat' first | rfl | apply And.intro
 ·rintro i sl ro gn hi ⟨s1, r4096, s4, s3, r8192⟩
  dsimp only at s1 r4096 s4 s3 r8192
  have hi' : (i : Int) < (T.length : Nat) := by omega
  have hi2 : i + 1 ≤ 4294967296 := by omega
  simp (maxSteps := 10000000) (disch := first | assumption | omega) only [go_sem, ↓reduceIte, Nat.reduceEqDiff, reduceCtorEq, Nat.reduceAdd, Nat.reduceMul, Nat.reduceLeDiff, zc, Int.reduceToNat, s1, r4096, s4, s3, r8192, hi', hi, isLLL_len ha]
  refine CLL_pure _ (c150 ha hc hi) PUt rfl rfl ?_
  simp (maxSteps := 10000000) (disch := first | assumption | omega) only [go_sem, ↓reduceIte, Nat.reduceEqDiff, reduceCtorEq, Nat.reduceAdd, Nat.reduceMul, Nat.reduceLeDiff, zc, Int.reduceToNat, s1, r4096, s4, s3, r8192, hi', hi, hi2]
  exact i64c (by omega)
 ·rintro sl ro gn ⟨s1, r4096, s4, s3, r8192⟩
  dsimp only at s1 r4096 s4 s3 r8192
  have hi' : ¬ ((T.length : Nat) : Int) < (T.length : Nat) := by omega
  simp (maxSteps := 10000000) (disch := first | assumption | omega) only [go_sem, ↓reduceIte, Nat.reduceEqDiff, reduceCtorEq, Nat.reduceAdd, Nat.reduceMul, Nat.reduceLeDiff, zc, Int.reduceToNat, s1, r4096, s4, s3, r8192, hi', isLLL_len ha]
  exact Yao
theorem imp_tN {b : Nat} {gn : Nat → Nat} {v x : Value} : impE b gn (.tup [.sc v, .sc x]) = ⟨.tup [.sc v, .sc x], none, [], []⟩ := nr _
theorem noRef_tL (X : List Int) (v : Value) : noRef (.tup [rowL X, .sc v]) = true := by
 have h := noRef_rowL X
 show (noRef (rowL X) && (noRef (.sc v) && true)) = true
 rw [h]; rfl
theorem ch_get {T : List (List (List Int))} {i : Nat} (hT : CubeP T) (hi : i < (chsI T).length) : ∃ x, (chsI T)[i]? = some x ∧ x.length = T.length ∧ numL x := by
 have h := (chsI_iff hT).1 (List.getElem_mem hi)
 exact ⟨_, List.getElem?_eq_getElem hi, h.1, h.2.1⟩
end Go.Proofs.YtdpinkgkmcbckaaGreat
/- The dimension of a kernel, told by coordinates: it does not depend on the rows that tell the kernel. -/
namespace Go.Proofs.YtdpinkgkmcbckaaGreat
theorem gj_lead {M : Nat → Nat → Int} {n : Nat} (hM : numM M) : ∀ k i, i < (gj n M k).2.1 → ∃ c, c < k ∧ (∀ a, a < n → (gj n M k).1 a c = if a = i then 1 else 0) ∧ ∀ j, j < c → (gj n M k).1 i j = 0
 | 0, i, hi => absurd hi (Nat.not_lt_zero _)
 | k + 1, i, hi => by
  have ih := gj_lead (n := n) hM k
  obtain ⟨p1, p2, p3, p4⟩ := gj_piv hM k
  obtain ⟨h1, h2, h3⟩ := gj_ok (n := n) hM k
  obtain ⟨f1, f2, f3, f4⟩ := fdf_spec (gj n M k).1 (k := k) h2
  simp only [gj, gst] at hi ⊢
  split
  ·rename_i hf
   rw [if_pos hf] at hi
   obtain ⟨c, hc, e1, e2⟩ := ih i hi
   exact ⟨c, by omega, e1, e2⟩
  ·rename_i hf
   rw [if_neg hf] at hi
   dsimp only at hi ⊢
   have hi2 : i < (gj n M k).2.1 + 1 := hi
   clear hi
   generalize (gj n M k).1 = G at *
   generalize (gj n M k).2.1 = d at *
   generalize fdf G k n d = f at *
   have hfn : f < n := by omega
   have hp0 : swp G f d d k ≠ 0 := by
    unfold swp
    rw [if_pos rfl]
    exact f4 hfn
   have hself := nrm_self (G := swp G f d) (num_swp h1 f d d k) hp0
   have hz : ∀ j, j < k → nrm (swp G f d) d k j = 0 := fun j e => by
    unfold nrm swp
    rw [if_pos rfl, p3 f f1 hfn j e, Int.zero_mul]
    rfl
   rcases Nat.lt_or_eq_of_le (Nat.le_of_lt_succ hi2) with e | e
   ·obtain ⟨c, hc, e1, e2⟩ := ih i e
    refine ⟨c, by omega, elm_unit h1 hfn f1 e1 e, fun j hj => ?_⟩
    have hs : swp G f d i j = 0 := by
     unfold swp
     rw [if_neg (by omega), if_neg (by omega)]
     exact e2 j hj
    unfold elm
    rw [if_neg (by omega), hz j (by omega), hs, Int.mul_zero]
    rfl
   ·subst e
    refine ⟨k, by omega, fun a ha => ?_, fun j hj => ?_⟩
    ·unfold elm
     by_cases e : a = i
     ·rw [if_pos e, if_pos e]; exact hself
     ·rw [if_neg e, if_neg e, hself, Int.mul_one, Int.sub_self]; rfl
    ·unfold elm
     rw [if_pos rfl]
     exact hz j hj
theorem gj_fsr {M : Nat → Nat → Int} {n w : Nat} (hM : numM M) {i : Nat} (hi : i < (gj n M w).2.1) :
  fsr (gj n M w).1 w i < w ∧ ∀ a, a < n → (gj n M w).1 a (fsr (gj n M w).1 w i) = if a = i then 1 else 0 := by
 obtain ⟨c, hc, e1, e2⟩ := gj_lead hM w i hi
 have hn := (gj_ok (n := n) hM w).2.1
 obtain ⟨f1, f2, f3⟩ := fsr_ok (gj_piv (n := n) hM w) hn hi
 have e : fsr (gj n M w).1 w i = c := by
  rcases Nat.lt_trichotomy (fsr (gj n M w).1 w i) c with h | h | h
  ·exact absurd (e2 _ h) f2
  ·exact h
  ·have := f3 c h
   rw [e1 i (by omega), if_pos rfl] at this
   cases this
 rw [e]
 exact ⟨hc, e1⟩
structure Fam (P : (Nat → Int) → Prop) (w d : Nat) (y : Nat → Nat → Int) (c : Nat → Nat) : Prop where
 cw : ∀ i, i < d → c i < w
 mem : ∀ i, i < d → P (y i)
 dl : ∀ i j, i < d → j < d → MM (y i (c j)) (if i = j then 1 else 0)
 no : ∀ x, P x → (∀ i, i < d → MM (x (c i)) 0) → ∀ k, k < w → MM (x k) 0
def LinP (P : (Nat → Int) → Prop) : Prop := ∀ (d : Nat) (a : Nat → Int) (y : Nat → Nat → Int), (∀ i, i < d → P (y i)) → P fun k => sm (fun i => a i * y i k) d
theorem linP_ker (M : Nat → Nat → Int) (n w : Nat) : LinP (KerG M n w) := fun d a y h i hi => by
 have e : sm (fun j => M i j * sm (fun t => a t * y t j) d) w = sm (fun t => a t * sm (fun j => M i j * y t j) w) d := by
  have e1 : ∀ j, j < w → M i j * sm (fun t => a t * y t j) d = sm (fun t => a t * (M i j * y t j)) d := fun j _ => by
   rw [← sm_lmul]
   exact sm_congr fun t _ => by rw [Int.mul_left_comm]
  rw [sm_congr e1, sm_comm]
  exact sm_congr fun t _ => sm_lmul _ _ _
 rw [e]
 refine (sm_MM (g := fun _ => 0) fun t ht => ?_).trans (MM.of_eq (sm_zero fun _ _ => rfl))
 exact (MM.mul MM.rfl (h t ht i hi)).trans (MM.of_eq (Int.mul_zero _))
theorem fam_le {P : (Nat → Int) → Prop} {w d d' : Nat} {y y' : Nat → Nat → Int} {c c' : Nat → Nat} (hl : LinP P) (h : Fam P w d y c) (h' : Fam P w d' y' c') : d ≤ d' := by
 refine Decidable.byContradiction fun hlt => ?_
 have hA : numM fun j i => y i (c' j) % 55441 := fun j i => num_mod _
 obtain ⟨a, ⟨j, hj, h0⟩, hk⟩ := ker_vec (M := fun j i => y i (c' j) % 55441) (n := d') (w := d) hA (Nat.lt_of_le_of_lt (gj_ok (n := d') hA d).2.1 (by omega))
 have hz := h'.no _ (hl d a y h.mem) fun i hi => by
  refine MM.trans (sm_MM fun t ht => ?_) (hk i hi)
  show MM (a t * y t (c' i)) (y t (c' i) % 55441 * a t)
  rw [Int.mul_comm]
  exact MM.mul (MM.mod _).symm MM.rfl
 refine h0 (MM.trans (MM.symm ?_) (hz (c j) (h.cw j hj)))
 refine (sm_MM (g := fun i => if i = j then a j else 0) fun i hi => ?_).trans (MM.of_eq (sm_at hj _))
 refine (MM.mul MM.rfl (h.dl i j hi hj)).trans (MM.of_eq ?_)
 split
 ·rename_i e; rw [e, Int.mul_one]
 ·exact Int.mul_zero _
theorem fam_eq {P : (Nat → Int) → Prop} {w d d' : Nat} {y y' : Nat → Nat → Int} {c c' : Nat → Nat} (hl : LinP P) (h : Fam P w d y c) (h' : Fam P w d' y' c') : d = d' := Nat.le_antisymm (fam_le hl h h') (fam_le hl h' h)
theorem Fam.iff {P Q : (Nat → Int) → Prop} {w d : Nat} {y : Nat → Nat → Int} {c : Nat → Nat} (h : Fam P w d y c) (hq : ∀ x, P x ↔ Q x) : Fam Q w d y c := ⟨h.cw, fun i hi => (hq _).1 (h.mem i hi), h.dl, fun x hx => h.no x ((hq x).2 hx)⟩
structure Rdx (R : Nat → Nat → Int) (p : Nat → Nat) (r w : Nat) : Prop where
 pw : ∀ i, i < r → p i < w
 un : ∀ i a, i < r → a < r → R a (p i) = if a = i then 1 else 0
theorem Rdx.inj {R : Nat → Nat → Int} {p : Nat → Nat} {r w : Nat} (h : Rdx R p r w) {i j : Nat} (hi : i < r) (hj : j < r) (e : p i = p j) : i = j := by
 have h1 := h.un i i hi hi
 rw [e, h.un j i hj hi, if_pos rfl] at h1
 refine Decidable.byContradiction fun hn => ?_
 rw [if_neg hn] at h1
 cases h1
theorem frc_in {p : Nat → Nat} {r : Nat} : ∀ {n k : Nat}, k ∈ frc p r n → k < n ∧ isP p r k = false
 | 0, k, h => by cases h
 | n + 1, k, h => by
  unfold frc at h
  rcases List.mem_append.1 h with e | e
  ·have := frc_in e
   exact ⟨by omega, this.2⟩
  ·split at e
   ·cases e
   ·rename_i hb
    rcases List.mem_singleton.1 e with rfl
    exact ⟨by omega, by simpa using hb⟩
theorem frc_nodup (p : Nat → Nat) (r : Nat) : ∀ n, (frc p r n).Nodup
 | 0 => List.nodup_nil
 | n + 1 => by
  unfold frc
  refine List.nodup_append.2 ⟨frc_nodup p r n, by split <;> simp, fun a ha b hb e => ?_⟩
  have := (frc_in ha).1
  split at hb
  ·cases hb
  ·rw [List.mem_singleton] at hb
   omega
theorem nodup_inj {l : List Nat} (h : l.Nodup) {i j : Nat} (hi : i < l.length) (hj : j < l.length) (e : l[i] = l[j]) : i = j := by
 have h1 := List.pairwise_iff_getElem.1 h
 rcases Nat.lt_trichotomy i j with a | a | a
 ·exact absurd e (h1 i j hi hj a)
 ·exact a
 ·exact absurd e.symm (h1 j i hj hi a)
theorem frc_cnt {p : Nat → Nat} {r : Nat} : ∀ n, ((frc p r n).length : Int) = sm (fun k => if isP p r k = true then 0 else 1) n
 | 0 => rfl
 | n + 1 => by
  have := frc_cnt (p := p) (r := r) n
  unfold frc
  rw [List.length_append, sm_succ, ← this]
  split <;> simp
theorem sm_c1 {p : Nat → Nat} : ∀ n, sm (fun k => if isP p 0 k = true then (0 : Int) else 1) n = n
 | 0 => rfl
 | n + 1 => by
  rw [sm_succ, sm_c1 n, if_neg (by simp [isP])]
  omega
theorem frc_all {R : Nat → Nat → Int} {p : Nat → Nat} {w : Nat} : ∀ {r : Nat}, Rdx R p r w → (frc p r w).length + r = w
 | 0, _ => by
  have := frc_cnt (p := p) (r := 0) w
  rw [sm_c1 w] at this
  omega
 | r + 1, h => by
  have ih := frc_all (r := r) (R := R) (p := p) (w := w) ⟨fun i hi => h.pw i (by omega), fun i a hi ha => h.un i a (by omega) (by omega)⟩
  have e1 := frc_cnt (p := p) (r := r) w
  have e2 := frc_cnt (p := p) (r := r + 1) w
  have e3 : sm (fun k => if isP p (r + 1) k = true then (0 : Int) else 1) w = sm (fun k => (if isP p r k = true then (0 : Int) else 1) - (if k = p r then 1 else 0)) w := sm_congr fun k _ => by
   by_cases e : k = p r
   ·have a1 : isP p (r + 1) k = true := isP_iff.2 ⟨r, by omega, e.symm⟩
    have a2 : isP p r k = false := by
     cases hb : isP p r k with
     | false => rfl
     | true =>
      obtain ⟨i, hi, ei⟩ := isP_iff.1 hb
      have := h.inj (i := i) (j := r) (by omega) (by omega) (by omega)
      omega
    rw [a1, a2, if_pos e]
    rfl
   ·have a1 : isP p (r + 1) k = isP p r k := by
     cases hb : isP p r k with
     | true =>
      obtain ⟨i, hi, ei⟩ := isP_iff.1 hb
      exact isP_iff.2 ⟨i, by omega, ei⟩
     | false =>
      cases hc : isP p (r + 1) k with
      | false => rfl
      | true =>
       obtain ⟨i, hi, ei⟩ := isP_iff.1 hc
       rcases Nat.lt_or_eq_of_le (Nat.le_of_lt_succ hi) with h1 | h1
       ·rw [isP_iff.2 ⟨i, h1, ei⟩] at hb; cases hb
       ·subst h1; exact absurd ei.symm e
    rw [a1, if_neg e, Int.sub_zero]
  rw [e3, sm_sub, sm_at (h.pw r (by omega))] at e2
  omega
section
variable {R : Nat → Nat → Int} {p : Nat → Nat} {r w : Nat} (h : Rdx R p r w)
include h
theorem kvc_off {q : Nat} : ∀ {i : Nat} {k : Nat}, i ≤ r → (∀ a, a < i → p a ≠ k) → k ≠ q → kvc R p q i k = 0
 | 0, k, _, _, h2 => by unfold kvc; rw [if_neg h2]
 | i + 1, k, hi, h1, h2 => by
  unfold kvc
  rw [if_neg fun e => h1 i (Nat.lt_succ_self _) e.symm]
  exact kvc_off (by omega) (fun a ha => h1 a (by omega)) h2
theorem kvc_dot {q : Nat} (hq : q < w) (hf : ∀ a, a < r → p a ≠ q) (x : Nat → Int) : ∀ {i : Nat}, i ≤ r → MM (sm (fun j => kvc R p q i j * x j) w) (x q - sm (fun t => R t q * x (p t)) i)
 | 0, _ => by
  refine MM.of_eq ?_
  rw [sm_pick (v := x q) hq fun k _ => ?_]
  ·exact (Int.sub_zero _).symm
  ·unfold kvc
   split
   ·rename_i e; rw [e, Int.one_mul]
   ·exact Int.zero_mul _
 | i + 1, hi => by
  have ih := kvc_dot hq hf x (i := i) (by omega)
  have h0 : kvc R p q i (p i) = 0 := kvc_off h (by omega) (fun a ha e => by have := h.inj (by omega) (by omega) e; omega) (hf i (by omega))
  have e1 : MM (sm (fun j => kvc R p q (i + 1) j * x j) w) (sm (fun j => kvc R p q i j * x j - (if j = p i then R i q * x (p i) else 0)) w) := sm_MM fun j _ => by
   by_cases e : j = p i
   ·subst e
    rw [h0, if_pos rfl]
    unfold kvc
    rw [if_pos rfl]
    refine (MM.mul (MM.mod _) MM.rfl).trans (MM.of_eq ?_)
    rw [Int.sub_mul]
   ·rw [if_neg e, Int.sub_zero]
    unfold kvc
    rw [if_neg e]
    exact MM.of_eq (by cases i <;> rfl)
  rw [sm_sub, sm_at (h.pw i (by omega))] at e1
  refine e1.trans ((MM.sub ih MM.rfl).trans (MM.of_eq ?_))
  rw [sm_succ]
  omega
theorem frc_get {i : Nat} (hi : i < (frc p r w).length) : (frc p r w).getD i 0 < w ∧ ∀ a, a < r → p a ≠ (frc p r w).getD i 0 := by
 have hm : (frc p r w).getD i 0 ∈ frc p r w := by
  rw [List.getD_eq_getElem?_getD, List.getElem?_eq_getElem hi]
  exact List.getElem_mem hi
 obtain ⟨h1, h2⟩ := frc_in hm
 exact ⟨h1, fun a ha e => by rw [isP_iff.2 ⟨a, ha, e⟩] at h2; cases h2⟩
theorem frc_inj {i j : Nat} (hi : i < (frc p r w).length) (hj : j < (frc p r w).length) (e : (frc p r w).getD i 0 = (frc p r w).getD j 0) : i = j := by
 rw [List.getD_eq_getElem?_getD, List.getElem?_eq_getElem hi, List.getD_eq_getElem?_getD, List.getElem?_eq_getElem hj] at e
 exact nodup_inj (frc_nodup p r w) hi hj e
theorem frc_find {k : Nat} (hk : k < w) (hf : ∀ a, a < r → p a ≠ k) : ∃ i, i < (frc p r w).length ∧ (frc p r w).getD i 0 = k := by
 have h0 : isP p r k = false := by
  cases he : isP p r k with
  | false => rfl
  | true =>
   obtain ⟨i, hi, e⟩ := isP_iff.1 he
   exact absurd e (hf i hi)
 obtain ⟨x, hx, e⟩ := List.getElem_of_mem (frc_mem hk h0)
 exact ⟨x, hx, by rw [List.getD_eq_getElem?_getD, List.getElem?_eq_getElem hx, e]; rfl⟩
theorem dot_zero {q : Nat} {i : Nat} (hi : i < r) : sm (fun t => R t q * R i (p t)) r = R i q := sm_pick hi fun k hk => by
 rw [h.un k i hk hi]
 by_cases e : k = i
 ·rw [if_pos e, if_pos e.symm, e, Int.mul_one]
 ·rw [if_neg e, if_neg fun e1 => e e1.symm, Int.mul_zero]
theorem fam_ker : Fam (KerG R r w) w (frc p r w).length (krM R p r w) (fun i => (frc p r w).getD i 0) where
 cw := fun i hi => (frc_get h hi).1
 mem := fun i hi a ha => by
  obtain ⟨h1, h2⟩ := frc_get h hi
  have := kvc_dot h h1 h2 (R a) (Nat.le_refl _)
  rw [dot_zero h ha, Int.sub_self] at this
  refine MM.trans (MM.of_eq (sm_congr fun j _ => Int.mul_comm _ _)) this
 dl := fun i j hi hj => by
  obtain ⟨h1, h2⟩ := frc_get h hi
  obtain ⟨h3, h4⟩ := frc_get h hj
  unfold krM
  by_cases e : i = j
  ·rw [if_pos e, e, kvc_at h4]
   exact MM.rfl
  ·rw [if_neg e, kvc_off h (Nat.le_refl _) h4 fun e1 => e (frc_inj h hi hj e1.symm)]
   exact MM.rfl
 no := fun x hx h0 k hk => by
  by_cases hf : ∀ a, a < r → p a ≠ k
  ·obtain ⟨i, hi, e⟩ := frc_find h hk hf
   rw [← e]
   exact h0 i hi
  ·obtain ⟨a, ha⟩ := Classical.not_forall.1 hf
   have ha1 : a < r := Decidable.byContradiction fun hn => ha fun hc => absurd hc hn
   have ha2 : p a = k := Decidable.byContradiction fun hn => ha fun _ => hn
   subst ha2
   refine MM.trans (MM.symm ?_) (hx a ha1)
   refine (sm_MM (g := fun j => if j = p a then x (p a) else 0) fun j hj => ?_).trans (MM.of_eq (sm_at hk _))
   by_cases e : j = p a
   ·rw [if_pos e, e, h.un a a ha1 ha1, if_pos rfl, Int.one_mul]
    exact MM.rfl
   ·rw [if_neg e]
    by_cases hf2 : ∀ b, b < r → p b ≠ j
    ·obtain ⟨i, hi, e2⟩ := frc_find h hj hf2
     have := h0 i hi
     rw [e2] at this
     exact (MM.mul MM.rfl this).trans (MM.of_eq (Int.mul_zero _))
    ·obtain ⟨b, hb⟩ := Classical.not_forall.1 hf2
     have hb1 : b < r := Decidable.byContradiction fun hn => hb fun hc => absurd hc hn
     have hb2 : p b = j := Decidable.byContradiction fun hn => hb fun _ => hn
     subst hb2
     rw [h.un b a hb1 ha1, if_neg fun e1 => e (by rw [e1]), Int.zero_mul]
     exact MM.rfl
theorem fam_row : Fam (KerG (krM R p r w) (frc p r w).length w) w r R p where
 cw := h.pw
 mem := fun a ha i hi => by
  obtain ⟨h1, h2⟩ := frc_get h hi
  have := kvc_dot h h1 h2 (R a) (Nat.le_refl _)
  rw [dot_zero h ha, Int.sub_self] at this
  exact this
 dl := fun i j hi hj => by rw [h.un j i hj hi]; exact MM.rfl
 no := fun x hx h0 k hk => by
  by_cases hf : ∀ a, a < r → p a ≠ k
  ·obtain ⟨i, hi, e⟩ := frc_find h hk hf
   have h1 := kvc_dot h hk hf x (Nat.le_refl _)
   have h2 : MM (sm (fun t => R t k * x (p t)) r) 0 := (sm_MM (g := fun _ => 0) fun t ht => (MM.mul MM.rfl (h0 t ht)).trans (MM.of_eq (Int.mul_zero _))).trans (MM.of_eq (sm_zero fun _ _ => rfl))
   have h3 := hx i hi
   unfold krM at h3
   rw [e] at h3
   have h4 := (MM.sub (MM.rfl (a := x k)) h2).symm.trans (h1.symm.trans h3)
   rw [Int.sub_zero] at h4
   exact h4
  ·obtain ⟨a, ha⟩ := Classical.not_forall.1 hf
   have ha1 : a < r := Decidable.byContradiction fun hn => ha fun hc => absurd hc hn
   have ha2 : p a = k := Decidable.byContradiction fun hn => ha fun _ => hn
   subst ha2
   exact h0 a ha1
end
theorem gj_rdx {M : Nat → Nat → Int} {n w : Nat} (hM : numM M) : Rdx (gj n M w).1 (fsr (gj n M w).1 w) (gj n M w).2.1 w where
 pw := fun i hi => (gj_fsr hM hi).1
 un := fun i a hi ha => (gj_fsr hM hi).2 a (Nat.lt_of_lt_of_le ha (gj_ok (n := n) hM w).2.1)
theorem ker_rows {M : Nat → Nat → Int} {n w : Nat} (hM : numM M) (x : Nat → Int) : KerG (gj n M w).1 (gj n M w).2.1 w x ↔ KerG M n w x := by
 have hn := (gj_ok (n := n) hM w).2.1
 constructor
 ·intro h
  refine gj_ker_rev hM w fun i hi => ?_
  by_cases e : i < (gj n M w).2.1
  ·exact h i e
  ·exact MM.of_eq (sm_zero fun j hj => by rw [(gj_piv (n := n) hM w).zr i (by omega) hi j hj, Int.zero_mul])
 ·intro h i hi
  exact gj_ker hM h w i (by omega)
theorem ker_fam {M : Nat → Nat → Int} {n w : Nat} (hM : numM M) : ∃ y c, Fam (KerG M n w) w (w - (gj n M w).2.1) y c := by
 have h := (fam_ker (gj_rdx (n := n) (w := w) hM)).iff (ker_rows hM)
 have e := frc_all (gj_rdx (n := n) (w := w) hM)
 refine ⟨krM (gj n M w).1 (fsr (gj n M w).1 w) (gj n M w).2.1 w, fun i => (frc (fsr (gj n M w).1 w) (gj n M w).2.1 w).getD i 0, ?_⟩
 rw [show w - (gj n M w).2.1 = (frc (fsr (gj n M w).1 w) (gj n M w).2.1 w).length from by omega]
 exact h
theorem rank_le {M : Nat → Nat → Int} {n w : Nat} (hM : numM M) : (gj n M w).2.1 ≤ w := (gj_piv (n := n) hM w).le
theorem rank_same {M M' : Nat → Nat → Int} {n n' w : Nat} (hM : numM M) (hM' : numM M') (h : ∀ x, KerG M n w x ↔ KerG M' n' w x) : (gj n M w).2.1 = (gj n' M' w).2.1 := by
 obtain ⟨y, c, f⟩ := ker_fam (n := n) (w := w) hM
 obtain ⟨y', c', f'⟩ := ker_fam (n := n') (w := w) hM'
 have := fam_eq (linP_ker _ _ _) (f.iff h) f'
 have := rank_le (n := n) (w := w) hM
 have := rank_le (n := n') (w := w) hM'
 omega
theorem krN_eq {M : Nat → Nat → Int} {n w : Nat} (hM : numM M) : krN (gj n M w).1 (gj n M w).2.1 w = w - (gj n M w).2.1 := by
 have h := gj_rdx (n := n) (w := w) hM
 have e := frc_all h
 obtain ⟨y, c, f⟩ := ker_fam (n := (frc (fsr (gj n M w).1 w) (gj n M w).2.1 w).length) (w := w) (krM_num (gj n M w).1 (fsr (gj n M w).1 w) (gj n M w).2.1 w)
 have := fam_eq (linP_ker _ _ _) f (fam_row h)
 have := rank_le (n := (frc (fsr (gj n M w).1 w) (gj n M w).2.1 w).length) (w := w) (krM_num (gj n M w).1 (fsr (gj n M w).1 w) (gj n M w).2.1 w)
 unfold krN
 omega
theorem cmQ_eq {M : Nat → Nat → Int} {L : Nat → Nat → Nat → Int} {N n K : Nat} (hM : numM M) (hL : ∀ k, numM (L k)) (hK : 0 < K) (h : ∀ x, KerG M N n x ↔ ∀ k, k < K → KerG (L k) n n x) : cmQ n (cmn n L K) = n - (gj N M n).2.1 := by
 have hC := num_cmn (n := n) hL K
 have e := rank_same (M' := (cmn n L K).1) (n' := (cmn n L K).2) hM hC fun x => (h x).trans ⟨fun hx => (cmn_ker hL hx).1, fun hx => cmn_ker_rev hL hx⟩
 unfold cmQ
 rw [e]
 split
 ·rename_i h0
  have := (gj_ok (n := (cmn n L K).2) hC n).2.1
  omega
 ·exact krN_eq hC
end Go.Proofs.YtdpinkgkmcbckaaGreat
/- Actions of a ring: what they are, and their first fault. -/
namespace Go.Proofs.YtdpinkgkmcbckaaGreat
open Go.RowKit
def PlA (m : Nat) (A : List (List (List Int))) (i : Nat) : Prop := (mat A i).length = m ∧ ∀ x, x < m → (row (mat A i) x).length = m ∧ ∀ y, y < m → 0 ≤ at3 A i x y ∧ at3 A i x y ≤ 1000
def FmP (n m : Nat) (A : List (List (List Int))) : Prop := A.length = n ∧ 1 ≤ m ∧ m ≤ 16 ∧ ∀ i, i < n → PlA m A i
def FamP (n : Nat) (A : List (List (List Int))) : Prop := FmP n (mat A 0).length A
section
variable (T A : List (List (List Int)))
def lfA (i j x y : Nat) (z : Nat) : Int := at3 A i x z * at3 A j z y
def rgA (i j x y : Nat) (k : Nat) : Int := at3 T i j k * at3 A k x y
def PrA (i j : Nat) : Prop := ∀ x, x < (mat A 0).length → ∀ y, y < (mat A 0).length → sm (lfA A i j x y) (mat A 0).length = sm (rgA T A i j x y) T.length
open Classical in
noncomputable def a1 (i j : Nat) : Option (List Int) := if PrA T A i j then none else some [1, (i : Int), (j : Int)]
open Classical in
noncomputable def a2 (i : Nat) : Option (List Int) := if mat A (dd T i) = trp (mat A i) then none else some [2, (i : Int)]
noncomputable def A1 : Option (List Int) := fnd T.length fun i => fnd T.length fun j => a1 T A i j
noncomputable def A2 : Option (List Int) := fnd T.length fun i => a2 T A i
open Classical in
noncomputable def AF : Option (List Int) := if mat A 0 = matL unM (mat A 0).length (mat A 0).length then (match A1 T A with
 | some v => some v
 | none => A2 T A) else some [0]
def ActP : Prop := RngP T ∧ FamP T.length A ∧ AF T A = none
end
theorem AF0 {T A : List (List (List Int))} (h : mat A 0 ≠ matL unM (mat A 0).length (mat A 0).length) : AF T A = some [0] := if_neg h
theorem AF1 {T A : List (List (List Int))} {v : List Int} (h : mat A 0 = matL unM (mat A 0).length (mat A 0).length) (h1 : A1 T A = some v) : AF T A = some v := by unfold AF; rw [if_pos h, h1]
theorem AF2 {T A : List (List (List Int))} (h : mat A 0 = matL unM (mat A 0).length (mat A 0).length) (h1 : A1 T A = none) : AF T A = A2 T A := by unfold AF; rw [if_pos h, h1]
theorem fam_mat {n : Nat} {A : List (List (List Int))} (h : FamP n A) {i : Nat} (hi : i < n) : mat A i = matL (at3 A i) (mat A 0).length (mat A 0).length := by
 obtain ⟨h1, h2, h3, h4⟩ := h
 obtain ⟨e1, e2⟩ := h4 i hi
 apply List.ext_getElem?
 intro x
 by_cases hx : x < (mat A 0).length
 ·unfold matL
  rw [rws_get _ _ _ hx]
  have e3 : (mat A i)[x]? = some (row (mat A i) x) := by
   unfold row
   rw [List.getD_eq_getElem?_getD, List.getElem?_eq_getElem (show x < (mat A i).length by omega)]
   rfl
  rw [e3]
  refine congrArg some ?_
  have e4 := (e2 x hx).1
  rw [← e4]
  exact (rws_self _).symm
 ·rw [List.getElem?_eq_none (by omega), List.getElem?_eq_none (by unfold matL; rw [zfe]; omega)]
theorem fam_bnd {n : Nat} {A : List (List (List Int))} (h : FamP n A) (i x y : Nat) : 0 ≤ at3 A i x y ∧ at3 A i x y ≤ 1000 := by
 obtain ⟨h1, h2, h3, h4⟩ := h
 have z : at3 A i x y = 0 ∨ (0 ≤ at3 A i x y ∧ at3 A i x y ≤ 1000) := by
  by_cases hi : i < n
  ·obtain ⟨e1, e2⟩ := h4 i hi
   by_cases hx : x < (mat A 0).length
   ·obtain ⟨e3, e4⟩ := e2 x hx
    by_cases hy : y < (mat A 0).length
    ·exact .inr (e4 y hy)
    ·left
     unfold at3 atI
     rw [List.getD_eq_getElem?_getD, List.getElem?_eq_none (by omega)]
     rfl
   ·left
    unfold at3
    rw [row_out (by omega)]
    rfl
  ·left
   unfold at3
   have e : mat A i = [] := by
    unfold mat
    rw [List.getD_eq_getElem?_getD, List.getElem?_eq_none (by omega)]
    rfl
   rw [e]
   rfl
 omega
theorem fam_numM {n : Nat} {A : List (List (List Int))} (h : FamP n A) (i : Nat) : numM (at3 A i) := fun x y => by
 have := fam_bnd h i x y
 unfold num
 omega
def bgM (A : List (List (List Int))) (v : List Int) (r j : Nat) : Int := lsM (at3 A (r / (mat A 0).length)) (atI v (r / (mat A 0).length)) (r % (mat A 0).length) j
theorem num_bgM {n : Nat} {A : List (List (List Int))} (h : FamP n A) (v : List Int) : numM (bgM A v) := fun r j => num_lsM (fam_numM h _) _ _ _
theorem bg_ker {n : Nat} {A : List (List (List Int))} (h : FamP n A) (v : List Int) (w : Nat) (x : Nat → Int) : KerG (bgM A v) (n * (mat A 0).length) w x ↔ ∀ k, k < n → KerG (lsM (at3 A k) (atI v k)) (mat A 0).length w x := by
 obtain ⟨h1, h2, h3, h4⟩ := h
 constructor
 ·intro hx k hk i hi
  have hr : k * (mat A 0).length + i < n * (mat A 0).length := by
   have := Nat.mul_le_mul_right (mat A 0).length (show k + 1 ≤ n from hk)
   rw [Nat.succ_mul] at this
   omega
  have := hx _ hr
  unfold bgM at this
  have e1 : (k * (mat A 0).length + i) / (mat A 0).length = k := by rw [Nat.mul_comm, Nat.mul_add_div (by omega), Nat.div_eq_of_lt hi]; rfl
  have e2 : (k * (mat A 0).length + i) % (mat A 0).length = i := by rw [Nat.mul_comm, Nat.mul_add_mod, Nat.mod_eq_of_lt hi]
  rw [e1, e2] at this
  exact this
 ·intro hx r hr
  exact hx _ (Nat.div_lt_of_lt_mul (by rw [Nat.mul_comm]; exact hr)) _ (Nat.mod_lt _ (by omega))
def exN (A : List (List (List Int))) (n : Nat) (v : List Int) : Nat := (mat A 0).length - (gj (n * (mat A 0).length) (bgM A v) (mat A 0).length).2.1
theorem ex_same {n : Nat} {A : List (List (List Int))} (h : FamP n A) (h0 : 0 < n) (v : List Int) : cmQ (mat A 0).length (cmn (mat A 0).length (fun k => lsM (at3 A k) (atI v k)) n) = exN A n v :=
 cmQ_eq (num_bgM h v) (fun k => num_lsM (fam_numM h k) _) h0 (bg_ker h v _)
theorem pr_iff {T A : List (List (List Int))} {i j : Nat} : PrA T A i j ↔ matL (fun x y => sm (rgA T A i j x y) T.length) (mat A 0).length (mat A 0).length = matL (fun x y => sm (lfA A i j x y) (mat A 0).length) (mat A 0).length (mat A 0).length := by
 constructor
 ·intro h
  unfold matL
  exact rws_congr fun x hx => rws_congr fun y hy => (h x hx y hy).symm
 ·intro h x hx y hy
  have h1 := congrArg (fun S => atI (row S x) y) h
  rw [matL_at hx hy, matL_at hx hy] at h1
  exact h1.symm
end Go.Proofs.YtdpinkgkmcbckaaGreat
