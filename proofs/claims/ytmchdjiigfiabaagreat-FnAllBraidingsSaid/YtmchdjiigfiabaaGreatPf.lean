/- Texts joined: Bi8 Bi9. -/
import Derived.TacticsIn
import Derived.TacticsInMore
import Derived.WalkKit
import Derived.Test.YtmchdjiigfiabaaGreatPe
set_option linter.all false
/- All braidings are visited (program), II. -/
namespace Go.Proofs.YtmchdjiigfiabaaGreat
open Go.RowKit
set_option maxRecDepth 1000000
attribute [local go_sem] Oper.semAt_some
theorem asgB {l k : Nat} {t : Array Value} {u v : Value} {W : World} {K : Act → World → Prop} {id : Nat} {ty : TypeId} {ps : String} (h1 : 42 < t.size) (h2 : 43 < t.size) (hK : K { tmps := ((t.setIfInBounds 42 u).setIfInBounds 43 v).setIfInBounds 11 u, defers := [] } W) :
  (Code.region id #[{ dst := some 11, op := Op.assign (Operand.tmp 42), type := ty, pos := ps, after := #[], guard := none }] false).wpIn (Fence.wide.inRound l) k Tryz.prog (Exit.then K fun _ _ _ => False) { tmps := (t.setIfInBounds 42 u).setIfInBounds 43 v, defers := [] } W := by
 have hg : ((t.setIfInBounds 42 u).setIfInBounds 43 v).getD 42 undef = u := by
  rw [Array.getD_eq_getD_getElem?, Array.getElem?_setIfInBounds_ne (by decide)]
  simp [h1]
 gi_wp2
 exact hK
section
variable {O : List Int} {m : Nat} {F : Nat → Nat → Nat → Int} {c : AV}
def InvB (O : List Int) (m k gL g8 gT : Nat) (st0 : St) (pre : List (BX tV (O.length * O.length))) (st : St) : Prop :=
 st.sl = st0.sl ∧ st.gn = st0.gn ∧ (∀ s g, ¬ (s = 61488 ∧ g = gL) → ¬ (s = 57360 ∧ g = g8) → ¬ (s = 61520 ∧ g = gT) → st.ro s g = st0.ro s g) ∧ st.ro 61488 gL = some (rowL (lgF O m k (pre.map BX.i)).1) ∧ st.ro 57360 g8 = some (.bx [i64 ((lgF O m k (pre.map BX.i)).2.1 : Nat)]) ∧ st.ro 61520 gT = some (.bx [bo (lgF O m k (pre.map BX.i)).2.2])
set_option maxHeartbeats 16000000 in
theorem sEBy {rb : Ro} {gb : Nat → Nat} {gV sv gv : Nat} {ct : Nat → AV} {nx : Nat → Nat → AV} {stop : Bool} (hW : CoP O m F (szO O)) (sm : SmO O) (hr : O.length ≤ 3) (hc : isLLL c (cubeL F (szO O))) (hp : m ^ (O.length * O.length) ≤ 20000) (hsv : sv = 16384 ∨ sv = 16400) (hIn : XX.isIn gV = true)
  (h0 : rb sv gv = some (ct 0)) (hgv : gv ≤ gb sv) (hct : ∀ k, ¬ PL O m F (dgs m (O.length * O.length) k) → ct (k + 1) = ct k) (hnx : stop = false → ∀ k gA, PL O m F (dgs m (O.length * O.length) k) → nx k gA = ct (k + 1))
  (hV : ∀ k ro gn gA, k < m ^ (O.length * O.length) → PL O m F (dgs m (O.length * O.length) k) → ro sv gv = some (ct k) → gv ≤ gn sv → ro 53280 gA = some (matA (bdI O m F (LI O.length (dgs m (O.length * O.length) k)) (plI O)) (szO O) (szO O)) → gA ≤ gn 53280 →
   InS Tryz.prog gV [.agg [immL O, i64 (m : Int), c, .ref 53280 gA [] 0 (szO O)], .ptr sv gv [] 0] ro gn (fun r ro' gn' => r = bo stop ∧ Kx sv gv ro gn ro' gn' ∧ ro' sv gv = some (nx k gA))) :
  InS Tryz.prog 19 [.agg [immL O, i64 (m : Int), c], .fn gV [.ptr sv gv [] 0]] rb gb (fun r ro' gn' => r = bo true ∧ Kx sv gv rb gb ro' gn' ∧
   (((stop = false ∨ ∀ k, k < m ^ (O.length * O.length) → ¬ PL O m F (dgs m (O.length * O.length) k)) ∧ ro' sv gv = some (ct (m ^ (O.length * O.length)))) ∨
    (stop = true ∧ ∃ k gA, k < m ^ (O.length * O.length) ∧ PL O m F (dgs m (O.length * O.length) k) ∧ (∀ j, j < k → ¬ PL O m F (dgs m (O.length * O.length) j)) ∧ ro' sv gv = some (nx k gA) ∧ gb 53280 < gA ∧ gA ≤ gn' 53280 ∧ ro' 53280 gA = some (matA (bdI O m F (LI O.length (dgs m (O.length * O.length) k)) (plI O)) (szO O) (szO O))))) := by
 have hO := hW.s.g sm.l6
 have ho := isL_imm O
 have hm := hW.s.m
 have n8 := hW.s.n8
 have hl1 := hO.l1
 have hn0 := hW.s.pos
 have lX : (cubeL F (szO O)).length = szO O := zfe _ _
 have co := cOwnG hO
 have h3 : ¬ (3 : Int) < O.length := by omega
 have hrr : O.length * O.length ≤ 9 := Nat.mul_le_mul hr hr
 have hr1 : 1 ≤ O.length * O.length := Nat.mul_le_mul hl1 hl1
 have hll : ((O.length : Nat) : Int) * O.length = ((O.length * O.length : Nat) : Int) := (Int.natCast_mul _ _).symm
 have hm' : ((O.length * O.length : Nat) : Int) ≤ ((4294967296 : Nat) : Int) := by omega
 have hge : (0 : Int) ≤ ((O.length * O.length : Nat) : Int) := by omega
 refine in_ofS (fn := Tryz.f19) (code := bodyOf Tryz.f19) Tryz.func19 rfl (by kernel_rfl) ?_
 intro sl hs
 have s0 : sl 0 = .agg [immL O, i64 (m : Int), c] := hs 0
 have s1 : sl 1 = .fn gV [.ptr sv gv [] 0] := hs 1
 dsimp only [Tryz.f19, bodyOf, Option.getD]
 refine Yby ?_
 refine CLL_pure _ co PUt rfl rfl ?_
 simp (maxSteps := 10000000) (disch := first | assumption | omega) only [go_sem, ↓reduceIte, Nat.reduceEqDiff, reduceCtorEq, Nat.reduceAdd, Nat.reduceMul, Nat.reduceLeDiff, zc, Int.reduceToNat, s0, s1, impE_row, zfe, tiC]
 simp (maxSteps := 10000000) (disch := first | assumption | omega) only [go_sem, ↓reduceIte, Nat.reduceEqDiff, reduceCtorEq, Nat.reduceAdd, Nat.reduceMul, Nat.reduceLeDiff, zc, Int.reduceToNat, s0, s1, eq_false h3, hll]
 obtain ⟨gc, hgc⟩ : ∃ g, g = gb 4096 + 1 := ⟨_, rfl⟩
 obtain ⟨go, hgo⟩ : ∃ g, g = gb 8224 + 1 := ⟨_, rfl⟩
 obtain ⟨g5, hg5⟩ : ∃ g, g = gb 8240 + 1 := ⟨_, rfl⟩
 obtain ⟨g6, hg6⟩ : ∃ g, g = gb 12320 + 1 := ⟨_, rfl⟩
 refine WK_abs (fun sl ro gn => (sl 1 = .fn gV [.ptr sv gv [] 0] ∧ sl 2 = .ptr 4096 gc [] 0 ∧ sl 5 = .ptr 8240 g5 [] 0 ∧ sl 6 = .ptr 12320 g6 [] 0 ∧ sl 7 = i64 1 ∧ sl 22 = i64 ((O.length * O.length : Nat) : Int) ∧ sl 23 = i64 0) ∧ (ro 4096 gc = some (.bx [immL O, i64 (m : Int), c]) ∧ ro 8240 g5 = some (.bx [.ref 8224 go [] 0 O.length]) ∧ ro 8224 go = some (.row (rws (fun i => i64 (genI O i)) O.length)) ∧ ro 12320 g6 = some (.bx [i64 (O.length : Nat)])) ∧
  (gc ≤ gn 4096 ∧ g5 ≤ gn 8240 ∧ go ≤ gn 8224 ∧ g6 ≤ gn 12320) ∧ ∀ t u, Kx t u rb gb ro gn) ?_ ?_
 ·simp only [↓za, ↓reduceIte, Nat.reduceEqDiff, zb, reduceCtorEq, s1, ← hgc, ← hgo, ← hg5, ← hg6]
  refine ⟨⟨Nat.le_refl _, Nat.le_refl _, Nat.le_refl _, Nat.le_refl _⟩, fun t u => ?_⟩
  subst hgc hgo hg5 hg6
  exact (by (repeat' first | assumption | exact Kx.refl _ _ _ _ | refine Kx.al ?_ _ _ _ rfl | refine Kx.wr ?_ _ _ _ (by omega)))
 rintro sl rI gI ⟨⟨s1, s2, s5, s6, s7, s22, s23⟩, ⟨q1, q2, q3, q4⟩, ⟨p1, p2, p3, p4⟩, frI⟩
 have q3' : rI 8224 go = some (.row (rws (fun i => i64 (gen O i : Nat)) O.length)) := by
  rw [q3]
  exact congrArg (fun z => some (AV.row z)) (rws_congr fun i hi => by rw [sm.gnI hi])
 refine WK_for (fun w st => st.sl 1 = .fn gV [.ptr sv gv [] 0] ∧ st.sl 2 = .ptr 4096 gc [] 0 ∧ st.sl 5 = .ptr 8240 g5 [] 0 ∧ st.sl 6 = .ptr 12320 g6 [] 0 ∧ st.sl 22 = i64 ((O.length * O.length : Nat) : Int) ∧ st.sl 23 = i64 (w : Int) ∧ st.sl 7 = i64 ((m ^ w : Nat) : Int) ∧ (st.ro = rI) ∧ (st.gn = gI)) ((O.length * O.length)) ?_ ?_ ?_
 ·refine Yan ?_
  refine ⟨s2, s5, s6, s22, s23, ?_⟩
  rw [Nat.pow_zero]
  exact s7
 ·rintro w sl ro gn hw ⟨s1, s2, s5, s6, s22, s23, s7, er, eg⟩
  dsimp only at s1 s2 s5 s6 s22 s23 s7
  have hw' : (w : Int) < ((O.length * O.length) : Nat) := by omega
  dsimp only at er eg
  subst er eg
  have e1 : ((m ^ w : Nat) : Int) * (m : Int) = ((m ^ (w + 1) : Nat) : Int) := by rw [Nat.pow_succ, Int.natCast_mul]
  have e2 : m ^ (w + 1) ≤ m ^ (O.length * O.length) := Nat.pow_le_pow_right (by omega) hw
  have e3 : wrF ((m ^ (w + 1) : Nat) : Int) = ((m ^ (w + 1) : Nat) : Int) := zfu (by omega) (by omega)
  have hb : ¬ (20000 : Int) < ((m ^ (w + 1) : Nat) : Int) := by omega
  simp (maxSteps := 10000000) (disch := first | assumption | omega) only [go_sem, ↓reduceIte, Nat.reduceEqDiff, reduceCtorEq, Nat.reduceAdd, Nat.reduceMul, Nat.reduceLeDiff, zc, Int.reduceToNat, s1, s2, s5, s6, s22, s23, s7, hw', hw, tiC, q1, e1, e3, eq_false hb]
  exact i64c (by omega)
 ·rintro sl ro gn ⟨s1, s2, s5, s6, s22, s23, s7, er, eg⟩
  dsimp only at s1 s2 s5 s6 s22 s23 s7
  have hw' : ¬ (((O.length * O.length) : Nat) : Int) < ((O.length * O.length) : Nat) := by omega
  dsimp only at er eg
  subst er eg
  simp (maxSteps := 10000000) (disch := first | assumption | omega) only [go_sem, ↓reduceIte, Nat.reduceEqDiff, reduceCtorEq, Nat.reduceAdd, Nat.reduceMul, Nat.reduceLeDiff, zc, Int.reduceToNat, s1, s2, s5, s6, s22, s23, s7, hw']
  refine WK_for (fun k st => st.sl 1 = .fn gV [.ptr sv gv [] 0] ∧ st.sl 2 = .ptr 4096 gc [] 0 ∧ st.sl 5 = .ptr 8240 g5 [] 0 ∧ st.sl 6 = .ptr 12320 g6 [] 0 ∧ st.sl 32 = i64 ((m ^ (O.length * O.length) : Nat) : Int) ∧ st.sl 33 = i64 (k : Int) ∧ (Kx sv gv ro gn st.ro st.gn) ∧ (st.ro sv gv = some (ct k)) ∧ (stop = true → ∀ j, j < k → ¬ PL O m F (dgs m (O.length * O.length) j))) ((m ^ (O.length * O.length))) ?_ ?_ ?_
  ·simp only [↓za, ↓reduceIte, Nat.reduceEqDiff, zb, reduceCtorEq, rws_zero, s1, s2, s5, s6, s22, s23, s7, hw']
   exact ⟨rfl, Kx.refl _ _ _ _, ((frI 0 (gb 0 + 1)).kp sv gv hgv (by omega)).trans h0, fun _ j hj => absurd hj (Nat.not_lt_zero _)⟩
  ·rintro k sl ro gn hk ⟨s1, s2, s5, s6, s32, s33, fr, hcell, hno⟩
   dsimp only at s1 s2 s5 s6 s32 s33
   have hk' : (k : Int) < ((m ^ (O.length * O.length)) : Nat) := by omega
   dsimp only at fr hcell
   have k1 := (fr.kp 4096 gc p1 (by omega)).trans q1
   have k5 := (fr.kp 8240 g5 p2 (by omega)).trans q2
   have k7 := (fr.kp 8224 go p3 (by omega)).trans q3'
   have k6 := (fr.kp 12320 g6 p4 (by omega)).trans q4
   have hz0 : (List.replicate (O.length * O.length) (0 : Int)).length = O.length * O.length := List.length_replicate
   simp (maxSteps := 10000000) (disch := first | assumption | omega) only [go_sem, ↓reduceIte, Nat.reduceEqDiff, reduceCtorEq, Nat.reduceAdd, Nat.reduceMul, Nat.reduceLeDiff, zc, Int.reduceToNat, s1, s2, s5, s6, s32, s33, hk', hk, tiC, k6, hll, kMake, hge, hm', Int.le_refl, List.getD_cons_zero, rep_rws]
   refine CLL_in rfl _ _ _ (inBackR (zs := rws (fun _ => 0) (O.length * O.length)) (by simp only [↓za, ↓reduceIte, Nat.reduceEqDiff, zb, reduceCtorEq]; exact congrArg (fun z => some (AV.row z)) (isL_rws (fun _ => 0) _))) ?_
   simp (maxSteps := 10000000) (disch := first | assumption | omega) only [go_sem, ↓reduceIte, Nat.reduceEqDiff, reduceCtorEq, Nat.reduceAdd, Nat.reduceMul, Nat.reduceLeDiff, zc, Int.reduceToNat, s1, s2, s5, s6, s32, s33, hk', hk]
   obtain ⟨gL, hgL⟩ : ∃ g, g = gn 61488 + 1 := ⟨_, rfl⟩
   obtain ⟨g8, hg8⟩ : ∃ g, g = gn 57360 + 1 := ⟨_, rfl⟩
   obtain ⟨g9, hg9⟩ : ∃ g, g = gn 61504 + 1 := ⟨_, rfl⟩
   obtain ⟨gT, hgT⟩ : ∃ g, g = gn 61520 + 1 := ⟨_, rfl⟩
   obtain ⟨gQ, hgQ⟩ : ∃ g, g = gn 4096 + 1 := ⟨_, rfl⟩
   have u1 := fr.up 4096
   have u2 := fr.up 57360
   have u3 := fr.up 61488
   have u4 := fr.up 61504
   have u5 := fr.up 61520
   generalize hst : St.mk _ _ _ = st0
   have t41 : st0.sl 41 = .fn 79 [.ptr 4096 gQ [] 0] := by rw [← hst]; simp only [↓za, ↓reduceIte, Nat.reduceEqDiff, zb, reduceCtorEq, ← hgQ]
   have t1 : st0.sl 1 = .fn gV [.ptr sv gv [] 0] := by rw [← hst]; simp only [↓za, ↓reduceIte, Nat.reduceEqDiff, zb, reduceCtorEq, s1]
   have t2 : st0.sl 2 = .ptr 4096 gc [] 0 := by rw [← hst]; simp only [↓za, ↓reduceIte, Nat.reduceEqDiff, zb, reduceCtorEq, s2]
   have t5 : st0.sl 5 = .ptr 8240 g5 [] 0 := by rw [← hst]; simp only [↓za, ↓reduceIte, Nat.reduceEqDiff, zb, reduceCtorEq, s5]
   have t6 : st0.sl 6 = .ptr 12320 g6 [] 0 := by rw [← hst]; simp only [↓za, ↓reduceIte, Nat.reduceEqDiff, zb, reduceCtorEq, s6]
   have t8 : st0.sl 8 = .ptr 57360 g8 [] 0 := by rw [← hst]; simp only [↓za, ↓reduceIte, Nat.reduceEqDiff, zb, reduceCtorEq, ← hg8]
   have t9 : st0.sl 9 = .ptr 61504 g9 [] 0 := by rw [← hst]; simp only [↓za, ↓reduceIte, Nat.reduceEqDiff, zb, reduceCtorEq, ← hg9]
   have t10 : st0.sl 10 = .ptr 61520 gT [] 0 := by rw [← hst]; simp only [↓za, ↓reduceIte, Nat.reduceEqDiff, zb, reduceCtorEq, ← hgT]
   have t32 : st0.sl 32 = i64 ((m ^ (O.length * O.length) : Nat) : Int) := by rw [← hst]; simp only [↓za, ↓reduceIte, Nat.reduceEqDiff, zb, reduceCtorEq, s32]
   have t33 : st0.sl 33 = i64 (k : Int) := by rw [← hst]; simp only [↓za, ↓reduceIte, Nat.reduceEqDiff, zb, reduceCtorEq, s33]
   have frS : Kx sv gv ro gn st0.ro st0.gn := by rw [← hst]; exact (by (repeat' first | assumption | exact Kx.refl _ _ _ _ | refine Kx.al ?_ _ _ _ rfl | refine Kx.wr ?_ _ _ _ (by omega)))
   have b41 : st0.ro 4096 gQ = some (.bx [.ref 61488 gL [] 0 (O.length * O.length)]) := by rw [← hst]; simp only [↓za, ↓reduceIte, Nat.reduceEqDiff, zb, reduceCtorEq, ← hgQ, ← hgL]
   have b8 : st0.ro 57360 g8 = some (.bx [i64 (k : Int)]) := by rw [← hst]; simp only [↓za, ↓reduceIte, Nat.reduceEqDiff, zb, reduceCtorEq, ← hg8]
   have b9 : st0.ro 61504 g9 = some (.bx [.ref 61488 gL [] 0 (O.length * O.length)]) := by rw [← hst]; simp only [↓za, ↓reduceIte, Nat.reduceEqDiff, zb, reduceCtorEq, ← hg9, ← hgL]
   have bT : st0.ro 61520 gT = some (.bx [bo true]) := by rw [← hst]; simp only [↓za, ↓reduceIte, Nat.reduceEqDiff, zb, reduceCtorEq, ← hgT]
   have bL : st0.ro 61488 gL = some (rowL (lgF O m k []).1) := by
    rw [← hst]
    simp only [↓za, ↓reduceIte, Nat.reduceEqDiff, zb, reduceCtorEq, ← hgL]
    show some (AV.row (rws (fun _ => i64 0) _)) = some (AV.row ((List.replicate (O.length * O.length) (0 : Int)).map i64))
    rw [List.map_replicate, rep_rws]
   have x1 : gQ ≤ st0.gn 4096 := by rw [← hst, hgQ]; simp only [↓za, ↓reduceIte, Nat.reduceEqDiff, zb, reduceCtorEq]; exact Nat.le_refl _
   have x2 : gL ≤ st0.gn 61488 := by rw [← hst, hgL]; simp only [↓za, ↓reduceIte, Nat.reduceEqDiff, zb, reduceCtorEq]; exact Nat.le_refl _
   have b2 := (frS.kp 4096 gc (by omega) (by omega)).trans k1
   have b5 := (frS.kp 8240 g5 (by have := fr.up 8240; omega) (by omega)).trans k5
   have b7 := (frS.kp 8224 go (by have := fr.up 8224; omega) (by omega)).trans k7
   have b6 := (frS.kp 12320 g6 (by have := fr.up 12320; omega) (by omega)).trans k6
   have bC : st0.ro sv gv = some (ct k) := by
    rw [← hst]
    rcases hsv with e | e <;> subst e <;> simp only [↓za, ↓reduceIte, Nat.reduceEqDiff, zb, reduceCtorEq] <;> exact hcell
   clear hst
   refine WK_rf _ (semC_back (ta := 11) (n := O.length * O.length) (V := tV) true (by omega) hr1 (by decide) t41 (InvB O m k gL g8 gT st0) ⟨rfl, rfl, fun _ _ _ _ _ => rfl, bL, b8, bT⟩ (fun pre st h => ⟨h.1, _, lgF_len k _, fun _ _ => trivial, .inr ⟨61488, gL, (h.2.2.1 4096 gQ (by omega) (by omega) (by omega)).trans b41, h.2.2.2.1⟩⟩) (by kernel_rfl) (fun k h => by simpa [dstOK] using h) (fun l k t u v W K h1 h2 hK => asgB h1 h2 hK) ?_) ?_
   ·rintro pre x ⟨sl, ro, gn⟩ ⟨z0, z1, z2, z3, z4, z5⟩ hlen
    dsimp only at z0 z1 z2 z3 z4 z5
    have y2 := (z2 4096 gc (by omega) (by omega) (by omega)).trans b2
    have y5 := (z2 8240 g5 (by omega) (by omega) (by omega)).trans b5
    have y7 := (z2 8224 go (by omega) (by omega) (by omega)).trans b7
    have y6 := (z2 12320 g6 (by omega) (by omega) (by omega)).trans b6
    have y9 := (z2 61504 g9 (by omega) (by omega) (by omega)).trans b9
    have hxl := x.lt
    have hxi : (x.i : Int) < ((O.length * O.length : Nat) : Int) := Int.ofNat_lt.2 hxl
    have hlen2 := lgF_len (O := O) (m := m) k (pre.map BX.i)
    have hle := lgF_le (O := O) (m := m) k (pre.map BX.i)
    unfold InvB
    rw [List.map_append, List.map_singleton, lgF_app]
    generalize lgF O m k (pre.map BX.i) = t at z3 z4 z5 hlen2 hle ⊢
    obtain ⟨L, p, fb⟩ := t
    dsimp only at z3 z4 z5 hlen2 hle ⊢
    have hmz : ¬ (m : Int) = 0 := by omega
    have eu : (p : Int).tmod (m : Int) = ((p % m : Nat) : Int) := tmd p m
    have du : (p : Int).tdiv (m : Int) = ((p / m : Nat) : Int) := tdv p m
    have hdl := Nat.div_le_self p m
    have hml := Nat.mod_le p m
    have hLi : x.i < (L.set x.i ((p % m : Nat) : Int)).length := by rw [List.length_set, hlen2]; exact hxl
    have egl : ((L.set x.i ((p % m : Nat) : Int)).map i64)[x.i]? = some (i64 ((p % m : Nat) : Int)) := by
     rw [map_get_i hLi]
     unfold atI
     rw [List.getD_eq_getElem?_getD, List.getElem?_set_self (by omega)]
     rfl
    refine wk_ok (X := XX) _ ?_
    show WK XX _ [] _ _
    simp (maxSteps := 10000000) (disch := first | assumption | omega) only [go_sem, ↓reduceIte, Nat.reduceEqDiff, reduceCtorEq, Nat.reduceAdd, Nat.reduceMul, Nat.reduceLeDiff, zc, Int.reduceToNat, tiC, t2, t5, t6, t8, t9, t10, y2, y5, y6, y7, y9, z3, z4, z5, hxi, List.length_map, hlen2, map_set_i, eu, du]
    refine FIN_of (by kernel_rfl) ?_
    have ew : wrF ((p / m : Nat) : Int) = ((p / m : Nat) : Int) := by
     generalize p / m = q at hdl
     exact zfu (by omega) (by omega)
    refine Yap ?_
    cases fb with
    | false =>
     refine Yap ?_
     refine FIN_of (by kernel_rfl) ?_
     refine Yap ?_
     exact ⟨z1, fun s g a1 a2 a3 => by
      rw [if_neg a3, if_neg a2, if_neg a1]
      exact z2 s g a1 a2 a3, rfl⟩
    | true =>
     refine Yap ?_
     have hr0 : 0 < O.length := by omega
     have hdd : x.i / O.length < O.length := Nat.div_lt_of_lt_mul hxl
     have hdm : x.i % O.length < O.length := Nat.mod_lt _ hr0
     have d1 : (x.i : Int).tdiv (O.length : Int) = ((x.i / O.length : Nat) : Int) := tdv _ _
     have d2 : (x.i : Int).tmod (O.length : Int) = ((x.i % O.length : Nat) : Int) := tmd _ _
     have d3 : ((x.i / O.length : Nat) : Int) < (O.length : Int) := Int.ofNat_lt.2 hdd
     have d4 : ((x.i % O.length : Nat) : Int) < (O.length : Int) := Int.ofNat_lt.2 hdm
     have d5 : (rws (fun i => i64 (gen O i : Nat)) O.length)[x.i / O.length]? = some (i64 (gen O (x.i / O.length) : Nat)) := rws_get _ _ _ hdd
     have d6 : (rws (fun i => i64 (gen O i : Nat)) O.length)[x.i % O.length]? = some (i64 (gen O (x.i % O.length) : Nat)) := rws_get _ _ _ hdm
     have d7 : wrF ((x.i / O.length : Nat) : Int) = ((x.i / O.length : Nat) : Int) := zfu (Int.natCast_nonneg _) (by omega)
     by_cases c0 : ((p % m : Nat) : Int) = 0
     ·have c0' : p % m = 0 := by omega
      simp (maxSteps := 10000000) (disch := first | assumption | omega) only [go_sem, ↓reduceIte, Nat.reduceEqDiff, reduceCtorEq, Nat.reduceAdd, Nat.reduceMul, Nat.reduceLeDiff, zc, Int.reduceToNat, tiC, t2, t5, t6, t8, t9, t10, y2, y5, y6, y7, y9, z3, z4, z5, hxi, List.length_map, hlen2, map_set_i, eu, du, ew, egl, List.length_set, undef, d1, d2, d3, d4, d5, d6, d7, zfe, c0, decide_true, Bool.not_true]
      refine FIN_of (by kernel_rfl) ?_
      simp (maxSteps := 10000000) (disch := first | assumption | omega) only [go_sem, ↓reduceIte, Nat.reduceEqDiff, reduceCtorEq, Nat.reduceAdd, Nat.reduceMul, Nat.reduceLeDiff, zc, Int.reduceToNat, tiC, t2, t5, t6, t8, t9, t10, y2, y5, y6, y7, y9, z3, z4, z5, hxi, List.length_map, hlen2, map_set_i, eu, du, ew, egl, List.length_set, undef, d1, d2, d3, d4, d5, d6, d7, zfe, c0]
      exact ⟨z1, fun s g a1 a2 a3 => by
       rw [if_neg a3, if_neg a2, if_neg a1]
       exact z2 s g a1 a2 a3, by rw [show okD1 O (p % m) x.i = true by unfold okD1; rw [c0']; rfl]⟩
     ·have c0' : ¬ p % m = 0 := by omega
      simp (maxSteps := 10000000) (disch := first | assumption | omega) only [go_sem, ↓reduceIte, Nat.reduceEqDiff, reduceCtorEq, Nat.reduceAdd, Nat.reduceMul, Nat.reduceLeDiff, zc, Int.reduceToNat, tiC, t2, t5, t6, t8, t9, t10, y2, y5, y6, y7, y9, z3, z4, z5, hxi, List.length_map, hlen2, map_set_i, eu, du, ew, egl, List.length_set, undef, d1, d2, d3, d4, d5, d6, d7, zfe, eq_false c0, decide_false, Bool.not_false]
      have c0'' : (p % m == 0) = false := by simp [c0']
      by_cases c1 : ((gen O (x.i / O.length) : Nat) : Int) = 0
      ·have c1' : gen O (x.i / O.length) = 0 := by omega
       refine Ybt ?_
       refine FIN_of (by kernel_rfl) ?_
       refine Ybt ?_
       exact ⟨z1, fun s g a1 a2 a3 => by
        rw [if_neg a3, if_neg a2, if_neg a1]
        exact z2 s g a1 a2 a3, by rw [show okD1 O (p % m) x.i = false by unfold okD1; rw [c0'', c1']; rfl]⟩
      ·have c1' : (gen O (x.i / O.length) != 0) = true := by simp; omega
       simp (maxSteps := 10000000) (disch := first | assumption | omega) only [go_sem, ↓reduceIte, Nat.reduceEqDiff, reduceCtorEq, Nat.reduceAdd, Nat.reduceMul, Nat.reduceLeDiff, zc, Int.reduceToNat, tiC, t2, t5, t6, t8, t9, t10, y2, y5, y6, y7, y9, z3, z4, z5, hxi, List.length_map, hlen2, map_set_i, eu, du, ew, egl, List.length_set, undef, d1, d2, d3, d4, d5, d6, d7, zfe, eq_false c0, eq_false c1, decide_false, Bool.not_false]
       by_cases c2 : ((gen O (x.i % O.length) : Nat) : Int) = 0
       ·have c2' : gen O (x.i % O.length) = 0 := by omega
        refine Ybp ?_
        refine FIN_of (by kernel_rfl) ?_
        refine Ybp ?_
        exact ⟨z1, fun s g a1 a2 a3 => by
         rw [if_neg a3, if_neg a2, if_neg a1]
         exact z2 s g a1 a2 a3, by rw [show okD1 O (p % m) x.i = false by unfold okD1; rw [c0'', c1', c2']; rfl]⟩
       ·have c2' : (gen O (x.i % O.length) != 0) = true := by simp; omega
        refine Ybn ?_
        refine FIN_of (by kernel_rfl) ?_
        refine Ybn ?_
        exact ⟨z1, fun s g a1 a2 a3 => by
         rw [if_neg a3, if_neg a2, if_neg a1]
         exact z2 s g a1 a2 a3, by rw [show okD1 O (p % m) x.i = true by unfold okD1; rw [c0'', c1', c2']; rfl]⟩
   ·rintro e ⟨sl', ro', gn'⟩ ⟨rfl, xs, hxs, z0, z1, z2, z3, z4, z5⟩
    dsimp only at z0 z1 z2 z3 z4 z5
    rw [hxs] at z3 z5
    obtain ⟨w1, -, w3⟩ := lgF_dwn (O := O) (m := m) k (O.length * O.length) (Nat.le_refl _)
    have hdl := dgs_len m k (O.length * O.length)
    have hdm := dgs_lt (m := m) (by omega) k (O.length * O.length)
    have w3' : (lgF O m k (dwn (O.length * O.length) (O.length * O.length))).2.2 = true ↔ FnO O (dgs m (O.length * O.length) k) := by
     rw [w3, FnO_iff]
     exact ⟨fun h j hj => h j hj (by omega), fun h j hj _ => h j hj⟩
    have z3' : ro' 61488 gL = some (rowL (zl (dgs m (O.length * O.length) k))) := by
     rw [z3, w1, zl_dgs]
     exact congrArg (fun z => some (rowL z)) (rws_congr fun j hj => by rw [if_pos (by omega)])
    have hpl := PL_I (l := dgs m (O.length * O.length) k) hW sm hdl hdm
    clear z3 z4 w1 w3
    generalize (lgF O m k (dwn (O.length * O.length) (O.length * O.length))).2.2 = fb at z5 w3'
    have frE : Kx sv gv ro gn ro' gn' := by
     subst z1
     refine ⟨frS.up, fun x y h1 h2 => ?_⟩
     rw [z2 x y (by rintro ⟨rfl, rfl⟩; omega) (by rintro ⟨rfl, rfl⟩; omega) (by rintro ⟨rfl, rfl⟩; omega)]
     exact frS.kp x y h1 h2
    have y2 := (z2 4096 gc (by omega) (by omega) (by omega)).trans b2
    have y9 := (z2 61504 g9 (by omega) (by omega) (by omega)).trans b9
    have yC := (z2 sv gv (by omega) (by omega) (by omega)).trans bC
    have x2' : gL ≤ gn' 61488 := by rw [z1]; exact x2
    have v0 : gv ≤ gn' sv := by
     have := fr.up sv
     have := frE.up sv
     have := (frI sv gv).up sv
     omega
    have v1 := frE.up 4096
    subst z0
    clear z1 z2 b2 b5 b6 b7 b8 b9 bT bL b41 frS bC
    cases fb with
    | false =>
     have hF : ¬ FnO O (dgs m (O.length * O.length) k) := fun h => by cases w3'.2 h
     have hnP : ¬ PL O m F (dgs m (O.length * O.length) k) := fun h => hF (hpl.1 h).1
     simp (maxSteps := 10000000) (disch := first | assumption | omega) only [go_sem, ↓reduceIte, Nat.reduceEqDiff, reduceCtorEq, Nat.reduceAdd, Nat.reduceMul, Nat.reduceLeDiff, zc, Int.reduceToNat, tiC, t1, t2, t5, t6, t9, t10, t32, t33, y2, y9, z5]
     refine ⟨i64c (by omega), fr.trans frE (.inr ⟨rfl, rfl⟩), yC.trans (by rw [hct k hnP]), fun hs j hj => ?_⟩
     rcases Nat.lt_or_eq_of_le (Nat.le_of_lt_succ hj) with h | h
     ·exact hno hs j h
     ·exact h ▸ hnP
    | true =>
     have hF : FnO O (dgs m (O.length * O.length) k) := w3'.1 rfl
     simp (maxSteps := 10000000) (disch := first | assumption | omega) only [go_sem, ↓reduceIte, Nat.reduceEqDiff, reduceCtorEq, Nat.reduceAdd, Nat.reduceMul, Nat.reduceLeDiff, zc, Int.reduceToNat, tiC, t1, t2, t5, t6, t9, t10, t32, t33, y2, y9, z5]
     refine CLL_inS rfl (sByL hW sm hr hc hdl hdm z3' x2') ?_
     rintro _ ro1 gn1 ⟨fk, gA, rfl, hA1, hA2, hA⟩
     dsimp only at fk hA1 hA2 hA
     have hbk : (blkO (ro1 53280 gA)).isSome = true := by rw [hA]; rfl
     have fx := fk.kx
     have frF : Kx sv gv ro gn ro1 gn1 := frE.trans fx (.inl (by have := frE.up 12336; omega))
     have r2 := (fx.kp 4096 gc (by omega) (by omega)).trans y2
     have rC := (fx.kp sv gv v0 (by omega)).trans yC
     have v2 := fx.up sv
     obtain ⟨gX, hgX⟩ : ∃ g, g = gn1 90160 + 1 := ⟨_, rfl⟩
     refine Yak ?_
     have frG : ∀ u v, Kx sv gv ro gn (upr (upr ro1 90160 gX u) 90160 gX v) (upg gn1 90160 gX) := fun u v => by
      have := frF.up 90160
      exact (frF.al 90160 gX u hgX).wr 90160 gX v (.inl (by omega))
     have rC' : ∀ u v, (upr (upr ro1 90160 gX u) 90160 gX v) sv gv = some (ct k) := fun u v => by
      rcases hsv with e | e <;> subst e <;> simp only [↓za, ↓reduceIte, Nat.reduceEqDiff, zb, reduceCtorEq] <;> exact rC
     have hno2 : ∀ (h : ¬ PL O m F (dgs m (O.length * O.length) k)), stop = true → ∀ j, j < k + 1 → ¬ PL O m F (dgs m (O.length * O.length) j) := fun h0 hs j hj => by
      rcases Nat.lt_or_eq_of_le (Nat.le_of_lt_succ hj) with h | h
      ·exact hno hs j h
      ·exact h ▸ h0
     have aM : exq 6 (upr (upr ro1 90160 gX (.bx [nilA, i64 0, nilA, nilA])) 90160 gX (.bx [immL O, i64 (m : Int), c, .ref 53280 gA [] 0 (szO O)])) (.ref 53280 gA [] 0 (szO O)) (immLL (matL (bdI O m F (LI O.length (dgs m (O.length * O.length) k)) (plI O)) (szO O) (szO O))) := exq_mat (Ue hA) (by decide)
     by_cases hP : PrP (szO O) m (bdI O m F (LI O.length (dgs m (O.length * O.length) k)) (plI O)) (szO O) (szO O)
     ·refine CLL_q _ (cPairI (t := true) (G := bdI O m F (LI O.length (dgs m (O.length * O.length) k)) (plI O)) (k := szO O) (l := szO O) (isLL_imm _) (by omega) (by omega) (by simp [hP])) (.cons (exq_mat (Ue hA) (by decide)) (.cons (exq_sc _ _ _ (by decide)) (.cons (exq_sc _ _ _ (by decide)) .nil))) rfl rfl rfl ?_
      have hBs : BsP O m F (szO O) (bdI O m F (LI O.length (dgs m (O.length * O.length) k)) (plI O)) (szO O) (szO O) := ⟨hW, hP⟩
      have cF := cFaultB (isL_imm O) sm.l6 hc (isLL_imm _) hBs
      refine Yak ?_
      rcases hf : ft18 O m F (bdI O m F (LI O.length (dgs m (O.length * O.length) k)) (plI O)) (szO O) with _ | lst
      ·rw [hf] at cF
       change CallOK Tryz.prog _ _ nilA at cF
       have hPL : PL O m F (dgs m (O.length * O.length) k) := hpl.2 ⟨hF, hBs, hf⟩
       refine CLL_q _ cF (.cons (exq_agg (.cons (exq_L (isL_imm O) (by decide)) (.cons (exq_sc _ _ _ (by decide)) (.cons (exq_LLL hc (by decide)) (.cons (exq_mat (Ue hA) (by decide)) .nil))))) .nil) rfl rfl rfl ?_
       refine Yak ?_
       refine CLL_inS hIn (hV k _ _ gA hk hPL (rC' _ _) (by show gv ≤ upg gn1 90160 gX sv; rw [zda, if_neg (by omega)]; omega) (Ue hA) (Ue hA2)) ?_
       rintro _ ro2 gn2 ⟨rfl, fV, cV⟩
       dsimp only at fV cV
       have frV := fr.trans ((frG _ _).trans fV (.inr ⟨rfl, rfl⟩)) (.inr ⟨rfl, rfl⟩)
       cases stop with
       | false =>
        refine Yak ?_
        exact ⟨i64c (by omega), frV, cV.trans (by rw [hnx rfl k gA hPL])⟩
       | true =>
        refine Yak ?_
        have a1 := (frI 0 0).up 53280
        have a2 := fr.up 53280
        have a3 := frE.up 53280
        have a4 := fV.up 53280
        have a5 : upg gn1 90160 gX 53280 = gn1 53280 := by simp only [↓za, ↓reduceIte, Nat.reduceEqDiff, zb, reduceCtorEq]
        rw [a5] at a4
        have a6 := (fV.kp 53280 gA (by rw [a5]; exact hA2) (by omega)).trans (show upr (upr ro1 90160 gX _) 90160 gX _ 53280 gA = _ from (Ue hA))
        exact RETS_1 (bo true) Ur ⟨rfl, (frI sv gv).trans frV (.inr ⟨rfl, rfl⟩), .inr ⟨k, gA, hk, hPL, hno rfl, cV, by omega, by omega, a6⟩⟩
      ·rw [hf] at cF
       change CallOK Tryz.prog _ _ (rowL lst) at cF
       have hnP : ¬ PL O m F (dgs m (O.length * O.length) k) := fun h => by
        have := (hpl.1 h).2.f
        rw [hf] at this
        cases this
       refine CLL_q _ cF (.cons (exq_agg (.cons (exq_L (isL_imm O) (by decide)) (.cons (exq_sc _ _ _ (by decide)) (.cons (exq_LLL hc (by decide)) (.cons (exq_mat (Ue hA) (by decide)) .nil))))) .nil) rfl rfl (noI_rowL _) ?_
       refine Yak ?_
       refine ⟨i64c (by omega), fr.trans ((frG _ _).al 94368 (gn1 94368 + 1) (rowL lst) rfl) (.inr ⟨rfl, rfl⟩), ?_, hno2 hnP⟩
       rw [if_neg (by omega), if_neg (by omega), if_neg (by omega), rC, hct k hnP]
     ·have hnP : ¬ PL O m F (dgs m (O.length * O.length) k) := fun h => hP (hpl.1 h).2.s.p
      refine CLL_q _ (cPairI (t := false) (G := bdI O m F (LI O.length (dgs m (O.length * O.length) k)) (plI O)) (k := szO O) (l := szO O) (isLL_imm _) (by omega) (by omega) (by simp [hP])) (.cons (exq_mat (Ue hA) (by decide)) (.cons (exq_sc _ _ _ (by decide)) (.cons (exq_sc _ _ _ (by decide)) .nil))) rfl rfl rfl ?_
      refine Yak ?_
      refine ⟨i64c (by omega), fr.trans (frG _ _) (.inr ⟨rfl, rfl⟩), (rC' _ _).trans (by rw [hct k hnP]), hno2 hnP⟩
  ·rintro sl ro gn ⟨s1, s2, s5, s6, s32, s33, fr, hcell, hno⟩
   dsimp only at s1 s2 s5 s6 s32 s33
   have hk' : ¬ (((m ^ (O.length * O.length)) : Nat) : Int) < ((m ^ (O.length * O.length)) : Nat) := by omega
   dsimp only at fr hcell
   simp (maxSteps := 10000000) (disch := first | assumption | omega) only [go_sem, ↓reduceIte, Nat.reduceEqDiff, reduceCtorEq, Nat.reduceAdd, Nat.reduceMul, Nat.reduceLeDiff, zc, Int.reduceToNat, s1, s2, s5, s6, s32, s33, hk']
   have hno' : stop = false ∨ ∀ k, k < m ^ (O.length * O.length) → ¬ PL O m F (dgs m (O.length * O.length) k) := by
    cases stop with
    | false => exact .inl rfl
    | true => exact .inr (hno rfl)
   exact RETS_1 (bo true) Ur ⟨rfl, (frI sv gv).trans fr (.inr ⟨rfl, rfl⟩), .inl ⟨hno', hcell⟩⟩
end
end Go.Proofs.YtmchdjiigfiabaaGreat
/- Counting braidings (program). -/
namespace Go.Proofs.YtmchdjiigfiabaaGreat
open Go.RowKit
set_option maxRecDepth 1000000
section
variable {O : List Int} {m n : Nat} {F : Nat → Nat → Nat → Int} {o c : AV}
noncomputable def ctN (O : List Int) (m : Nat) (F : Nat → Nat → Nat → Int) (d k : Nat) : Nat := ((List.range k).filter fun j => tsP O m F (dgs m d j)).length
theorem ctN_le (d k : Nat) : ctN O m F d k ≤ k := by
 unfold ctN
 exact Nat.le_trans (List.length_filter_le _ _) (by rw [List.length_range]; exact Nat.le_refl _)
theorem ctN_t {d k : Nat} (h : PL O m F (dgs m d k)) : ctN O m F d (k + 1) = ctN O m F d k + 1 := by
 unfold ctN
 rw [List.range_succ, List.filter_append, List.length_append]
 simp [tsP_iff.2 h]
theorem ctN_f {d k : Nat} (h : ¬ PL O m F (dgs m d k)) : ctN O m F d (k + 1) = ctN O m F d k := by
 have : tsP O m F (dgs m d k) = false := by
  cases e : tsP O m F (dgs m d k) with
  | false => rfl
  | true => exact absurd (tsP_iff.1 e) h
 unfold ctN
 rw [List.range_succ, List.filter_append, List.length_append]
 simp [this]
theorem flt_eq (d : Nat) : flt O m F d [] = ((List.range (m ^ d)).filter fun j => tsP O m F (dgs m d j)).map (dgs m d) := by
 unfold flt lsts
 rw [List.map_map, show (fun x => ([] : List Nat) ++ x) ∘ dgs m d = dgs m d from rfl, List.filter_map]
 rfl
theorem ctN_flt (d : Nat) : (flt O m F d []).length = ctN O m F d (m ^ d) := by
 rw [flt_eq, List.length_map]
 rfl
theorem flt_hd {d k : Nat} (hk : k < m ^ d) (h : PL O m F (dgs m d k)) (hj : ∀ j, j < k → ¬ PL O m F (dgs m d j)) : ∃ L, flt O m F d [] = dgs m d k :: L := by
 obtain ⟨e, he⟩ : ∃ e, m ^ d = k + 1 + e := ⟨m ^ d - (k + 1), by omega⟩
 rw [flt_eq, he, List.range_add, List.range_succ, List.filter_append, List.filter_append, List.map_append, List.map_append]
 have : (List.range k).filter (fun j => tsP O m F (dgs m d j)) = [] := by
  rw [List.filter_eq_nil_iff]
  intro j hj' e
  exact hj j (List.mem_range.1 hj') (tsP_iff.1 e)
 rw [this, show [k].filter (fun j => tsP O m F (dgs m d j)) = [k] by simp [tsP_iff.2 h]]
 exact ⟨_, rfl⟩
theorem flt_no {d : Nat} (hj : ∀ j, j < m ^ d → ¬ PL O m F (dgs m d j)) : flt O m F d [] = [] := by
 rw [flt_eq]
 have : (List.range (m ^ d)).filter (fun j => tsP O m F (dgs m d j)) = [] := by
  rw [List.filter_eq_nil_iff]
  intro j hj' e
  exact hj j (List.mem_range.1 hj') (tsP_iff.1 e)
 rw [this]
 rfl
set_option maxHeartbeats 4000000 in
theorem inCnt {ro : Ro} {gn : Nat → Nat} {gv gA k : Nat} (hc : isLLL c (cubeL F n)) (hk : k ≤ 20000) (hcl : ro 16384 gv = some (.bx [i64 (k : Int)])) (hg : gv ≤ gn 16384) (hb : (blkO (ro 53280 gA)).isSome = true) :
  InS Tryz.prog 20 [.agg [immL O, i64 (m : Int), c, .ref 53280 gA [] 0 n], .ptr 16384 gv [] 0] ro gn (fun r ro' gn' => r = bo false ∧ Kx 16384 gv ro gn ro' gn' ∧ ro' 16384 gv = some (.bx [i64 ((k + 1 : Nat) : Int)])) := by
 have hcb : cellOkB ro c = true := by rcases hc with ⟨cs, rfl, _⟩ | ⟨_, rfl⟩ <;> rfl
 have e1 : wrF ((k : Int) + 1) = (k : Int) + 1 := zfu (by omega) (by omega)
 refine in_ofS (fn := Tryz.f20) (code := bodyOf Tryz.f20) Tryz.func20 rfl (by kernel_rfl) ?_
 intro sl hs
 have s0 : sl 0 = .agg [immL O, i64 (m : Int), c, .ref 53280 gA [] 0 n] := hs 0
 have s1 : sl 1 = .ptr 16384 gv [] 0 := hs 1
 dsimp only [Tryz.f20, bodyOf, Option.getD]
 simp (maxSteps := 10000000) (disch := first | assumption | omega) only [go_sem, ↓reduceIte, Nat.reduceEqDiff, reduceCtorEq, Nat.reduceAdd, Nat.reduceMul, Nat.reduceLeDiff, zc, Int.reduceToNat, s0, s1, tiD, hb, hcl, e1, hcb]
 exact RETS_1 (bo false) Ur ⟨rfl, by (repeat' first | assumption | exact Kx.refl _ _ _ _ | refine Kx.al ?_ _ _ _ rfl | refine Kx.wr ?_ _ _ _ (by omega)), by simp only [↓za, ↓reduceIte, Nat.reduceEqDiff, zb, reduceCtorEq]; rfl⟩
set_option maxHeartbeats 4000000 in
theorem cCntI {M : Int} (ho : isL o O) (hO : O.length ≤ 6) (hc : isLLL c (cubeL F n)) (h16 : n ≤ 16) (hM : -1048576 ≤ M ∧ M ≤ 1048576) {N e : Int} (h1 : ¬ CoP O M F n → N = 0 ∧ e = 1) (h3 : ∀ m : Nat, M = m → CoP O M F n → Mny O m → N = 0 ∧ e = 3)
  (h0 : ∀ m : Nat, M = m → CoP O M F n → ¬ Mny O m → N = (flt O m F (O.length * O.length) []).length ∧ e = 0) : CallOK Tryz.prog 6 [.agg [o, i64 M, c]] (.tup [i64 N, i64 e]) := by
 by_cases hW : CoP O M F n
 ·have c1 := cIsCoI (t := true) ho hO hc h16 hM (by simp [hW])
  obtain ⟨m, rfl⟩ := Int.eq_ofNat_of_zero_le (show 0 ≤ M by have := hW.s.m; omega)
  have hm := hW.s.m
  obtain rfl := isL_ne ho hW.s.o.1
  have hn := hW.sz
  by_cases hy : Mny O m
  ·obtain ⟨rfl, rfl⟩ := h3 m rfl hW hy
   refine call_of (fn := Tryz.f6) (code := bodyOf Tryz.f6) Tryz.func6 rfl (by kernel_rfl) (rfl) ?_
   intro sl hs
   have s0 : sl 0 = .agg [immL O, i64 (m : Int), c] := hs 0
   dsimp only [Tryz.f6, bodyOf, Option.getD]
   refine Yai ?_
   refine CLL_pure _ c1 PUt rfl rfl ?_
   refine Yai ?_
   refine CLL_inS rfl (sEBn (sv := 16384) hW hO hc hy) ?_
   rintro _ ro1 gn1 ⟨rfl, fr⟩
   refine Yaa ?_
   exact Yad
  ·obtain ⟨rfl, rfl⟩ := h0 m rfl hW hy
   subst hn
   have hr : O.length ≤ 3 := by unfold Mny at hy; omega
   have hp : m ^ (O.length * O.length) ≤ 20000 := by unfold Mny at hy; omega
   have h8 := hW.s.n8
   have sm := smO hW.s.o hr (by have := hW.s.e; omega)
   rw [ctN_flt]
   refine call_of (fn := Tryz.f6) (code := bodyOf Tryz.f6) Tryz.func6 rfl (by kernel_rfl) (rfl) ?_
   intro sl hs
   have s0 : sl 0 = .agg [immL O, i64 (m : Int), c] := hs 0
   dsimp only [Tryz.f6, bodyOf, Option.getD]
   refine Yai ?_
   refine CLL_pure _ c1 PUt rfl rfl ?_
   refine Yai ?_
   refine CLL_inS rfl (sEBy (stop := false) (ct := fun k => .bx [i64 (ctN O m F (O.length * O.length) k : Nat)]) (nx := fun k _ => .bx [i64 ((ctN O m F (O.length * O.length) k + 1 : Nat) : Int)]) hW sm hr hc hp (.inl rfl) rfl (by simp only [↓za, ↓reduceIte, Nat.reduceEqDiff, zb, reduceCtorEq]; rfl) Ur (fun k h => by rw [ctN_f h]) (fun _ k gA h => by rw [ctN_t h]) (fun k ro gn gA hk hP hcl hg hA hA2 => inCnt hc (Nat.le_trans (ctN_le _ _) (by omega)) hcl hg (by rw [hA]; rfl))) ?_
   rintro _ ro1 gn1 ⟨rfl, fr, hx⟩
   have hcl := (hx.resolve_right fun h => by cases h.1).2
   simp (maxSteps := 10000000) (disch := first | assumption | omega) only [go_sem, ↓reduceIte, Nat.reduceEqDiff, reduceCtorEq, Nat.reduceAdd, Nat.reduceMul, Nat.reduceLeDiff, zc, Int.reduceToNat, s0, hcl]
   exact Yad
 ·have c1 := cIsCoI (t := false) ho hO hc h16 hM (by simp [hW])
  obtain ⟨rfl, rfl⟩ := h1 hW
  refine call_of (fn := Tryz.f6) (code := bodyOf Tryz.f6) Tryz.func6 rfl (by kernel_rfl) (rfl) ?_
  intro sl hs
  have s0 : sl 0 = .agg [o, i64 M, c] := hs 0
  dsimp only [Tryz.f6, bodyOf, Option.getD]
  refine Yai ?_
  refine CLL_pure _ c1 PUt rfl rfl ?_
  refine Yaa ?_
  exact Yad
set_option maxHeartbeats 4000000 in
theorem inFst {ro : Ro} {gn : Nat → Nat} {gv gA : Nat} {cl : AV} (hc : isLLL c (cubeL F n)) (hcl : ro 16400 gv = some cl) (hl4 : ∃ a b d e, cl = .bx [a, b, d, e]) (hg : gv ≤ gn 16400) (hb : (blkO (ro 53280 gA)).isSome = true) :
  InS Tryz.prog 24 [.agg [immL O, i64 (m : Int), c, .ref 53280 gA [] 0 n], .ptr 16400 gv [] 0] ro gn (fun r ro' gn' => r = bo true ∧ Kx 16400 gv ro gn ro' gn' ∧ ro' 16400 gv = some (.bx [immL O, i64 (m : Int), c, .ref 53280 gA [] 0 n])) := by
 have hcb : ∀ ro, cellOkB ro c = true := fun ro => by rcases hc with ⟨cs, rfl, _⟩ | ⟨_, rfl⟩ <;> rfl
 obtain ⟨a, b, d, e, rfl⟩ := hl4
 refine in_ofS (fn := Tryz.f24) (code := bodyOf Tryz.f24) Tryz.func24 rfl (by kernel_rfl) ?_
 intro sl hs
 have s0 : sl 0 = .agg [immL O, i64 (m : Int), c, .ref 53280 gA [] 0 n] := hs 0
 have s1 : sl 1 = .ptr 16400 gv [] 0 := hs 1
 dsimp only [Tryz.f24, bodyOf, Option.getD]
 simp (maxSteps := 10000000) (disch := first | assumption | omega) only [go_sem, ↓reduceIte, Nat.reduceEqDiff, reduceCtorEq, Nat.reduceAdd, Nat.reduceMul, Nat.reduceLeDiff, zc, Int.reduceToNat, s0, s1, tiD, hb, hcl, hcb]
 exact RETS_1 (bo true) Ur ⟨rfl, by (repeat' first | assumption | exact Kx.refl _ _ _ _ | refine Kx.al ?_ _ _ _ rfl | refine Kx.wr ?_ _ _ _ (by omega)), by simp only [↓za, ↓reduceIte, Nat.reduceEqDiff, zb, reduceCtorEq]⟩
set_option maxHeartbeats 4000000 in
theorem cFstI {M : Int} (ho : isL o O) (hO : O.length ≤ 6) (hc : isLLL c (cubeL F n)) (h16 : n ≤ 16) (hM : -1048576 ≤ M ∧ M ≤ 1048576) {e : Int} {R : AV} (h1 : ¬ CoP O M F n → e = 1) (h3 : ∀ m : Nat, M = m → CoP O M F n → Mny O m → e = 3)
  (h0 : ∀ m : Nat, M = m → CoP O M F n → ¬ Mny O m → flt O m F (O.length * O.length) [] = [] → e = 4) (hR : e ≠ 0 → R = .agg [nilA, i64 0, nilA, nilA]) (h5 : ∀ m : Nat, M = m → CoP O M F n → ¬ Mny O m → ∀ l L, flt O m F (O.length * O.length) [] = l :: L → e = 0 ∧ R = .agg [rowL O, i64 (m : Int), cubeA F n, matA (bdI O m F (LI O.length l) (plI O)) n n]) :
  CallOK Tryz.prog 8 [.agg [o, i64 M, c]] (.tup [R, i64 e]) := by
 by_cases hW : CoP O M F n
 ·have c1 := cIsCoI (t := true) ho hO hc h16 hM (by simp [hW])
  obtain ⟨m, rfl⟩ := Int.eq_ofNat_of_zero_le (show 0 ≤ M by have := hW.s.m; omega)
  have hm := hW.s.m
  obtain rfl := isL_ne ho hW.s.o.1
  have hn := hW.sz
  by_cases hy : Mny O m
  ·obtain rfl := h3 m rfl hW hy
   obtain rfl := hR (by decide)
   refine call_of (fn := Tryz.f8) (code := bodyOf Tryz.f8) Tryz.func8 rfl (by kernel_rfl) (rfl) ?_
   intro sl hs
   have s0 : sl 0 = .agg [immL O, i64 (m : Int), c] := hs 0
   dsimp only [Tryz.f8, bodyOf, Option.getD]
   refine Yah ?_
   refine CLL_pure _ c1 PUt rfl rfl ?_
   refine Yah ?_
   refine CLL_inS rfl (sEBn (sv := 16400) hW hO hc hy) ?_
   rintro _ ro1 gn1 ⟨rfl, fr⟩
   have f12 := (fr.kp 4112 1 Ur (by omega)).trans (by simp only [↓za, ↓reduceIte, Nat.reduceEqDiff, zb, reduceCtorEq]; rfl)
   simp (maxSteps := 10000000) (disch := first | assumption | omega) only [go_sem, ↓reduceIte, Nat.reduceEqDiff, reduceCtorEq, Nat.reduceAdd, Nat.reduceMul, Nat.reduceLeDiff, zc, Int.reduceToNat, s0, tiD, f12]
   exact Ybk
  ·subst hn
   have k0 := h0 m rfl hW hy
   have k5 := h5 m rfl hW hy
   clear h0 h5 h1 h3
   have hr : O.length ≤ 3 := by unfold Mny at hy; omega
   have hp : m ^ (O.length * O.length) ≤ 20000 := by unfold Mny at hy; omega
   have h8 := hW.s.n8
   have sm := smO hW.s.o hr (by have := hW.s.e; omega)
   have cp := cCopyC (isL_imm O) hO hc hW.s
   have hnr : noRef (.tup [R, i64 e]) = true := by
    cases hf : flt O m F (O.length * O.length) [] with
    | nil => obtain rfl := hR (by rw [k0 hf]; decide); rfl
    | cons l L => obtain ⟨rfl, rfl⟩ := k5 l L hf; exact noRef_okB _ _ _ _ _
   refine call_of (fn := Tryz.f8) (code := bodyOf Tryz.f8) Tryz.func8 rfl (by kernel_rfl) (hnr) ?_
   intro sl hs
   have s0 : sl 0 = .agg [immL O, i64 (m : Int), c] := hs 0
   dsimp only [Tryz.f8, bodyOf, Option.getD]
   refine Yah ?_
   refine CLL_pure _ c1 PUt rfl rfl ?_
   refine Yah ?_
   refine CLL_inS rfl (sEBy (stop := true) (ct := fun k => .bx [nilA, i64 0, nilA, nilA]) (nx := fun k gA => .bx [immL O, i64 (m : Int), c, .ref 53280 gA [] 0 (szO O)]) hW sm hr hc hp (.inr rfl) rfl Ur Ur (fun k h => rfl) (fun h => by cases h) (fun k ro gn gA hk hP hcl hg hA hA2 => inFst hc hcl ⟨_, _, _, _, rfl⟩ hg (by rw [hA]; rfl))) ?_
   rintro _ ro1 gn1 ⟨rfl, fr, ⟨hx, hcl⟩ | ⟨-, k, gA, hk, hP, hno, hcl, hA1, hA2, hA⟩⟩
   ·obtain rfl := k0 (flt_no (hx.resolve_left (by decide)))
    obtain rfl := hR (by decide)
    have f12 := (fr.kp 4112 1 Ur (by omega)).trans (by simp only [↓za, ↓reduceIte, Nat.reduceEqDiff, zb, reduceCtorEq]; rfl)
    simp (maxSteps := 10000000) (disch := first | assumption | omega) only [go_sem, ↓reduceIte, Nat.reduceEqDiff, reduceCtorEq, Nat.reduceAdd, Nat.reduceMul, Nat.reduceLeDiff, zc, Int.reduceToNat, s0, hcl, tiD, f12]
    exact Ybk
   ·obtain ⟨L, hL⟩ := flt_hd hk hP hno
    obtain ⟨rfl, rfl⟩ := k5 _ _ hL
    have f12 := (fr.kp 4112 1 Ur (by omega)).trans (by simp only [↓za, ↓reduceIte, Nat.reduceEqDiff, zb, reduceCtorEq]; rfl)
    have f96 := (fr.kp 4096 1 Ur (by omega)).trans (by simp only [↓za, ↓reduceIte, Nat.reduceEqDiff, zb, reduceCtorEq]; rfl)
    have hbk : (blkO (ro1 53280 gA)).isSome = true := by rw [hA]; rfl
    simp (maxSteps := 10000000) (disch := first | assumption | omega) only [go_sem, ↓reduceIte, Nat.reduceEqDiff, reduceCtorEq, Nat.reduceAdd, Nat.reduceMul, Nat.reduceLeDiff, zc, Int.reduceToNat, s0, hcl, tiC, tiD, f12, f96, hbk]
    refine CLLD_pure _ cp PUt rfl ?_
    simp (maxSteps := 10000000) (disch := first | assumption | omega) only [go_sem, ↓reduceIte, Nat.reduceEqDiff, reduceCtorEq, Nat.reduceAdd, Nat.reduceMul, Nat.reduceLeDiff, zc, Int.reduceToNat, s0, hcl, tiC, tiD, f12, f96, hA]
    refine FIN_of (by kernel_rfl) ?_
    simp (maxSteps := 10000000) (disch := first | assumption | omega) only [go_sem, ↓reduceIte, Nat.reduceEqDiff, reduceCtorEq, Nat.reduceAdd, Nat.reduceMul, Nat.reduceLeDiff, zc, Int.reduceToNat, s0, hcl, tiC, tiD, f12, f96, hA]
    simp only [zr, zb, retR, resL, outT, outL, zes, zez, oneV, zcp, zed, zfi, Ro.dl, St.ev, zhk, ↓za, ↓reduceIte, Nat.reduceEqDiff, Nat.reduceAdd, Nat.reduceLeDiff, tiD, hA, matA, zfe]
 ·have c1 := cIsCoI (t := false) ho hO hc h16 hM (by simp [hW])
  obtain rfl := h1 hW
  obtain rfl := hR (by decide)
  refine call_of (fn := Tryz.f8) (code := bodyOf Tryz.f8) Tryz.func8 rfl (by kernel_rfl) (rfl) ?_
  intro sl hs
  have s0 : sl 0 = .agg [o, i64 M, c] := hs 0
  dsimp only [Tryz.f8, bodyOf, Option.getD]
  refine Yah ?_
  refine CLL_pure _ c1 PUt rfl rfl ?_
  simp (maxSteps := 10000000) (disch := first | assumption | omega) only [go_sem, ↓reduceIte, Nat.reduceEqDiff, reduceCtorEq, Nat.reduceAdd, Nat.reduceMul, Nat.reduceLeDiff, zc, Int.reduceToNat, s0, tiD]
  exact Ybk
end
end Go.Proofs.YtmchdjiigfiabaaGreat
