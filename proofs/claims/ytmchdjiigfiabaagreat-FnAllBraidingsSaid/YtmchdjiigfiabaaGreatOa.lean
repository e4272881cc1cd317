/- Texts joined: Q2 Q3 Q4 Q4z. -/
import Derived.TacticsIn
import Derived.TacticsInMore
import Derived.WalkKit
import Derived.Test.YtmchdjiigfiabaaGreatMh
import Derived.Test.YtmchdjiigfiabaaGreatCc
set_option linter.all false
/- Groups of orders from 1 on: sums and sizes, in plain terms; the contract of addElements. -/
namespace Go.Proofs.YtmchdjiigfiabaaGreat
open Go.RowKit
set_option maxRecDepth 1000000
def adB : List Int → Int → Int → Int
 | [], _, _ => 0
 | m :: ms, a, b => (a % m + b % m) % m + m * adB ms (a / m) (b / m)
def prB : List Int → Int
 | [] => 1
 | m :: ms => m * prB ms
theorem adB_rng : ∀ {R : List Int} {a b : Int}, (∀ m, m ∈ R → 1 ≤ m) → 0 ≤ adB R a b ∧ adB R a b < prB R
 | [], _, _, _ => by simp [adB, prB]
 | m :: ms, a, b, h => by
  have h2 := h m (by simp)
  obtain ⟨h3, h4⟩ := adB_rng (R := ms) (a := a / m) (b := b / m) fun x hx => h x (by simp [hx])
  have h5 : 0 ≤ (a % m + b % m) % m := Int.emod_nonneg _ (by omega)
  have h6 : (a % m + b % m) % m < m := Int.emod_lt_of_pos _ (by omega)
  have h7 : 0 ≤ m * adB ms (a / m) (b / m) := Int.mul_nonneg (by omega) h3
  have h8 : m * adB ms (a / m) (b / m) ≤ m * (prB ms - 1) := Int.mul_le_mul_of_nonneg_left (by omega) (by omega)
  have h9 : m * (prB ms - 1) = m * prB ms - m := by rw [Int.mul_sub, Int.mul_one]
  simp only [adB, prB]
  omega
theorem adB_zero : ∀ {R : List Int} {x : Int}, (∀ m, m ∈ R → 1 ≤ m) → 0 ≤ x → x < prB R → adB R 0 x = x
 | [], x, _, h0, h1 => by simp only [prB] at h1; simp only [adB]; omega
 | m :: ms, x, h, h0, h1 => by
  have h2 := h m (by simp)
  simp only [prB] at h1
  have hb0 : 0 ≤ x / m := Int.ediv_nonneg h0 (by omega)
  have hb1 : x / m < prB ms := Int.ediv_lt_of_lt_mul (by omega) (by rw [Int.mul_comm]; exact h1)
  have ih := adB_zero (R := ms) (fun y hy => h y (by simp [hy])) hb0 hb1
  have := Int.emod_add_mul_ediv x m
  simp only [adB, Int.zero_ediv, Int.zero_emod, Int.zero_add, Int.emod_emod, ih]
  exact this
def pfx (O : List Int) : Nat → Int
 | 0 => 1
 | i + 1 => pfx O i * atI O i
structure GrpP (O : List Int) : Prop where
 l1 : 1 ≤ O.length
 l4 : O.length ≤ 6
 rg : ∀ i, i < O.length → 1 ≤ atI O i ∧ atI O i ≤ 16
 sz : pfx O O.length ≤ 16
def rvO (O : List Int) : List Int := (dwn O.length O.length).map (atI O)
theorem dwn_lt {n k i : Nat} (h : i ∈ dwn n k) (hn : 1 ≤ n) : i < n := by
 unfold dwn at h
 obtain ⟨j, _, rfl⟩ := List.mem_map.1 h
 omega
def adO (O : List Int) (x y : Int) : Int := adB (rvO O) x y
def adR (t : Int × Int × Int × Int) (m : Int) : Int × Int × Int × Int := (t.1 + (t.2.2.1 % m + t.2.2.2 % m) % m * t.2.1, t.2.1 * m, t.2.2.1 / m, t.2.2.2 / m)
def adT (x y : Int) (pre : List Int) : Int × Int × Int × Int := pre.foldl adR (0, 1, x, y)
theorem adT_snoc (x y : Int) (pre : List Int) (o : Int) : adT x y (pre ++ [o]) = adR (adT x y pre) o := by simp [adT]
theorem adT_ok {x y : Int} (hx : 0 ≤ x ∧ x < 4294967296) (hy : 0 ≤ y ∧ y < 4294967296) : ∀ (n : Nat) (pre : List Int), pre.length = n → (∀ m, m ∈ pre → 1 ≤ m ∧ m ≤ 16) →
  0 ≤ (adT x y pre).1 ∧ (adT x y pre).1 < (adT x y pre).2.1 ∧ (adT x y pre).2.1 ≤ 16 ^ n ∧ 0 ≤ (adT x y pre).2.2.1 ∧ (adT x y pre).2.2.1 < 4294967296 ∧ 0 ≤ (adT x y pre).2.2.2 ∧ (adT x y pre).2.2.2 < 4294967296
 | 0, pre, h, _ => by
  obtain rfl := List.length_eq_zero_iff.1 h
  simp only [adT, List.foldl_nil]
  refine ⟨by decide, by decide, by decide, hx.1, hx.2, hy.1, hy.2⟩
 | n + 1, pre, h, hr => by
  obtain ⟨ini, o, rfl⟩ : ∃ ini o, pre = ini ++ [o] := by
   have hne : pre ≠ [] := by rintro rfl; simp at h
   exact ⟨pre.dropLast, pre.getLast hne, (List.dropLast_concat_getLast hne).symm⟩
  rw [List.length_append] at h
  have ih := adT_ok hx hy n ini (by simpa using h) fun m hm => hr m (by simp [hm])
  rw [adT_snoc]
  generalize adT x y ini = t at ih ⊢
  obtain ⟨s, p, a, b⟩ := t
  obtain ⟨h1, h2, h3, h4, h5, h6, h7⟩ := ih
  simp only [adR] at h1 h2 h3 h4 h5 h6 h7 ⊢
  obtain ⟨hm1, hm2⟩ := hr o (by simp)
  have hd0 : 0 ≤ (a % o + b % o) % o := Int.emod_nonneg _ (by omega)
  have hd1 : (a % o + b % o) % o < o := Int.emod_lt_of_pos _ (by omega)
  generalize (a % o + b % o) % o = d at hd0 hd1
  have hp : 0 < p := by omega
  have hdp : 0 ≤ d * p := Int.mul_nonneg hd0 (by omega)
  have hdp2 : d * p ≤ (o - 1) * p := Int.mul_le_mul_of_nonneg_right (by omega) (by omega)
  have hmp : (o - 1 : Int) * p = p * o - p := by rw [Int.sub_mul, Int.one_mul, Int.mul_comm]
  have h16 : p * o ≤ 16 ^ n * 16 := Int.mul_le_mul h3 (by omega) (by omega) (by exact_mod_cast Nat.zero_le _)
  have e16 : (16 : Int) ^ (n + 1) = 16 ^ n * 16 := Int.pow_succ _ _
  have ha : a / o ≤ a := Int.ediv_le_self _ h4
  have hb : b / o ≤ b := Int.ediv_le_self _ h6
  refine ⟨by omega, by omega, by omega, Int.ediv_nonneg h4 (by omega), by omega, Int.ediv_nonneg h6 (by omega), by omega⟩
theorem pow6 : ∀ {i : Nat}, i ≤ 5 → (16 : Int) ^ i ≤ 1048576
 | 0, _ => by decide
 | 1, _ => by decide
 | 2, _ => by decide
 | 3, _ => by decide
 | 4, _ => by decide
 | 5, _ => by decide
theorem adR_sum : ∀ (pre : List Int) (t : Int × Int × Int × Int), (pre.foldl adR t).1 = t.1 + t.2.1 * adB pre t.2.2.1 t.2.2.2
 | [], t => by simp [adB]
 | o :: pre, t => by
  rw [List.foldl_cons, adR_sum pre]
  simp only [adR, adB]
  rw [Int.mul_add, Int.mul_comm _ t.2.1, Int.mul_assoc, Int.add_assoc]
theorem adT_sum (O : List Int) (x y : Int) : (adT x y (rvO O)).1 = adO O x y := by
 unfold adT adO
 rw [adR_sum]
 simp
theorem GrpP.two {O : List Int} (h : GrpP O) : ∀ m, m ∈ rvO O → 1 ≤ m := by
 intro m hm
 obtain ⟨i, hi, rfl⟩ := List.mem_map.1 hm
 exact (h.rg i (dwn_lt hi h.l1)).1
theorem pfx_pos {O : List Int} (h : ∀ i, i < O.length → 1 ≤ atI O i ∧ atI O i ≤ 16) : ∀ {i : Nat}, i ≤ O.length → 1 ≤ pfx O i
 | 0, _ => by simp [pfx]
 | i + 1, hi => by
  have h1 := pfx_pos h (i := i) (by omega)
  have h2 := h i (by omega)
  have : 1 * 1 ≤ pfx O i * atI O i := Int.mul_le_mul h1 (by omega) (by omega) (by omega)
  simp only [pfx]; omega
theorem dwn_drop (n k : Nat) (h : k < n) : (dwn n n).drop k = (n - 1 - k) :: (dwn n n).drop (k + 1) := by
 rw [List.drop_eq_getElem_cons (by rw [dwn_length]; exact h)]
 simp [dwn]
theorem pfx_rv {O : List Int} : ∀ {i : Nat}, i ≤ O.length → prB ((rvO O).drop (O.length - i)) = pfx O i
 | 0, _ => by
  rw [List.drop_of_length_le (by simp [rvO, dwn_length])]; rfl
 | i + 1, hi => by
  have ih := pfx_rv (O := O) (i := i) (by omega)
  have e : O.length - (i + 1) + 1 = O.length - i := by omega
  have e2 : O.length - 1 - (O.length - (i + 1)) = i := by omega
  unfold rvO at ih ⊢
  rw [← List.map_drop, dwn_drop _ _ (by omega), List.map_cons, e, e2]
  rw [← List.map_drop] at ih
  simp only [prB, pfx]
  rw [ih, Int.mul_comm]
theorem GrpP.prB {O : List Int} (_h : GrpP O) : prB (rvO O) = pfx O O.length := by
 have := pfx_rv (O := O) (i := O.length) (Nat.le_refl _)
 rwa [Nat.sub_self, List.drop_zero] at this
theorem GrpP.ad {O : List Int} (h : GrpP O) (x y : Int) : 0 ≤ adO O x y ∧ adO O x y < pfx O O.length := by
 have := adB_rng (R := rvO O) (a := x) (b := y) h.two
 rwa [h.prB] at this
theorem GrpP.z0 {O : List Int} (h : GrpP O) {x : Int} (h0 : 0 ≤ x) (h1 : x < pfx O O.length) : adO O 0 x = x := adB_zero h.two h0 (by rw [h.prB]; exact h1)
attribute [local go_sem] Oper.semAt_some
theorem asgA {l k : Nat} {t : Array Value} {u v : Value} {W : World} {K : Act → World → Prop} {id : Nat} {ty : TypeId} {ps : String} (h1 : 13 < t.size) (h2 : 14 < t.size) (hK : K { tmps := ((t.setIfInBounds 13 u).setIfInBounds 14 v).setIfInBounds 10 v, defers := [] } W) :
  (Code.region id #[{ dst := some 10, op := Op.assign (Operand.tmp 14), type := ty, pos := ps, after := #[], guard := none }] false).wpIn (Fence.wide.inRound l) k Tryz.prog (Exit.then K fun _ _ _ => False) { tmps := (t.setIfInBounds 13 u).setIfInBounds 14 v, defers := [] } W := by
 have hg : ((t.setIfInBounds 13 u).setIfInBounds 14 v).getD 14 undef = v := by simp [Array.getD, h2]
 gi_wp2
 exact hK
theorem inBack {ro : Ro} {gn : Nat → Nat} {zs : List Int} :
  InOK Tryz.prog 46 [immL zs] ro gn (.fn 79 [.ptr 4096 (gn 4096 + 1) [] 0]) (upr ro 4096 (gn 4096 + 1) (.bx [immL zs])) (upg gn 4096 (gn 4096 + 1)) := by
 refine in_of (fn := Tryz.f46) (code := bodyOf Tryz.f46) Tryz.func46 rfl (by kernel_rfl) ?_
 intro sl hs'
 have s0 : sl 0 = immL zs := hs' 0
 dsimp only [Tryz.f46, bodyOf, Option.getD]
 simp (maxSteps := 10000000) (disch := first | omega | assumption) only [go_sem, ↓reduceIte, Nat.reduceEqDiff, reduceCtorEq, Nat.reduceAdd, Nat.reduceMul, Nat.reduceLeDiff, zc, ti3, ti4, s0]
 refine ⟨.inr rfl, ⟨_, rfl, ?_⟩, rfl, rfl⟩
 simp only [↓za, ↓reduceIte, Nat.reduceEqDiff, zb, reduceCtorEq, oneOrA]
theorem inBackR {ro : Ro} {gn : Nat → Nat} {s g n : Nat} {zs : List Int} (h : ro s g = some (rowL zs)) :
  InOK Tryz.prog 46 [.ref s g [] 0 n] ro gn (.fn 79 [.ptr 4096 (gn 4096 + 1) [] 0]) (upr ro 4096 (gn 4096 + 1) (.bx [.ref s g [] 0 n])) (upg gn 4096 (gn 4096 + 1)) := by
 refine in_of (fn := Tryz.f46) (code := bodyOf Tryz.f46) Tryz.func46 rfl (by kernel_rfl) ?_
 intro sl hs'
 have s0 : sl 0 = .ref s g [] 0 n := hs' 0
 dsimp only [Tryz.f46, bodyOf, Option.getD]
 simp (maxSteps := 10000000) (disch := first | omega | assumption) only [go_sem, ↓reduceIte, Nat.reduceEqDiff, reduceCtorEq, Nat.reduceAdd, Nat.reduceMul, Nat.reduceLeDiff, zc, ti3, ti4, s0, h]
 refine ⟨.inr rfl, ⟨_, rfl, ?_⟩, rfl, rfl⟩
 simp only [↓za, ↓reduceIte, Nat.reduceEqDiff, zb, reduceCtorEq, oneOrA]
def InvA (O : List Int) (x y : Int) (st0 : St) (pre : List (BX (fun j v => v = atI O j) O.length)) (st : St) : Prop :=
 st.sl = st0.sl ∧ st.ro 4096 (st0.gn 4096) = some (.bx [immL O]) ∧ st.ro 4096 1 = some (.bx [i64 (adT x y (pre.map BX.v)).2.2.1]) ∧ st.ro 4112 1 = some (.bx [i64 (adT x y (pre.map BX.v)).2.2.2]) ∧ st.ro 8192 1 = some (.bx [i64 (adT x y (pre.map BX.v)).1]) ∧ st.ro 8208 1 = some (.bx [i64 (adT x y (pre.map BX.v)).2.1])
theorem cAddI {O : List Int} (hO : GrpP O) {x y : Int} (hx : 0 ≤ x ∧ x < 4294967296) (hy : 0 ≤ y ∧ y < 4294967296) : CallOK Tryz.prog 99 [immL O, i64 x, i64 y] (i64 (adO O x y)) := by
 have hl1 := hO.l1
 have hl4 := hO.l4
 rw [← adT_sum]
 refine call_of (fn := Tryz.f99) (code := bodyOf Tryz.f99) Tryz.func99 rfl (by kernel_rfl) (rfl) ?_
 intro sl hs
 have s0 : sl 0 = immL O := hs 0
 have s1 : sl 1 = i64 x := hs 1
 have s2 : sl 2 = i64 y := hs 2
 dsimp only [Tryz.f99, bodyOf, Option.getD]
 refine Yae ?_
 refine CLL_in rfl _ _ _ inBack ?_
 refine Yae ?_
 generalize hst : St.mk _ _ _ = st0
 have s12 : st0.sl 12 = .fn 79 [.ptr 4096 (st0.gn 4096) [] 0] := by rw [← hst]; simp only [↓za, ↓reduceIte, Nat.reduceEqDiff, zb, reduceCtorEq]
 have s4 : st0.sl 4 = .ptr 4096 1 [] 0 := by rw [← hst]; simp only [↓za, ↓reduceIte, Nat.reduceEqDiff, zb, reduceCtorEq]
 have s5 : st0.sl 5 = .ptr 4112 1 [] 0 := by rw [← hst]; simp only [↓za, ↓reduceIte, Nat.reduceEqDiff, zb, reduceCtorEq]
 have s7 : st0.sl 7 = .ptr 8192 1 [] 0 := by rw [← hst]; simp only [↓za, ↓reduceIte, Nat.reduceEqDiff, zb, reduceCtorEq]
 have s8 : st0.sl 8 = .ptr 8208 1 [] 0 := by rw [← hst]; simp only [↓za, ↓reduceIte, Nat.reduceEqDiff, zb, reduceCtorEq]
 have g4 : st0.gn 4096 = 2 := by rw [← hst]; simp only [↓za, ↓reduceIte, Nat.reduceEqDiff, zb, reduceCtorEq]
 have b0 : st0.ro 4096 (st0.gn 4096) = some (.bx [immL O]) := by rw [← hst]; simp only [↓za, ↓reduceIte, Nat.reduceEqDiff, zb, reduceCtorEq]
 have b1 : st0.ro 4096 1 = some (.bx [i64 x]) := by rw [← hst]; simp only [↓za, ↓reduceIte, Nat.reduceEqDiff, zb, reduceCtorEq]
 have b2 : st0.ro 4112 1 = some (.bx [i64 y]) := by rw [← hst]; simp only [↓za, ↓reduceIte, Nat.reduceEqDiff, zb, reduceCtorEq]
 have b3 : st0.ro 8192 1 = some (.bx [i64 0]) := by rw [← hst]; simp only [↓za, ↓reduceIte, Nat.reduceEqDiff, zb, reduceCtorEq]
 have b4 : st0.ro 8208 1 = some (.bx [i64 1]) := by rw [← hst]; simp only [↓za, ↓reduceIte, Nat.reduceEqDiff, zb, reduceCtorEq]
 clear hst
 refine WK_rf _ (semC_back (ta := 10) (n := O.length) (V := fun j v => v = atI O j) false (by omega) hl1 (by decide) s12 (InvA O x y st0) ⟨rfl, b0, b1, b2, b3, b4⟩ (fun pre st h => ⟨h.1, O, rfl, fun _ _ => rfl, .inl h.2.1⟩) (by kernel_rfl) (fun k h => by simpa [dstOK] using h) (fun l k t u v W K h1 h2 hK => asgA h1 h2 hK) ?_) ?_
 ·rintro pre q ⟨sl, ro, gn⟩ ⟨q0, q1, q2, q3, q4, q5⟩ hlen
  dsimp only at q0 q1 q2 q3 q4 q5
  have hr : ∀ m, m ∈ pre.map BX.v → 1 ≤ m ∧ m ≤ 16 := by
   intro m hm
   obtain ⟨z, _, rfl⟩ := List.mem_map.1 hm
   rw [z.ok]
   exact hO.rg _ z.lt
  have hok := adT_ok hx hy _ (pre.map BX.v) rfl hr
  rw [List.length_map] at hok
  have h16 := pow6 (i := pre.length) (by omega)
  have hst : adT x y ((pre ++ [q]).map BX.v) = adR (adT x y (pre.map BX.v)) q.v := by rw [List.map_append, List.map_singleton, adT_snoc]
  unfold InvA
  rw [hst]
  simp only [adR]
  have hqv := q.ok
  obtain ⟨m1, m2⟩ := hO.rg _ q.lt
  rw [← hqv] at m1 m2
  generalize q.v = m at m1 m2 ⊢
  generalize adT x y (pre.map BX.v) = t at q2 q3 q4 q5 hok ⊢
  obtain ⟨s, p, u, v⟩ := t
  dsimp only at q2 q3 q4 q5 hok ⊢
  obtain ⟨h1, h2, h3, h4, h5, h6, h7⟩ := hok
  have hmz : ¬ m = 0 := by omega
  have eu : u.tmod m = u % m := Int.tmod_eq_emod_of_nonneg h4
  have ev : v.tmod m = v % m := Int.tmod_eq_emod_of_nonneg h6
  have du : u.tdiv m = u / m := Int.tdiv_eq_ediv_of_nonneg h4
  have dv : v.tdiv m = v / m := Int.tdiv_eq_ediv_of_nonneg h6
  have c1 : 0 ≤ u % m := Int.emod_nonneg _ (by omega)
  have c2 : u % m < m := Int.emod_lt_of_pos _ (by omega)
  have c3 : 0 ≤ v % m := Int.emod_nonneg _ (by omega)
  have c4 : v % m < m := Int.emod_lt_of_pos _ (by omega)
  have ed : (u % m + v % m).tmod m = (u % m + v % m) % m := Int.tmod_eq_emod_of_nonneg (by omega)
  have c5 : 0 ≤ (u % m + v % m) % m := Int.emod_nonneg _ (by omega)
  have c6 : (u % m + v % m) % m < m := Int.emod_lt_of_pos _ (by omega)
  have c7 : 0 ≤ (u % m + v % m) % m * p := Int.mul_nonneg c5 (by omega)
  have c8 : (u % m + v % m) % m * p ≤ 16 * 1048576 := Int.mul_le_mul (by omega) (by omega) (by omega) (by omega)
  have c9 : 0 ≤ p * m := Int.mul_nonneg (by omega) (by omega)
  have c10 : p * m ≤ 1048576 * 16 := Int.mul_le_mul (by omega) m2 (by omega) (by omega)
  have c11 : 0 ≤ u / m := Int.ediv_nonneg h4 (by omega)
  have c12 : u / m ≤ u := Int.ediv_le_self _ h4
  have c13 : 0 ≤ v / m := Int.ediv_nonneg h6 (by omega)
  have c14 : v / m ≤ v := Int.ediv_le_self _ h6
  refine wk_ok (X := XX) _ ?_
  show WK XX _ [] _ _
  simp (maxSteps := 10000000) (disch := first | assumption | omega) only [go_sem, ↓reduceIte, Nat.reduceEqDiff, reduceCtorEq, Nat.reduceAdd, Nat.reduceMul, Nat.reduceLeDiff, zc, Int.reduceToNat, s4, s5, s7, s8, q2, q3, q4, q5, eu, ev, ed, Bool.false_eq_true]
  refine FIN_of (by kernel_rfl) ?_
  simp (maxSteps := 10000000) (disch := first | assumption | omega) only [go_sem, ↓reduceIte, Nat.reduceEqDiff, reduceCtorEq, Nat.reduceAdd, Nat.reduceMul, Nat.reduceLeDiff, zc, Int.reduceToNat, s4, s5, s7, s8, q2, q3, q4, q5, eu, ev, ed, du, dv, Bool.false_eq_true]
  refine FIN_of (by kernel_rfl) ?_
  simp (maxSteps := 10000000) (disch := first | assumption | omega) only [go_sem, ↓reduceIte, Nat.reduceEqDiff, reduceCtorEq, Nat.reduceAdd, Nat.reduceMul, Nat.reduceLeDiff, zc, Int.reduceToNat, s4, s5, s7, s8, q2, q3, q4, q5, eu, ev, ed, du, dv, Bool.false_eq_true]
  rw [if_neg (by omega)]
  exact q1
 ·rintro e ⟨sl', ro', gn'⟩ ⟨rfl, xs, hxs, q0, q1, q2, q3, q4, q5⟩
  dsimp only at q0 q1 q2 q3 q4 q5
  subst q0
  have hv : xs.map BX.v = rvO O := by
   unfold rvO
   rw [← hxs, List.map_map]
   exact List.map_congr_left fun z _ => z.ok
  rw [hv] at q4
  simp (maxSteps := 10000000) (disch := first | assumption | omega) only [go_sem, ↓reduceIte, Nat.reduceEqDiff, reduceCtorEq, Nat.reduceAdd, Nat.reduceMul, Nat.reduceLeDiff, zc, Int.reduceToNat, s7, q4]
  exact Yad
end Go.Proofs.YtmchdjiigfiabaaGreat
/- Orders and sizes of groups; sums of elements (reference). -/
namespace Go.Proofs.YtmchdjiigfiabaaGreat
open Go.RowKit
set_option maxRecDepth 1000000
def mnI (a b : Int) : Int := if b < a then b else a
def mxI (a b : Int) : Int := if b > a then b else a
theorem kMin_i (a b : Int) : kMin (i64 a) (.sc (.int .i64 b)) = some ⟨i64 (mnI a b), none, [], []⟩ := nr _
theorem kMax_i (a b : Int) : kMax (i64 a) (.sc (.int .i64 b)) = some ⟨i64 (mxI a b), none, [], []⟩ := nr _
attribute [go_sem] kMin_i kMax_i
theorem mnI_le (a b : Int) : mnI a b ≤ a ∧ mnI a b ≤ b := by unfold mnI; split <;> omega
theorem mnI_or (a b : Int) : mnI a b = a ∨ mnI a b = b := by unfold mnI; split <;> omega
def gsF (O : List Int) : Nat → Int
 | 0 => 1
 | i + 1 => mnI 17 (gsF O i * mnI (atI O i) 17)
def OrdP (O : List Int) : Prop := 0 < O.length ∧ ∀ i, i < O.length → 1 ≤ atI O i
open Classical in
noncomputable def gs5 (O : List Int) : Int := if OrdP O then gsF O O.length else 0
theorem gsF_rng {O : List Int} : ∀ {i : Nat}, (∀ j, j < i → 1 ≤ atI O j) → 1 ≤ gsF O i ∧ gsF O i ≤ 17
 | 0, _ => by simp [gsF]
 | i + 1, h => by
  obtain ⟨h1, h2⟩ := gsF_rng (i := i) fun j hj => h j (by omega)
  have h3 := h i (by omega)
  have h4 : 1 ≤ mnI (atI O i) 17 := by rcases mnI_or (atI O i) 17 with e | e <;> omega
  have h5 : 1 * 1 ≤ gsF O i * mnI (atI O i) 17 := Int.mul_le_mul h1 h4 (by omega) (by omega)
  simp only [gsF]
  have := mnI_le 17 (gsF O i * mnI (atI O i) 17)
  rcases mnI_or 17 (gsF O i * mnI (atI O i) 17) with e | e <;> omega
theorem pfx_pos1 {O : List Int} : ∀ {i : Nat}, (∀ j, j < i → 1 ≤ atI O j) → 1 ≤ pfx O i
 | 0, _ => by simp [pfx]
 | i + 1, h => by
  have h1 := pfx_pos1 (i := i) fun j hj => h j (by omega)
  have : 1 * 1 ≤ pfx O i * atI O i := Int.mul_le_mul h1 (h i (by omega)) (by omega) (by omega)
  simp only [pfx]; omega
theorem gsF_pfx {O : List Int} : ∀ {i : Nat}, (∀ j, j < i → 1 ≤ atI O j) → gsF O i = mnI 17 (pfx O i)
 | 0, _ => by simp [gsF, pfx, mnI]
 | i + 1, h => by
  have hp := pfx_pos1 (O := O) (i := i) fun j hj => h j (by omega)
  have ih := gsF_pfx (O := O) (i := i) fun j hj => h j (by omega)
  have h3 := h i (by omega)
  simp only [gsF, pfx]
  rw [ih]
  by_cases h1 : pfx O i < 17
  ·have e1 : mnI 17 (pfx O i) = pfx O i := by unfold mnI; rw [if_pos h1]
   rw [e1]
   by_cases h2 : 17 < atI O i
   ·have e2 : mnI (atI O i) 17 = 17 := by unfold mnI; rw [if_pos h2]
    have h4 : 1 * 17 ≤ pfx O i * 17 := Int.mul_le_mul_of_nonneg_right hp (by omega)
    have h5 : 1 * atI O i ≤ pfx O i * atI O i := Int.mul_le_mul_of_nonneg_right hp (by omega)
    rw [e2]; unfold mnI; split <;> split <;> omega
   ·have e2 : mnI (atI O i) 17 = atI O i := by unfold mnI; rw [if_neg h2]
    rw [e2]
  ·have e1 : mnI 17 (pfx O i) = 17 := by unfold mnI; rw [if_neg h1]
   have h4 : 1 ≤ mnI (atI O i) 17 := by rcases mnI_or (atI O i) 17 with e | e <;> omega
   have h5 : 17 * 1 ≤ 17 * mnI (atI O i) 17 := Int.mul_le_mul_of_nonneg_left h4 (by omega)
   have h6 : 17 * 1 ≤ pfx O i * atI O i := Int.mul_le_mul (by omega) h3 (by omega) (by omega)
   rw [e1]; unfold mnI at *; split <;> split <;> omega
def l6s (O : List Int) : Int := if pfx O O.length ≤ 8 then pfx O O.length else 9
theorem pfx_ge {O : List Int} {i : Nat} : ∀ {n : Nat}, (∀ j, j < n → 1 ≤ atI O j) → i ≤ n → pfx O i ≤ pfx O n
 | 0, _, h => by
  have : i = 0 := by omega
  subst this; omega
 | n + 1, h, hi => by
  rcases Nat.lt_or_ge i (n + 1) with h1 | h1
  ·have ih := pfx_ge (O := O) (i := i) (n := n) (fun j hj => h j (by omega)) (by omega)
   have hp := pfx_pos1 (O := O) (i := n) fun j hj => h j (by omega)
   have : pfx O n * 1 ≤ pfx O n * atI O n := Int.mul_le_mul_of_nonneg_left (h n (by omega)) (by omega)
   simp only [pfx]; omega
  ·have : i = n + 1 := by omega
   subst this; omega
theorem pfx_at {O : List Int} {i n : Nat} (h : ∀ j, j < n → 1 ≤ atI O j) (hi : i < n) : atI O i ≤ pfx O n := by
 have h1 := pfx_ge (i := i + 1) h (by omega)
 have hp := pfx_pos1 (O := O) (i := i) fun j hj => h j (by omega)
 have : 1 * atI O i ≤ pfx O i * atI O i := Int.mul_le_mul_of_nonneg_right hp (by have := h i hi; omega)
 simp only [pfx] at h1; omega
theorem OrdP.grp {O : List Int} (h : OrdP O) (hl : O.length ≤ 6) (hp : pfx O O.length ≤ 16) : GrpP O :=
 ⟨h.1, hl, fun i hi => ⟨h.2 i hi, by have := pfx_at h.2 hi; omega⟩, hp⟩
theorem gs5_eq {O : List Int} (h : OrdP O) (hp : pfx O O.length ≤ 16) : gs5 O = pfx O O.length := by
 unfold gs5
 rw [if_pos h, gsF_pfx h.2]
 unfold mnI; rw [if_pos (by omega)]
theorem gs5_of {O : List Int} (h1 : 1 ≤ gs5 O) (h8 : gs5 O ≤ 16) : OrdP O ∧ pfx O O.length = gs5 O := by
 unfold gs5 at *
 split at h1
 ·rename_i h
  rw [if_pos h] at h8
  rw [if_pos h]
  refine ⟨h, ?_⟩
  rw [gsF_pfx h.2] at h8 ⊢
  unfold mnI at *
  split at h8
  ·rename_i h2; rw [if_pos h2]
  ·omega
 ·omega
theorem gs5_0 {O : List Int} : gs5 O = 0 ↔ ¬ OrdP O := by
 unfold gs5
 constructor
 ·intro h hO
  rw [if_pos hO] at h
  have := gsF_rng hO.2
  omega
 ·intro h; rw [if_neg h]
theorem gs5_rng {O : List Int} : 0 ≤ gs5 O ∧ gs5 O ≤ 17 := by
 unfold gs5
 split
 ·rename_i h; have := gsF_rng h.2; omega
 ·omega
theorem OrdP_not {O : List Int} (i : Nat) (hi : i < O.length) (h : atI O i < 1) : ¬ OrdP O := fun h2 => by have := h2.2 i hi; omega
theorem cGs {a : AV} {O : List Int} (ha : isL a O) (hx : O.length ≤ maxN) : CallOK Tryz.prog 59 [a] (i64 (gs5 O)) := by
 have hx' : O.length ≤ 4294967296 := hx
 refine call_of (fn := Tryz.f59) (code := bodyOf Tryz.f59) Tryz.func59 rfl (by kernel_rfl) (rfl) ?_
 intro sl hs
 have s0 : sl 0 = a := hs 0
 dsimp only [Tryz.f59, bodyOf, Option.getD]
 refine Yaa ?_
 refine WK_for (fun i st => st.sl 0 = a ∧ st.sl 3 = i64 (gsF O i) ∧ st.sl 6 = a ∧ st.sl 7 = i64 (O.length : Int) ∧ st.sl 8 = i64 (i : Int) ∧ (∀ x, x < i → 1 ≤ atI O x)) O.length ?_ ?_ ?_
 ·refine Yaz ?_
  exact ⟨rfl, rfl, fun x hx => absurd hx (Nat.not_lt_zero _)⟩
 ·rintro i sl ro gn hi ⟨s0, s3, s6, s7, s8, q⟩
  dsimp only at s0 s3 s6 s7 s8
  have hi' : (i : Int) < (O.length : Nat) := by omega
  obtain ⟨g1, g2⟩ := gsF_rng q
  by_cases h1 : atI O i < 1
  ·have e : gs5 O = 0 := gs5_0.2 (OrdP_not i hi h1)
   rw [e]
   simp (maxSteps := 10000000) (disch := first | assumption | omega) only [go_sem, ↓reduceIte, Nat.reduceEqDiff, reduceCtorEq, Nat.reduceAdd, Nat.reduceMul, Nat.reduceLeDiff, zc, Int.reduceToNat, s0, s3, s6, s7, s8, hi', hi, eq_true h1]
   exact Yad
  ·have hm := mnI_le (atI O i) 17
   have hm0 : 1 ≤ mnI (atI O i) 17 := by rcases mnI_or (atI O i) 17 with e | e <;> omega
   have hp1 : 0 ≤ gsF O i * mnI (atI O i) 17 := Int.mul_nonneg (by omega) (by omega)
   have hp2 : gsF O i * mnI (atI O i) 17 ≤ 17 * 17 := Int.mul_le_mul g2 hm.2 (by omega) (by omega)
   simp (maxSteps := 10000000) (disch := first | assumption | omega) only [go_sem, ↓reduceIte, Nat.reduceEqDiff, reduceCtorEq, Nat.reduceAdd, Nat.reduceMul, Nat.reduceLeDiff, zc, Int.reduceToNat, s0, s3, s6, s7, s8, hi', hi, eq_false h1]
   exact ⟨rfl, i64c (by omega), fun x hx => by
    rcases Nat.lt_or_ge x i with h | h
    ·exact q x h
    ·have : x = i := by omega
     subst this; omega⟩
 ·rintro sl ro gn ⟨s0, s3, s6, s7, s8, q⟩
  dsimp only at s0 s3 s6 s7 s8
  have hi' : ¬ ((O.length : Nat) : Int) < (O.length : Nat) := by omega
  by_cases h0 : O.length = 0
  ·have e : gs5 O = 0 := gs5_0.2 fun h => by have := h.1; omega
   have h0' : (O.length : Int) = 0 := by omega
   rw [e]
   simp (maxSteps := 10000000) (disch := first | assumption | omega) only [go_sem, ↓reduceIte, Nat.reduceEqDiff, reduceCtorEq, Nat.reduceAdd, Nat.reduceMul, Nat.reduceLeDiff, zc, Int.reduceToNat, s0, s3, s6, s7, s8, hi', h0']
   exact Yad
  ·have e : gs5 O = gsF O O.length := by unfold gs5; rw [if_pos ⟨by omega, q⟩]
   have h0' : ¬ (O.length : Int) = 0 := by omega
   rw [e]
   simp (maxSteps := 10000000) (disch := first | assumption | omega) only [go_sem, ↓reduceIte, Nat.reduceEqDiff, reduceCtorEq, Nat.reduceAdd, Nat.reduceMul, Nat.reduceLeDiff, zc, Int.reduceToNat, s0, s3, s6, s7, s8, hi', eq_false h0']
   exact Yad
theorem cL6o {a : AV} {O : List Int} (ha : isL a O) (hx : O.length ≤ maxN) {t : Bool} (ht : t = true ↔ OrdP O) : CallOK Tryz.prog 62 [a] (bo t) := by
 have hx' : O.length ≤ 4294967296 := hx
 refine call_of (fn := Tryz.f62) (code := bodyOf Tryz.f62) Tryz.func62 rfl (by kernel_rfl) (rfl) ?_
 intro sl hs
 have s0 : sl 0 = a := hs 0
 dsimp only [Tryz.f62, bodyOf, Option.getD]
 refine Yaa ?_
 refine WK_for (fun i st => st.sl 0 = a ∧ st.sl 3 = i64 (i : Int) ∧ (∀ x, x < i → 1 ≤ atI O x)) O.length ?_ ?_ ?_
 ·refine Yaz ?_
  exact ⟨rfl, fun x hx => absurd hx (Nat.not_lt_zero _)⟩
 ·rintro i sl ro gn hi ⟨s0, s3, q⟩
  dsimp only at s0 s3
  have hi' : (i : Int) < (O.length : Nat) := by omega
  by_cases h1 : atI O i < 1
  ·have e : t = false := by
    cases t with
    | false => rfl
    | true => exact absurd (ht.1 rfl) (OrdP_not i hi h1)
   subst e
   simp (maxSteps := 10000000) (disch := first | assumption | omega) only [go_sem, ↓reduceIte, Nat.reduceEqDiff, reduceCtorEq, Nat.reduceAdd, Nat.reduceMul, Nat.reduceLeDiff, zc, Int.reduceToNat, s0, s3, hi', hi, eq_true h1]
   exact Yad
  ·simp (maxSteps := 10000000) (disch := first | assumption | omega) only [go_sem, ↓reduceIte, Nat.reduceEqDiff, reduceCtorEq, Nat.reduceAdd, Nat.reduceMul, Nat.reduceLeDiff, zc, Int.reduceToNat, s0, s3, hi', hi, eq_false h1]
   exact ⟨i64c (by omega), fun x hx => by
    rcases Nat.lt_or_ge x i with h | h
    ·exact q x h
    ·have : x = i := by omega
     subst this; omega⟩
 ·rintro sl ro gn ⟨s0, s3, q⟩
  dsimp only at s0 s3
  have hi' : ¬ ((O.length : Nat) : Int) < (O.length : Nat) := by omega
  have e : decide (0 < (O.length : Int)) = t := by
   cases t with
   | true =>
    have := (ht.1 rfl).1
    exact decide_eq_true (by omega)
   | false =>
    refine decide_eq_false fun h => ?_
    have := ht.2 ⟨by omega, q⟩
    cases this
  simp (maxSteps := 10000000) (disch := first | assumption | omega) only [go_sem, ↓reduceIte, Nat.reduceEqDiff, reduceCtorEq, Nat.reduceAdd, Nat.reduceMul, Nat.reduceLeDiff, zc, Int.reduceToNat, s0, s3, hi', e]
  simp only [zr, zb, retR, resL, outT, outL, zes, zez, oneV, zcp, zed, zfi, Ro.dl, St.ev, zhk, ↓za, ↓reduceIte, Nat.reduceEqDiff, Nat.reduceAdd, Nat.reduceLeDiff, e]
theorem cL6s {a : AV} {O : List Int} (ha : isL a O) (hx : O.length ≤ maxN) (h1 : ∀ i, i < O.length → 1 ≤ atI O i) : CallOK Tryz.prog 90 [a, i64 8] (i64 (l6s O)) := by
 have hx' : O.length ≤ 4294967296 := hx
 refine call_of (fn := Tryz.f90) (code := bodyOf Tryz.f90) Tryz.func90 rfl (by kernel_rfl) (rfl) ?_
 intro sl hs
 have s0 : sl 0 = a := hs 0
 have s1 : sl 1 = i64 8 := hs 1
 dsimp only [Tryz.f90, bodyOf, Option.getD]
 refine Yac ?_
 refine WK_for (fun i st => st.sl 0 = a ∧ st.sl 1 = i64 8 ∧ st.sl 5 = i64 (pfx O i) ∧ st.sl 6 = i64 (i : Int) ∧ (pfx O i ≤ 8)) O.length ?_ ?_ ?_
 ·refine Yan ?_
  exact ⟨rfl, rfl, by simp [pfx]⟩
 ·rintro i sl ro gn hi ⟨s0, s1, s5, s6, q⟩
  dsimp only at s0 s1 s5 s6
  have hi' : (i : Int) < (O.length : Nat) := by omega
  have hp := pfx_pos1 (O := O) (i := i) fun j hj => h1 j (by omega)
  have hb := h1 i hi
  by_cases h2 : 8 < atI O i
  ·have e : l6s O = 9 := by
    have := pfx_at h1 hi
    unfold l6s; rw [if_neg (by omega)]
   rw [e]
   simp (maxSteps := 10000000) (disch := first | assumption | omega) only [go_sem, ↓reduceIte, Nat.reduceEqDiff, reduceCtorEq, Nat.reduceAdd, Nat.reduceMul, Nat.reduceLeDiff, zc, Int.reduceToNat, s0, s1, s5, s6, hi', hi, eq_true h2]
   refine Yab ?_
   rfl
  ·have m1 : 1 * 1 ≤ pfx O i * atI O i := Int.mul_le_mul hp hb (by omega) (by omega)
   have m2 : pfx O i * atI O i ≤ 8 * 8 := Int.mul_le_mul q (by omega) (by omega) (by omega)
   have m3 : pfx O i * atI O i = pfx O (i + 1) := rfl
   by_cases h3 : 8 < pfx O i * atI O i
   ·have e : l6s O = 9 := by
     have := pfx_ge (O := O) (i := i + 1) (n := O.length) h1 (by omega)
     unfold l6s; rw [if_neg (by omega)]
    rw [e]
    simp (maxSteps := 10000000) (disch := first | assumption | omega) only [go_sem, ↓reduceIte, Nat.reduceEqDiff, reduceCtorEq, Nat.reduceAdd, Nat.reduceMul, Nat.reduceLeDiff, zc, Int.reduceToNat, s0, s1, s5, s6, hi', hi, eq_false h2, eq_true h3]
    refine Yab ?_
    rfl
   ·simp (maxSteps := 10000000) (disch := first | assumption | omega) only [go_sem, ↓reduceIte, Nat.reduceEqDiff, reduceCtorEq, Nat.reduceAdd, Nat.reduceMul, Nat.reduceLeDiff, zc, Int.reduceToNat, s0, s1, s5, s6, hi', hi, eq_false h2, eq_false h3]
    exact ⟨rfl, i64c (by omega), by omega⟩
 ·rintro sl ro gn ⟨s0, s1, s5, s6, q⟩
  dsimp only at s0 s1 s5 s6
  have hi' : ¬ ((O.length : Nat) : Int) < (O.length : Nat) := by omega
  have e : l6s O = pfx O O.length := by unfold l6s; rw [if_pos q]
  rw [e]
  simp (maxSteps := 10000000) (disch := first | assumption | omega) only [go_sem, ↓reduceIte, Nat.reduceEqDiff, reduceCtorEq, Nat.reduceAdd, Nat.reduceMul, Nat.reduceLeDiff, zc, Int.reduceToNat, s0, s1, s5, s6, hi']
  exact Yad
theorem cL7s {a : AV} {O : List Int} (ha : isL a O) (hx : O.length ≤ maxN) (h1 : ∀ i, i < O.length → 1 ≤ atI O i) : CallOK Tryz.prog 63 [a] (i64 (l6s O)) := by
 refine call_of (fn := Tryz.f63) (code := bodyOf Tryz.f63) Tryz.func63 rfl (by kernel_rfl) (rfl) ?_
 intro sl hs
 have s0 : sl 0 = a := hs 0
 dsimp only [Tryz.f63, bodyOf, Option.getD]
 refine Yaa ?_
 refine CLL_pure _ (cL6s ha hx h1) PUt rfl rfl ?_
 refine Yaa ?_
 exact Yad
end Go.Proofs.YtmchdjiigfiabaaGreat
/- Bytes, numbers of 64 bits without a sign, sources of numbers; what draws leave. -/
namespace Go.Proofs.YtmchdjiigfiabaaGreat
open Go.RowKit
set_option maxRecDepth 1000000
theorem impE_t2 (b : Nat) (gn : Nat → Nat) (v x : Value) : impE b gn (.tup [.sc v, .sc x]) = ⟨.tup [.sc v, .sc x], none, [], []⟩ := nr _
attribute [go_sem] impE_t2 kFieldV
abbrev u64 (n : Int) : AV := .sc (.int .u64 n)
abbrev u8 (n : Int) : AV := .sc (.int .u8 n)
def isB (a : AV) (xs : List Int) : Prop := a = .imm (xs.map u8) ∨ (xs = [] ∧ ∃ o c, a = .sc (.slice o 0 c))
theorem isB_pure {a : AV} {xs : List Int} (h : isB a xs) : pureA a = true := by
 rcases h with rfl | ⟨_, o, c, rfl⟩
 ·simp only [pureA]
  induction xs with
  | nil => rfl
  | cons x xs ih => simp only [List.map_cons, pureL, pureA, ih, Bool.and_self]
 ·rfl
theorem isB_sites {a : AV} {xs : List Int} (h : isB a xs) : zdy a = [] := by
 rcases h with rfl | ⟨_, o, c, rfl⟩ <;> rfl
theorem isB_cellB {a : AV} {xs : List Int} (ro : Ro) (h : isB a xs) : cellOkB ro a = true := by
 rcases h with rfl | ⟨_, o, c, rfl⟩ <;> rfl
theorem isB_lift {a : AV} {xs : List Int} (s g : Nat) (p : List Nat) (h : isB a xs) : lift s g p a = a := by
 rcases h with rfl | ⟨_, o, c, rfl⟩ <;> rfl
theorem isB_len {a : AV} {xs : List Int} (h : isB a xs) {ro : Ro} {a1 : Nat} {a2 : Bool} {a3 : List Value} {e : Nat} {a5 : List (Nat × Nat)} {a6 : Option IntKind} {a7 a8 : Bool} : kLen1 (some ⟨a1, a2, a3, some e, a5, a6, a7, a8⟩) ro a = some ⟨i64 xs.length, none, [], []⟩ := by
 rcases h with rfl | ⟨rfl, o, c, rfl⟩
 ·simp [kLen1]
 ·rfl
theorem isB_idx {a : AV} {xs : List Int} (h : isB a xs) {k : Nat} (hk : k < xs.length) {ro : Ro} {a1 : Nat} {a2 : Bool} {a3 : List Value} {e : Nat} {a5 : List (Nat × Nat)} {a6 : Option IntKind} {a7 a8 : Bool} : kIdx (some ⟨a1, a2, a3, some e, a5, a6, a7, a8⟩) ro a (i64 (k : Int)) = some ⟨.iptr [u8 (atI xs k)], none, [], []⟩ := by
 rcases h with rfl | ⟨rfl, o, c, rfl⟩
 ·simp [kIdx, hk, atI]
 ·simp at hk
theorem tiB1 : ti0 5 = some ⟨1, false, [Value.int .u8 0], none, [], some .u8, false, false⟩ := by kernel_rfl
theorem tiB2 : ti0 22 = some ⟨1, false, [Value.slice none 0 0], some 5, [], none, false, false⟩ := by kernel_rfl
theorem tiB3 : ti0 60 = some ⟨1, false, [Value.int .u64 0], none, [], some .u64, false, false⟩ := by kernel_rfl
theorem tiB4 : ti0 62 = some ⟨3, true, [Value.slice none 0 0, Value.int .i64 0, Value.int .u64 0], none, [(0, 22), (1, 3), (2, 60)], none, false, false⟩ := by kernel_rfl
attribute [go_sem] isB_len isB_idx isB_lift isB_cellB isB_sites isB_pure tiB1 tiB2 tiB3 tiB4
def wU (n : Int) : Int := IntKind.wrap .u64 n
def shU (n : Int) : Int := n.fdiv (2 ^ 33)
def anU (n : Int) : Int := IntKind.wrap .u64 ((BitVec.ofInt 64 n &&& BitVec.ofInt 64 16777215).toNat : Nat)
theorem anU_rng (n : Int) : 0 ≤ anU n ∧ anU n ≤ 16777215 := by
 have h : (BitVec.ofInt 64 n &&& BitVec.ofInt 64 16777215).toNat ≤ 16777215 := by
  rw [BitVec.toNat_and]
  have : (BitVec.ofInt 64 16777215).toNat = 16777215 := by decide
  rw [this]
  exact Nat.and_le_right
 unfold anU
 have e : IntKind.bits .u64 = 64 := rfl
 have s : IntKind.signed .u64 = false := rfl
 simp only [IntKind.wrap, e, s, Bool.false_and, Bool.false_eq_true, if_false]
 generalize (BitVec.ofInt 64 n &&& BitVec.ofInt 64 16777215).toNat = m at h
 omega
section
variable {ro : Ro} {a b : Int} {a1 : Nat} {a2 : Bool} {a3 : List Value} {e : Option Nat} {a5 : List (Nat × Nat)} {a6 : Option IntKind} {a7 a8 : Bool}
theorem kB_addU : kBin0 (some ⟨a1, a2, a3, e, a5, a6, a7, a8⟩) ro .add (u64 a) (u64 b) = some ⟨u64 (wU (a + b)), none, [], []⟩ := nr _
theorem kB_mulU : kBin0 (some ⟨a1, a2, a3, e, a5, a6, a7, a8⟩) ro .mul (u64 a) (u64 b) = some ⟨u64 (wU (a * b)), none, [], []⟩ := nr _
theorem kB_shrU : kBin0 (some ⟨a1, a2, a3, e, a5, a6, a7, a8⟩) ro .shr (u64 a) (u64 33) = some ⟨u64 (shU a), none, [], []⟩ := nr _
theorem kB_andU : kBin0 (some ⟨a1, a2, a3, e, a5, a6, a7, a8⟩) ro .and (u64 a) (u64 16777215) = some ⟨u64 (anU a), none, [], []⟩ := nr _
variable {k1 : IntKind} {c1 : Nat} {c2 : Bool} {c3 : List Value} {f : Option Nat} {c5 : List (Nat × Nat)} {c7 c8 : Bool}
theorem kConv_iU {ti : Nat → Option TI} {ro : Ro} : kConv ti ro (some ⟨a1, a2, a3, e, a5, some k1, a7, a8⟩) (some ⟨c1, c2, c3, f, c5, some .u64, c7, c8⟩) (i64 a) = some ⟨u64 (wU a), none, [], []⟩ := nr _
theorem kConv_bU {ti : Nat → Option TI} {ro : Ro} : kConv ti ro (some ⟨a1, a2, a3, e, a5, some k1, a7, a8⟩) (some ⟨c1, c2, c3, f, c5, some .u64, c7, c8⟩) (u8 a) = some ⟨u64 (wU a), none, [], []⟩ := nr _
theorem kConv_Ui {ti : Nat → Option TI} {ro : Ro} : kConv ti ro (some ⟨a1, a2, a3, e, a5, some k1, a7, a8⟩) (some ⟨c1, c2, c3, f, c5, some .i64, c7, c8⟩) (u64 a) = some ⟨i64 (wrF a), none, [], []⟩ := by rw [wrF_eq]; rfl
theorem kConv_bi {ti : Nat → Option TI} {ro : Ro} : kConv ti ro (some ⟨a1, a2, a3, e, a5, some k1, a7, a8⟩) (some ⟨c1, c2, c3, f, c5, some .i64, c7, c8⟩) (u8 a) = some ⟨i64 (wrF a), none, [], []⟩ := by rw [wrF_eq]; rfl
end
attribute [go_sem] kB_addU kB_mulU kB_shrU kB_andU kConv_iU kConv_bU kConv_Ui kConv_bi
def nxH (h : Int) : Int := wU (wU (h * 6364136223846793005) + 1442695040888963407)
def nxX (h : Int) : Int := anU (shU (nxH h))
abbrev srcV (a : AV) (at' h : Int) : AV := .bx [a, i64 at', u64 h]
section
variable {a : AV} {bs : List Int} {s g : Nat} {ro : Ro} {gn : Nat → Nat} {n h : Int} {k : Nat}
theorem inNext0 (hn : n < 1) : InOK Tryz.prog 35 [.ptr s g [] 0, i64 n] ro gn (i64 0) ro gn := by
 refine in_of (fn := Tryz.f35) (code := bodyOf Tryz.f35) Tryz.func35 rfl (by kernel_rfl) ?_
 intro sl hs
 have s0 : sl 0 = .ptr s g [] 0 := hs 0
 have s1 : sl 1 = i64 n := hs 1
 dsimp only [Tryz.f35, bodyOf, Option.getD]
 simp (maxSteps := 10000000) (disch := first | assumption | omega) only [go_sem, ↓reduceIte, Nat.reduceEqDiff, reduceCtorEq, Nat.reduceAdd, Nat.reduceMul, Nat.reduceLeDiff, zc, s0, s1]
 refine ⟨.inr rfl, ⟨_, rfl, ?_⟩, rfl, rfl⟩
 simp only [↓za, ↓reduceIte, Nat.reduceEqDiff, zb, reduceCtorEq, oneOrA]
theorem inNext1 (hn : 1 ≤ n ∧ n < 4611686018427387904) (ha : isB a bs) (hb : ∀ k, k < bs.length → 0 ≤ atI bs k ∧ atI bs k < 256) (hl : bs.length < 4611686018427387904) (hk : k < bs.length) (hro : ro s g = some (srcV a (k : Int) h)) : InOK Tryz.prog 35 [.ptr s g [] 0, i64 n] ro gn (i64 ((nxX h + atI bs k).tmod n)) (upr ro s g (srcV a ((k + 1 : Nat) : Int) (nxH h))) gn := by
 refine in_of (fn := Tryz.f35) (code := bodyOf Tryz.f35) Tryz.func35 rfl (by kernel_rfl) ?_
 intro sl hs
 have s0 : sl 0 = .ptr s g [] 0 := hs 0
 have s1 : sl 1 = i64 n := hs 1
 have hx := anU_rng (shU (wU (wU (h * 6364136223846793005) + 1442695040888963407)))
 have hbk := hb k hk
 have hk' : (k : Int) < bs.length := by omega
 dsimp only [Tryz.f35, bodyOf, Option.getD]
 simp (maxSteps := 10000000) (disch := first | assumption | omega) only [go_sem, ↓reduceIte, Nat.reduceEqDiff, reduceCtorEq, Nat.reduceAdd, Nat.reduceMul, Nat.reduceLeDiff, zc, s0, s1, hro]
 refine FIN_of (by kernel_rfl) ?_
 refine Ycy ?_
 refine FIN_of (by kernel_rfl) ?_
 refine Ycy ?_
 refine ⟨.inr rfl, ⟨_, rfl, ?_⟩, ?_, rfl⟩
 ·simp only [↓za, ↓reduceIte, Nat.reduceEqDiff, zb, reduceCtorEq, oneOrA, nxX, nxH]
 ·simp only [upr_upr, nxH, Int.natCast_add, Int.natCast_one]
theorem inNext2 (hn : 1 ≤ n ∧ n < 4611686018427387904) (ha : isB a bs) (hl : bs.length < 4611686018427387904) (hk : k = bs.length) (hro : ro s g = some (srcV a (k : Int) h)) : InOK Tryz.prog 35 [.ptr s g [] 0, i64 n] ro gn (i64 ((nxX h).tmod n)) (upr ro s g (srcV a (k : Int) (nxH h))) gn := by
 refine in_of (fn := Tryz.f35) (code := bodyOf Tryz.f35) Tryz.func35 rfl (by kernel_rfl) ?_
 intro sl hs
 have s0 : sl 0 = .ptr s g [] 0 := hs 0
 have s1 : sl 1 = i64 n := hs 1
 have hx := anU_rng (shU (wU (wU (h * 6364136223846793005) + 1442695040888963407)))
 have hk' : ¬ (k : Int) < bs.length := by omega
 dsimp only [Tryz.f35, bodyOf, Option.getD]
 simp (maxSteps := 10000000) (disch := first | assumption | omega) only [go_sem, ↓reduceIte, Nat.reduceEqDiff, reduceCtorEq, Nat.reduceAdd, Nat.reduceMul, Nat.reduceLeDiff, zc, s0, s1, hro]
 refine FIN_of (by kernel_rfl) ?_
 refine Ycy ?_
 refine ⟨.inr rfl, ⟨_, rfl, ?_⟩, ?_, rfl⟩
 ·simp only [↓za, ↓reduceIte, Nat.reduceEqDiff, zb, reduceCtorEq, oneOrA, nxX, nxH]
 ·simp only [upr_upr, nxH]
theorem inNext (hn : n < 4611686018427387904) (ha : isB a bs) (hb : ∀ k, k < bs.length → 0 ≤ atI bs k ∧ atI bs k < 256) (hl : bs.length < 4611686018427387904) (hk : k ≤ bs.length) (h : Int) :
  ∃ (v : Int) (k' : Nat) (h' : Int), k' ≤ bs.length ∧ (n < 1 → v = 0) ∧ (1 ≤ n → 0 ≤ v ∧ v < n) ∧ ∀ (s g : Nat) (ro : Ro) (gn : Nat → Nat), ro s g = some (srcV a (k : Int) h) → InOK Tryz.prog 35 [.ptr s g [] 0, i64 n] ro gn (i64 v) (upr ro s g (srcV a (k' : Int) h')) gn := by
 rcases (by omega : n < 1 ∨ 1 ≤ n) with h1 | h1
 ·refine ⟨0, k, h, hk, fun _ => rfl, fun h2 => by omega, fun s g ro gn hro => ?_⟩
  rw [upr_id _ _ _ _ hro]
  exact inNext0 h1
 ·have hx : 0 ≤ nxX h := (anU_rng _).1
  rcases Nat.lt_or_ge k bs.length with h2 | h2
  ·have := hb k h2
   exact ⟨_, k + 1, _, h2, fun h3 => by omega, fun _ => ⟨Int.tmod_nonneg _ (by omega), Int.tmod_lt_of_pos _ (by omega)⟩, fun s g ro gn hro => inNext1 ⟨h1, hn⟩ ha hb hl h2 hro⟩
  ·exact ⟨_, k, _, hk, fun h3 => by omega, fun _ => ⟨Int.tmod_nonneg _ hx, Int.tmod_lt_of_pos _ (by omega)⟩, fun s g ro gn hro => inNext2 ⟨h1, hn⟩ ha hl (by omega) hro⟩
def hFrom (bs : List Int) : Nat → Int
 | 0 => wU (7219 + wU (bs.length : Int))
 | i + 1 => wU (wU (wU (hFrom bs i * 1099511628211) + wU (atI bs i)) + 11)
theorem inFrom (ha : isB a bs) (hl : bs.length ≤ 4096) (ro : Ro) (gn : Nat → Nat) : InOK Tryz.prog 17 [a] ro gn (.ptr 8288 (gn 8288 + 1) [] 0) (upr ro 8288 (gn 8288 + 1) (srcV a 0 (hFrom bs bs.length))) (upg gn 8288 (gn 8288 + 1)) := by
 refine in_of (fn := Tryz.f17) (code := bodyOf Tryz.f17) Tryz.func17 rfl (by kernel_rfl) ?_
 intro sl hs
 have s0 : sl 0 = a := hs 0
 have ha0 := ha
 rcases ha0 with h0 | ⟨_, o, c, h0⟩
 all_goals
  have ha' := ha
  rw [h0] at ha'
  have s0' := s0
  rw [h0] at s0'
  dsimp only [Tryz.f17, bodyOf, Option.getD]
  simp (maxSteps := 10000000) (disch := first | assumption | omega) only [go_sem, ↓reduceIte, Nat.reduceEqDiff, reduceCtorEq, Nat.reduceAdd, Nat.reduceMul, Nat.reduceLeDiff, zc, setL, s0']
  simp only [← h0]
  refine WK_for (fun i st => st.sl 0 = a ∧ st.sl 3 = .ptr 8288 (gn 8288 + 1) [] 0 ∧ st.sl 4 = i64 (i : Int) ∧ st.ro = upr ro 8288 (gn 8288 + 1) (srcV a 0 (hFrom bs i)) ∧ st.gn = upg gn 8288 (gn 8288 + 1)) bs.length ?_ ?_ ?_
  ·simp only [↓za, ↓reduceIte, Nat.reduceEqDiff, zb, reduceCtorEq, s0, hFrom]
   trivial
  ·rintro i sl ro' gn' hi ⟨s0, sp, si, rfl, rfl⟩
   dsimp only at s0 sp si
   have hi' : (i : Int) < (bs.length : Nat) := by omega
   refine Ycz ?_
   refine FIN_of (by kernel_rfl) ?_
   refine Ycz ?_
   exact ⟨i64c (by omega), by rw [upr_upr]; rfl⟩
  ·rintro sl ro' gn' ⟨s0, sp, si, rfl, rfl⟩
   dsimp only at s0 sp si
   have hi' : ¬ ((bs.length : Nat) : Int) < (bs.length : Nat) := by omega
   refine Ycz ?_
   refine ⟨.inr rfl, ⟨_, rfl, ?_⟩, rfl, rfl⟩
   simp only [↓za, ↓reduceIte, Nat.reduceEqDiff, zb, reduceCtorEq, oneOrA, sp]
end
theorem in_ofS {f : Nat} {fn : Func} {code : Code} {args : List AV} {ro : Ro} {gn : Nat → Nat} {Po : AV → Ro → (Nat → Nat) → Prop} (hf : Tryz.prog.funcs[f]? = some fn) (hb : fn.body = some code)
  (hok : (!(fn.name == "runtime.NumGoroutine") && dstOK fn.ntmps code && decide (args.length ≤ fn.ntmps)) = true)
  (h : ∀ sl : Nat → AV, (∀ k, sl k = args.getD k (.sc undef)) → WK XX code [] (RETS ti0 fn.results.toList Po) ⟨sl, ro, gn⟩) : InS Tryz.prog f args ro gn Po :=
 in_ofGS _ (tiG_ok _) mixed0 hf hb hok h
theorem InS.mono {P : Program} {f : Nat} {args : List AV} {ro : Ro} {gn : Nat → Nat} {Po Po' : AV → Ro → (Nat → Nat) → Prop} (h : InS P f args ro gn Po) (hp : ∀ a b c, Po a b c → Po' a b c) : InS P f args ro gn Po' := by
 refine ⟨h.1, fun w0 A0 F0 c Φ vs h1 h2 h3 h4 => (h.2 w0 A0 F0 c Φ vs h1 h2 h3 h4).mono ?_⟩
 rintro en w' ⟨v, c', Φ', r', k1, k2, k3, k4, k5, k6⟩
 exact ⟨v, c', Φ', r', k1, k2, hp _ _ _ k3, k4, k5, k6⟩
theorem RETS_1 {ti : Nat → Option TI} {k : Nat} {Po : AV → Ro → (Nat → Nat) → Prop} {sl : Nat → AV} {ro : Ro} {gn : Nat → Nat} (v : AV) (h : sl k = v) (hp : Po v ro gn) : RETS ti [.tmp k] Po .ret ⟨sl, ro, gn⟩ := ⟨.inr rfl, [sl k], rfl, by show Po (sl k) ro gn; rw [h]; exact hp⟩
abbrev e0 : FP := ⟨some [], []⟩
structure Cod (a : AV) (bs : List Int) : Prop where
 b : isB a bs
 r : ∀ k, k < bs.length → 0 ≤ atI bs k ∧ atI bs k < 256
 l : bs.length < 4611686018427387904
def Src (a : AV) (bs : List Int) (o : Option AV) : Prop := ∃ (k : Nat) (h : Int), k ≤ bs.length ∧ o = some (srcV a (k : Int) h)
structure Frm (W : List Nat) (g : Nat) (ro : Ro) (gn : Nat → Nat) (ro' : Ro) (gn' : Nat → Nat) : Prop where
 off : ∀ s, s ∉ W → ro' s = ro s ∧ gn' s = gn s
 up : ∀ x, gn x ≤ gn' x
 kp : ∀ x y, y ≤ gn x → ¬ (x = 8288 ∧ y = g) → ro' x y = ro x y
section
variable {W : List Nat} {g : Nat} {ro ro' ro'' : Ro} {gn gn' gn'' : Nat → Nat}
theorem Frm.refl (W : List Nat) (g : Nat) (ro : Ro) (gn : Nat → Nat) : Frm W g ro gn ro gn := ⟨fun _ _ => ⟨rfl, rfl⟩, fun _ => Nat.le_refl _, fun _ _ _ _ => rfl⟩
theorem Frm.trans (h : Frm W g ro gn ro' gn') (h' : Frm W g ro' gn' ro'' gn'') : Frm W g ro gn ro'' gn'' :=
 ⟨fun s hs => ⟨(h'.off s hs).1.trans (h.off s hs).1, (h'.off s hs).2.trans (h.off s hs).2⟩, fun x => Nat.le_trans (h.up x) (h'.up x), fun x y h1 h2 => (h'.kp x y (Nat.le_trans h1 (h.up x)) h2).trans (h.kp x y h1 h2)⟩
theorem Frm.mono {W' : List Nat} (h : Frm W g ro gn ro' gn') (hw : ∀ s, s ∈ W → s ∈ W') : Frm W' g ro gn ro' gn' := ⟨fun s hs => h.off s fun e => hs (hw s e), h.up, h.kp⟩
theorem Frm.monoB {W' : List Nat} (h : Frm W g ro gn ro' gn') (hw : W.all (fun s => W'.contains s) = true) : Frm W' g ro gn ro' gn' := h.mono fun s hs => List.contains_iff_mem.1 (List.all_eq_true.1 hw s hs)
theorem upr_col {ro : Ro} {s g s' : Nat} {v : AV} (h : s' ≠ s) : upr ro s g v s' = ro s' := by
 funext y; rw [zdb, if_neg (fun e => h e.1)]
theorem Frm.src (h : Frm W g ro gn ro' gn') (v : AV) (hW : 8288 ∈ W) : Frm W g ro gn (upr ro' 8288 g v) gn' :=
 ⟨fun s hs => ⟨(upr_col (fun e => hs (by rw [e]; exact hW))).trans (h.off s hs).1, (h.off s hs).2⟩, h.up, fun x y h1 h2 => by rw [zdb, if_neg h2]; exact h.kp x y h1 h2⟩
theorem Frm.al (h : Frm W g ro gn ro' gn') (t u : Nat) (v : AV) (hW : t ∈ W) (hu : u = gn' t + 1) : Frm W g ro gn (upr ro' t u v) (upg gn' t u) := by
 subst hu
 refine ⟨fun s hs => ?_, fun x => ?_, fun x y h1 h2 => ?_⟩
 ·have hne : s ≠ t := fun e => hs (e ▸ hW)
  exact ⟨(upr_col hne).trans (h.off s hs).1, by rw [zda, if_neg hne]; exact (h.off s hs).2⟩
 ·have := h.up x
  rw [zda]
  split
  ·rename_i e; subst e; omega
  ·exact this
 ·rw [zdb, if_neg]
  ·exact h.kp x y h1 h2
  ·rintro ⟨rfl, rfl⟩
   have := h.up x
   omega
theorem Frm.wr (h : Frm W g ro gn ro' gn') (t u : Nat) (v : AV) (hW : t ∈ W) (ht : gn t < u) : Frm W g ro gn (upr ro' t u v) gn' :=
 ⟨fun s hs => ⟨(upr_col (fun e => hs (by rw [e]; exact hW))).trans (h.off s hs).1, (h.off s hs).2⟩, h.up, fun x y h1 h2 => by
  rw [zdb, if_neg]
  ·exact h.kp x y h1 h2
  ·rintro ⟨rfl, rfl⟩; omega⟩
def aftB (ops : Array Oper) (i : Nat) : Bool := (List.range ops.size).all fun k => !(decide (i < k)) || befB ops ops.size i k
theorem aftB_ok {ops : Array Oper} {i : Nat} (h : aftB ops i = true) : ∀ k, i < k → k < ops.size → befB ops ops.size i k = true := by
 intro k h1 h2
 have := List.all_eq_true.1 h k (List.mem_range.2 h2)
 simpa [h1] using this
theorem inX_frm {X : WX} {ops : Array Oper} {i f : Nat} {args : List AV} {st : St} {a : AV} {bs : List Int} {R : List Nat} {Res : (Nat → Nat) → AV → Ro → (Nat → Nat) → Prop} (h8 : 8288 ∈ W)
  (hc : ∀ ro1 gn1, (∀ s, s ∈ R ∨ s ∈ W → ro1 s = st.ro s) → (∀ s, s ∈ W → gn1 s = st.gn s) → InS X.P f args ro1 gn1 (fun r ro' gn' => Frm W g ro1 gn1 ro' gn' ∧ Src a bs (ro' 8288 g) ∧ Res gn1 r ro' gn'))
  (hloc : ∀ gn r ro' gn' ro2 gn1 gn2, (∀ s, s ∈ W → ro2 s = ro' s ∧ gn1 s = gn s ∧ gn2 s = gn' s) → Res gn r ro' gn' → Res gn1 r ro2 gn2) (ha : callsAft ops i = true)
  (hn : (∃ r ro' gn', Frm W g st.ro st.gn ro' gn' ∧ Src a bs (ro' 8288 g) ∧ Res st.gn r ro' gn') ∨ ∀ k, i < k → k < ops.size → befB ops ops.size i k = true) :
  inX X ops i f args st (fun r ro' gn' => Frm W g st.ro st.gn ro' gn' ∧ Src a bs (ro' 8288 g) ∧ Res st.gn r ro' gn') R W := by
 refine ⟨fun ro1 gn1 h1 h2 => (hc ro1 gn1 h1 h2).mono ?_, fun r ro' gn' h => h.1.off, ha, hn⟩
 rintro r ro' gn' ⟨k1, k2, k3⟩
 refine ⟨mixF W ro' st.ro, mixF W gn' st.gn, ⟨⟨fun s hs => ⟨mixF_out hs, mixF_out hs⟩, fun x => ?_, fun x y hy hxy => ?_⟩, by rw [mixF_in h8]; exact k2, hloc gn1 r ro' gn' _ _ _ (fun s hs => ⟨mixF_in hs, (h2 s hs).symm, mixF_in hs⟩) k3⟩, ?_, ?_⟩
 ·by_cases hx : x ∈ W
  ·rw [mixF_in hx, ← h2 x hx]; exact k1.up x
  ·rw [mixF_out hx]; exact Nat.le_refl _
 ·by_cases hx : x ∈ W
  ·rw [mixF_in hx, k1.kp x y (by rw [h2 x hx]; exact hy) hxy, h1 x (.inr hx)]
  ·rw [mixF_out hx]
 ·rw [mixF_mix]; exact (mixF_id fun s hs => (k1.off s hs).1).symm
 ·rw [mixF_mix]; exact (mixF_id fun s hs => (k1.off s hs).2).symm
end
section
variable {a : AV} {bs : List Int} {g : Nat} {ro : Ro} {gn : Nat → Nat} {n : Int}
def NxP (a : AV) (bs : List Int) (g : Nat) (ro : Ro) (gn : Nat → Nat) (n : Int) (r : AV) (ro' : Ro) (gn' : Nat → Nat) : Prop := ∃ v : Int, r = i64 v ∧ (n < 1 → v = 0) ∧ (1 ≤ n → 0 ≤ v ∧ v < n) ∧ gn = gn' ∧ ∃ w, ro' = upr ro 8288 g w ∧ Src a bs (some w)
theorem sNext (hc : Cod a bs) (hs : Src a bs (ro 8288 g)) (hn : n < 4611686018427387904) : InS Tryz.prog 35 [.ptr 8288 g [] 0, i64 n] ro gn (NxP a bs g ro gn n) := by
 obtain ⟨k, h, hk, hro⟩ := hs
 obtain ⟨v, k', h', h1, h2, h3, h4⟩ := inNext hn hc.b hc.r hc.l hk h
 refine (h4 8288 g ro gn hro).toS.mono ?_
 rintro _ _ _ ⟨rfl, rfl, rfl⟩
 exact ⟨v, rfl, h2, h3, rfl, _, rfl, k', h', h1, rfl⟩
theorem mix_upr {ro ro1 : Ro} {g : Nat} {w : AV} (h : ro1 8288 = ro 8288) : upr ro1 8288 g w = mixF [8288] (upr ro 8288 g w) ro1 := by
 funext s
 by_cases hs : s = 8288
 ·subst hs
  rw [mixF_in (by simp)]
  funext y
  rw [zdb, zdb, h]
 ·rw [mixF_out (by simpa using hs), upr_col hs]
theorem mix_gn {gn gn1 : Nat → Nat} (h : gn1 8288 = gn 8288) : gn1 = mixF [8288] gn gn1 := by
 funext s
 by_cases hs : s = 8288
 ·subst hs; rw [mixF_in (by simp), h]
 ·rw [mixF_out (by simpa using hs)]
theorem NxP.off {r : AV} {ro' : Ro} {gn' : Nat → Nat} (h : NxP a bs g ro gn n r ro' gn') : ∀ s, s ∉ [8288] → ro' s = ro s ∧ gn' s = gn s := by
 obtain ⟨v, _, _, _, rfl, w, rfl, _⟩ := h
 intro s hs
 exact ⟨upr_col (by simpa using hs), rfl⟩
theorem NxP.ne (hs : Src a bs (ro 8288 g)) : ∃ r ro' gn', NxP a bs g ro gn n r ro' gn' := by
 obtain ⟨k, h, hk, hro⟩ := hs
 exact ⟨_, _, _, 0, rfl, fun _ => rfl, fun _ => ⟨Int.le_refl _, by omega⟩, rfl, _, rfl, k, h, hk, rfl⟩
theorem NxP.loc {r : AV} {ro1 ro' : Ro} {gn1 gn' : Nat → Nat} (h1 : ro1 8288 = ro 8288) (h2 : gn1 8288 = gn 8288) (h : NxP a bs g ro1 gn1 n r ro' gn') : ∃ ro2 gn2, NxP a bs g ro gn n r ro2 gn2 ∧ ro' = mixF [8288] ro2 ro1 ∧ gn' = mixF [8288] gn2 gn1 := by
 obtain ⟨v, e1, e2, e3, rfl, w, rfl, e4⟩ := h
 exact ⟨upr ro 8288 g w, gn, ⟨v, e1, e2, e3, rfl, w, rfl, e4⟩, mix_upr h1, mix_gn h2⟩
theorem NxP.out {r : AV} {ro' : Ro} {gn' : Nat → Nat} (h : NxP a bs g ro gn n r ro' gn') : ∃ v : Int, r = i64 v ∧ (n < 1 → v = 0) ∧ (1 ≤ n → 0 ≤ v ∧ v < n) ∧ gn = gn' ∧ (∀ s u, s ≠ 8288 → ro' s u = ro s u) ∧ Src a bs (ro' 8288 g) ∧ ∀ W rb gb, 8288 ∈ W → Frm W g rb gb ro gn → Frm W g rb gb ro' gn := by
 obtain ⟨v, e1, e2, e3, rfl, w, rfl, e4⟩ := h
 exact ⟨v, e1, e2, e3, rfl, fun s u hs => by rw [upr_col hs], by rw [upr_same]; exact e4, fun W rb gb hW hF => hF.src w hW⟩
theorem xNext {ops : Array Oper} {i : Nat} {st : St} (hc : Cod a bs) (hs : Src a bs (st.ro 8288 g)) (hn : n < 4611686018427387904) (ha : callsAft ops i = true) : inX XX ops i 35 [.ptr 8288 g [] 0, i64 n] st (NxP a bs g st.ro st.gn n) [] [8288] :=
 ⟨fun ro1 gn1 h1 h2 => (sNext hc (by rw [h1 8288 (.inr (by simp))]; exact hs) hn).mono fun _ _ _ h => h.loc (h1 8288 (.inr (by simp))) (h2 8288 (by simp)), fun _ _ _ h => h.off, ha, .inl (NxP.ne hs)⟩
def PkP (a : AV) (bs : List Int) (g : Nat) (ro : Ro) (gn : Nat → Nat) (xs : List Int) (r : AV) (ro' : Ro) (gn' : Nat → Nat) : Prop := ∃ k, k < xs.length ∧ r = i64 (atI xs k) ∧ gn = gn' ∧ ∃ w, ro' = upr ro 8288 g w ∧ Src a bs (some w)
theorem getI {xs : List Int} {k : Nat} (hk : k < xs.length) : (List.map i64 xs)[k]? = some (i64 (atI xs k)) := by simp [atI, hk]
theorem sPick {s2 g2 : Nat} {xs : List Int} (hc : Cod a bs) (hs : Src a bs (ro 8288 g)) (h2 : ro s2 g2 = some (rowL xs)) (hne : s2 ≠ 8288) (h0 : 0 < xs.length) (hx : xs.length < 4611686018427387904) : InS Tryz.prog 36 [.ptr 8288 g [] 0, .ref s2 g2 [] 0 xs.length] ro gn (PkP a bs g ro gn xs) := by
 refine in_ofS (fn := Tryz.f36) (code := bodyOf Tryz.f36) Tryz.func36 rfl (by kernel_rfl) ?_
 intro sl hs'
 have s0 : sl 0 = .ptr 8288 g [] 0 := hs' 0
 have s1 : sl 1 = .ref s2 g2 [] 0 xs.length := hs' 1
 dsimp only [Tryz.f36, bodyOf, Option.getD]
 simp (maxSteps := 10000000) (disch := first | assumption | omega) only [go_sem, ↓reduceIte, Nat.reduceEqDiff, reduceCtorEq, Nat.reduceAdd, Nat.reduceMul, Nat.reduceLeDiff, zc, s0, s1, h2]
 refine CLL_inS rfl (sNext hc hs (n := (xs.length : Int)) (by omega)) ?_
 rintro _ _ _ ⟨v, rfl, -, hv, rfl, w, rfl, hw⟩
 obtain ⟨v0, v1⟩ := hv (by omega)
 obtain ⟨k, rfl⟩ := Int.eq_ofNat_of_zero_le v0
 have hk : k < xs.length := by omega
 have h2' : upr ro 8288 g w s2 g2 = some (rowL xs) := by rw [upr_col hne]; exact h2
 have hkn : ((k : Int)) < xs.length := by omega
 simp (maxSteps := 10000000) (disch := first | assumption | omega) only [go_sem, ↓reduceIte, Nat.reduceEqDiff, reduceCtorEq, Nat.reduceAdd, Nat.reduceMul, Nat.reduceLeDiff, zc, s0, s1, h2', h2, hkn, upr_col hne, getI hk]
 refine ⟨.inr rfl, _, rfl, k, hk, ?_, rfl, w, rfl, hw⟩
 simp only [↓za, ↓reduceIte, Nat.reduceEqDiff, zb, reduceCtorEq, oneOrA]
theorem PkP.off {xs : List Int} {r : AV} {ro' : Ro} {gn' : Nat → Nat} (h : PkP a bs g ro gn xs r ro' gn') : ∀ s, s ∉ [8288] → ro' s = ro s ∧ gn' s = gn s := by
 obtain ⟨k, _, _, rfl, w, rfl, _⟩ := h
 intro s hs
 exact ⟨upr_col (by simpa using hs), rfl⟩
theorem PkP.ne {xs : List Int} (hs : Src a bs (ro 8288 g)) (h0 : 0 < xs.length) : ∃ r ro' gn', PkP a bs g ro gn xs r ro' gn' := by
 obtain ⟨k, h, hk, hro⟩ := hs
 exact ⟨_, _, _, 0, h0, rfl, rfl, _, rfl, k, h, hk, rfl⟩
theorem PkP.loc {xs : List Int} {r : AV} {ro1 ro' : Ro} {gn1 gn' : Nat → Nat} (h1 : ro1 8288 = ro 8288) (h2 : gn1 8288 = gn 8288) (h : PkP a bs g ro1 gn1 xs r ro' gn') : ∃ ro2 gn2, PkP a bs g ro gn xs r ro2 gn2 ∧ ro' = mixF [8288] ro2 ro1 ∧ gn' = mixF [8288] gn2 gn1 := by
 obtain ⟨k, e1, e2, rfl, w, rfl, e4⟩ := h
 exact ⟨upr ro 8288 g w, gn, ⟨k, e1, e2, rfl, w, rfl, e4⟩, mix_upr h1, mix_gn h2⟩
theorem PkP.out {xs : List Int} {r : AV} {ro' : Ro} {gn' : Nat → Nat} (h : PkP a bs g ro gn xs r ro' gn') : ∃ k, k < xs.length ∧ r = i64 (atI xs k) ∧ gn = gn' ∧ (∀ s u, s ≠ 8288 → ro' s u = ro s u) ∧ Src a bs (ro' 8288 g) ∧ ∀ W rb gb, 8288 ∈ W → Frm W g rb gb ro gn → Frm W g rb gb ro' gn := by
 obtain ⟨k, e1, e2, rfl, w, rfl, e4⟩ := h
 exact ⟨k, e1, e2, rfl, fun s u hs => by rw [upr_col hs], by rw [upr_same]; exact e4, fun W rb gb hW hF => hF.src w hW⟩
theorem xPick {ops : Array Oper} {i : Nat} {st : St} {s2 g2 : Nat} {xs : List Int} (hc : Cod a bs) (hs : Src a bs (st.ro 8288 g)) (h2 : st.ro s2 g2 = some (rowL xs)) (hne : s2 ≠ 8288) (h0 : 0 < xs.length) (hx : xs.length < 4611686018427387904) (ha : callsAft ops i = true) :
  inX XX ops i 36 [.ptr 8288 g [] 0, .ref s2 g2 [] 0 xs.length] st (PkP a bs g st.ro st.gn xs) [s2] [8288] :=
 ⟨fun ro1 gn1 h3 h4 => (sPick hc (by rw [h3 8288 (.inr (by simp))]; exact hs) (by rw [h3 s2 (.inl (by simp))]; exact h2) hne h0 hx).mono fun _ _ _ h => h.loc (h3 8288 (.inr (by simp))) (h4 8288 (by simp)), fun _ _ _ h => h.off, ha, .inl (PkP.ne hs h0)⟩
end
end Go.Proofs.YtmchdjiigfiabaaGreat
/- Short names, III. -/
namespace Go.Proofs.YtmchdjiigfiabaaGreat
open Go.RowKit
theorem KPt {p : Prop} (h : p := by (repeat' first | assumption | exact Frm.refl _ _ _ _ | refine Frm.al ?_ _ _ _ (by decide) rfl | refine Frm.wr ?_ _ _ _ (by decide) (by omega) | refine Frm.src ?_ _ (by decide))) : p := h
end Go.Proofs.YtmchdjiigfiabaaGreat
