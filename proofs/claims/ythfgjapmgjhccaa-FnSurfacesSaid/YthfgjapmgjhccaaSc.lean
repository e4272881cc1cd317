/- Texts joined: Su7 Su8 Su9. -/
import Derived.Test.YthfgjapmgjhccaaRe
import Derived.Test.YthfgjapmgjhccaaSa
set_option linter.all false
/- Surfaces: draws of numbers, genera, labels. -/
namespace Go.Proofs.Ythfgjapmgjhccaa
open Go.RowKit
set_option maxRecDepth 1000000
def Wct : List Nat := [8288, 12336]
def Wge : List Nat := [8288, 12336, 8304]
def Wla : List Nat := [8288, 8192, 36912, 36944, 24640, 49168]
section
variable {a : AV} {bs : List Int} {g : Nat} {ro0 : Ro} {gn0 : Nat → Nat}
theorem sCnt {m : Nat} (hc : Cod a bs) (hs : Src a bs (ro0 8288 g)) (hm : m ≤ 1000000) : InS Try.prog 43 [.ptr 8288 g [] 0, i64 (m : Int)] ro0 gn0 (fun r ro' gn' => Frx Wct (CxS g) ro0 gn0 ro' gn' ∧ Src a bs (ro' 8288 g) ∧ ∃ v : Int, r = i64 v) := by
 have hs1 := hs
 refine in_ofS (fn := Try.f43) (code := bodyOf Try.f43) Try.func43 rfl (by kernel_rfl) ?_
 intro sl hs
 have s0 : sl 0 = .ptr 8288 g [] 0 := hs 0
 have s1 : sl 1 = i64 (m : Int) := hs 1
 dsimp only [Try.f43, bodyOf, Option.getD]
 refine Yae ?_
 refine CLL_inS rfl (sNext hc hs1 (n := 14) (by omega)) ?_
 rintro _ _ _ ⟨v, rfl, -, hv, rfl, w, rfl, hw⟩
 by_cases h0 : v = 0
 ·simp (maxSteps := 10000000) (disch := first | assumption | omega) only [go_sem, ↓reduceIte, Nat.reduceEqDiff, reduceCtorEq, Nat.reduceAdd, Nat.reduceMul, Nat.reduceLeDiff, zc, Int.reduceToNat, s0, s1, eq_true h0]
  refine CLL_inS rfl (sPick (s2 := 12336) hc (Ue hw) (xs := [-1, (m : Int) + 1, 1099511627776, -4611686018427387904]) Ur (by decide) (Nat.succ_pos _) (by show 4 < 4611686018427387904; decide)) ?_
  rintro _ _ _ ⟨k, hk, rfl, rfl, w2, rfl, hw2⟩
  generalize atI [-1, (m : Int) + 1, 1099511627776, -4611686018427387904] k = z
  refine Yae ?_
  exact RETS_1 (i64 z) Ur ⟨KFt, Ue hw2, z, rfl⟩
 ·simp (maxSteps := 10000000) (disch := first | assumption | omega) only [go_sem, ↓reduceIte, Nat.reduceEqDiff, reduceCtorEq, Nat.reduceAdd, Nat.reduceMul, Nat.reduceLeDiff, zc, Int.reduceToNat, s0, s1, eq_false h0]
  refine CLL_inS rfl (sNext hc (Ue hw) (n := (m : Int) + 1) (by omega)) ?_
  rintro _ _ _ ⟨z, rfl, -, hz, rfl, w2, rfl, hw2⟩
  refine Yae ?_
  exact RETS_1 (i64 z) Ur ⟨KFt, Ue hw2, z, rfl⟩
theorem sGen (hc : Cod a bs) (hs : Src a bs (ro0 8288 g)) : InS Try.prog 20 [.ptr 8288 g [] 0] ro0 gn0 (fun r ro' gn' => Frx Wge (CxS g) ro0 gn0 ro' gn' ∧ Src a bs (ro' 8288 g) ∧ ∃ v : Int, r = i64 v) := by
 have hs1 := hs
 refine in_ofS (fn := Try.f20) (code := bodyOf Try.f20) Try.func20 rfl (by kernel_rfl) ?_
 intro sl hs
 have s0 : sl 0 = .ptr 8288 g [] 0 := hs 0
 dsimp only [Try.f20, bodyOf, Option.getD]
 refine Yad ?_
 refine CLL_inS rfl (sNext hc hs1 (n := 4) (by omega)) ?_
 rintro _ _ _ ⟨v, rfl, -, hv, rfl, w, rfl, hw⟩
 refine Yad ?_
 refine CLL_inS rfl (sNext hc (Ue hw) (n := 4) (by omega)) ?_
 rintro _ _ _ ⟨v2, rfl, -, hv2, rfl, w2, rfl, hw2⟩
 refine Yad ?_
 refine CLL_inS rfl (sCnt (m := 20) hc (Ue hw2) (by omega)) ?_
 rintro _ ro1 gn1 ⟨fr1, hS1, v3, rfl⟩
 have hF1 : Frx Wge (CxS g) ro0 gn0 ro1 gn1 := (show Frx Wge (CxS g) ro0 gn0 _ _ from KFt).trans (fr1.monoB (by decide)) (fun x y h => .inr h)
 refine Yad ?_
 refine CLL_inS rfl (sPick (s2 := 8304) hc (Ue hS1) (xs := [v, v2, v3]) Ur (by decide) (Nat.succ_pos _) (by show 3 < 4611686018427387904; decide)) ?_
 rintro _ _ _ ⟨k, hk, rfl, rfl, w4, rfl, hw4⟩
 generalize atI [v, v2, v3] k = z
 refine Yad ?_
 exact RETS_1 (i64 z) Ur ⟨KFt, Ue hw4, z, rfl⟩
def LbP (gn : Nat → Nat) (r : AV) (ro' : Ro) (gn' : Nat → Nat) : Prop := ∃ (u : Nat) (L : List Int), r = .ref 8192 u [] 0 L.length ∧ ro' 8192 u = some (rowL L) ∧ gn 8192 < u ∧ u ≤ gn' 8192 ∧ L.length ≤ 9
set_option maxHeartbeats 4000000 in
theorem sLab {n : Nat} (hc : Cod a bs) (hs : Src a bs (ro0 8288 g)) (hn : n ≤ 1000) : InS Try.prog 21 [.ptr 8288 g [] 0, i64 (n : Int)] ro0 gn0 (fun r ro' gn' => Frx Wla (CxS g) ro0 gn0 ro' gn' ∧ Src a bs (ro' 8288 g) ∧ LbP gn0 r ro' gn') := by
 have hs1 := hs
 refine in_ofS (fn := Try.f21) (code := bodyOf Try.f21) Try.func21 rfl (by kernel_rfl) ?_
 intro sl hs
 have s0 : sl 0 = .ptr 8288 g [] 0 := hs 0
 have s1 : sl 1 = i64 (n : Int) := hs 1
 dsimp only [Try.f21, bodyOf, Option.getD]
 refine Yae ?_
 refine CLL_inS rfl (sNext hc (Ue hs1) (n := 5) (by omega)) ?_
 rintro _ _ _ ⟨v, rfl, -, hv, rfl, w, rfl, hw⟩
 obtain ⟨v0, v1⟩ := hv (by omega)
 obtain ⟨K, rfl⟩ := Int.eq_ofNat_of_zero_le v0
 refine Yae ?_
 refine WK_for (fun k st => st.sl 0 = .ptr 8288 g [] 0 ∧ st.sl 1 = i64 (n : Int) ∧ st.sl 6 = i64 ((K : Int) - k) ∧ st.sl 5 = .ref 8192 (st.gn 8192) [] 0 k ∧ (Frx Wla (CxS g) ro0 gn0 st.ro st.gn) ∧ (Src a bs (st.ro 8288 g)) ∧ (gn0 8192 < st.gn 8192) ∧ (∃ L : List Int, L.length = k ∧ st.ro 8192 (st.gn 8192) = some (rowL L))) K ?_ ?_ ?_
 ·refine Yal ?_
  exact ⟨congrArg i64 (by omega), KFt, hw, by omega, [], rfl, rfl⟩
 ·rintro k sl ro gn hk ⟨s0, s1, s6, s5, hF, hS, hl, hL⟩
  dsimp only at s0 s1 s6 s5
  have hk' : (k : Int) < (K : Nat) := by omega
  dsimp only at hF hS hl hL
  obtain ⟨L, lL, rL⟩ := hL
  have hgt : (0 : Int) < (K : Int) - k := by omega
  have hk2 : k + 1 ≤ 4294967296 := by omega
  simp (maxSteps := 10000000) (disch := first | assumption | omega) only [go_sem, ↓reduceIte, Nat.reduceEqDiff, reduceCtorEq, Nat.reduceAdd, Nat.reduceMul, Nat.reduceLeDiff, zc, Int.reduceToNat, s0, s1, s6, s5, hk', hk, eq_true hgt]
  refine CLL_inS rfl (sNext hc hS (n := (n : Int)) (by omega)) ?_
  rintro _ _ _ ⟨z, rfl, -, hz, rfl, w2, rfl, hw2⟩
  have lm : (L.map i64).length = k := by rw [List.length_map]; exact lL
  simp (maxSteps := 10000000) (disch := first | assumption | omega) only [go_sem, ↓reduceIte, Nat.reduceEqDiff, reduceCtorEq, Nat.reduceAdd, Nat.reduceMul, Nat.reduceLeDiff, zc, Int.reduceToNat, s0, s1, s6, s5, hk', hk, rL, rowL, lm, hk2]
  exact ⟨congrArg i64 (by omega), KFt, hw2, L ++ [z], by rw [List.length_append, lL]; rfl, by rw [List.take_of_length_le (by omega), List.map_append]; rfl⟩
 ·rintro sl ro gn ⟨s0, s1, s6, s5, hF, hS, hl, hL⟩
  dsimp only at s0 s1 s6 s5
  have hk' : ¬ ((K : Nat) : Int) < (K : Nat) := by omega
  dsimp only at hF hS hl hL
  obtain ⟨L, lL, rL⟩ := hL
  have hgt : ¬ (0 : Int) < (K : Int) - K := by omega
  have lm : (L.map i64).length = K := by rw [List.length_map]; exact lL
  have hk2 : K + 1 ≤ 4294967296 := by omega
  simp (maxSteps := 10000000) (disch := first | assumption | omega) only [go_sem, ↓reduceIte, Nat.reduceEqDiff, reduceCtorEq, Nat.reduceAdd, Nat.reduceMul, Nat.reduceLeDiff, zc, Int.reduceToNat, s0, s1, s6, s5, hk', eq_false hgt]
  refine CLL_inS rfl (sNext hc hS (n := 24) (by omega)) ?_
  rintro _ _ _ ⟨z, rfl, -, hz, rfl, w2, rfl, hw2⟩
  by_cases z0 : z = 0
  ·simp (maxSteps := 10000000) (disch := first | assumption | omega) only [go_sem, ↓reduceIte, Nat.reduceEqDiff, reduceCtorEq, Nat.reduceAdd, Nat.reduceMul, Nat.reduceLeDiff, zc, Int.reduceToNat, s0, s1, s6, s5, hk', eq_true z0]
   refine CLL_inS rfl (sPick (s2 := 36912) hc (Ue hw2) (xs := [-1, (n : Int)]) Ur (by decide) (Nat.succ_pos _) (by show 2 < 4611686018427387904; decide)) ?_
   rintro _ _ _ ⟨q, hq, rfl, rfl, w4, rfl, hw4⟩
   generalize atI [-1, (n : Int)] q = y
   simp (maxSteps := 10000000) (disch := first | assumption | omega) only [go_sem, ↓reduceIte, Nat.reduceEqDiff, reduceCtorEq, Nat.reduceAdd, Nat.reduceMul, Nat.reduceLeDiff, zc, Int.reduceToNat, s0, s1, s6, s5, hk', rL, rowL, lm, hk2]
   refine RETS_1 (.ref 8192 (gn 8192 + 1) [] 0 (K + 1)) Ur ⟨KFt, Ue hw4, gn 8192 + 1, L ++ [y], by rw [List.length_append, lL]; rfl, ?_, by omega, Ur, by rw [List.length_append, lL]; show K + 1 ≤ 9; omega⟩
   refine Yfh ?_
   rw [List.take_of_length_le (by omega), rowL, List.map_append]
   rfl
  ·by_cases z1 : z = 1
   ·simp (maxSteps := 10000000) (disch := first | assumption | omega) only [go_sem, ↓reduceIte, Nat.reduceEqDiff, reduceCtorEq, Nat.reduceAdd, Nat.reduceMul, Nat.reduceLeDiff, zc, Int.reduceToNat, s0, s1, s6, s5, hk', eq_false z0, eq_true z1]
    refine WK_for (fun x st => st.sl 5 = .ref 8192 (st.gn 8192) [] 0 (K + x) ∧ (Frx Wla (CxS g) ro0 gn0 st.ro st.gn) ∧ (Src a bs (st.ro 8288 g)) ∧ (gn0 8192 < st.gn 8192) ∧ (∃ L : List Int, L.length = K + x ∧ st.ro 8192 (st.gn 8192) = some (rowL L))) ((9 - K)) ?_ ?_ ?_
    ·simp only [↓za, ↓reduceIte, Nat.reduceEqDiff, zb, reduceCtorEq, rws_zero, s0, s1, s6, s5, hk']
     exact ⟨rfl, KFt, hw2, hl, L, lL, rL⟩
    ·rintro x sl ro gn hx ⟨s5, hF2, hS2, hl2, hL2⟩
     dsimp only at s5
     have hx' : (x : Int) < ((9 - K) : Nat) := by omega
     dsimp only at hF2 hS2 hl2 hL2
     obtain ⟨M, lM, rM⟩ := hL2
     have hx9 : ((K + x : Nat) : Int) < 9 := by omega
     have hx2 : K + x + 1 ≤ 4294967296 := by omega
     have lm2 : (M.map i64).length = K + x := by rw [List.length_map]; exact lM
     simp (maxSteps := 10000000) (disch := first | assumption | omega) only [go_sem, ↓reduceIte, Nat.reduceEqDiff, reduceCtorEq, Nat.reduceAdd, Nat.reduceMul, Nat.reduceLeDiff, zc, Int.reduceToNat, s5, hx', hx, rM, rowL, lm2, eq_true hx9, hx2]
     have hex : ∃ L : List Int, L.length = K + (x + 1) ∧ some (AV.row (List.take (K + x) (List.map i64 M) ++ [i64 0])) = some (AV.row (List.map i64 L)) := ⟨M ++ [0], by rw [List.length_append, lM]; rfl, by rw [List.take_of_length_le (by omega), List.map_append]; rfl⟩
     first | exact ⟨rfl, KFt, hS2, hex⟩ | exact ⟨rfl, KFt, hS2, by omega, hex⟩
    ·rintro sl ro gn ⟨s5, hF2, hS2, hl2, hL2⟩
     dsimp only at s5
     have hx' : ¬ (((9 - K) : Nat) : Int) < ((9 - K) : Nat) := by omega
     dsimp only at hF2 hS2 hl2 hL2
     obtain ⟨M, lM, rM⟩ := hL2
     have hx9 : ¬ ((K + (9 - K) : Nat) : Int) < 9 := by omega
     have lm2 : (M.map i64).length = K + (9 - K) := by rw [List.length_map]; exact lM
     simp (maxSteps := 10000000) (disch := first | assumption | omega) only [go_sem, ↓reduceIte, Nat.reduceEqDiff, reduceCtorEq, Nat.reduceAdd, Nat.reduceMul, Nat.reduceLeDiff, zc, Int.reduceToNat, s5, hx', rM, rowL, lm2, eq_false hx9]
     refine RETS_1 (.ref 8192 (gn 8192) [] 0 (K + (9 - K))) Ur ⟨KFt, hS2, gn 8192, M, by rw [lM], rM, hl2, Nat.le_refl _, by omega⟩
   ·simp (maxSteps := 10000000) (disch := first | assumption | omega) only [go_sem, ↓reduceIte, Nat.reduceEqDiff, reduceCtorEq, Nat.reduceAdd, Nat.reduceMul, Nat.reduceLeDiff, zc, Int.reduceToNat, s0, s1, s6, s5, hk', eq_false z0, eq_false z1, undef]
    refine RETS_1 (.ref 8192 (gn 8192) [] 0 K) Ur ⟨KFt, Ue hw2, gn 8192, L, by rw [lL], Ue rL, hl, Nat.le_refl _, by omega⟩
end
theorem RdT.keep {ro ro' : Ro} {gn gn' : Nat → Nat} {T : List (List (List Int))} {c : AV} (h : RdT ro gn T c) (hk : ∀ x y, y ≤ gn x → x ≠ 8288 → x ≠ 4096 → ro' x y = ro x y) (hg : ∀ x, gn x ≤ gn' x) : RdT ro' gn' T c := by
 obtain ⟨s, u, o, m, cv, rfl, ⟨h1, h2, hm⟩, h3, h4, h5, h6, h7⟩ := h
 exact ⟨s, u, o, m, cv, rfl, ⟨h1, h2, hm⟩, Nat.le_trans h3 (hg s), by rw [hk s u h3 h1 h2]; exact h4, h5, h6, fun ro2 hk2 => h7 ro2 fun x y hy n1 n2 => (hk2 x y (Nat.le_trans hy (hg x)) n1 n2).trans (hk x y hy n1 n2)⟩
theorem RdT.frx {W : List Nat} {g : Nat} {ro ro' : Ro} {gn gn' : Nat → Nat} {T : List (List (List Int))} {c : AV} (h : RdT ro gn T c) (fr : Frx W (CxS g) ro gn ro' gn') : RdT ro' gn' T c :=
 h.keep (fun x y hy n1 _ => fr.kp x y hy fun e => n1 e.1) fr.up
theorem RETS_c2 {k k2 : Nat} {Po : AV → Ro → (Nat → Nat) → Prop} {sl : Nat → AV} {ro : Ro} {gn : Nat → Nat} {s g : Nat} {v w : AV} (h1 : sl k = .ptr s g [] 0) (h2 : ro s g = some (.bx [v])) (hl : lift s g [0] v = v) (h3 : sl k2 = w) (hp : Po (.tup [.agg [v], w]) ro gn) : RETS ti0 [.cell k 26, .tmp k2] Po .ret ⟨sl, ro, gn⟩ := by
 refine ⟨.inr rfl, [.agg [v], w], ?_, hp⟩
 simp only [resL, opC, St.ev, h1, h3, ti33, Ro.cells, h2, blk, List.length_singleton, List.drop_zero, List.take_succ_cons, List.take_zero, zfi, List.nil_append, hl]
 simp
theorem RETS_c3 {k k2 k3 : Nat} {Po : AV → Ro → (Nat → Nat) → Prop} {sl : Nat → AV} {ro : Ro} {gn : Nat → Nat} {s g : Nat} {v w x : AV} (h1 : sl k = .ptr s g [] 0) (h2 : ro s g = some (.bx [v])) (hl : lift s g [0] v = v) (h3 : sl k2 = w) (h4 : sl k3 = x) (hp : Po (.tup [.agg [v], w, x]) ro gn) : RETS ti0 [.cell k 26, .tmp k2, .tmp k3] Po .ret ⟨sl, ro, gn⟩ := by
 refine ⟨.inr rfl, [.agg [v], w, x], ?_, hp⟩
 simp only [resL, opC, St.ev, h1, h3, h4, ti33, Ro.cells, h2, blk, List.length_singleton, List.drop_zero, List.take_succ_cons, List.take_zero, zfi, List.nil_append, hl]
 simp
theorem inX_frE {X : WX} {ops : Array Oper} {i f : Nat} {args : List AV} {st : St} {W R : List Nat} {C : Nat → Nat → Prop} {Res : (Nat → Nat) → AV → Ro → (Nat → Nat) → Prop}
  (hc : ∀ ro1 gn1, (∀ s, s ∈ R ∨ s ∈ W → ro1 s = st.ro s) → (∀ s, s ∈ W → gn1 s = st.gn s) → InS X.P f args ro1 gn1 (fun r ro' gn' => Frx W C ro1 gn1 ro' gn' ∧ Res gn1 r ro' gn'))
  (hloc : ∀ gn r ro' gn' ro2 gn1 gn2, (∀ s, s ∈ W → ro2 s = ro' s ∧ gn1 s = gn s ∧ gn2 s = gn' s) → Res gn r ro' gn' → Res gn1 r ro2 gn2) (ha : callsAft ops i = true)
  (hn : ∃ r ro' gn', Frx W C st.ro st.gn ro' gn' ∧ Res st.gn r ro' gn') :
  inX X ops i f args st (fun r ro' gn' => Frx W C st.ro st.gn ro' gn' ∧ Res st.gn r ro' gn') R W := by
 refine ⟨fun ro1 gn1 h1 h2 => (hc ro1 gn1 h1 h2).mono ?_, fun r ro' gn' h => h.1.off, ha, .inl hn⟩
 rintro r ro' gn' ⟨k1, k3⟩
 refine ⟨mixF W ro' st.ro, mixF W gn' st.gn, ⟨⟨fun s hs => ⟨mixF_out hs, mixF_out hs⟩, fun x => ?_, fun x y hy hxy => ?_⟩, hloc gn1 r ro' gn' _ _ _ (fun s hs => ⟨mixF_in hs, (h2 s hs).symm, mixF_in hs⟩) k3⟩, ?_, ?_⟩
 ·by_cases hx : x ∈ W
  ·rw [mixF_in hx, ← h2 x hx]; exact k1.up x
  ·rw [mixF_out hx]; exact Nat.le_refl _
 ·by_cases hx : x ∈ W
  ·rw [mixF_in hx, k1.kp x y (by rw [h2 x hx]; exact hy) hxy, h1 x (.inr hx)]
  ·rw [mixF_out hx]
 ·rw [mixF_mix]; exact (mixF_id fun s hs => (k1.off s hs).1).symm
 ·rw [mixF_mix]; exact (mixF_id fun s hs => (k1.off s hs).2).symm
section
variable {a : AV} {bs : List Int} {g : Nat}
theorem xGen {ops : Array Oper} {i : Nat} {st : St} (hc : Cod a bs) (hs : Src a bs (st.ro 8288 g)) (ha : callsAft ops i = true) :
  inX XX ops i 20 [.ptr 8288 g [] 0] st (fun r ro' gn' => Frx Wge (CxS g) st.ro st.gn ro' gn' ∧ (Src a bs (ro' 8288 g) ∧ ∃ v : Int, r = i64 v)) [] Wge :=
 inX_frE (R := []) (Res := fun _ r ro' _ => Src a bs (ro' 8288 g) ∧ ∃ v : Int, r = i64 v) (fun ro1 gn1 h1 _ => sGen hc (by rw [h1 8288 (.inr (by decide))]; exact hs)) (fun gn r ro' gn' ro2 gn1 gn2 hh h => ⟨by rw [(hh 8288 (by decide)).1]; exact h.1, h.2⟩) ha ⟨i64 0, st.ro, st.gn, Frx.refl _ _ _ _, hs, 0, rfl⟩
theorem xLab {ops : Array Oper} {i n : Nat} {st : St} (hc : Cod a bs) (hs : Src a bs (st.ro 8288 g)) (hn : n ≤ 1000) (ha : callsAft ops i = true) :
  inX XX ops i 21 [.ptr 8288 g [] 0, i64 (n : Int)] st (fun r ro' gn' => Frx Wla (CxS g) st.ro st.gn ro' gn' ∧ (Src a bs (ro' 8288 g) ∧ LbP st.gn r ro' gn')) [] Wla :=
 inX_frE (R := []) (Res := fun gn r ro' gn' => Src a bs (ro' 8288 g) ∧ LbP gn r ro' gn') (fun ro1 gn1 h1 _ => sLab hc (by rw [h1 8288 (.inr (by decide))]; exact hs) hn) (fun gn r ro' gn' ro2 gn1 gn2 hh h => by
  obtain ⟨k1, u, L, e1, e2, e3, e4, e5⟩ := h
  obtain ⟨q1, q2, q3⟩ := hh 8192 (by decide)
  exact ⟨by rw [(hh 8288 (by decide)).1]; exact k1, u, L, e1, by rw [q1]; exact e2, by rw [q2]; exact e3, by rw [q3]; exact e4, e5⟩) ha
  ⟨.ref 8192 (st.gn 8192 + 1) [] 0 0, upr st.ro 8192 (st.gn 8192 + 1) (rowL []), upg st.gn 8192 (st.gn 8192 + 1), (Frx.refl _ _ _ _).al _ _ _ (by decide) rfl, by rw [upr_col (by decide)]; exact hs, st.gn 8192 + 1, [], rfl, upr_same _ _ _ _, Nat.lt_succ_self _, by rw [zda, if_pos rfl]; exact Nat.le_refl _, by decide⟩
end
def Wsd : List Nat := [8288, 8256, 24608, 16432, 28752, 49200, 69696, 82032, 82064, 90160, 106608, 110656, 8192, 28688, 32768, 4096, 20544, 8240, 500000, 24832, 12336, 8304, 36912, 36944, 24640, 49168, 12320, 24688]
theorem sFrm {a : AV} {bs : List Int} {ro : Ro} {gn : Nat → Nat} (hc : Cod a bs) (hl : bs.length ≤ 4096) : InS Try.prog 18 [a] ro gn (fun r ro' gn' => r = .ptr 8288 (gn 8288 + 1) [] 0 ∧ ∃ w, ro' = upr ro 8288 (gn 8288 + 1) w ∧ gn' = upg gn 8288 (gn 8288 + 1) ∧ Src a bs (some w)) := by
 refine (inFrom hc.b hl ro gn).toS.mono ?_
 rintro _ _ _ ⟨rfl, rfl, rfl⟩
 exact ⟨rfl, _, rfl, rfl, 0, _, Nat.zero_le _, rfl⟩
section
variable {a : AV} {bs : List Int} {ro0 : Ro} {gn0 : Nat → Nat}
set_option maxHeartbeats 4000000 in
theorem sDrawGN (hc : Cod a bs) (hl : bs.length ≤ 4096) : InS Try.prog 14 [a] ro0 gn0 (fun r ro' gn' => Frx Wsd (fun _ _ => False) ro0 gn0 ro' gn' ∧ ∃ (T : List (List (List Int))) (c : AV) (b : Int), r = .tup [.agg [c], i64 b] ∧ RdT ro' gn' T c) := by
 refine in_ofS (fn := Try.f14) (code := bodyOf Try.f14) Try.func14 rfl (by kernel_rfl) ?_
 intro sl hs
 have s0 : sl 0 = a := hs 0
 dsimp only [Try.f14, bodyOf, Option.getD]
 refine Ybq ?_
 refine CLL_inS rfl (sFrm hc hl) ?_
 rintro _ _ _ ⟨rfl, w, rfl, rfl, hw⟩
 refine Yad ?_
 refine CLL_inS rfl (sDrawAny hc (Ue hw) (mx := 6) (by decide) (by decide)) ?_
 rintro _ ro1 gn1 ⟨fr1, hS1, T, c, rfl, hR⟩
 have hF1 : Frx Wsd (fun _ _ => False) ro0 gn0 ro1 gn1 := (show Frx Wsd (fun _ _ => False) ro0 gn0 _ _ from KFt).trans (fr1.monoB (by decide)) (by
  rintro x y ⟨rfl, rfl⟩
  exact .inl (by omega))
 have r4 : ro1 4096 (gn0 4096 + 1) = some (.bx [nilA]) := (fr1.kp _ _ Ur (fun e => by have := e.1; omega)).trans Ur
 have u4 := fr1.up 4096
 have u8 := fr1.up 8288
 simp only [↓za, ↓reduceIte, Nat.reduceEqDiff, zb, reduceCtorEq] at u4 u8
 refine Ybq ?_
 refine CLL_inS rfl (sGen hc hS1) ?_
 rintro _ ro2 gn2 ⟨fr2, hS2, b, rfl⟩
 have hF2 : Frx Wsd (fun _ _ => False) ro0 gn0 ro2 gn2 := hF1.trans (fr2.monoB (by decide)) (by
  rintro x y ⟨rfl, rfl⟩
  exact .inl (by omega))
 have r4b : ro2 4096 (gn0 4096 + 1) = some (.bx [nilA]) := (fr2.kp _ _ u4 (fun e => by have := e.1; omega)).trans r4
 have hR2 := hR.frx fr2
 obtain ⟨s, u, o, m, cv, rfl, ⟨h1, h2, hm⟩, h3, h4, h5, h6, h7⟩ := id hR2
 have hlf := zfh 4096 (gn0 4096 + 1) [0] s u [] o m
 simp (maxSteps := 10000000) (disch := first | assumption | omega) only [go_sem, ↓reduceIte, Nat.reduceEqDiff, reduceCtorEq, Nat.reduceAdd, Nat.reduceMul, Nat.reduceLeDiff, zc, Int.reduceToNat, s0, ti33, r4b, h4]
 refine RETS_c2 (s := 4096) (g := gn0 4096 + 1) Ur Ur hlf Ur ⟨hF2.wr 4096 _ _ (by decide) (.inl (by omega)), T, _, b, rfl, hR2.keep (fun x y hy n1 n2 => by rw [zdb, if_neg (fun e => n2 e.1)]) (fun x => Nat.le_refl _)⟩
def fpS (s : Nat) : List FP := [⟨some [12320], []⟩, e0, ⟨some [], Wge⟩, e0, ⟨some [12320], []⟩, ⟨some [12320], []⟩, ⟨some [s], []⟩, ⟨some [], Wla⟩, ⟨some [4096, s], [4096]⟩, e0, e0]
set_option maxHeartbeats 8000000 in
theorem sDrawSD (hc : Cod a bs) (hl : bs.length ≤ 4096) : InS Try.prog 5 [a] ro0 gn0 (fun r ro' gn' => Frx Wsd (fun _ _ => False) ro0 gn0 ro' gn' ∧ ∃ (T : List (List (List Int))) (c : AV) (b : Int) (u : Nat) (L : List Int), r = .tup [.agg [c], i64 b, .ref 8192 u [] 0 L.length] ∧ RdT ro' gn' T c ∧ ro' 8192 u = some (rowL L) ∧ u ≤ gn' 8192 ∧ L.length ≤ 9) := by
 refine in_ofS (fn := Try.f5) (code := bodyOf Try.f5) Try.func5 rfl (by kernel_rfl) ?_
 intro sl hs
 have s0 : sl 0 = a := hs 0
 dsimp only [Try.f5, bodyOf, Option.getD]
 refine Ybq ?_
 refine CLL_inS rfl (sFrm hc hl) ?_
 rintro _ _ _ ⟨rfl, w, rfl, rfl, hw⟩
 refine Yad ?_
 refine CLL_inS rfl (sDrawAny hc (Ue hw) (mx := 6) (by decide) (by decide)) ?_
 rintro _ ro1 gn1 ⟨fr1, hS1, T, c, rfl, hR⟩
 have hF1 : Frx Wsd (fun _ _ => False) ro0 gn0 ro1 gn1 := (show Frx Wsd (fun _ _ => False) ro0 gn0 _ _ from KFt).trans (fr1.monoB (by decide)) (by
  rintro x y ⟨rfl, rfl⟩
  exact .inl (by omega))
 have r4 : ro1 4096 (gn0 4096 + 1) = some (.bx [nilA]) := (fr1.kp _ _ Ur (fun e => by have := e.1; omega)).trans Ur
 have u4 := fr1.up 4096
 have u8 := fr1.up 8288
 simp only [↓za, ↓reduceIte, Nat.reduceEqDiff, zb, reduceCtorEq] at u4 u8
 obtain ⟨s, u, o, m, cv, rfl, ⟨h1, h2, hm⟩, h3, h4, h5, h6, h7⟩ := id hR
 have hne : ¬ (s = 12320 ∧ u = gn1 12320 + 1) := by rintro ⟨rfl, rfl⟩; omega
 simp (maxSteps := 10000000) (disch := first | assumption | omega) only [go_sem, ↓reduceIte, Nat.reduceEqDiff, reduceCtorEq, Nat.reduceAdd, Nat.reduceMul, Nat.reduceLeDiff, zc, Int.reduceToNat, s0, ti33, h4, hne]
 refine CLLD_inS (fpS s) (xGen hc (Ue hS1) (by kernel_rfl)) rfl ?_ rfl ?_ rfl
 rotate_left
 ·exact all_WRs (p := fun s => okD _ (fpS s)) hm.2.1 (by kernel_rfl)
 rintro _ ro2 gn2 ⟨fr2, hS2, b, rfl⟩
 have hR1 : RdT (upr (upr ro1 12320 (gn1 12320 + 1) (.bx [nilA])) 12320 (gn1 12320 + 1) (.bx [.ref s u [] o m])) (upg gn1 12320 (gn1 12320 + 1)) T (.ref s u [] o m) := hR.keep (fun x y hy n1 n2 => by
  simp only [zdb]
  repeat' (first | rfl | rw [if_neg (by rintro ⟨rfl, rfl⟩; omega)])) (fun x => by
  rw [zda]
  split
  ·rename_i e; subst e; omega
  ·exact Nat.le_refl _)
 have hR2 := hR1.frx fr2
 have r12 : ro2 12320 (gn1 12320 + 1) = some (.bx [.ref s u [] o m]) := (fr2.kp _ _ Ur (fun e => by have := e.1; omega)).trans Ur
 have b2 : (blkO (ro2 s u)).isSome = true := by
  obtain ⟨s', u', o', m', cv', e, -, -, b, -⟩ := id hR2
  obtain ⟨rfl, rfl⟩ : s = s' ∧ u = u' := by injection e with e1 e2; exact ⟨e1, e2⟩
  exact b
 simp (maxSteps := 10000000) (disch := first | assumption | omega) only [go_sem, ↓reduceIte, Nat.reduceEqDiff, reduceCtorEq, Nat.reduceAdd, Nat.reduceMul, Nat.reduceLeDiff, zc, Int.reduceToNat, s0, ti33, ti31, r12, b2]
 refine CLLG_inS (xLab hc hS2 (n := m) (by have := hm.1; omega) (by kernel_rfl)) ?_ rfl
 rintro _ ro3 gn3 ⟨fr3, hS3, u3, L, rfl, rL, lu1, lu2, l9⟩
 have lu1' : gn2 8192 < u3 := lu1
 have hR3 := hR2.frx fr3
 have r4b : ro2 4096 (gn0 4096 + 1) = some (.bx [nilA]) := (fr2.kp _ _ (by simp only [↓za, ↓reduceIte, Nat.reduceEqDiff, zb, reduceCtorEq]; omega) (fun e => by have := e.1; omega)).trans (Ue r4)
 have u4b := fr2.up 4096
 simp only [↓za, ↓reduceIte, Nat.reduceEqDiff, zb, reduceCtorEq] at u4b
 have r4c : ro3 4096 (gn0 4096 + 1) = some (.bx [nilA]) := (fr3.kp _ _ (Nat.le_trans u4 u4b) (fun e => by have := e.1; omega)).trans r4b
 have b3 : (blkO (ro3 s u)).isSome = true := by
  obtain ⟨s', u', o', m', cv', e, -, -, b, -⟩ := id hR3
  obtain ⟨rfl, rfl⟩ : s = s' ∧ u = u' := by injection e with e1 e2; exact ⟨e1, e2⟩
  exact b
 have r12b : ro3 12320 (gn1 12320 + 1) = some (.bx [.ref s u [] o m]) := (fr3.kp _ _ (by have := fr2.up 12320; simp only [↓za, ↓reduceIte, Nat.reduceEqDiff, zb, reduceCtorEq] at this; exact this) (fun e => by have := e.1; omega)).trans r12
 have hlf := zfh 4096 (gn0 4096 + 1) [0] s u [] o m
 simp (maxSteps := 10000000) (disch := first | assumption | omega) only [go_sem, ↓reduceIte, Nat.reduceEqDiff, reduceCtorEq, Nat.reduceAdd, Nat.reduceMul, Nat.reduceLeDiff, zc, Int.reduceToNat, s0, ti33, r4c, r12b, b3]
 refine FING_of rfl ?_
 refine Yad ?_
 have u12 := hF1.up 12320
 have hF2 : Frx Wsd (fun _ _ => False) ro0 gn0 ro2 gn2 := (show Frx Wsd (fun _ _ => False) ro0 gn0 (upr (upr ro1 12320 (gn1 12320 + 1) (.bx [nilA])) 12320 (gn1 12320 + 1) (.bx [.ref s u [] o m])) (upg gn1 12320 (gn1 12320 + 1)) from KFt).trans (fr2.monoB (by decide)) (by
  rintro x y ⟨rfl, rfl⟩
  exact .inl (by omega))
 have hF3 : Frx Wsd (fun _ _ => False) ro0 gn0 ro3 gn3 := hF2.trans (fr3.monoB (by decide)) (by
  rintro x y ⟨rfl, rfl⟩
  exact .inl (by omega))
 refine RETS_c3 (s := 4096) (g := gn0 4096 + 1) Ur Ur hlf Ur Ur ⟨hF3.wr 4096 _ _ (by decide) (.inl (by omega)), T, _, b, u3, L, rfl, hR3.keep (fun x y hy n1 n2 => by rw [zdb, if_neg (fun e => n2 e.1)]) (fun x => Nat.le_refl _), Ue rL, lu2, l9⟩
end
def fpP (s : Nat) : List FP := [⟨some [12320], []⟩, e0, e0, ⟨some [12320], []⟩, ⟨some [12320], []⟩, ⟨some [s], []⟩, ⟨some [], [8288]⟩, ⟨some [], [24688]⟩, ⟨some [8192, 24688], [8192, 8192]⟩, ⟨some [4096, s], [4096]⟩, e0]
section
variable {a : AV} {bs : List Int} {ro0 : Ro} {gn0 : Nat → Nat}
set_option maxHeartbeats 8000000 in
theorem sDrawFP (hc : Cod a bs) (hl : bs.length ≤ 4096) : InS Try.prog 9 [a] ro0 gn0 (fun r ro' gn' => Frx Wsd (fun _ _ => False) ro0 gn0 ro' gn' ∧ ∃ (T : List (List (List Int))) (c : AV) (u : Nat) (L : List Int), r = .tup [.agg [c], .ref 8192 u [] 0 L.length] ∧ RdT ro' gn' T c ∧ ro' 8192 u = some (rowL L) ∧ u ≤ gn' 8192 ∧ L.length ≤ 9) := by
 refine in_ofS (fn := Try.f9) (code := bodyOf Try.f9) Try.func9 rfl (by kernel_rfl) ?_
 intro sl hs
 have s0 : sl 0 = a := hs 0
 dsimp only [Try.f9, bodyOf, Option.getD]
 refine Ybq ?_
 refine CLL_inS rfl (sFrm hc hl) ?_
 rintro _ _ _ ⟨rfl, w, rfl, rfl, hw⟩
 refine Yad ?_
 refine CLL_inS rfl (sDrawAny hc (Ue hw) (mx := 6) (by decide) (by decide)) ?_
 rintro _ ro1 gn1 ⟨fr1, hS1, T, c, rfl, hR⟩
 have hF1 : Frx Wsd (fun _ _ => False) ro0 gn0 ro1 gn1 := (show Frx Wsd (fun _ _ => False) ro0 gn0 _ _ from KFt).trans (fr1.monoB (by decide)) (by
  rintro x y ⟨rfl, rfl⟩
  exact .inl (by omega))
 have r4 : ro1 4096 (gn0 4096 + 1) = some (.bx [nilA]) := (fr1.kp _ _ Ur (fun e => by have := e.1; omega)).trans Ur
 have u4 := fr1.up 4096
 have u8 := fr1.up 8288
 have u12 := hF1.up 12320
 simp only [↓za, ↓reduceIte, Nat.reduceEqDiff, zb, reduceCtorEq] at u4 u8
 obtain ⟨s, u, o, m, cv, rfl, ⟨h1, h2, hm⟩, h3, h4, h5, h6, h7⟩ := id hR
 have hne : ¬ (s = 12320 ∧ u = gn1 12320 + 1) := by rintro ⟨rfl, rfl⟩; omega
 simp (maxSteps := 10000000) (disch := first | assumption | omega) only [go_sem, ↓reduceIte, Nat.reduceEqDiff, reduceCtorEq, Nat.reduceAdd, Nat.reduceMul, Nat.reduceLeDiff, zc, Int.reduceToNat, s0, ti33, h4, hne, ti31]
 have hR1 : RdT (upr (upr ro1 12320 (gn1 12320 + 1) (.bx [nilA])) 12320 (gn1 12320 + 1) (.bx [.ref s u [] o m])) (upg gn1 12320 (gn1 12320 + 1)) T (.ref s u [] o m) := hR.keep (fun x y hy n1 n2 => by
  simp only [zdb]
  repeat' (first | rfl | rw [if_neg (by rintro ⟨rfl, rfl⟩; omega)])) (fun x => by
  rw [zda]
  split
  ·rename_i e; subst e; omega
  ·exact Nat.le_refl _)
 refine CLL_inS rfl (sLab hc (Ue hS1) (n := m) (by have := hm.1; omega)) ?_
 rintro _ ro3 gn3 ⟨fr3, hS3, u3, L, rfl, rL, lu1, lu2, l9⟩
 simp only [↓za, ↓reduceIte, Nat.reduceEqDiff, zb, reduceCtorEq] at lu1
 have hR3 := hR1.frx fr3
 have hF3 : Frx Wsd (fun _ _ => False) ro0 gn0 ro3 gn3 := (show Frx Wsd (fun _ _ => False) ro0 gn0 (upr (upr ro1 12320 (gn1 12320 + 1) (.bx [nilA])) 12320 (gn1 12320 + 1) (.bx [.ref s u [] o m])) (upg gn1 12320 (gn1 12320 + 1)) from KFt).trans (fr3.monoB (by decide)) (by
  rintro x y ⟨rfl, rfl⟩
  exact .inl (by omega))
 have u4c := hF3.up 4096
 have u4b := fr3.up 4096
 simp only [↓za, ↓reduceIte, Nat.reduceEqDiff, zb, reduceCtorEq] at u4b
 have r4c : ro3 4096 (gn0 4096 + 1) = some (.bx [nilA]) := (fr3.kp _ _ (by simp only [↓za, ↓reduceIte, Nat.reduceEqDiff, zb, reduceCtorEq]; omega) (fun e => by have := e.1; omega)).trans (Ue r4)
 have r12 : ro3 12320 (gn1 12320 + 1) = some (.bx [.ref s u [] o m]) := (fr3.kp _ _ Ur (fun e => by have := e.1; omega)).trans Ur
 have b3 : (blkO (ro3 s u)).isSome = true := by
  obtain ⟨s', u', o', m', cv', e, -, -, b, -⟩ := id hR3
  obtain ⟨rfl, rfl⟩ : s = s' ∧ u = u' := by injection e with e1 e2; exact ⟨e1, e2⟩
  exact b
 have hq3 : exq 7 ro3 (.ref s u [] o m) cv := by
  refine h7 ro3 fun x y hy n1 n2 => (fr3.kp x y (show y ≤ upg gn1 12320 (gn1 12320 + 1) x from by
   rw [zda]
   split
   ·rename_i e; subst e; omega
   ·exact hy) (fun e => n1 e.1)).trans ?_
  simp only [zdb]
  repeat' (first | rfl | rw [if_neg (by rintro ⟨rfl, rfl⟩; omega)])
 have hq : exqL 8 ro3 [.agg [.ref s u [] o m]] [.agg [cv]] := .cons (exq_agg (n := 7) (.cons hq3 .nil)) .nil
 have hlf := zfh 4096 (gn0 4096 + 1) [0] s u [] o m
 have hn8 : ¬ (s = 8288 ∧ u = gn0 8288 + 1) := fun e => h1 e.1
 have bL : (blkO (ro3 8192 u3)).isSome = true := by rw [rL]; rfl
 have lm : (L.map i64).length = L.length := List.length_map _
 by_cases hr : RingP T
 ·have c1 := c108 h5 (t := true) ⟨fun _ => hr, fun _ => rfl⟩
  refine Yek ?_
  refine CLL_q _ c1 hq rfl rfl rfl ?_
  by_cases l0 : 0 < (L.length : Int)
  ·by_cases l8 : (L.length : Int) < 8
   ·simp (maxSteps := 10000000) (disch := first | assumption | omega) only [go_sem, ↓reduceIte, Nat.reduceEqDiff, reduceCtorEq, Nat.reduceAdd, Nat.reduceMul, Nat.reduceLeDiff, zc, Int.reduceToNat, s0, eq_true l0, eq_true l8, bL]
    refine CLL_inS rfl (sNext hc hS3 (n := 2) (by omega)) ?_
    rintro _ _ _ ⟨v, rfl, -, hv, rfl, w2, rfl, hw2⟩
    by_cases hv0 : v = 0
    ·simp (maxSteps := 10000000) (disch := first | assumption | omega) only [go_sem, ↓reduceIte, Nat.reduceEqDiff, reduceCtorEq, Nat.reduceAdd, Nat.reduceMul, Nat.reduceLeDiff, zc, Int.reduceToNat, s0, eq_true hv0, r12, b3, bL, hn8]
     refine CLLD_inS (fpP s) (xNext hc (Ue hw2) (n := (m : Int)) (by omega) (by kernel_rfl)) rfl ?_ rfl ?_ rfl
     rotate_left
     ·exact all_WRs (p := fun s => okD _ (fpP s)) hm.2.1 (by kernel_rfl)
     rintro _ _ _ ⟨z, rfl, -, hz, rfl, w3, rfl, hw3⟩
     have lk : L.length + 1 ≤ 4294967296 := by omega
     have n81 : ¬ s = 8192 := of_decide_eq_true (all_WRs (p := fun s => decide (¬ s = 8192)) hm.2.1 (by decide))
     have n24 : ¬ s = 24688 := of_decide_eq_true (all_WRs (p := fun s => decide (¬ s = 24688)) hm.2.1 (by decide))
     simp (maxSteps := 10000000) (disch := first | assumption | omega) only [go_sem, ↓reduceIte, Nat.reduceEqDiff, reduceCtorEq, Nat.reduceAdd, Nat.reduceMul, Nat.reduceLeDiff, zc, Int.reduceToNat, s0, r12, b3, bL, hn8, rL, rowL, lm, lk, r4c, n81, n24]
     refine FING_of rfl ?_
     refine Yad ?_
     have g8 := fr3.up 8192
     have g24 := fr3.up 24688
     have i8 := hF3.up 24688
     have i81 := hF1.up 8192
     have i82 := hF3.up 8192
     simp only [↓za, ↓reduceIte, Nat.reduceEqDiff, zb, reduceCtorEq] at g8 g24
     have hRF : RdT (upr (upr (upr (upr (upr (upr ro3 8288 (gn0 8288 + 1) w2) 8288 (gn0 8288 + 1) w3) 24688 (gn3 24688 + 1) (AV.row [i64 z])) 8192 u3 AV.dead) 8192 (gn3 8192 + 1) (AV.row (List.take L.length (List.map i64 L) ++ [i64 z]))) 4096 (gn0 4096 + 1) (AV.bx [AV.ref s u [] o m])) (upg (upg gn3 24688 (gn3 24688 + 1)) 8192 (gn3 8192 + 1)) T (.ref s u [] o m) := hR1.keep (fun x y hy n1 n2 => by
      have hy' : x = 8192 → y < u3 ∧ y < gn3 8192 + 1 := by rintro rfl; simp only [↓za, ↓reduceIte, Nat.reduceEqDiff, zb, reduceCtorEq] at hy; omega
      have hy2 : x = 24688 → y < gn3 24688 + 1 := by rintro rfl; simp only [↓za, ↓reduceIte, Nat.reduceEqDiff, zb, reduceCtorEq] at hy; omega
      refine Eq.trans ?_ (fr3.kp x y hy (fun e => n1 e.1))
      simp only [zdb]
      repeat' (first | rfl | rw [if_neg (by rintro ⟨rfl, rfl⟩; first | exact n1 rfl | exact n2 rfl | (have := hy' rfl; omega) | (have := hy2 rfl; omega))])) (fun x => by
      refine Nat.le_trans (fr3.up x) ?_
      show gn3 x ≤ upg (upg gn3 24688 (gn3 24688 + 1)) 8192 (gn3 8192 + 1) x
      simp only [zda]
      repeat' (first | exact Nat.le_refl _ | (split; rename_i e; subst e; omega) | omega))
     exact RETS_c2 (s := 4096) (g := gn0 4096 + 1) (w := .ref 8192 (gn3 8192 + 1) [] 0 (L.length + 1)) Ur Ur hlf Ur ⟨KFt, T, _, gn3 8192 + 1, L ++ [z], by rw [List.length_append]; rfl, hRF, by simp only [↓za, ↓reduceIte, Nat.reduceEqDiff, zb, reduceCtorEq]; rw [List.take_of_length_le (by omega), List.map_append]; rfl, Ur, by rw [List.length_append]; show L.length + 1 ≤ 9; omega⟩
    ·simp (maxSteps := 10000000) (disch := first | assumption | omega) only [go_sem, ↓reduceIte, Nat.reduceEqDiff, reduceCtorEq, Nat.reduceAdd, Nat.reduceMul, Nat.reduceLeDiff, zc, Int.reduceToNat, s0, eq_false hv0, r12, r4c, b3, hn8]
     have hR4 : RdT (upr ro3 8288 (gn0 8288 + 1) w2) gn3 T (.ref s u [] o m) := hR3.keep (fun x y hy n1 n2 => by rw [zdb, if_neg (fun e => n1 e.1)]) (fun x => Nat.le_refl _)
     have hF4 : Frx Wsd (fun _ _ => False) ro0 gn0 (upr ro3 8288 (gn0 8288 + 1) w2) gn3 := hF3.wr 8288 _ _ (by decide) (.inl (by omega))
     exact RETS_c2 (s := 4096) (g := gn0 4096 + 1) Ur Ur hlf Ur ⟨hF4.wr 4096 _ _ (by decide) (.inl (by omega)), T, _, u3, L, rfl, hR4.keep (fun x y hy n1 n2 => by rw [zdb, if_neg (fun e => n2 e.1)]) (fun x => Nat.le_refl _), Ue rL, lu2, l9⟩
   ·simp (maxSteps := 10000000) (disch := first | assumption | omega) only [go_sem, ↓reduceIte, Nat.reduceEqDiff, reduceCtorEq, Nat.reduceAdd, Nat.reduceMul, Nat.reduceLeDiff, zc, Int.reduceToNat, s0, eq_true l0, eq_false l8, undef, r12, r4c, b3, bL]
    exact RETS_c2 (s := 4096) (g := gn0 4096 + 1) Ur Ur hlf Ur ⟨hF3.wr 4096 _ _ (by decide) (.inl (by omega)), T, _, u3, L, rfl, hR3.keep (fun x y hy n1 n2 => by rw [zdb, if_neg (fun e => n2 e.1)]) (fun x => Nat.le_refl _), Ue rL, lu2, l9⟩
  ·simp (maxSteps := 10000000) (disch := first | assumption | omega) only [go_sem, ↓reduceIte, Nat.reduceEqDiff, reduceCtorEq, Nat.reduceAdd, Nat.reduceMul, Nat.reduceLeDiff, zc, Int.reduceToNat, s0, eq_false l0, undef, r12, r4c, b3, bL]
   exact RETS_c2 (s := 4096) (g := gn0 4096 + 1) Ur Ur hlf Ur ⟨hF3.wr 4096 _ _ (by decide) (.inl (by omega)), T, _, u3, L, rfl, hR3.keep (fun x y hy n1 n2 => by rw [zdb, if_neg (fun e => n2 e.1)]) (fun x => Nat.le_refl _), Ue rL, lu2, l9⟩
 ·have c1 := c108 h5 (t := false) ⟨fun h => (nomatch h), fun h => absurd h hr⟩
  refine Yek ?_
  refine CLL_q _ c1 hq rfl rfl rfl ?_
  simp (maxSteps := 10000000) (disch := first | assumption | omega) only [go_sem, ↓reduceIte, Nat.reduceEqDiff, reduceCtorEq, Nat.reduceAdd, Nat.reduceMul, Nat.reduceLeDiff, zc, Int.reduceToNat, s0, undef, r12, r4c, b3, bL]
  exact RETS_c2 (s := 4096) (g := gn0 4096 + 1) Ur Ur hlf Ur ⟨hF3.wr 4096 _ _ (by decide) (.inl (by omega)), T, _, u3, L, rfl, hR3.keep (fun x y hy n1 n2 => by rw [zdb, if_neg (fun e => n2 e.1)]) (fun x => Nat.le_refl _), Ue rL, lu2, l9⟩
end
end Go.Proofs.Ythfgjapmgjhccaa
