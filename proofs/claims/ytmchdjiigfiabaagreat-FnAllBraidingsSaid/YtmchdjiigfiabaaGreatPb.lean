/- Texts joined: Bs0 Bs1 Bs2. -/
import Derived.Test.YtmchdjiigfiabaaGreatOk
import Derived.Test.YtmchdjiigfiabaaGreatPa
set_option linter.all false
/- Generators and leading numbers (reference). -/
namespace Go.Proofs.YtmchdjiigfiabaaGreat
open Go.RowKit
set_option maxRecDepth 1000000
theorem hrn_b {O : List Int} {T : Nat → Int} (hO : ∀ i, i < O.length → 1 ≤ atI O i ∧ atI O i ≤ 16) (hT : ∀ i, 0 ≤ T i ∧ T i ≤ 1) : ∀ k, k ≤ O.length → 0 ≤ hrn O T k ∧ hrn O T k ≤ 17 ^ k
 | 0, _ => by simp [hrn]
 | k + 1, hk => by
  obtain ⟨h1, h2⟩ := hrn_b hO hT k (by omega)
  obtain ⟨o1, o2⟩ := hO k (by omega)
  obtain ⟨t1, t2⟩ := hT k
  have e1 : 0 ≤ hrn O T k * atI O k := Int.mul_nonneg h1 (by omega)
  have e2 : hrn O T k * atI O k ≤ 17 ^ k * 16 := Int.mul_le_mul h2 o2 (by omega) (by omega)
  have e3 : (17 : Int) ^ (k + 1) = 17 ^ k * 17 := Int.pow_succ _ _
  have e4 : (1 : Int) ≤ 17 ^ k := by
   have : (0 : Int) < 17 ^ k := Int.pow_pos (by omega)
   omega
  show 0 ≤ hrn O T k * atI O k + T k ∧ hrn O T k * atI O k + T k ≤ 17 ^ (k + 1)
  omega
theorem pow17 {i : Nat} (h : i ≤ 6) : (17 : Int) ^ i ≤ 33554432 := by
 have : i = 0 ∨ i = 1 ∨ i = 2 ∨ i = 3 ∨ i = 4 ∨ i = 5 ∨ i = 6 := by omega
 rcases this with e | e | e | e | e | e | e <;> rw [e] <;> decide
section
variable {O : List Int}
theorem cElem {t : AV} {T : Nat → Int} (hO : GrpP O) (hT : ∀ i, 0 ≤ T i ∧ T i ≤ 1) (ht : isL t (rws T O.length)) : CallOK Tryz.prog 101 [immL O, t] (i64 (hrn O T O.length)) := by
 have hl6 := hO.l4
 have ho := isL_imm O
 have htl : (rws T O.length).length = O.length := zfe _ _
 refine call_of (fn := Tryz.f101) (code := bodyOf Tryz.f101) Tryz.func101 rfl (by kernel_rfl) (rfl) ?_
 intro sl hs
 have s0 : sl 0 = immL O := hs 0
 have s1 : sl 1 = t := hs 1
 dsimp only [Tryz.f101, bodyOf, Option.getD]
 refine Yac ?_
 refine WK_for (fun i st => st.sl 0 = immL O ∧ st.sl 1 = t ∧ st.sl 5 = i64 (hrn O T i) ∧ st.sl 6 = i64 (i : Int)) O.length ?_ ?_ ?_
 ·refine Yan ?_
  exact ⟨rfl, rfl⟩
 ·rintro i sl ro gn hi ⟨s0, s1, s5, s6⟩
  dsimp only at s0 s1 s5 s6
  have hi' : (i : Int) < (O.length : Nat) := by omega
  obtain ⟨h1, h2⟩ := hrn_b hO.rg hT i (by omega)
  have h3 := pow17 (i := i) (by omega)
  obtain ⟨o1, o2⟩ := hO.rg i hi
  obtain ⟨t1, t2⟩ := hT i
  have hti : atI (rws T O.length) i = T i := atI_rws _ hi
  have hi2 : i < (rws T O.length).length := by omega
  have e1 : 0 ≤ hrn O T i * atI O i := Int.mul_nonneg h1 (by omega)
  have e2 : hrn O T i * atI O i ≤ 33554432 * 16 := Int.mul_le_mul (by omega) o2 (by omega) (by omega)
  simp (maxSteps := 10000000) (disch := first | assumption | omega) only [go_sem, ↓reduceIte, Nat.reduceEqDiff, reduceCtorEq, Nat.reduceAdd, Nat.reduceMul, Nat.reduceLeDiff, zc, Int.reduceToNat, s0, s1, s5, s6, hi', hi, hti, isL_idx ht hi2]
  refine FIN_of (by kernel_rfl) ?_
  simp (maxSteps := 10000000) (disch := first | assumption | omega) only [go_sem, ↓reduceIte, Nat.reduceEqDiff, reduceCtorEq, Nat.reduceAdd, Nat.reduceMul, Nat.reduceLeDiff, zc, Int.reduceToNat, s0, s1, s5, s6, hi', hi, hti, isL_idx ht hi2]
  exact ⟨rfl, i64c (by omega)⟩
 ·rintro sl ro gn ⟨s0, s1, s5, s6⟩
  dsimp only at s0 s1 s5 s6
  have hi' : ¬ ((O.length : Nat) : Int) < (O.length : Nat) := by omega
  simp (maxSteps := 10000000) (disch := first | assumption | omega) only [go_sem, ↓reduceIte, Nat.reduceEqDiff, reduceCtorEq, Nat.reduceAdd, Nat.reduceMul, Nat.reduceLeDiff, zc, Int.reduceToNat, s0, s1, s5, s6, hi']
  exact Yad
theorem isL_rws (T : Nat → Int) (n : Nat) : rws (fun j => i64 (T j)) n = (rws T n).map i64 := by rw [rws_map]
theorem cGens (hO : GrpP O) (sm : SmO O) : CallOK Tryz.prog 85 [immL O] (.row (rws (fun i => i64 (genI O i)) O.length)) := by
 have hl6 := hO.l4
 have ho := isL_imm O
 have hm' : (O.length : Int) ≤ ((4294967296 : Nat) : Int) := by omega
 refine call_of (fn := Tryz.f85) (code := bodyOf Tryz.f85) Tryz.func85 rfl (by kernel_rfl) (noRef_row _ (noRefL_rws _ _ fun _ => rfl)) ?_
 intro sl hs
 have s0 : sl 0 = immL O := hs 0
 dsimp only [Tryz.f85, bodyOf, Option.getD]
 refine Yaa ?_
 refine WK_for (fun i st => st.sl 0 = immL O ∧ st.sl 3 = .ref 8192 (st.gn 8192) [] 0 i ∧ st.ro 8192 (st.gn 8192) = some (.row (rws (fun j => i64 (genI O j)) i)) ∧ st.sl 4 = i64 (i : Int)) O.length ?_ ?_ ?_
 ·refine Yaz ?_
  exact rfl
 ·rintro i sl ro gn hi ⟨s0, s3, r8192, s4⟩
  dsimp only at s0 s3 r8192 s4
  have hi' : (i : Int) < (O.length : Nat) := by omega
  have hi2 : i + 1 ≤ 4294967296 := by omega
  obtain ⟨o1, o2⟩ := hO.rg i hi
  have hT : ∀ j, 0 ≤ unT O i j ∧ unT O i j ≤ 1 := fun j => by unfold unT; split <;> omega
  have ce := fun (t : AV) (ht : isL t (rws (unT O i) O.length)) => cElem hO hT ht
  rw [sm.gh i hi] at ce
  by_cases h1 : 1 < atI O i
  ·have er : (rws (fun _ => i64 0) O.length).set i (i64 1) = (rws (unT O i) O.length).map i64 := by
    rw [rws_set, ← isL_rws]
    refine rws_congr fun j hj => ?_
    unfold unT
    by_cases e : j = i
    ·rw [if_pos e, if_pos ⟨e, h1⟩]
    ·rw [if_neg e, if_neg fun h => e h.1]
   simp (maxSteps := 10000000) (disch := first | assumption | omega) only [go_sem, ↓reduceIte, Nat.reduceEqDiff, reduceCtorEq, Nat.reduceAdd, Nat.reduceMul, Nat.reduceLeDiff, zc, Int.reduceToNat, s0, s3, r8192, s4, hi', hi, kMake, Int.natCast_nonneg, Int.le_refl, hm', List.getD_cons_zero, rep_rws, eq_true h1]
   refine CLL_q _ (ce (immL (rws (unT O i) O.length)) (isL_imm _)) (by refine exqL.cons (exq_L (isL_imm O) (by decide)) (exqL.cons (exq_refL (xs := rws (unT O i) O.length) ?_ (zfe _ _).symm (by decide)) exqL.nil); simp only [↓za, ↓reduceIte, Nat.reduceEqDiff, zb, reduceCtorEq]; exact congrArg (fun z => some (AV.row z)) er) rfl rfl rfl ?_
   refine Ybq ?_
   exact i64c (by omega)
  ·have er : rws (fun _ => i64 0) O.length = (rws (unT O i) O.length).map i64 := by
    rw [← isL_rws]
    refine rws_congr fun j hj => ?_
    unfold unT
    rw [if_neg fun h => h1 h.2]
   simp (maxSteps := 10000000) (disch := first | assumption | omega) only [go_sem, ↓reduceIte, Nat.reduceEqDiff, reduceCtorEq, Nat.reduceAdd, Nat.reduceMul, Nat.reduceLeDiff, zc, Int.reduceToNat, s0, s3, r8192, s4, hi', hi, kMake, Int.natCast_nonneg, Int.le_refl, hm', List.getD_cons_zero, rep_rws, eq_false h1]
   refine CLL_q _ (ce (immL (rws (unT O i) O.length)) (isL_imm _)) (by refine exqL.cons (exq_L (isL_imm O) (by decide)) (exqL.cons (exq_refL (xs := rws (unT O i) O.length) ?_ (zfe _ _).symm (by decide)) exqL.nil); simp only [↓za, ↓reduceIte, Nat.reduceEqDiff, zb, reduceCtorEq]; exact congrArg (fun z => some (AV.row z)) er) rfl rfl rfl ?_
   refine Ybq ?_
   exact i64c (by omega)
 ·rintro sl ro gn ⟨s0, s3, r8192, s4⟩
  dsimp only at s0 s3 r8192 s4
  have hi' : ¬ ((O.length : Nat) : Int) < (O.length : Nat) := by omega
  refine Ycj ?_
  exact Ybx
theorem SmO.gnI (sm : SmO O) {i : Nat} (hi : i < O.length) : genI O i = (gen O i : Nat) := by
 have := (sm.g0 i hi).1
 unfold gen
 omega
theorem cGenN (hO : GrpP O) (sm : SmO O) : CallOK Tryz.prog 85 [immL O] (.row (rws (fun i => i64 (gen O i : Nat)) O.length)) := by
 have e : rws (fun i => i64 (genI O i)) O.length = rws (fun i => i64 (gen O i : Nat)) O.length := rws_congr fun i hi => by rw [sm.gnI hi]
 rw [← e]
 exact cGens hO sm
theorem cMany {o c : AV} {C : List (List (List Int))} {m : Nat} (ho : isL o O) (hc : isLLL c C) (hl : O.length ≤ 6) (hm : 1 ≤ m ∧ m ≤ 1000) {t : Bool} (ht : t = true ↔ 3 < O.length ∨ 20000 < m ^ (O.length * O.length)) : CallOK Tryz.prog 22 [.agg [o, i64 (m : Int), c]] (bo t) := by
 refine call_of (fn := Tryz.f22) (code := bodyOf Tryz.f22) Tryz.func22 rfl (by kernel_rfl) (rfl) ?_
 intro sl hs
 have s0 : sl 0 = .agg [o, i64 (m : Int), c] := hs 0
 by_cases h3 : (3 : Int) < O.length
 ·have : t = true := ht.2 (.inl (by omega))
  subst this
  dsimp only [Tryz.f22, bodyOf, Option.getD]
  simp (maxSteps := 10000000) (disch := first | assumption | omega) only [go_sem, ↓reduceIte, Nat.reduceEqDiff, reduceCtorEq, Nat.reduceAdd, Nat.reduceMul, Nat.reduceLeDiff, zc, Int.reduceToNat, s0, tiC, isL_len ho, h3]
  exact Yad
 ·have hml : ((O.length : Nat) : Int) * O.length = ((O.length * O.length : Nat) : Int) := by rw [Int.natCast_mul]
  have hr3 : O.length ≤ 3 := by omega
  have hrr : O.length * O.length ≤ 9 := Nat.mul_le_mul hr3 hr3
  dsimp only [Tryz.f22, bodyOf, Option.getD]
  simp (maxSteps := 10000000) (disch := first | assumption | omega) only [go_sem, ↓reduceIte, Nat.reduceEqDiff, reduceCtorEq, Nat.reduceAdd, Nat.reduceMul, Nat.reduceLeDiff, zc, Int.reduceToNat, s0, tiC, isL_len ho, h3]
  refine WK_for (fun i st => st.sl 1 = .ptr 4096 1 [] 0 ∧ st.ro 4096 1 = some (.bx [o, i64 (m : Int), c]) ∧ st.sl 3 = i64 (O.length : Nat) ∧ st.sl 4 = i64 ((m ^ i : Nat) : Int) ∧ st.sl 5 = i64 (i : Int) ∧ (m ^ i ≤ 20000)) ((O.length * O.length)) ?_ ?_ ?_
  ·refine Yaz ?_
   rw [Nat.pow_zero]
   exact ⟨rfl, rfl, by omega⟩
  ·rintro i sl ro gn hi ⟨s1, r4096, s3, s4, s5, q⟩
   dsimp only at s1 r4096 s3 s4 s5
   have hi' : (i : Int) < ((O.length * O.length) : Nat) := by omega
   have e1 : ((m ^ i : Nat) : Int) * (m : Int) = ((m ^ (i + 1) : Nat) : Int) := by rw [Nat.pow_succ, Int.natCast_mul]
   have e2 : m ^ i * m ≤ 20000 * 1000 := Nat.mul_le_mul q hm.2
   have e2 : m ^ (i + 1) ≤ 20000 * 1000 := by rw [Nat.pow_succ]; exact e2
   have e3 : wrF ((m ^ (i + 1) : Nat) : Int) = ((m ^ (i + 1) : Nat) : Int) := zfu (by omega) (by omega)
   by_cases hb : (20000 : Int) < ((m ^ (i + 1) : Nat) : Int)
   ·have : t = true := ht.2 (.inr (by
     have h1 : m ^ (i + 1) ≤ m ^ (O.length * O.length) := Nat.pow_le_pow_right (by omega) hi
     omega))
    subst this
    simp (maxSteps := 10000000) (disch := first | assumption | omega) only [go_sem, ↓reduceIte, Nat.reduceEqDiff, reduceCtorEq, Nat.reduceAdd, Nat.reduceMul, Nat.reduceLeDiff, zc, Int.reduceToNat, s1, r4096, s3, s4, s5, hi', hi, tiC, hml, e1, e3, hb]
    exact Yad
   ·simp (maxSteps := 10000000) (disch := first | assumption | omega) only [go_sem, ↓reduceIte, Nat.reduceEqDiff, reduceCtorEq, Nat.reduceAdd, Nat.reduceMul, Nat.reduceLeDiff, zc, Int.reduceToNat, s1, r4096, s3, s4, s5, hi', hi, tiC, hml, e1, e3, hb]
    exact ⟨i64c (by omega), by omega⟩
  ·rintro sl ro gn ⟨s1, r4096, s3, s4, s5, q⟩
   dsimp only at s1 r4096 s3 s4 s5
   have hi' : ¬ (((O.length * O.length) : Nat) : Int) < ((O.length * O.length) : Nat) := by omega
   have : t = false := by
    cases t with
    | false => rfl
    | true => have := ht.1 rfl; omega
   subst this
   simp (maxSteps := 10000000) (disch := first | assumption | omega) only [go_sem, ↓reduceIte, Nat.reduceEqDiff, reduceCtorEq, Nat.reduceAdd, Nat.reduceMul, Nat.reduceLeDiff, zc, Int.reduceToNat, s1, r4096, s3, s4, s5, hi', tiC, hml]
   exact Yad
def ldF (O : List Int) (G : Nat → Nat → Int) (j : Nat) : Int := G (gen O (j / O.length)) (gen O (j % O.length))
theorem cLead {c v : AV} {M : Int} {C : List (List (List Int))} {G : Nat → Nat → Int} (hc : isLLL c C) (hO : GrpP O) (sm : SmO O) (hv : isLL v (matL G (szO O) (szO O))) : CallOK Tryz.prog 54 [.agg [immL O, i64 M, c], v] (rowL (rws (ldF O G) (O.length * O.length))) := by
 have ho := isL_imm O
 have hl6 := hO.l4
 have hrr : O.length * O.length ≤ 36 := Nat.mul_le_mul hl6 hl6
 rw [show rowL (rws (ldF O G) (O.length * O.length)) = AV.row (rws (fun j => i64 (ldF O G j)) (O.length * O.length)) from congrArg AV.row (isL_rws _ _).symm]
 have hvl : (matL G (szO O) (szO O)).length = szO O := zfe _ _
 have cg := cGenN hO sm
 refine call_of (fn := Tryz.f54) (code := bodyOf Tryz.f54) Tryz.func54 rfl (by kernel_rfl) (noRef_row _ (noRefL_rws _ _ fun _ => rfl)) ?_
 intro sl hs
 have s0 : sl 0 = .agg [immL O, i64 M, c] := hs 0
 have s1 : sl 1 = v := hs 1
 dsimp only [Tryz.f54, bodyOf, Option.getD]
 refine Yby ?_
 refine CLL_pure _ cg PUt rfl rfl ?_
 simp (maxSteps := 10000000) (disch := first | assumption | omega) only [go_sem, ↓reduceIte, Nat.reduceEqDiff, reduceCtorEq, Nat.reduceAdd, Nat.reduceMul, Nat.reduceLeDiff, zc, Int.reduceToNat, s0, s1, impE_row, zfe]
 refine WK_for (fun i st => st.sl 1 = v ∧ st.sl 5 = .ref 8224 1 [] 0 O.length ∧ st.ro 8224 1 = some (.row (rws (fun i => i64 (gen O i : Nat)) O.length)) ∧ st.sl 6 = .ref 8240 (st.gn 8240) [] 0 (i * O.length) ∧ st.sl 7 = i64 (i : Int) ∧ st.ro 8240 (st.gn 8240) = some (.row (rws (fun j => i64 (ldF O G j)) (i * O.length)))) O.length ?_ ?_ ?_
 ·refine Yan ?_
  rw [Nat.zero_mul]
  exact ⟨rfl, rfl, rfl⟩
 ·rintro i sl ro gn hi ⟨s1, s5, r8224, s6, s7, r8240⟩
  dsimp only at s1 s5 r8224 s6 s7 r8240
  have hi' : (i : Int) < (O.length : Nat) := by omega
  have hgi := sm.gn hi
  have hii : (i + 1) * O.length ≤ O.length * O.length := Nat.mul_le_mul_right _ hi
  rw [Nat.succ_mul] at hii
  simp (maxSteps := 10000000) (disch := first | assumption | omega) only [go_sem, ↓reduceIte, Nat.reduceEqDiff, reduceCtorEq, Nat.reduceAdd, Nat.reduceMul, Nat.reduceLeDiff, zc, Int.reduceToNat, s1, s5, r8224, s6, s7, r8240, hi', hi]
  refine WK_for (fun k st => st.sl 1 = v ∧ st.sl 5 = .ref 8224 1 [] 0 O.length ∧ st.ro 8224 1 = some (.row (rws (fun i => i64 (gen O i : Nat)) O.length)) ∧ st.sl 6 = .ref 8240 (st.gn 8240) [] 0 (i * O.length + k) ∧ st.sl 7 = i64 (i : Int) ∧ st.sl 8 = i64 (k : Int) ∧ st.ro 8240 (st.gn 8240) = some (.row (rws (fun j => i64 (ldF O G j)) (i * O.length + k)))) O.length ?_ ?_ ?_
  ·simp only [↓za, ↓reduceIte, Nat.reduceEqDiff, zb, reduceCtorEq, rws_zero, s1, s5, r8224, s6, s7, r8240, hi', hi]
   exact ⟨rfl, rfl, rfl⟩
  ·rintro k sl ro gn hk ⟨s1, s5, r8224, s6, s7, s8, r8240⟩
   dsimp only at s1 s5 r8224 s6 s7 s8 r8240
   have hk' : (k : Int) < (O.length : Nat) := by omega
   have hgk := sm.gn hk
   have hgv : gen O i < (matL G (szO O) (szO O)).length := by omega
   have hr := isLL_row hv hgv
   have hrl : (row (matL G (szO O) (szO O)) (gen O i)).length = szO O := by rw [matL_row hgi, zfe]
   have hgv2 : gen O k < (row (matL G (szO O) (szO O)) (gen O i)).length := by omega
   have hat : atI (row (matL G (szO O) (szO O)) (gen O i)) (gen O k) = ldF O G (i * O.length + k) := by
    have h1 : (i * O.length + k) / O.length = i := by rw [Nat.mul_comm, Nat.mul_add_div (by omega), Nat.div_eq_of_lt hk, Nat.add_zero]
    have h2 : (i * O.length + k) % O.length = k := by rw [Nat.mul_comm, Nat.mul_add_mod, Nat.mod_eq_of_lt hk]
    unfold ldF
    rw [matL_row hgi, atI_rws _ hgk, h1, h2]
   have hb1 : i * O.length + k + 1 ≤ 4294967296 := by omega
   refine Ycl ?_
   refine FIN_of (by kernel_rfl) ?_
   refine Ycl ?_
   exact ⟨rfl, i64c (by omega), rfl⟩
  ·rintro sl ro gn ⟨s1, s5, r8224, s6, s7, s8, r8240⟩
   dsimp only at s1 s5 r8224 s6 s7 s8 r8240
   have hk' : ¬ ((O.length : Nat) : Int) < (O.length : Nat) := by omega
   simp (maxSteps := 10000000) (disch := first | assumption | omega) only [go_sem, ↓reduceIte, Nat.reduceEqDiff, reduceCtorEq, Nat.reduceAdd, Nat.reduceMul, Nat.reduceLeDiff, zc, Int.reduceToNat, s1, s5, r8224, s6, s7, s8, r8240, hk']
   rw [Nat.succ_mul]
   exact ⟨rfl, i64c (by omega), rfl⟩
 ·rintro sl ro gn ⟨s1, s5, r8224, s6, s7, r8240⟩
  dsimp only at s1 s5 r8224 s6 s7 r8240
  have hi' : ¬ ((O.length : Nat) : Int) < (O.length : Nat) := by omega
  simp (maxSteps := 10000000) (disch := first | assumption | omega) only [go_sem, ↓reduceIte, Nat.reduceEqDiff, reduceCtorEq, Nat.reduceAdd, Nat.reduceMul, Nat.reduceLeDiff, zc, Int.reduceToNat, s1, s5, r8224, s6, s7, r8240, hi']
  simp only [zr, zb, retR, resL, outT, outL, zes, zez, oneV, zcp, zed, zfi, Ro.dl, St.ev, zhk, ↓za, ↓reduceIte, Nat.reduceEqDiff, Nat.reduceAdd, Nat.reduceLeDiff, r8240]
end
end Go.Proofs.YtmchdjiigfiabaaGreat
/- Braid numbers that follow from leading numbers (reference). -/
namespace Go.Proofs.YtmchdjiigfiabaaGreat
open Go.RowKit
set_option maxRecDepth 1000000
theorem tiBo : ti0 100 = some ⟨1, false, [Value.slice none 0 0], some 4, [], none, false, false⟩ := by kernel_rfl
section
variable {O : List Int} {M : Int} {F : Nat → Nat → Nat → Int} {L : Nat → Nat → Int}
def RgF (M : Int) (R : Nat → Int) : Prop := ∀ z, 0 ≤ R z ∧ R z < M
theorem RgF.md {M : Int} (hm : 1 ≤ M) (u : Int) : 0 ≤ u % M ∧ u % M < M := ⟨Int.emod_nonneg _ (by omega), Int.emod_lt_of_pos _ (by omega)⟩
theorem rwB_rg (hm : 1 ≤ M) {g : Nat} : ∀ {P : List Stp} {R : Nat → Int}, RgF M R → RgF M (rwB O M F L g R P)
 | [], _, h => h
 | s :: P, R, h => by
  refine rwB_rg (P := P) hm fun z => ?_
  show 0 ≤ (if z = s.1 then _ else _ : Int) ∧ (if z = s.1 then _ else _ : Int) < M
  split
  ·exact RgF.md hm _
  ·exact h z
theorem gsS_rg (hm : 1 ≤ M) {P : List Stp} : ∀ k x, RgF M (gsS O M F L P k x)
 | 0, _ => fun _ => ⟨Int.le_refl _, by show (0 : Int) < M; omega⟩
 | k + 1, x => fun z => by
  unfold gsS
  rw [List.range_succ, List.foldl_append]
  show 0 ≤ (if x = gen O k then _ else _ : Nat → Int) z ∧ (if x = gen O k then _ else _ : Nat → Int) z < M
  split
  ·exact rwB_rg hm (gsS_rg hm k _) z
  ·exact gsS_rg hm k x z
theorem mtS_rg (hm : 1 ≤ M) : ∀ {P : List Stp} {A : Nat → Nat → Int}, (∀ x, RgF M (A x)) → ∀ x, RgF M (P.foldl (mtS O M F) A x)
 | [], _, h => h
 | s :: P, A, h => by
  refine mtS_rg (P := P) hm fun x z => ?_
  unfold mtS
  split
  ·exact h x z
  ·show 0 ≤ (if x = s.1 then _ else _ : Nat → Int) z ∧ (if x = s.1 then _ else _ : Nat → Int) z < M
   split
   ·exact RgF.md hm _
   ·exact h x z
def mA (O : List Int) (M : Int) (F : Nat → Nat → Nat → Int) (L : Nat → Nat → Int) (P : List Stp) (g j : Nat) : Nat → Nat → Int := updR (gsS O M F L P g) (gen O g) (rwB O M F L g (gsS O M F L P g (gen O g)) (P.take j))
theorem mA_0 {P : List Stp} {g n : Nat} : matA (gsS O M F L P g) n n = matA (mA O M F L P g 0) n n := mat_congr fun x z _ _ => by
 show _ = (if x = gen O g then _ else _ : Nat → Int) z
 split
 ·rename_i h; rw [h]; rfl
 ·rfl
theorem mA_n {P : List Stp} {g n : Nat} : matA (mA O M F L P g P.length) n n = matA (gsS O M F L P (g + 1)) n n := mat_congr fun x z _ _ => by
 unfold gsS mA
 rw [List.range_succ, List.foldl_append, List.take_length]
 rfl
theorem mA_s {P : List Stp} {g j n : Nat} {s : Stp} (hs : P[j]? = some s) : matA (upd2 (mA O M F L P g j) (gen O g) s.1 (rwV O M F L g (mA O M F L P g j (gen O g)) s)) n n = matA (mA O M F L P g (j + 1)) n n := mat_congr fun x z _ _ => by
 unfold mA
 rw [take_succ_get hs]
 unfold rwB
 rw [List.foldl_append]
 unfold upd2
 by_cases e : x = gen O g
 ·subst e
  by_cases e2 : z = s.1
  ·simp [e2, updR, rwS, updI, rwV]
  ·simp [e2, updR, rwS, updI]
 ·simp [e, updR]
theorem mA_rg (hm : 1 ≤ M) {P : List Stp} {g j : Nat} (x : Nat) : RgF M (mA O M F L P g j x) := fun z => by
 show 0 ≤ (if x = gen O g then _ else _ : Nat → Int) z ∧ (if x = gen O g then _ else _ : Nat → Int) z < M
 split
 ·exact rwB_rg hm (gsS_rg hm g _) z
 ·exact gsS_rg hm g x z
def mB (O : List Int) (M : Int) (F : Nat → Nat → Nat → Int) (L : Nat → Nat → Int) (P : List Stp) (j : Nat) : Nat → Nat → Int := (P.take j).foldl (mtS O M F) (gsS O M F L P O.length)
def mZ (O : List Int) (M : Int) (F : Nat → Nat → Nat → Int) (A : Nat → Nat → Int) (s : Stp) (k : Nat) : Nat → Nat → Int := fun x z => if x = s.1 ∧ z < k then mtV O M F A A s z else A x z
theorem mZ_s {A : Nat → Nat → Int} {s : Stp} {k n : Nat} : matA (upd2 (mZ O M F A s k) s.1 k (mtV O M F A A s k)) n n = matA (mZ O M F A s (k + 1)) n n := mat_congr fun x z _ _ => by
 unfold upd2 mZ
 by_cases e : x = s.1
 ·subst e
  by_cases e2 : z = k
  ·simp [e2]
  ·have h : (z < k) ↔ (z < k + 1) := by omega
   simp [e2, h]
 ·simp [e]
theorem mZ_0 {A : Nat → Nat → Int} {s : Stp} {n : Nat} : matA A n n = matA (mZ O M F A s 0) n n := mat_congr fun x z _ _ => by simp [mZ]
theorem mB_n {P : List Stp} {j n : Nat} {s : Stp} (hs : P[j]? = some s) (h0 : s.2.1 ≠ 0) : matA (mZ O M F (mB O M F L P j) s n) n n = matA (mB O M F L P (j + 1)) n n := mat_congr fun x z _ hz => by
 unfold mB
 rw [take_succ_get hs, List.foldl_append]
 show mZ O M F _ s n x z = mtS O M F _ s x z
 unfold mtS mZ
 rw [if_neg h0]
 by_cases e : x = s.1
 ·simp [e, hz, updR]
 ·simp [e, updR]
theorem mB_0 {P : List Stp} {j : Nat} {s : Stp} (hs : P[j]? = some s) (h0 : s.2.1 = 0) : mB O M F L P (j + 1) = mB O M F L P j := by
 unfold mB
 rw [take_succ_get hs, List.foldl_append]
 show mtS O M F _ s = _
 unfold mtS
 rw [if_pos h0]
theorem bsR_succ {O : List Int} {i k : Nat} {s : BS} : bsR O i (k + 1) s = bsI O i (bsR O i k s) k := by
 unfold bsR
 rw [List.range_succ, List.foldl_append]
 rfl
theorem map_set_bo (l : List Bool) (i : Nat) : (l.map bo).set i (bo true) = (l.set i true).map bo := by rw [List.map_set]
theorem map_get_bo {l : List Bool} {i : Nat} (h : i < l.length) : (l.map bo)[i]? = some (bo (l.getD i false)) := by
 rw [List.getElem?_map, List.getD_eq_getElem?_getD, List.getElem?_eq_getElem h]
 rfl
theorem map_get_i {l : List Int} {i : Nat} (h : i < l.length) : (l.map i64)[i]? = some (i64 (atI l i)) := by
 unfold atI
 rw [List.getElem?_map, List.getD_eq_getElem?_getD, List.getElem?_eq_getElem h]
 rfl
theorem take_mp (l : List Int) : (l.map i64).take l.length = l.map i64 := List.take_of_length_le (by rw [List.length_map]; exact Nat.le_refl _)
theorem map_snoc_i (l : List Int) (x : Int) : l.map i64 ++ [i64 x] = (l ++ [x]).map i64 := by rw [List.map_append]; rfl
theorem plS_get {O : List Int} {j : Nat} (hj : j < szO O - 1) : (plS O)[j]? = some ((atI (bsO O (szO O)).od (j + 1)).toNat, (atI (bsO O (szO O)).fr (j + 1)).toNat, (atI (bsO O (szO O)).sp (j + 1)).toNat) := by
 unfold plS
 rw [List.getElem?_map, List.getElem?_range hj]
 rfl
theorem SmO.ov (sm : SmO O) (h0 : 0 < szO O) : ∀ j, j < szO O → (0 ≤ atI (bsO O (szO O)).od j ∧ atI (bsO O (szO O)).od j < szO O) ∧ (0 ≤ atI (bsO O (szO O)).fr j ∧ atI (bsO O (szO O)).fr j < szO O) ∧ (0 ≤ atI (bsO O (szO O)).sp j ∧ atI (bsO O (szO O)).sp j < O.length) := by
 have h := (sm.bs (szO O - 1) O.length (by omega) (Nat.le_refl _)).ov
 have e : bsR O (szO O - 1) O.length (bsO O (szO O - 1)) = bsO O (szO O) := by
  show bsO O (szO O - 1 + 1) = _
  rw [Nat.sub_add_cancel h0]
 rw [e, sm.be.1] at h
 exact h
theorem plS_at {O : List Int} (sm : SmO O) (h0 : 0 < szO O) {j : Nat} (hj : j < szO O - 1) : ∃ s, (plS O)[j]? = some s ∧ StpP O (plS O) j s ∧ ((bsO O (szO O)).od.map i64)[j + 1]? = some (i64 (s.1 : Nat)) ∧ ((bsO O (szO O)).fr.map i64)[j + 1]? = some (i64 (s.2.1 : Nat)) ∧ ((bsO O (szO O)).sp.map i64)[j + 1]? = some (i64 (s.2.2 : Nat)) := by
 have hs := plS_get hj
 obtain ⟨h1, h2, h3⟩ := sm.ov h0 (j + 1) (by omega)
 obtain ⟨e1, e2, e3⟩ := sm.be
 refine ⟨_, hs, sm.pS.st j _ hs, ?_, ?_, ?_⟩
 ·rw [map_get_i (by omega)]
  exact congrArg some (i64c (by dsimp only; omega))
 ·rw [map_get_i (by omega)]
  exact congrArg some (i64c (by dsimp only; omega))
 ·rw [map_get_i (by omega)]
  exact congrArg some (i64c (by dsimp only; omega))
theorem noRef_tmat (B : Nat → Nat → Int) (n : Nat) (v : Value) : noRef (.tup [matA B n n, .sc v]) = true := by
 have : noRef (matA B n n) = true := noRef_row _ (noRefL_rws _ _ fun _ => noRef_row _ (noRefL_rws _ _ fun _ => rfl))
 show (noRef (matA B n n) && (true && true)) = true
 rw [this]; rfl
theorem plS_len (O : List Int) : (plS O).length = szO O - 1 := by simp [plS]
end
section
variable {O : List Int} {m : Nat} {F : Nat → Nat → Nat → Int} {l : List Nat} {c a : AV}
set_option maxHeartbeats 8000000 in
theorem cBldS (hW : CoP O m F (szO O)) (sm : SmO O) (hr : O.length ≤ 3) (hc : isLLL c (cubeL F (szO O))) (ha : isL a (l.map fun (x : Nat) => (x : Int))) (hl : l.length = O.length * O.length) (hlm : ∀ x, x ∈ l → x < m)
  {t : Bool} (ht : t = true ↔ BrP O m F (szO O) (bdS O m F (LI O.length l) (plS O)) (szO O) (szO O)) : CallOK Tryz.prog 52 [.agg [immL O, i64 (m : Int), c], a] (.tup [matA (bdS O m F (LI O.length l) (plS O)) (szO O) (szO O), bo t]) := by
 have hO := hW.s.g sm.l6
 have hm := hW.s.m
 have n8 := hW.s.n8
 have he := hW.s.e
 have hn0 := hW.s.pos
 have hb := hW.s.b
 have ho := isL_imm O
 have cg := cGenN hO sm
 have lX : (cubeL F (szO O)).length = szO O := zfe _ _
 have hm' : ((szO O : Nat) : Int) ≤ ((4294967296 : Nat) : Int) := by omega
 have hge : (0 : Int) ≤ ((szO O : Nat) : Int) := by omega
 refine call_of (fn := Tryz.f52) (code := bodyOf Tryz.f52) Tryz.func52 rfl (by kernel_rfl) (by exact noRef_tmat _ _ _) ?_
 intro sl hs
 have s0 : sl 0 = .agg [immL O, i64 (m : Int), c] := hs 0
 have s1 : sl 1 = a := hs 1
 dsimp only [Tryz.f52, bodyOf, Option.getD]
 refine Yby ?_
 refine CLLD_pure _ cg PUt rfl ?_
 simp (maxSteps := 10000000) (disch := first | assumption | omega) only [go_sem, ↓reduceIte, Nat.reduceEqDiff, reduceCtorEq, Nat.reduceAdd, Nat.reduceMul, Nat.reduceLeDiff, zc, Int.reduceToNat, s0, s1, lX, tiC]
 refine FIN_of (by kernel_rfl) ?_
 simp (maxSteps := 10000000) (disch := first | assumption | omega) only [go_sem, ↓reduceIte, Nat.reduceEqDiff, reduceCtorEq, Nat.reduceAdd, Nat.reduceMul, Nat.reduceLeDiff, zc, Int.reduceToNat, s0, s1, impE_row, zfe, lX, tiC]
 refine WK_for (fun x st => st.sl 1 = a ∧ st.sl 2 = .ptr 4096 1 [] 0 ∧ st.ro 4096 1 = some (.bx [immL O, i64 (m : Int), c]) ∧ st.sl 6 = i64 (szO O : Nat) ∧ st.sl 7 = i64 (m : Int) ∧ st.sl 8 = .ref 8304 1 [] 0 O.length ∧ st.ro 8304 1 = some (.row (rws (fun w => i64 (gen O w : Nat)) O.length)) ∧ st.sl 9 = c ∧ st.sl 10 = .ref 12288 (st.gn 12288) [] 0 x ∧ st.sl 11 = i64 (x : Int) ∧ st.ro 12288 (st.gn 12288) = some (.row (rws (fun _ => .row (rws (fun _ => i64 0) (szO O))) x))) ((szO O)) ?_ ?_ ?_
 ·refine Yan ?_
  exact rfl
 ·rintro x sl ro gn hx ⟨s1, s2, r4096, s6, s7, s8, r8304, s9, s10, s11, r12288⟩
  dsimp only at s1 s2 r4096 s6 s7 s8 r8304 s9 s10 s11 r12288
  have hx' : (x : Int) < ((szO O) : Nat) := by omega
  have hx2 : x + 1 ≤ 4294967296 := by omega
  simp (maxSteps := 10000000) (disch := first | assumption | omega) only [go_sem, ↓reduceIte, Nat.reduceEqDiff, reduceCtorEq, Nat.reduceAdd, Nat.reduceMul, Nat.reduceLeDiff, zc, Int.reduceToNat, s1, s2, r4096, s6, s7, s8, r8304, s9, s10, s11, r12288, hx', hx, kMake, hge, hm', Int.le_refl, List.getD_cons_zero, rep_rws, hx2]
  exact i64c (by omega)
 ·rintro sl ro gn ⟨s1, s2, r4096, s6, s7, s8, r8304, s9, s10, s11, r12288⟩
  dsimp only at s1 s2 r4096 s6 s7 s8 r8304 s9 s10 s11 r12288
  have hx' : ¬ (((szO O) : Nat) : Int) < ((szO O) : Nat) := by omega
  obtain ⟨G1, hG1⟩ : ∃ G1, G1 = gn 12288 := ⟨_, rfl⟩
  obtain ⟨G2, hG2⟩ : ∃ G2, G2 = gn 32784 + 1 := ⟨_, rfl⟩
  rw [← hG1] at s10 r12288
  simp (maxSteps := 10000000) (disch := first | assumption | omega) only [go_sem, ↓reduceIte, Nat.reduceEqDiff, reduceCtorEq, Nat.reduceAdd, Nat.reduceMul, Nat.reduceLeDiff, zc, Int.reduceToNat, s1, s2, r4096, s6, s7, s8, r8304, s9, s10, s11, r12288, hx', tiBo, kMake, hge, hm', Int.le_refl, List.getD_cons_zero, rep_rws, kIdx_ref0, hn0]
  refine WK_for (fun i st => st.sl 1 = a ∧ st.sl 2 = .ptr 4096 1 [] 0 ∧ st.ro 4096 1 = some (.bx [immL O, i64 (m : Int), c]) ∧ st.sl 6 = i64 (szO O : Nat) ∧ st.sl 7 = i64 (m : Int) ∧ st.sl 8 = .ref 8304 1 [] 0 O.length ∧ st.ro 8304 1 = some (.row (rws (fun w => i64 (gen O w : Nat)) O.length)) ∧ st.sl 9 = c ∧ st.sl 10 = .ref 12288 G1 [] 0 (szO O) ∧ st.ro 12288 G1 = some (matA (fun _ _ => 0) (szO O) (szO O)) ∧ st.sl 12 = .ref 32784 G2 [] 0 (szO O) ∧ st.ro 32784 G2 = some (.row ((bsO O i).kn.map bo)) ∧ st.sl 13 = .ref 40960 (st.gn 40960) [] 0 (bsO O i).od.length ∧ st.ro 40960 (st.gn 40960) = some (rowL (bsO O i).od) ∧ st.sl 14 = .ref 45056 (st.gn 45056) [] 0 (bsO O i).fr.length ∧ st.ro 45056 (st.gn 45056) = some (rowL (bsO O i).fr) ∧ st.sl 15 = .ref 45072 (st.gn 45072) [] 0 (bsO O i).sp.length ∧ st.ro 45072 (st.gn 45072) = some (rowL (bsO O i).sp) ∧ st.sl 16 = i64 (i : Int)) ((szO O)) ?_ ?_ ?_
  ·simp only [↓za, ↓reduceIte, Nat.reduceEqDiff, zb, reduceCtorEq, rws_zero, s1, s2, r4096, s6, s7, s8, r8304, s9, s10, s11, r12288, hx']
   simp only [← hG2, if_true]
   refine ⟨trivial, ?_, rfl, rfl, rfl, rfl, rfl, rfl, rfl⟩
   show some (AV.row ((rws (fun _ => bo false) (szO O)).set 0 (bo true))) = some (AV.row (((List.replicate (szO O) false).set 0 true).map bo))
   rw [← map_set_bo, List.map_replicate, rep_rws]
  ·rintro i sl ro gn hi ⟨s1, s2, r4096, s6, s7, s8, r8304, s9, s10, r12288, s12, r32784, s13, r40960, s14, r45056, s15, r45072, s16⟩
   dsimp only at s1 s2 r4096 s6 s7 s8 r8304 s9 s10 r12288 s12 r32784 s13 r40960 s14 r45056 s15 r45072 s16
   have hi' : (i : Int) < ((szO O) : Nat) := by omega
   have b0 := sm.bs i 0 hi (Nat.zero_le _)
   have hcd : (i : Int) < ((bsO O i).od.length : Nat) := by have := b0.il; exact Int.ofNat_lt.2 this
   simp (maxSteps := 10000000) (disch := first | assumption | omega) only [go_sem, ↓reduceIte, Nat.reduceEqDiff, reduceCtorEq, Nat.reduceAdd, Nat.reduceMul, Nat.reduceLeDiff, zc, Int.reduceToNat, s1, s2, r4096, s6, s7, s8, r8304, s9, s10, r12288, s12, r32784, s13, r40960, s14, r45056, s15, r45072, s16, hi', hi, hcd]
   refine WK_for (fun k st => st.sl 1 = a ∧ st.sl 2 = .ptr 4096 1 [] 0 ∧ st.ro 4096 1 = some (.bx [immL O, i64 (m : Int), c]) ∧ st.sl 6 = i64 (szO O : Nat) ∧ st.sl 7 = i64 (m : Int) ∧ st.sl 8 = .ref 8304 1 [] 0 O.length ∧ st.ro 8304 1 = some (.row (rws (fun w => i64 (gen O w : Nat)) O.length)) ∧ st.sl 9 = c ∧ st.sl 10 = .ref 12288 G1 [] 0 (szO O) ∧ st.ro 12288 G1 = some (matA (fun _ _ => 0) (szO O) (szO O)) ∧ st.sl 12 = .ref 32784 G2 [] 0 (szO O) ∧ st.sl 16 = i64 (i : Int) ∧ st.sl 17 = i64 (k : Int) ∧ st.ro 32784 G2 = some (.row ((bsR O i k (bsO O i)).kn.map bo)) ∧ st.sl 13 = .ref 40960 (st.gn 40960) [] 0 (bsR O i k (bsO O i)).od.length ∧ st.ro 40960 (st.gn 40960) = some (rowL (bsR O i k (bsO O i)).od) ∧ st.sl 14 = .ref 45056 (st.gn 45056) [] 0 (bsR O i k (bsO O i)).fr.length ∧ st.ro 45056 (st.gn 45056) = some (rowL (bsR O i k (bsO O i)).fr) ∧ st.sl 15 = .ref 45072 (st.gn 45072) [] 0 (bsR O i k (bsO O i)).sp.length ∧ st.ro 45072 (st.gn 45072) = some (rowL (bsR O i k (bsO O i)).sp)) O.length ?_ ?_ ?_
   ·simp only [↓za, ↓reduceIte, Nat.reduceEqDiff, zb, reduceCtorEq, rws_zero, s1, s2, r4096, s6, s7, s8, r8304, s9, s10, r12288, s12, r32784, s13, r40960, s14, r45056, s15, r45072, s16, hi', hi]
    exact ⟨rfl, rfl, rfl, rfl, rfl, rfl, rfl, rfl⟩
   ·rintro k sl ro gn hk ⟨s1, s2, r4096, s6, s7, s8, r8304, s9, s10, r12288, s12, s16, s17, r32784, s13, r40960, s14, r45056, s15, r45072⟩
    dsimp only at s1 s2 r4096 s6 s7 s8 r8304 s9 s10 r12288 s12 s16 s17 r32784 s13 r40960 s14 r45056 s15 r45072
    have hk' : (k : Int) < (O.length : Nat) := by omega
    have b := sm.bs i k hi (Nat.le_of_lt hk)
    rw [bsR_succ]
    generalize bsR O i k (bsO O i) = S at s13 r40960 s14 r45056 s15 r45072 r32784 b ⊢
    have hil := b.il
    have hil' : (i : Int) < (S.od.length : Nat) := Int.ofNat_lt.2 hil
    have hov := (b.ov i hil).1
    have hgk := sm.gn hk
    have ca := cL6a hO (x := atI S.od i) (y := (gen O k : Nat)) (by omega) (by omega)
    have hnx := hO.ad (atI S.od i) (gen O k : Nat)
    obtain ⟨q, hq⟩ := Int.eq_ofNat_of_zero_le hnx.1
    rw [hq] at ca hnx
    have hqn : q < szO O := by omega
    have hqn' : (q : Int) < (szO O : Nat) := Int.ofNat_lt.2 hqn
    have hbs : bsI O i S k = if S.kn.getD q false = true then S else ⟨S.kn.set q true, S.od ++ [(q : Int)], S.fr ++ [atI S.od i], S.sp ++ [(k : Int)]⟩ := by
     unfold bsI
     rw [sm.gnI hk, hq]
     rfl
    rw [hbs]
    have hqk : q < S.kn.length := by rw [b.kl]; exact hqn
    have hlo : S.od.length + 1 ≤ 4294967296 := by have := b.ln; omega
    have hlf : S.fr.length + 1 ≤ 4294967296 := by have := b.ln; have := b.fl; omega
    have hls : S.sp.length + 1 ≤ 4294967296 := by have := b.ln; have := b.sl; omega
    have ego := map_get_i hil
    refine Ych ?_
    refine CLLD_pure _ ca PUt rfl ?_
    refine Ych ?_
    refine FIN_of (by kernel_rfl) ?_
    by_cases hkn : S.kn.getD q false = true
    ·rw [if_pos hkn]
     simp (maxSteps := 10000000) (disch := first | assumption | omega) only [go_sem, ↓reduceIte, Nat.reduceEqDiff, reduceCtorEq, Nat.reduceAdd, Nat.reduceMul, Nat.reduceLeDiff, zc, Int.reduceToNat, s1, s2, r4096, s6, s7, s8, r8304, s9, s10, r12288, s12, s16, s17, r32784, s13, r40960, s14, r45056, s15, r45072, hk', hk, tiBo, hqn', map_get_bo hqk, hkn]
     exact i64c (by omega)
    ·rw [if_neg hkn]
     have hkf : S.kn.getD q false = false := by simpa using hkn
     have ego2 : ((S.od ++ [(q : Int)]).map i64)[i]? = some (i64 (atI S.od i)) := by
      rw [map_get_i (by rw [List.length_append]; exact Nat.lt_add_right _ hil), atI_app, if_pos hil]
     have hil2 : (i : Int) < ((S.od.length + 1 : Nat) : Int) := by omega
     simp (maxSteps := 10000000) (disch := first | assumption | omega) only [go_sem, ↓reduceIte, Nat.reduceEqDiff, reduceCtorEq, Nat.reduceAdd, Nat.reduceMul, Nat.reduceLeDiff, zc, Int.reduceToNat, s1, s2, r4096, s6, s7, s8, r8304, s9, s10, r12288, s12, s16, s17, r32784, s13, r40960, s14, r45056, s15, r45072, hk', hk, tiBo, hqn', map_get_bo hqk, hkf, map_set_bo, take_mp, map_snoc_i, hlo, hlf, hls, ego2, hil2, List.length_append]
     exact i64c (by omega)
   ·rintro sl ro gn ⟨s1, s2, r4096, s6, s7, s8, r8304, s9, s10, r12288, s12, s16, s17, r32784, s13, r40960, s14, r45056, s15, r45072⟩
    dsimp only at s1 s2 r4096 s6 s7 s8 r8304 s9 s10 r12288 s12 s16 s17 r32784 s13 r40960 s14 r45056 s15 r45072
    have hk' : ¬ ((O.length : Nat) : Int) < (O.length : Nat) := by omega
    simp (maxSteps := 10000000) (disch := first | assumption | omega) only [go_sem, ↓reduceIte, Nat.reduceEqDiff, reduceCtorEq, Nat.reduceAdd, Nat.reduceMul, Nat.reduceLeDiff, zc, Int.reduceToNat, s1, s2, r4096, s6, s7, s8, r8304, s9, s10, r12288, s12, s16, s17, r32784, s13, r40960, s14, r45056, s15, r45072, hk']
    exact ⟨rfl, rfl, rfl, rfl, rfl, rfl, rfl, i64c (by omega)⟩
  ·rintro sl ro gn ⟨s1, s2, r4096, s6, s7, s8, r8304, s9, s10, r12288, s12, r32784, s13, r40960, s14, r45056, s15, r45072, s16⟩
   dsimp only at s1 s2 r4096 s6 s7 s8 r8304 s9 s10 r12288 s12 r32784 s13 r40960 s14 r45056 s15 r45072 s16
   have hi' : ¬ (((szO O) : Nat) : Int) < ((szO O) : Nat) := by omega
   obtain ⟨el1, el2, el3⟩ := sm.be
   rw [el1] at s13
   rw [el2] at s14
   rw [el3] at s15
   have hcd : ¬ ((szO O : Nat) : Int) < (szO O : Nat) := by omega
   simp (maxSteps := 10000000) (disch := first | assumption | omega) only [go_sem, ↓reduceIte, Nat.reduceEqDiff, reduceCtorEq, Nat.reduceAdd, Nat.reduceMul, Nat.reduceLeDiff, zc, Int.reduceToNat, s1, s2, r4096, s6, s7, s8, r8304, s9, s10, r12288, s12, r32784, s13, r40960, s14, r45056, s15, r45072, s16, hi', hcd]
   refine WK_for (fun g st => st.sl 1 = a ∧ st.sl 2 = .ptr 4096 1 [] 0 ∧ st.ro 4096 1 = some (.bx [immL O, i64 (m : Int), c]) ∧ st.sl 6 = i64 (szO O : Nat) ∧ st.sl 7 = i64 (m : Int) ∧ st.sl 8 = .ref 8304 1 [] 0 O.length ∧ st.ro 8304 1 = some (.row (rws (fun w => i64 (gen O w : Nat)) O.length)) ∧ st.sl 9 = c ∧ st.sl 10 = .ref 12288 G1 [] 0 (szO O) ∧ st.ro 40960 (st.gn 40960) = some (rowL (bsO O ((szO O))).od) ∧ st.ro 45056 (st.gn 45056) = some (rowL (bsO O ((szO O))).fr) ∧ st.ro 45072 (st.gn 45072) = some (rowL (bsO O ((szO O))).sp) ∧ st.sl 13 = .ref 40960 (st.gn 40960) [] 0 (szO O) ∧ st.sl 14 = .ref 45056 (st.gn 45056) [] 0 (szO O) ∧ st.sl 15 = .ref 45072 (st.gn 45072) [] 0 (szO O) ∧ st.sl 19 = i64 (g : Int) ∧ st.ro 12288 G1 = some (matA (gsS O m F (LI O.length l) (plS O) g) (szO O) (szO O))) O.length ?_ ?_ ?_
   ·simp only [↓za, ↓reduceIte, Nat.reduceEqDiff, zb, reduceCtorEq, rws_zero, s1, s2, r4096, s6, s7, s8, r8304, s9, s10, r12288, s12, r32784, s13, r40960, s14, r45056, s15, r45072, s16, hi']
    exact ⟨rfl, rfl⟩
   ·rintro g sl ro gn hg ⟨s1, s2, r4096, s6, s7, s8, r8304, s9, s10, r40960, r45056, r45072, s13, s14, s15, s19, r12288⟩
    dsimp only at s1 s2 r4096 s6 s7 s8 r8304 s9 s10 r40960 r45056 r45072 s13 s14 s15 s19 r12288
    have hg' : (g : Int) < (O.length : Nat) := by omega
    have hgn := sm.gn hg
    have hgn' : ((gen O g : Nat) : Int) < (szO O : Nat) := Int.ofNat_lt.2 hgn
    simp (maxSteps := 10000000) (disch := first | assumption | omega) only [go_sem, ↓reduceIte, Nat.reduceEqDiff, reduceCtorEq, Nat.reduceAdd, Nat.reduceMul, Nat.reduceLeDiff, zc, Int.reduceToNat, s1, s2, r4096, s6, s7, s8, r8304, s9, s10, r40960, r45056, r45072, s13, s14, s15, s19, r12288, hg', hg, rws_get _ _ _ hg, mat_cells r12288 hgn, hgn']
    refine WK_for (fun j st => st.sl 1 = a ∧ st.sl 2 = .ptr 4096 1 [] 0 ∧ st.ro 4096 1 = some (.bx [immL O, i64 (m : Int), c]) ∧ st.sl 6 = i64 (szO O : Nat) ∧ st.sl 7 = i64 (m : Int) ∧ st.sl 8 = .ref 8304 1 [] 0 O.length ∧ st.ro 8304 1 = some (.row (rws (fun w => i64 (gen O w : Nat)) O.length)) ∧ st.sl 9 = c ∧ st.sl 10 = .ref 12288 G1 [] 0 (szO O) ∧ st.ro 40960 (st.gn 40960) = some (rowL (bsO O ((szO O))).od) ∧ st.ro 45056 (st.gn 45056) = some (rowL (bsO O ((szO O))).fr) ∧ st.ro 45072 (st.gn 45072) = some (rowL (bsO O ((szO O))).sp) ∧ st.sl 13 = .ref 40960 (st.gn 40960) [] 0 (szO O) ∧ st.sl 14 = .ref 45056 (st.gn 45056) [] 0 (szO O) ∧ st.sl 15 = .ref 45072 (st.gn 45072) [] 0 (szO O) ∧ st.sl 19 = i64 (g : Int) ∧ st.sl 20 = i64 (gen O g : Nat) ∧ st.sl 21 = .ref 12288 G1 [gen O g] 0 (szO O) ∧ st.sl 22 = i64 ((j + 1 : Nat) : Int) ∧ st.ro 12288 G1 = some (matA (mA O m F (LI O.length l) (plS O) g j) (szO O) (szO O))) ((szO O - 1)) ?_ ?_ ?_
    ·simp only [↓za, ↓reduceIte, Nat.reduceEqDiff, zb, reduceCtorEq, rws_zero, s1, s2, r4096, s6, s7, s8, r8304, s9, s10, r40960, r45056, r45072, s13, s14, s15, s19, r12288, hg', hg]
     exact ⟨rfl, congrArg some mA_0⟩
    ·rintro j sl ro gn hj ⟨s1, s2, r4096, s6, s7, s8, r8304, s9, s10, r40960, r45056, r45072, s13, s14, s15, s19, s20, s21, s22, r12288⟩
     dsimp only at s1 s2 r4096 s6 s7 s8 r8304 s9 s10 r40960 r45056 r45072 s13 s14 s15 s19 s20 s21 s22 r12288
     have hj' : (j : Int) < ((szO O - 1) : Nat) := by omega
     obtain ⟨q, hq, hp, ep1, ep2, ep3⟩ := plS_at sm hn0 hj
     have hjn : ((j + 1 : Nat) : Int) < (szO O : Nat) := by omega
     have hjn0 : j + 1 < szO O := by omega
     have q1 := hp.e
     have q2 := hp.x
     have q3 := hp.k
     have hgk := sm.gn q3
     have hgr : g * O.length + q.2.2 < O.length * O.length := by
      have := Nat.mul_le_mul_right O.length (show g + 1 ≤ O.length from hg)
      rw [Nat.succ_mul] at this
      omega
     have hrr : O.length * O.length ≤ 9 := Nat.mul_le_mul hr hr
     have e1 : (g : Int) * (O.length : Nat) = ((g * O.length : Nat) : Int) := (Int.natCast_mul _ _).symm
     have e2 : ((g * O.length : Nat) : Int) + ((q.2.2 : Nat) : Int) = ((g * O.length + q.2.2 : Nat) : Int) := (Int.natCast_add _ _).symm
     have hal : g * O.length + q.2.2 < (l.map fun (x : Nat) => (x : Int)).length := by rw [List.length_map]; omega
     have hat : atI (l.map fun (x : Nat) => (x : Int)) (g * O.length + q.2.2) = LI O.length l g q.2.2 := by
      unfold atI LI
      rw [List.getD_eq_getElem?_getD, List.getD_eq_getElem?_getD, List.getElem?_map, List.getElem?_eq_getElem (by omega)]
      rfl
     have hLb : 0 ≤ LI O.length l g q.2.2 ∧ LI O.length l g q.2.2 ≤ 1000 := by
      have := getD_lt (j := g * O.length + q.2.2) hlm (by omega)
      show (0 : Int) ≤ (l.getD (g * O.length + q.2.2) 0 : Nat) ∧ ((l.getD (g * O.length + q.2.2) 0 : Nat) : Int) ≤ 1000
      omega
     have iy := isLLL_mat hc (k := q.2.1) (by omega)
     have ix := isLLL_mat hc (k := gen O g) (by omega)
     have my := cube_row F q2
     have mx := cube_row F hgn
     have iyx := isLL_row iy (k := gen O g) (by omega)
     have iyh := isLL_row iy (k := gen O q.2.2) (by omega)
     have ixy := isLL_row ix (k := q.2.1) (by omega)
     have m1 := cube_rr F q2 hgn
     have m2 := cube_rr F q2 hgk
     have m3 := cube_rr F hgn q2
     have v1 : atI (row (mat (cubeL F (szO O)) q.2.1) (gen O g)) (gen O q.2.2) = F q.2.1 (gen O g) (gen O q.2.2) := at3_cube q2 hgn hgk
     have v2 : atI (row (mat (cubeL F (szO O)) q.2.1) (gen O q.2.2)) (gen O g) = F q.2.1 (gen O q.2.2) (gen O g) := at3_cube q2 hgk hgn
     have v3 : atI (row (mat (cubeL F (szO O)) (gen O g)) q.2.1) (gen O q.2.2) = F (gen O g) q.2.1 (gen O q.2.2) := at3_cube hgn q2 hgk
     have b1 := hb _ q2 _ hgn _ hgk
     have b2 := hb _ q2 _ hgk _ hgn
     have b3 := hb _ hgn _ q2 _ hgk
     have b4 := mA_rg (O := O) (F := F) (L := LI O.length l) (P := plS O) (g := g) (j := j) hm.1 (gen O g) q.2.1
     have cm := cL18m (n := LI O.length l g q.2.2 + F q.2.1 (gen O g) (gen O q.2.2) + mA O m F (LI O.length l) (plS O) g j (gen O g) q.2.1 - F q.2.1 (gen O q.2.2) (gen O g) - F (gen O g) q.2.1 (gen O q.2.2)) (m := m) (by omega) (by omega)
     rw [show (LI O.length l g q.2.2 + F q.2.1 (gen O g) (gen O q.2.2) + mA O m F (LI O.length l) (plS O) g j (gen O g) q.2.1 - F q.2.1 (gen O q.2.2) (gen O g) - F (gen O g) q.2.1 (gen O q.2.2)) % (m : Int) = rwV O m F (LI O.length l) g (mA O m F (LI O.length l) (plS O) g j (gen O g)) q from rfl] at cm
     have q1' : ((q.1 : Nat) : Int) < (szO O : Nat) := Int.ofNat_lt.2 q1
     have q2' : ((q.2.1 : Nat) : Int) < (szO O : Nat) := Int.ofNat_lt.2 q2
     have q3' : ((q.2.2 : Nat) : Int) < (O.length : Nat) := Int.ofNat_lt.2 q3
     simp (maxSteps := 10000000) (disch := first | assumption | omega) only [go_sem, ↓reduceIte, Nat.reduceEqDiff, reduceCtorEq, Nat.reduceAdd, Nat.reduceMul, Nat.reduceLeDiff, zc, Int.reduceToNat, s1, s2, r4096, s6, s7, s8, r8304, s9, s10, r40960, r45056, r45072, s13, s14, s15, s19, s20, s21, s22, r12288, hj', hj, hjn, hjn0, ep1, ep2, ep3, q3', rws_get _ _ _ q3]
     refine FIN_of (by kernel_rfl) ?_
     simp (maxSteps := 10000000) (disch := first | assumption | omega) only [go_sem, ↓reduceIte, Nat.reduceEqDiff, reduceCtorEq, Nat.reduceAdd, Nat.reduceMul, Nat.reduceLeDiff, zc, Int.reduceToNat, s1, s2, r4096, s6, s7, s8, r8304, s9, s10, r40960, r45056, r45072, s13, s14, s15, s19, s20, s21, s22, r12288, hj', hj, hjn, hjn0, ep1, ep2, ep3, q3', rws_get _ _ _ q3, e1, e2, isL_idx ha hal, hat, v1, v2, v3]
     refine CLLD_pure _ cm PUt rfl ?_
     refine Ycd ?_
     refine FIN_of (by kernel_rfl) ?_
     refine Ycd ?_
     exact ⟨i64c (by omega), congrArg some (mA_s hq)⟩
    ·rintro sl ro gn ⟨s1, s2, r4096, s6, s7, s8, r8304, s9, s10, r40960, r45056, r45072, s13, s14, s15, s19, s20, s21, s22, r12288⟩
     dsimp only at s1 s2 r4096 s6 s7 s8 r8304 s9 s10 r40960 r45056 r45072 s13 s14 s15 s19 s20 s21 s22 r12288
     have hj' : ¬ (((szO O - 1) : Nat) : Int) < ((szO O - 1) : Nat) := by omega
     rw [← plS_len, mA_n] at r12288
     have hjn : ¬ ((szO O - 1 + 1 : Nat) : Int) < (szO O : Nat) := by omega
     simp (maxSteps := 10000000) (disch := first | assumption | omega) only [go_sem, ↓reduceIte, Nat.reduceEqDiff, reduceCtorEq, Nat.reduceAdd, Nat.reduceMul, Nat.reduceLeDiff, zc, Int.reduceToNat, s1, s2, r4096, s6, s7, s8, r8304, s9, s10, r40960, r45056, r45072, s13, s14, s15, s19, s20, s21, s22, r12288, hj', hjn]
     exact i64c (by omega)
   ·rintro sl ro gn ⟨s1, s2, r4096, s6, s7, s8, r8304, s9, s10, r40960, r45056, r45072, s13, s14, s15, s19, r12288⟩
    dsimp only at s1 s2 r4096 s6 s7 s8 r8304 s9 s10 r40960 r45056 r45072 s13 s14 s15 s19 r12288
    have hg' : ¬ ((O.length : Nat) : Int) < (O.length : Nat) := by omega
    have hpl := plS_len O
    simp (maxSteps := 10000000) (disch := first | assumption | omega) only [go_sem, ↓reduceIte, Nat.reduceEqDiff, reduceCtorEq, Nat.reduceAdd, Nat.reduceMul, Nat.reduceLeDiff, zc, Int.reduceToNat, s1, s2, r4096, s6, s7, s8, r8304, s9, s10, r40960, r45056, r45072, s13, s14, s15, s19, r12288, hg']
    refine WK_for (fun j st => st.sl 1 = a ∧ st.sl 2 = .ptr 4096 1 [] 0 ∧ st.ro 4096 1 = some (.bx [immL O, i64 (m : Int), c]) ∧ st.sl 6 = i64 (szO O : Nat) ∧ st.sl 7 = i64 (m : Int) ∧ st.sl 8 = .ref 8304 1 [] 0 O.length ∧ st.ro 8304 1 = some (.row (rws (fun w => i64 (gen O w : Nat)) O.length)) ∧ st.sl 9 = c ∧ st.sl 10 = .ref 12288 G1 [] 0 (szO O) ∧ st.ro 40960 (st.gn 40960) = some (rowL (bsO O ((szO O))).od) ∧ st.ro 45056 (st.gn 45056) = some (rowL (bsO O ((szO O))).fr) ∧ st.ro 45072 (st.gn 45072) = some (rowL (bsO O ((szO O))).sp) ∧ st.sl 13 = .ref 40960 (st.gn 40960) [] 0 (szO O) ∧ st.sl 14 = .ref 45056 (st.gn 45056) [] 0 (szO O) ∧ st.sl 15 = .ref 45072 (st.gn 45072) [] 0 (szO O) ∧ st.sl 26 = i64 ((j + 1 : Nat) : Int) ∧ st.ro 12288 G1 = some (matA (mB O m F (LI O.length l) (plS O) j) (szO O) (szO O))) ((szO O - 1)) ?_ ?_ ?_
    ·simp only [↓za, ↓reduceIte, Nat.reduceEqDiff, zb, reduceCtorEq, rws_zero, s1, s2, r4096, s6, s7, s8, r8304, s9, s10, r40960, r45056, r45072, s13, s14, s15, s19, r12288, hg']
     exact ⟨rfl, rfl⟩
    ·rintro j sl ro gn hj ⟨s1, s2, r4096, s6, s7, s8, r8304, s9, s10, r40960, r45056, r45072, s13, s14, s15, s26, r12288⟩
     dsimp only at s1 s2 r4096 s6 s7 s8 r8304 s9 s10 r40960 r45056 r45072 s13 s14 s15 s26 r12288
     have hj' : (j : Int) < ((szO O - 1) : Nat) := by omega
     obtain ⟨q, hq, hp, ep1, ep2, ep3⟩ := plS_at sm hn0 hj
     have hjn : ((j + 1 : Nat) : Int) < (szO O : Nat) := by omega
     have hjn0 : j + 1 < szO O := by omega
     have q1 := hp.e
     have q2 := hp.x
     have q3 := hp.k
     have hgk := sm.gn q3
     have q1' : ((q.1 : Nat) : Int) < (szO O : Nat) := Int.ofNat_lt.2 q1
     have q3' : ((q.2.2 : Nat) : Int) < (O.length : Nat) := Int.ofNat_lt.2 q3
     simp (maxSteps := 10000000) (disch := first | assumption | omega) only [go_sem, ↓reduceIte, Nat.reduceEqDiff, reduceCtorEq, Nat.reduceAdd, Nat.reduceMul, Nat.reduceLeDiff, zc, Int.reduceToNat, s1, s2, r4096, s6, s7, s8, r8304, s9, s10, r40960, r45056, r45072, s13, s14, s15, s26, r12288, hj', hj, hjn, hjn0, ep1, ep2, ep3, q3', rws_get _ _ _ q3]
     refine FIN_of (by kernel_rfl) ?_
     by_cases h0 : q.2.1 = 0
     ·have h0' : ((q.2.1 : Nat) : Int) = 0 := by omega
      rw [mB_0 hq h0]
      simp (maxSteps := 10000000) (disch := first | assumption | omega) only [go_sem, ↓reduceIte, Nat.reduceEqDiff, reduceCtorEq, Nat.reduceAdd, Nat.reduceMul, Nat.reduceLeDiff, zc, Int.reduceToNat, s1, s2, r4096, s6, s7, s8, r8304, s9, s10, r40960, r45056, r45072, s13, s14, s15, s26, r12288, hj', hj, hjn, hjn0, ep1, ep2, ep3, q3', rws_get _ _ _ q3, eq_true h0']
      exact i64c (by omega)
     ·have h0' : ¬ ((q.2.1 : Nat) : Int) = 0 := by omega
      simp (maxSteps := 10000000) (disch := first | assumption | omega) only [go_sem, ↓reduceIte, Nat.reduceEqDiff, reduceCtorEq, Nat.reduceAdd, Nat.reduceMul, Nat.reduceLeDiff, zc, Int.reduceToNat, s1, s2, r4096, s6, s7, s8, r8304, s9, s10, r40960, r45056, r45072, s13, s14, s15, s26, r12288, hj', hj, hjn, hjn0, ep1, ep2, ep3, q3', rws_get _ _ _ q3, eq_false h0', q1', mat_cells r12288 q1]
      refine WK_for (fun z st => st.sl 1 = a ∧ st.sl 2 = .ptr 4096 1 [] 0 ∧ st.ro 4096 1 = some (.bx [immL O, i64 (m : Int), c]) ∧ st.sl 6 = i64 (szO O : Nat) ∧ st.sl 7 = i64 (m : Int) ∧ st.sl 8 = .ref 8304 1 [] 0 O.length ∧ st.ro 8304 1 = some (.row (rws (fun w => i64 (gen O w : Nat)) O.length)) ∧ st.sl 9 = c ∧ st.sl 10 = .ref 12288 G1 [] 0 (szO O) ∧ st.ro 40960 (st.gn 40960) = some (rowL (bsO O ((szO O))).od) ∧ st.ro 45056 (st.gn 45056) = some (rowL (bsO O ((szO O))).fr) ∧ st.ro 45072 (st.gn 45072) = some (rowL (bsO O ((szO O))).sp) ∧ st.sl 13 = .ref 40960 (st.gn 40960) [] 0 (szO O) ∧ st.sl 14 = .ref 45056 (st.gn 45056) [] 0 (szO O) ∧ st.sl 15 = .ref 45072 (st.gn 45072) [] 0 (szO O) ∧ st.sl 26 = i64 ((j + 1 : Nat) : Int) ∧ st.sl 27 = i64 (q.2.1 : Nat) ∧ st.sl 28 = i64 (gen O q.2.2 : Nat) ∧ st.sl 29 = .ref 12288 G1 [q.1] 0 (szO O) ∧ st.sl 30 = i64 (z : Int) ∧ st.ro 12288 G1 = some (matA (mZ O m F (mB O m F (LI O.length l) (plS O) j) q z) (szO O) (szO O))) ((szO O)) ?_ ?_ ?_
      ·simp only [↓za, ↓reduceIte, Nat.reduceEqDiff, zb, reduceCtorEq, rws_zero, s1, s2, r4096, s6, s7, s8, r8304, s9, s10, r40960, r45056, r45072, s13, s14, s15, s26, r12288, hj', hj]
       exact ⟨rfl, congrArg some mZ_0⟩
      ·rintro z sl ro gn hz ⟨s1, s2, r4096, s6, s7, s8, r8304, s9, s10, r40960, r45056, r45072, s13, s14, s15, s26, s27, s28, s29, s30, r12288⟩
       dsimp only at s1 s2 r4096 s6 s7 s8 r8304 s9 s10 r40960 r45056 r45072 s13 s14 s15 s26 s27 s28 s29 s30 r12288
       have hz' : (z : Int) < ((szO O) : Nat) := by omega
       have hzn' : (z : Int) < (szO O : Nat) := Int.ofNat_lt.2 hz
       have u1 : mZ O m F (mB O m F (LI O.length l) (plS O) j) q z q.2.1 z = mB O m F (LI O.length l) (plS O) j q.2.1 z := if_neg fun h => hp.ex h.1.symm
       have u2 : mZ O m F (mB O m F (LI O.length l) (plS O) j) q z (gen O q.2.2) z = mB O m F (LI O.length l) (plS O) j (gen O q.2.2) z := if_neg fun h => hp.eg h0 h.1.symm
       have ix := isLLL_mat hc (k := q.2.1) (by omega)
       have iz := isLLL_mat hc (k := z) (by omega)
       have mx := cube_row F q2
       have mz := cube_row F hz
       have ixz := isLL_row ix (k := z) (by omega)
       have izx := isLL_row iz (k := q.2.1) (by omega)
       have ixg := isLL_row ix (k := gen O q.2.2) (by omega)
       have m1 := cube_rr F q2 hz
       have m2 := cube_rr F hz q2
       have m3 := cube_rr F q2 hgk
       have v1 : atI (row (mat (cubeL F (szO O)) q.2.1) z) (gen O q.2.2) = F q.2.1 z (gen O q.2.2) := at3_cube q2 hz hgk
       have v2 : atI (row (mat (cubeL F (szO O)) z) q.2.1) (gen O q.2.2) = F z q.2.1 (gen O q.2.2) := at3_cube hz q2 hgk
       have v3 : atI (row (mat (cubeL F (szO O)) q.2.1) (gen O q.2.2)) z = F q.2.1 (gen O q.2.2) z := at3_cube q2 hgk hz
       have b1 := hb _ q2 _ hz _ hgk
       have b2 := hb _ hz _ q2 _ hgk
       have b3 := hb _ q2 _ hgk _ hz
       have bm : ∀ x, RgF m (mB O m F (LI O.length l) (plS O) j x) := mtS_rg hm.1 (gsS_rg hm.1 O.length)
       have b4 := bm q.2.1 z
       have b5 := bm (gen O q.2.2) z
       have cm := cL18m (n := mB O m F (LI O.length l) (plS O) j q.2.1 z - F q.2.1 z (gen O q.2.2) + mB O m F (LI O.length l) (plS O) j (gen O q.2.2) z + F z q.2.1 (gen O q.2.2) + F q.2.1 (gen O q.2.2) z) (m := m) (by omega) (by omega)
       rw [show (mB O m F (LI O.length l) (plS O) j q.2.1 z - F q.2.1 z (gen O q.2.2) + mB O m F (LI O.length l) (plS O) j (gen O q.2.2) z + F z q.2.1 (gen O q.2.2) + F q.2.1 (gen O q.2.2) z) % (m : Int) = mtV O m F (mB O m F (LI O.length l) (plS O) j) (mB O m F (LI O.length l) (plS O) j) q z from rfl] at cm
       have q2' : ((q.2.1 : Nat) : Int) < (szO O : Nat) := Int.ofNat_lt.2 q2
       have hgk' : ((gen O q.2.2 : Nat) : Int) < (szO O : Nat) := Int.ofNat_lt.2 hgk
       simp (maxSteps := 10000000) (disch := first | assumption | omega) only [go_sem, ↓reduceIte, Nat.reduceEqDiff, reduceCtorEq, Nat.reduceAdd, Nat.reduceMul, Nat.reduceLeDiff, zc, Int.reduceToNat, s1, s2, r4096, s6, s7, s8, r8304, s9, s10, r40960, r45056, r45072, s13, s14, s15, s26, s27, s28, s29, s30, r12288, hz', hz, hzn', q2', hgk', rws_get _ _ _ hz, mat_cells r12288 q1, mat_cells r12288 q2, mat_cells r12288 hgk, u1, u2, v1, v2, v3]
       refine CLLD_pure _ cm PUt rfl ?_
       refine Yce ?_
       refine FIN_of (by kernel_rfl) ?_
       refine Yce ?_
       exact ⟨i64c (by omega), congrArg some mZ_s⟩
      ·rintro sl ro gn ⟨s1, s2, r4096, s6, s7, s8, r8304, s9, s10, r40960, r45056, r45072, s13, s14, s15, s26, s27, s28, s29, s30, r12288⟩
       dsimp only at s1 s2 r4096 s6 s7 s8 r8304 s9 s10 r40960 r45056 r45072 s13 s14 s15 s26 s27 s28 s29 s30 r12288
       have hz' : ¬ (((szO O) : Nat) : Int) < ((szO O) : Nat) := by omega
       rw [mB_n hq h0] at r12288
       simp (maxSteps := 10000000) (disch := first | assumption | omega) only [go_sem, ↓reduceIte, Nat.reduceEqDiff, reduceCtorEq, Nat.reduceAdd, Nat.reduceMul, Nat.reduceLeDiff, zc, Int.reduceToNat, s1, s2, r4096, s6, s7, s8, r8304, s9, s10, r40960, r45056, r45072, s13, s14, s15, s26, s27, s28, s29, s30, r12288, hz']
       exact i64c (by omega)
    ·rintro sl ro gn ⟨s1, s2, r4096, s6, s7, s8, r8304, s9, s10, r40960, r45056, r45072, s13, s14, s15, s26, r12288⟩
     dsimp only at s1 s2 r4096 s6 s7 s8 r8304 s9 s10 r40960 r45056 r45072 s13 s14 s15 s26 r12288
     have hj' : ¬ (((szO O - 1) : Nat) : Int) < ((szO O - 1) : Nat) := by omega
     have hjn : ¬ ((szO O - 1 + 1 : Nat) : Int) < (szO O : Nat) := by omega
     have eB : mB O m F (LI O.length l) (plS O) (szO O - 1) = bdS O m F (LI O.length l) (plS O) := by
      unfold mB bdS
      rw [← hpl, List.take_length]
     rw [eB] at r12288
     generalize bdS O m F (LI O.length l) (plS O) = B at r12288 ht ⊢
     by_cases hP : PrP (szO O) m B (szO O) (szO O)
     ·have c1 := cNum18 (v := immLL (matL B (szO O) (szO O))) (t := true) (isLL_imm _) (n := szO O) (M := m) ⟨by omega, by omega, by omega⟩ (by omega) (by simp [hP])
      have c3 := cFault18 (v := immLL (matL B (szO O) (szO O))) ho sm.l6 hc (isLL_imm _) ⟨hW, hP⟩
      rcases hf : ft18 O m F B (szO O) with _ | lst
      ·rw [hf] at c3
       change CallOK Tryz.prog _ _ nilA at c3
       have : t = true := ht.2 ⟨⟨hW, hP⟩, hf⟩
       subst this
       refine Ybs ?_
       refine CLL_q _ c1 AXt rfl rfl rfl ?_
       refine Yct ?_
       refine CLL_q _ c3 AXt rfl rfl rfl ?_
       refine Ycx ?_
       exact Ydi
      ·have hl4 := ft18_len hf
       rw [hf] at c3
       change CallOK Tryz.prog _ _ (rowL lst) at c3
       have : t = false := (bool_false ht fun h => by have := h.f; rw [hf] at this; cases this).symm
       subst this
       refine Ybs ?_
       refine CLL_q _ c1 AXt rfl rfl rfl ?_
       refine Yct ?_
       refine CLL_q _ c3 AXt rfl rfl (noI_rowL _) ?_
       simp (maxSteps := 10000000) (disch := first | assumption | omega) only [go_sem, ↓reduceIte, Nat.reduceEqDiff, reduceCtorEq, Nat.reduceAdd, Nat.reduceMul, Nat.reduceLeDiff, zc, Int.reduceToNat, s1, s2, r4096, s6, s7, s8, r8304, s9, s10, r40960, r45056, r45072, s13, s14, s15, s26, r12288, hj', hl4]
       exact Ydi
     ·have c1 := cNum18 (v := immLL (matL B (szO O) (szO O))) (t := false) (isLL_imm _) (n := szO O) (M := m) ⟨by omega, by omega, by omega⟩ (by omega) (by simp [hP])
      have : t = false := (bool_false ht fun h => hP h.s.p).symm
      subst this
      refine Ybs ?_
      refine CLL_q _ c1 AXt rfl rfl rfl ?_
      refine Ycx ?_
      exact Ydi
end
end Go.Proofs.YtmchdjiigfiabaaGreat
/- All braid numbers of a cocycle (reference). -/
namespace Go.Proofs.YtmchdjiigfiabaaGreat
open Go.RowKit
set_option maxRecDepth 1000000
structure Fru (W : List Nat) (t u : Nat) (ro : Ro) (gn : Nat → Nat) (ro' : Ro) (gn' : Nat → Nat) : Prop where
 off : ∀ s, s ∉ W → ro' s = ro s ∧ gn' s = gn s
 up : ∀ x, gn x ≤ gn' x
 kp : ∀ x y, y ≤ gn x → ¬ (x = t ∧ y = u) → ro' x y = ro x y
section
variable {W : List Nat} {t u : Nat} {ro ro' ro'' : Ro} {gn gn' gn'' : Nat → Nat}
theorem Fru.refl (W : List Nat) (t u : Nat) (ro : Ro) (gn : Nat → Nat) : Fru W t u ro gn ro gn := ⟨fun _ _ => ⟨rfl, rfl⟩, fun _ => Nat.le_refl _, fun _ _ _ _ => rfl⟩
theorem Fru.al (h : Fru W t u ro gn ro' gn') (s g : Nat) (v : AV) (hW : s ∈ W) (hu : g = gn' s + 1) : Fru W t u ro gn (upr ro' s g v) (upg gn' s g) := by
 subst hu
 refine ⟨fun z hz => ?_, fun x => ?_, fun x y h1 h2 => ?_⟩
 ·have hne : z ≠ s := fun e => hz (e ▸ hW)
  exact ⟨(upr_col hne).trans (h.off z hz).1, by rw [zda, if_neg hne]; exact (h.off z hz).2⟩
 ·have := h.up x
  rw [zda]
  split
  ·rename_i e; subst e; omega
  ·exact this
 ·rw [zdb, if_neg]
  ·exact h.kp x y h1 h2
  ·rintro ⟨rfl, rfl⟩
   have := h.up x
   omega
theorem Fru.wr (h : Fru W t u ro gn ro' gn') (s g : Nat) (v : AV) (hW : s ∈ W) (hs : gn s < g ∨ (s = t ∧ g = u)) : Fru W t u ro gn (upr ro' s g v) gn' :=
 ⟨fun z hz => ⟨(upr_col (fun e => hz (by rw [e]; exact hW))).trans (h.off z hz).1, (h.off z hz).2⟩, h.up, fun x y h1 h2 => by
  rw [zdb, if_neg]
  ·exact h.kp x y h1 h2
  ·rintro ⟨rfl, rfl⟩
   rcases hs with hs | hs
   ·omega
   ·exact h2 hs⟩
theorem Fru.mono {W' : List Nat} (h : Fru W t u ro gn ro' gn') (hw : ∀ s, s ∈ W → s ∈ W') : Fru W' t u ro gn ro' gn' := ⟨fun s hs => h.off s fun e => hs (hw s e), h.up, h.kp⟩
theorem Fru.trans {t' u' : Nat} (h : Fru W t u ro gn ro' gn') (h' : Fru W t' u' ro' gn' ro'' gn'') (ht : gn t' < u' ∨ (t' = t ∧ u' = u)) : Fru W t u ro gn ro'' gn'' :=
 ⟨fun s hs => ⟨(h'.off s hs).1.trans (h.off s hs).1, (h'.off s hs).2.trans (h.off s hs).2⟩, fun x => Nat.le_trans (h.up x) (h'.up x), fun x y h1 h2 => (h'.kp x y (Nat.le_trans h1 (h.up x)) (by
  rintro ⟨rfl, rfl⟩
  rcases ht with ht | ht
  ·omega
  ·exact h2 ht)).trans (h.kp x y h1 h2)⟩
theorem inX_fru {X : WX} {ops : Array Oper} {i f : Nat} {args : List AV} {st : St} {R : List Nat} {Res : (Nat → Nat) → AV → Ro → (Nat → Nat) → Prop}
  (hc : ∀ ro1 gn1, (∀ s, s ∈ R ∨ s ∈ W → ro1 s = st.ro s) → (∀ s, s ∈ W → gn1 s = st.gn s) → InS X.P f args ro1 gn1 (fun r ro' gn' => Fru W t u ro1 gn1 ro' gn' ∧ Res gn1 r ro' gn'))
  (hloc : ∀ gn r ro' gn' ro2 gn1 gn2, (∀ s, s ∈ W → ro2 s = ro' s ∧ gn1 s = gn s ∧ gn2 s = gn' s) → Res gn r ro' gn' → Res gn1 r ro2 gn2) (ha : callsAft ops i = true)
  (hn : ∀ k, i < k → k < ops.size → befB ops ops.size i k = true) :
  inX X ops i f args st (fun r ro' gn' => Fru W t u st.ro st.gn ro' gn' ∧ Res st.gn r ro' gn') R W := by
 refine ⟨fun ro1 gn1 h1 h2 => (hc ro1 gn1 h1 h2).mono ?_, fun r ro' gn' h => h.1.off, ha, .inr hn⟩
 rintro r ro' gn' ⟨k1, k3⟩
 refine ⟨mixF W ro' st.ro, mixF W gn' st.gn, ⟨⟨fun s hs => ⟨mixF_out hs, mixF_out hs⟩, fun x => ?_, fun x y hy hxy => ?_⟩, hloc gn1 r ro' gn' _ _ _ (fun s hs => ⟨mixF_in hs, (h2 s hs).symm, mixF_in hs⟩) k3⟩, ?_, ?_⟩
 ·by_cases hx : x ∈ W
  ·rw [mixF_in hx, ← h2 x hx]; exact k1.up x
  ·rw [mixF_out hx]; exact Nat.le_refl _
 ·by_cases hx : x ∈ W
  ·rw [mixF_in hx, k1.kp x y (by rw [h2 x hx]; exact hy) hxy, h1 x (.inr hx)]
  ·rw [mixF_out hx]
 ·rw [mixF_mix]; exact (mixF_id fun s hs => (k1.off s hs).1).symm
 ·rw [mixF_mix]; exact (mixF_id fun s hs => (k1.off s hs).2).symm
end
theorem noI_tmat (B : Nat → Nat → Int) (n : Nat) (v : Value) : noI (.tup [matA B n n, .sc v]) = true := by
 show (noI (matA B n n) && (true && true)) = true
 rw [noI_mat]; rfl
section
variable {O : List Int} {m : Nat} {F : Nat → Nat → Nat → Int}
theorem BrP.congr {M : Int} {n : Nat} {G B : Nat → Nat → Int} (sm : SmO O) (hn : n = szO O) (h : BrP O M F n G n n) (e : ∀ x, x < n → ∀ z, z < n → B x z = G x z) : BrP O M F n B n n := by
 subst hn
 have hz := h.s.w.s
 have had : ∀ x y, adN O x y < szO O := fun x y => by
  have h1 := ((hz.g sm.l6).adN x y).2
  have h2 := hz.e
  omega
 refine ⟨⟨h.s.w, rfl, fun x hx => ⟨rfl, fun y hy => ?_⟩⟩, ft18_of (fun x hx y hy z hz => ?_) (fun x hx y hy z hz => ?_)⟩
 ·rw [e x hx y hy]
  exact (h.s.p.2 x hx).2 y hy
 ·have := h.b1 hx hy hz
  unfold b1E at this ⊢
  rw [e x hx _ (had y z), e x hx z hz, e x hx y hy]
  exact this
 ·have := h.b2 hx hy hz
  unfold b2E at this ⊢
  rw [e _ (had x y) z hz, e x hx z hz, e y hy z hz]
  exact this
abbrev zl (l : List Nat) : List Int := l.map fun (x : Nat) => (x : Int)
theorem ldF_list {B : Nat → Nat → Int} {l : List Nat} (hl : l.length = O.length * O.length) (h : ∀ i k, i < O.length → k < O.length → B (gen O i) (gen O k) = LI O.length l i k) : rws (ldF O B) (O.length * O.length) = zl l := by
 apply List.ext_getElem?
 intro j
 by_cases hj : j < O.length * O.length
 ·have hr : 0 < O.length := by
   rcases Nat.eq_zero_or_pos O.length with h | h
   ·rw [h] at hj; omega
   ·exact h
  rw [rws_get _ _ _ hj, List.getElem?_map, List.getElem?_eq_getElem (by omega)]
  have h1 : j / O.length < O.length := Nat.div_lt_of_lt_mul hj
  have h2 : j % O.length < O.length := Nat.mod_lt _ hr
  have h3 : j / O.length * O.length + j % O.length = j := Nat.div_add_mod' j O.length
  unfold ldF
  rw [h _ _ h1 h2]
  unfold LI
  rw [h3, List.getD_eq_getElem?_getD, List.getElem?_eq_getElem (by omega)]
  rfl
 ·rw [List.getElem?_eq_none (by rw [zfe]; omega), List.getElem?_eq_none (by rw [List.length_map]; omega)]
theorem ldF_back {B : Nat → Nat → Int} {l : List Nat} (hl : l.length = O.length * O.length) (h : rws (ldF O B) (O.length * O.length) = zl l) {i k : Nat} (hi : i < O.length) (hk : k < O.length) : B (gen O i) (gen O k) = LI O.length l i k := by
 have hj : i * O.length + k < O.length * O.length := by
  have := Nat.mul_le_mul_right O.length (show i + 1 ≤ O.length from hi)
  rw [Nat.succ_mul] at this
  omega
 have e : (rws (ldF O B) (O.length * O.length))[i * O.length + k]? = (zl l)[i * O.length + k]? := by rw [h]
 rw [rws_get _ _ _ hj, List.getElem?_map, List.getElem?_eq_getElem (by omega)] at e
 have h1 : (i * O.length + k) / O.length = i := by rw [Nat.mul_comm, Nat.mul_add_div (by omega), Nat.div_eq_of_lt hk, Nat.add_zero]
 have h2 : (i * O.length + k) % O.length = k := by rw [Nat.mul_comm, Nat.mul_add_mod, Nat.mod_eq_of_lt hk]
 have e2 := Option.some.inj e
 unfold ldF at e2
 rw [h1, h2] at e2
 rw [e2]
 unfold LI
 rw [List.getD_eq_getElem?_getD, List.getElem?_eq_getElem (by omega)]
 rfl
theorem PL_S {l : List Nat} (sm : SmO O) (hl : l.length = O.length * O.length) : PL O m F l ↔ BrP O m F (szO O) (bdS O m F (LI O.length l) (plS O)) (szO O) (szO O) ∧ rws (ldF O (bdS O m F (LI O.length l) (plS O))) (O.length * O.length) = zl l := by
 constructor
 ·rintro ⟨G, hG⟩
  have e : ∀ x, x < szO O → ∀ z, z < szO O → bdS O m F (LI O.length l) (plS O) x z = G x z := fun x hx z hz => hG.bS sm sm.pS hx hz
  exact ⟨hG.b.congr sm rfl e, ldF_list hl fun i k hi hk => (e _ (sm.gn hi) _ (sm.gn hk)).trans (hG.l i k hi hk)⟩
 ·rintro ⟨h1, h2⟩
  exact ⟨_, ⟨h1, fun i k hi hk => ldF_back hl h2 hi hk⟩⟩
noncomputable def tsP (O : List Int) (m : Nat) (F : Nat → Nat → Nat → Int) (l : List Nat) : Bool := @decide (PL O m F l) (Classical.propDecidable _)
theorem tsP_iff {l : List Nat} : tsP O m F l = true ↔ PL O m F l := @decide_eq_true_iff _ (Classical.propDecidable _)
noncomputable def flt (O : List Int) (m : Nat) (F : Nat → Nat → Nat → Int) (d : Nat) (x : List Nat) : List (List Nat) := ((lsts m d).map (x ++ ·)).filter (tsP O m F)
noncomputable def fpr (O : List Int) (m : Nat) (F : Nat → Nat → Nat → Int) (d : Nat) (x : List Nat) (i : Nat) : List (List Nat) := (List.range i).flatMap fun a => flt O m F d (x ++ [a])
theorem filter_flatMap {α β : Type} (p : β → Bool) (f : α → List β) : ∀ l : List α, (l.flatMap f).filter p = l.flatMap fun a => (f a).filter p
 | [] => rfl
 | a :: l => by rw [List.flatMap_cons, List.flatMap_cons, List.filter_append, filter_flatMap p f l]
theorem flt_succ (hm : 0 < m) (d : Nat) (x : List Nat) : flt O m F (d + 1) x = fpr O m F d x m := by
 unfold flt fpr flt
 rw [lsts_succ hm, List.map_flatMap, filter_flatMap]
 refine congrArg List.flatten (List.map_congr_left fun a _ => ?_)
 rw [List.map_map]
 congr 1
 refine List.map_congr_left fun l _ => ?_
 show x ++ a :: l = x ++ [a] ++ l
 rw [List.append_assoc]
 rfl
theorem flt_zero (x : List Nat) : flt O m F 0 x = if tsP O m F x = true then [x] else [] := by
 show (([[]] : List (List Nat)).map (x ++ ·)).filter (tsP O m F) = _
 rw [List.map_singleton, List.append_nil, List.filter_cons]
 rfl
theorem fpr_succ (d : Nat) (x : List Nat) (i : Nat) : fpr O m F d x (i + 1) = fpr O m F d x i ++ flt O m F d (x ++ [i]) := by
 unfold fpr
 rw [List.range_succ, List.flatMap_append]
 simp
theorem flt_le (d : Nat) (x : List Nat) : (flt O m F d x).length ≤ m ^ d := by
 unfold flt
 refine Nat.le_trans (List.length_filter_le _ _) ?_
 simp [lsts]
theorem fpr_le (d : Nat) (x : List Nat) : ∀ i, (fpr O m F d x i).length ≤ i * m ^ d
 | 0 => by simp [fpr]
 | i + 1 => by
  rw [fpr_succ, List.length_append, Nat.succ_mul]
  have := fpr_le d x i
  have := flt_le (O := O) (F := F) (m := m) d (x ++ [i])
  omega
theorem fpr_pre (d : Nat) (x : List Nat) {i j : Nat} (h : i ≤ j) : ∃ z, fpr O m F d x j = fpr O m F d x i ++ z := by
 induction j with
 | zero => exact ⟨[], by rw [Nat.le_zero.1 h, List.append_nil]⟩
 | succ j ih =>
  rcases Nat.lt_or_eq_of_le h with h1 | h1
  ·obtain ⟨z, hz⟩ := ih (by omega)
   exact ⟨z ++ flt O m F d (x ++ [j]), by rw [fpr_succ, hz, List.append_assoc]⟩
  ·exact ⟨[], by rw [h1, List.append_nil]⟩
def rsF (b : Bool) (Ls fl : List (List Nat)) : List (List Nat) := if b = true then fl.take 1 else Ls ++ fl
theorem rsF_stop {d : Nat} {x : List Nat} {Ls : List (List Nat)} {i : Nat} (hi : i ≤ m) (h : rsF true Ls (fpr O m F d x i) ≠ []) : rsF true Ls (fpr O m F d x m) = rsF true Ls (fpr O m F d x i) := by
 obtain ⟨z, hz⟩ := fpr_pre (O := O) (F := F) (m := m) d x hi
 unfold rsF at h ⊢
 rw [if_pos rfl] at h ⊢
 rw [if_pos rfl, hz]
 cases e : fpr O m F d x i with
 | nil => rw [e] at h; exact absurd rfl h
 | cons y ys => rfl
theorem rsF_step {b : Bool} {d : Nat} {x : List Nat} {Ls : List (List Nat)} {i : Nat} (h : b = true → rsF b Ls (fpr O m F d x i) = []) : rsF b (rsF b Ls (fpr O m F d x i)) (flt O m F d (x ++ [i])) = rsF b Ls (fpr O m F d x (i + 1)) := by
 rw [fpr_succ]
 cases b with
 | true =>
  have e := h rfl
  unfold rsF at e ⊢
  rw [if_pos rfl] at e
  rw [if_pos rfl, if_pos rfl]
  have e2 : fpr O m F d x i = [] := by
   cases e3 : fpr O m F d x i with
   | nil => rfl
   | cons y ys => rw [e3] at e; cases e
  rw [e2]
  rfl
 | false =>
  unfold rsF
  simp
end
end Go.Proofs.YtmchdjiigfiabaaGreat
