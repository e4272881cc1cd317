/- Texts joined: BC BD BE. -/
import Derived.Test.YtgcnmlecihegcaaGreatNb
import Derived.Test.YtgcnmlecihegcaaGreatNc
set_option linter.all false
/- The law of the doubles answers true. -/
namespace Go.Proofs.YtgcnmlecihegcaaGreat
open Go.RowKit
set_option maxRecDepth 1000000
def in2 (i j : Nat) : Option AV → Option (List AV)
 | some (.row cs) => match cs[i]? with
   | some (.row ds) => rowO ds[j]?
   | _ => none
 | _ => none
theorem cells_two (ro : Ro) (s g i j : Nat) : ro.cells s g [i, j] = in2 i j (ro s g) := by
 unfold Ro.cells in2 Ro.at
 cases h : ro s g with
 | none => rfl
 | some a =>
   cases a <;> try rfl
   rename_i cs
   simp only [ath]
   cases h2 : cs[i]? with
   | none => rfl
   | some c =>
     cases c <;> try rfl
     rename_i ds
     simp only [ath]
     cases h3 : ds[j]? with
     | none => rfl
     | some d => cases d <;> rfl
theorem in2_rws {f : Nat → Nat → List AV} {n m i j : Nat} (hi : i < n) (hj : j < m) : in2 i j (some (.row (rws (fun i => .row (rws (fun j => .row (f i j)) m)) n))) = some (f i j) := by
 simp only [in2, rws_get _ _ _ hi, rws_get _ _ _ hj, rowO_row]
attribute [go_sem] cells_two in2_rws
theorem impE_n2 (b : Nat) (gn : Nat → Nat) (v : Value) : impE b gn (.tup [.agg [nilA, nilA], .sc v]) = ⟨.tup [.agg [nilA, nilA], .sc v], none, [], []⟩ := nr _
theorem impE_n1 (b : Nat) (gn : Nat → Nat) (v : Value) : impE b gn (.tup [.agg [nilA], .sc v]) = ⟨.tup [.agg [nilA], .sc v], none, [], []⟩ := nr _
attribute [go_sem] impE_n2 impE_n1
theorem isLn : isL nilA [] := .inr ⟨rfl, rfl⟩
theorem isLLn : isLL nilA [] := .inr ⟨rfl, rfl⟩
theorem isLLLn : isLLL nilA [] := .inr ⟨rfl, rfl⟩
section
variable {a : AV} {bs : List Int}
theorem cDb_no (ha : isB a bs) (hl : bs.length ≤ 4096) {n k : Int} (cd : CallOK Tryz.prog 11 [a] (.tup [i64 n, i64 k]))
   (h1 : CallOK Tryz.prog 12 [i64 n, i64 k] (.tup [.agg [nilA, nilA], i64 2])) (h2 : CallOK Tryz.prog 13 [i64 n, i64 k] (.tup [.agg [nilA, nilA], i64 2]))
   (h3 : CallOK Tryz.prog 15 [i64 n, i64 k] (.tup [.agg [nilA], i64 2])) (h4 : CallOK Tryz.prog 16 [i64 n, i64 k] (.tup [.agg [nilA], i64 2])) :
   CallOK Tryz.prog 4 [a] (bo true) := by
 have hpu : pureL [a] = true := by simp only [pureL, isB_pure ha, Bool.and_self]
 have cb := cBig ha
 rw [decide_eq_false (by omega : ¬ 4096 < bs.length)] at cb
 refine call_of (fn := Tryz.f4) (code := bodyOf Tryz.f4) Tryz.func4 rfl (by kernel_rfl) (rfl) ?_
 intro sl hs
 have s0 : sl 0 = a := hs 0
 dsimp only [Tryz.f4, bodyOf, Option.getD]
 simp (maxSteps := 10000000) (disch := first | assumption | omega) only [go_sem, ↓reduceIte, Nat.reduceEqDiff, reduceCtorEq, Nat.reduceAdd, Nat.reduceMul, Nat.reduceLeDiff, zfu, Int.mul_def, Int.add_def, zfv, cond_false, cond_true, isub, Int.reduceToNat, s0]
 refine CLL_pure _ cb hpu rfl rfl ?_
 simp (maxSteps := 10000000) (disch := first | assumption | omega) only [go_sem, ↓reduceIte, Nat.reduceEqDiff, reduceCtorEq, Nat.reduceAdd, Nat.reduceMul, Nat.reduceLeDiff, zfu, Int.mul_def, Int.add_def, zfv, cond_false, cond_true, isub, Int.reduceToNat, s0]
 refine CLL_pure _ cd hpu rfl rfl ?_
 simp (maxSteps := 10000000) (disch := first | assumption | omega) only [go_sem, ↓reduceIte, Nat.reduceEqDiff, reduceCtorEq, Nat.reduceAdd, Nat.reduceMul, Nat.reduceLeDiff, zfu, Int.mul_def, Int.add_def, zfv, cond_false, cond_true, isub, Int.reduceToNat, s0]
 refine CLL_pure _ h1 (by simp (disch := assumption) only [pureL, pureA, isL_pure, isLL_pure, isLLL_pure, pureL_map, Bool.and_self, Bool.and_true]) rfl rfl ?_
 simp (maxSteps := 10000000) (disch := first | assumption | omega) only [go_sem, ↓reduceIte, Nat.reduceEqDiff, reduceCtorEq, Nat.reduceAdd, Nat.reduceMul, Nat.reduceLeDiff, zfu, Int.mul_def, Int.add_def, zfv, cond_false, cond_true, isub, Int.reduceToNat, s0]
 refine CLL_pure _ h2 (by simp (disch := assumption) only [pureL, pureA, isL_pure, isLL_pure, isLLL_pure, pureL_map, Bool.and_self, Bool.and_true]) rfl rfl ?_
 simp (maxSteps := 10000000) (disch := first | assumption | omega) only [go_sem, ↓reduceIte, Nat.reduceEqDiff, reduceCtorEq, Nat.reduceAdd, Nat.reduceMul, Nat.reduceLeDiff, zfu, Int.mul_def, Int.add_def, zfv, cond_false, cond_true, isub, Int.reduceToNat, s0]
 refine CLL_q _ (cDat9 isLLn isLLn isLn isLn (Nat.zero_le _) (fun j hj => by simp at hj) (Nat.zero_le _)) (by repeat' first | exact exqL.nil | refine exqL.cons ?_ ?_ | exact exq_sc _ _ _ (by decide) | exact exq_L (by first | assumption | exact isL_imm _) (by decide) | exact exq_LL (by assumption) (by decide) | exact exq_LLL (by assumption) (by decide) | refine exq_refL ?_ ?_ (by decide) | refine exq_refLL ?_ ?_ (by decide) | refine exq_cube ?_ (by decide) | refine exq_agg ?_ | assumption | rfl | (simp only [↓zcy, ↓zcz, ↓zda, ↓zdb, ↓reduceIte, Nat.reduceEqDiff, and_true, true_and, and_self, ne_eq, not_false_eq_true, eq_self, false_and, and_false, reduceCtorEq, zfe, List.length_map]; done) | (simp only [↓zcy, ↓zcz, ↓zda, ↓zdb, ↓reduceIte, Nat.reduceEqDiff, and_true, true_and, and_self, ne_eq, not_false_eq_true, eq_self, false_and, and_false, reduceCtorEq]; first | rfl | assumption)) rfl rfl rfl ?_
 simp (maxSteps := 10000000) (disch := first | assumption | omega) only [go_sem, ↓reduceIte, Nat.reduceEqDiff, reduceCtorEq, Nat.reduceAdd, Nat.reduceMul, Nat.reduceLeDiff, zfu, Int.mul_def, Int.add_def, zfv, cond_false, cond_true, isub, Int.reduceToNat, s0]
 refine CLL_pure _ h3 (by simp (disch := assumption) only [pureL, pureA, isL_pure, isLL_pure, isLLL_pure, pureL_map, Bool.and_self, Bool.and_true]) rfl rfl ?_
 simp (maxSteps := 10000000) (disch := first | assumption | omega) only [go_sem, ↓reduceIte, Nat.reduceEqDiff, reduceCtorEq, Nat.reduceAdd, Nat.reduceMul, Nat.reduceLeDiff, zfu, Int.mul_def, Int.add_def, zfv, cond_false, cond_true, isub, Int.reduceToNat, s0]
 refine CLL_pure _ h4 (by simp (disch := assumption) only [pureL, pureA, isL_pure, isLL_pure, isLLL_pure, pureL_map, Bool.and_self, Bool.and_true]) rfl rfl ?_
 simp (maxSteps := 10000000) (disch := first | assumption | omega) only [go_sem, ↓reduceIte, Nat.reduceEqDiff, reduceCtorEq, Nat.reduceAdd, Nat.reduceMul, Nat.reduceLeDiff, zfu, Int.mul_def, Int.add_def, zfv, cond_false, cond_true, isub, Int.reduceToNat, s0]
 refine CLL_q _ (cRing9 isLLLn isLLLn (Nat.zero_le _) (fun j hj => by simp at hj)) (by repeat' first | exact exqL.nil | refine exqL.cons ?_ ?_ | exact exq_sc _ _ _ (by decide) | exact exq_L (by first | assumption | exact isL_imm _) (by decide) | exact exq_LL (by assumption) (by decide) | exact exq_LLL (by assumption) (by decide) | refine exq_refL ?_ ?_ (by decide) | refine exq_refLL ?_ ?_ (by decide) | refine exq_cube ?_ (by decide) | refine exq_agg ?_ | assumption | rfl | (simp only [↓zcy, ↓zcz, ↓zda, ↓zdb, ↓reduceIte, Nat.reduceEqDiff, and_true, true_and, and_self, ne_eq, not_false_eq_true, eq_self, false_and, and_false, reduceCtorEq, zfe, List.length_map]; done) | (simp only [↓zcy, ↓zcz, ↓zda, ↓zdb, ↓reduceIte, Nat.reduceEqDiff, and_true, true_and, and_self, ne_eq, not_false_eq_true, eq_self, false_and, and_false, reduceCtorEq]; first | rfl | assumption)) rfl rfl rfl ?_
 simp (maxSteps := 10000000) (disch := first | assumption | omega) only [go_sem, ↓reduceIte, Nat.reduceEqDiff, reduceCtorEq, Nat.reduceAdd, Nat.reduceMul, Nat.reduceLeDiff, zfu, Int.mul_def, Int.add_def, zfv, cond_false, cond_true, isub, Int.reduceToNat, s0]
 simp only [zbj, zbk, retR, resL, outT, zes, zez, oneV, ↓zcy, ↓zcz, ↓reduceIte, Nat.reduceEqDiff, Option.some.injEq, AV.sc.injEq, Value.bool.injEq, Value.int.injEq, outL, outT, zft, zcp, zed, zef, zei, zeh, List.length_cons, List.length_nil, Nat.reduceAdd, Nat.zero_add, Nat.reduceLeDiff, List.drop_zero, List.take_succ_cons, List.take_zero, zfi, zfh, Ro.dl, zdb, zda, zfe, and_self, and_true, true_and, eq_self, List.append_nil, List.nil_append, List.cons_append, ne_eq, not_false_eq_true, and_false, false_and, Bool.false_eq_true, St.ev, zes, zfn, zhk, List.length_map]
end
end Go.Proofs.YtgcnmlecihegcaaGreat
/- The law of the doubles answers true: the doubles. -/
namespace Go.Proofs.YtgcnmlecihegcaaGreat
open Go.RowKit
set_option maxRecDepth 1000000
theorem impE_tR (b : Nat) (gn : Nat → Nat) (xs : List AV) (v : Value) : impE b gn (.tup [.agg [.row xs], .sc v]) = ⟨.tup [.agg [.ref b (gn b + 1) [] 0 xs.length], .sc v], none, [], [(b, .row xs)]⟩ := nr _
theorem impE_tC (b : Nat) (gn : Nat → Nat) (F : Nat → Nat → Nat → Int) (n : Nat) (v : Value) : impE b gn (.tup [.agg [cubeA F n], .sc v]) = ⟨.tup [.agg [.ref b (gn b + 1) [] 0 n], .sc v], none, [], [(b, cubeA F n)]⟩ := by
 have h : ∀ (f : Nat → AV), impE b gn (.tup [.agg [.row (rws f n)], .sc v]) = ⟨.tup [.agg [.ref b (gn b + 1) [] 0 n], .sc v], none, [], [(b, .row (rws f n))]⟩ := fun f => by
   rw [impE_tR, zfe]
 exact h _
theorem noI_tD (S : List (List Int)) (T : List Int) (v : Value) : noI (.tup [.agg [rowLL S, rowL T], .sc v]) = true := by
 show ((noI (rowLL S) && (noI (rowL T) && true)) && (noI (.sc v) && true)) = true
 rw [noI_rowLL, noI_rowL]; rfl
theorem impE_tM (b : Nat) (gn : Nat → Nat) (xs ys : List AV) (m v : Value) : impE b gn (.tup [.agg [.row xs, .sc m, .row ys], .sc v]) = ⟨.tup [.agg [.ref b (gn b + 1) [] 0 xs.length, .sc m, .ref (b + 1) (gn (b + 1) + 1) [] 0 ys.length], .sc v], none, [], [(b, .row xs), (b + 1, .row ys)]⟩ := nr _
def lgV (n : Nat) : List Int := rws (fun i => if i < n then 1 else 0) (n * n)
structure LwP (n k : Nat) (w : Int) (S : List (List Int)) (T : List Int) : Prop where
 rn : 1 ≤ n ∧ n ≤ 4
 rk : k < n
 hS : dS n k = S
 hT : dTs n k = T
 db : DbP (n * n) (adD n k) (ivD n k) w S T
 gs : gsV S T = n
 lg : LagP S T (lgV n)
 hy : k = 0 → 2 ≤ n → ∃ V, HyP n V S T ∧ CallOK Tryz.prog 24 [i64 n] (.tup [.agg [rowL [(n : Int), (n : Int)], i64 n, rowL V], i64 0])
theorem tmodN (x y : Nat) : ((x : Int)).tmod (y : Int) = ((x % y : Nat) : Int) := by
 rw [Int.tmod_eq_emod_of_nonneg (by omega), Int.natCast_emod]
theorem divN {n v x : Nat} (h : x < n) : (v * n + x) / n = v ∧ (v * n + x) % n = x := by
 have hn : 0 < n := by omega
 constructor
 · rw [Nat.mul_comm, Nat.mul_add_div hn, Nat.div_eq_of_lt h, Nat.add_zero]
 · rw [Nat.mul_comm, Nat.mul_add_mod, Nat.mod_eq_of_lt h]
theorem idxN {n v x : Nat} (hv : v < n) (hx : x < n) : v * n + x < n * n := by
 have : v * n + n ≤ n * n := by
   have := Nat.mul_le_mul_right n (by omega : v + 1 ≤ n)
   rwa [Nat.succ_mul] at this
 omega
section
variable {a : AV} {bs : List Int}
set_option maxHeartbeats 8000000 in
theorem cDb_yes (ha : isB a bs) (hb : ∀ k, k < bs.length → 0 ≤ atI bs k ∧ atI bs k < 256) (hl : bs.length ≤ 4096) {n k : Nat} {w : Int} {S : List (List Int)} {T : List Int} (h : LwP n k w S T) (cd : CallOK Tryz.prog 11 [a] (.tup [i64 n, i64 k])) :
   CallOK Tryz.prog 4 [a] (bo true) := by
 obtain ⟨⟨n1, n4⟩, rk, hS, hT, db, gs, lg, hy⟩ := h
 have hD := db.data
 have hs := Shp_of hD.1
 have hlT := db.lT
 have hlS := db.lS
 have hlR := db.lR
 have hN16 := db.n16
 have hmx : maxN = 4294967296 := rfl
 have hnn : (n : Int) * (n : Int) = ((n * n : Nat) : Int) := (Int.natCast_mul n n).symm
 have hnt : ((n : Int) * (n : Int)).toNat = n * n := by rw [hnn, Int.toNat_natCast]
 have hnN : n ≤ n * n := Nat.le_mul_of_pos_left n n1
 have hRm : ∀ i, i < S.length → (row S i).length ≤ maxN := fun i hi => by rw [hlR i (by omega)]; omega
 have hcj : CjP (dS n k) (dTs n k) := by rw [hS, hT]; exact db.cj
 have h1 := c11' (n := n) (k := k) (by omega) (by omega)
 have h2 := c10' (n := n) (k := k) (by omega) (by omega)
 have h3 := c16 (n := n) (k := k) (by omega) (by omega) hcj
 have h4 := c15 (n := n) (k := k) (by omega) (by omega) hcj
 have hcube : cubeA (dC n k) (n * n) = cubeA (gD (adD n k)) (n * n) := cube_congr fun x y z hx hy hz => by
   unfold dC
   rw [hS, hT, hnt]
   exact db.nm hx hy hz
 rw [hS, hT] at h1 h2
 rw [hnt, hcube] at h3 h4
 have cG := cGauss (isLL_imm S) (isL_imm T) (by omega) (by omega) hRm hD
 have hg2 : sm (gsT S T) T.length % 55441 = n := gs
 rw [hg2] at cG
 have iC := isLLL_immC (gD (adD n k)) (n * n)
 have hTl : (cubeL (gD (adD n k)) (n * n)).length = n * n := zfe _ _
 have hT2 : ∀ i, i < (cubeL (gD (adD n k)) (n * n)).length → (mat (cubeL (gD (adD n k)) (n * n)) i).length ≤ maxN ∧ ∀ j, j < (mat (cubeL (gD (adD n k)) (n * n)) i).length → (row (mat (cubeL (gD (adD n k)) (n * n)) i) j).length ≤ maxN := fun i hi => by
   rw [hTl] at hi
   rw [mat_cube hi]
   refine ⟨by rw [zfe]; omega, fun j hj => ?_⟩
   rw [zfe] at hj
   rw [row_rws _ hj, zfe]; omega
 have cP := cPointed iC (by omega) hT2 (db.g.pt db.n1 hN16)
 have cL := cIsLag (isLL_imm S) (isL_imm T) (isL_imm (lgV n)) (by omega) (by omega) hRm hD lg
 have cI := c62 (isLL_imm S) (isL_imm T) (by omega) (by omega) hRm (t := true) (by simp [hD])
 have hpu : pureL [a] = true := by simp only [pureL, isB_pure ha, Bool.and_self]
 have cb := cBig ha
 rw [decide_eq_false (by omega : ¬ 4096 < bs.length)] at cb
 have hl0 : ∀ f : Nat → AV, (∀ x, x < n * n → f x = i64 0) → rws (fun _ => i64 0) (n * n) = rws f (n * n) := fun f hf => rws_congr fun x hx => (hf x hx).symm
 have hlv : ∀ f : Nat → AV, (∀ x, x < n * n → f x = i64 (if x < n then 1 else 0)) → AV.row (rws f (n * n)) = rowL (lgV n) := fun f hf => by
   unfold lgV
   simp only [rowL, rws_map]
   rw [rws_congr hf]
 have hset : ∀ i : Nat, (rws (fun x => i64 (if x < i then 1 else 0)) (n * n)).set i (i64 1) = rws (fun x => i64 (if x < i + 1 then 1 else 0)) (n * n) := fun i => by
   rw [rws_set]
   refine rws_congr fun x hx => ?_
   by_cases hxi : x = i
   · subst hxi; rw [if_pos rfl, if_pos (by omega)]
   · rw [if_neg hxi]
     by_cases hx2 : x < i
     · rw [if_pos hx2, if_pos (by omega)]
     · rw [if_neg hx2, if_neg (by omega)]
 obtain ⟨v1, k1, g1, l1, _, r1, B1⟩ := inBelow (n := n) (k := 0) (by omega) ha hb (by omega) (by omega) (hRoll bs 4024 bs.length)
 obtain ⟨v2, k2, g2, l2, _, r2, B2⟩ := inBelow (n := n) (by omega) ha hb (by omega) l1 g1
 obtain ⟨v3, k3, g3, l3, _, r3, B3⟩ := inBelow (n := n) (by omega) ha hb (by omega) l2 g2
 obtain ⟨v4, k4, g4, l4, _, r4, B4⟩ := inBelow (n := n) (by omega) ha hb (by omega) l3 g3
 have r1 := r1 (by omega)
 have r2 := r2 (by omega)
 have r3 := r3 (by omega)
 have r4 := r4 (by omega)
 obtain ⟨v1, rfl⟩ := Int.eq_ofNat_of_zero_le r1.1
 obtain ⟨v2, rfl⟩ := Int.eq_ofNat_of_zero_le r2.1
 obtain ⟨v3, rfl⟩ := Int.eq_ofNat_of_zero_le r3.1
 obtain ⟨v4, rfl⟩ := Int.eq_ofNat_of_zero_le r4.1
 have i1 := idxN (n := n) (v := v1) (x := v2) (by omega) (by omega)
 have i3 := idxN (n := n) (v := v3) (x := v4) (by omega) (by omega)
 have hmn : (v1 + v3) % n < n := Nat.mod_lt _ (by omega)
 have hz1 : (v2 + v4) % n < n := Nat.mod_lt _ (by omega)
 have hz2 : (v2 + v4 + 2 * k) % n < n := Nat.mod_lt _ (by omega)
 have i5 := idxN (n := n) (v := (v1 + v3) % n) (x := (v2 + v4) % n) hmn hz1
 have i6 := idxN (n := n) (v := (v1 + v3) % n) (x := (v2 + v4 + 2 * k) % n) hmn hz2
 have em : ((v1 : Int) + (v3 : Int)).tmod (n : Int) = (((v1 + v3) % n : Nat) : Int) := by rw [← Int.natCast_add, tmodN]
 have ez1 : ((v2 : Int) + (v4 : Int)).tmod (n : Int) = (((v2 + v4) % n : Nat) : Int) := by rw [← Int.natCast_add, tmodN]
 have ez2 : ((v2 : Int) + (v4 : Int) + 2 * (k : Int)).tmod (n : Int) = (((v2 + v4 + 2 * k) % n : Nat) : Int) := by
   rw [← tmodN]
   congr 1
 have hg1 : v1 + v3 < n → gD (adD n k) (v1 * n + v2) (v3 * n + v4) ((v1 + v3) % n * n + (v2 + v4) % n) = 1 := fun h => by
   unfold gD adD
   rw [(divN (by omega)).1, (divN (by omega)).1, (divN (by omega)).2, (divN (by omega)).2, if_neg (by omega : ¬ n ≤ v1 + v3)]
   exact if_pos rfl
 have hg2 : ¬ v1 + v3 < n → gD (adD n k) (v1 * n + v2) (v3 * n + v4) ((v1 + v3) % n * n + (v2 + v4 + 2 * k) % n) = 1 := fun h => by
   unfold gD adD
   rw [(divN (by omega)).1, (divN (by omega)).1, (divN (by omega)).2, (divN (by omega)).2, if_pos (by omega : n ≤ v1 + v3)]
   exact if_pos rfl
 generalize (v1 + v3) % n = m at em i5 i6 hmn hg1 hg2
 generalize (v2 + v4) % n = z1 at ez1 i5 hz1 hg1
 generalize (v2 + v4 + 2 * k) % n = z2 at ez2 i6 hz2 hg2
 have e1 : (v1 : Int) * (n : Int) + (v2 : Int) = ((v1 * n + v2 : Nat) : Int) := by rw [Int.natCast_add, Int.natCast_mul]
 have e3 : (v3 : Int) * (n : Int) + (v4 : Int) = ((v3 * n + v4 : Nat) : Int) := by rw [Int.natCast_add, Int.natCast_mul]
 have e5 : (m : Int) * (n : Int) + (z1 : Int) = ((m * n + z1 : Nat) : Int) := by rw [Int.natCast_add, Int.natCast_mul]
 have e6 : (m : Int) * (n : Int) + (z2 : Int) = ((m * n + z2 : Nat) : Int) := by rw [Int.natCast_add, Int.natCast_mul]
 have b1 := mulB (x := (v1 : Int)) (y := (n : Int)) (X := 4) (Y := 4) (by omega) (by omega) (by omega) (by omega)
 have b3 := mulB (x := (v3 : Int)) (y := (n : Int)) (X := 4) (Y := 4) (by omega) (by omega) (by omega) (by omega)
 have b5 := mulB (x := (m : Int)) (y := (n : Int)) (X := 4) (Y := 4) (by omega) (by omega) (by omega) (by omega)
 generalize hNN : n * n = N at *
 have hm' : (N : Int) ≤ ((4294967296 : Nat) : Int) := by omega
 have hN64 : (N : Int) ≤ 16 := by omega
 refine call_of (fn := Tryz.f4) (code := bodyOf Tryz.f4) Tryz.func4 rfl (by kernel_rfl) (rfl) ?_
 intro sl hs
 have s0 : sl 0 = a := hs 0
 dsimp only [Tryz.f4, bodyOf, Option.getD]
 simp (maxSteps := 10000000) (disch := first | assumption | omega) only [go_sem, ↓reduceIte, Nat.reduceEqDiff, reduceCtorEq, Nat.reduceAdd, Nat.reduceMul, Nat.reduceLeDiff, zfu, Int.mul_def, Int.add_def, zfv, cond_false, cond_true, isub, Int.reduceToNat, s0]
 refine CLL_pure _ cb hpu rfl rfl ?_
 simp (maxSteps := 10000000) (disch := first | assumption | omega) only [go_sem, ↓reduceIte, Nat.reduceEqDiff, reduceCtorEq, Nat.reduceAdd, Nat.reduceMul, Nat.reduceLeDiff, zfu, Int.mul_def, Int.add_def, zfv, cond_false, cond_true, isub, Int.reduceToNat, s0]
 refine CLL_pure _ cd hpu rfl rfl ?_
 simp (maxSteps := 10000000) (disch := first | assumption | omega) only [go_sem, ↓reduceIte, Nat.reduceEqDiff, reduceCtorEq, Nat.reduceAdd, Nat.reduceMul, Nat.reduceLeDiff, zfu, Int.mul_def, Int.add_def, zfv, cond_false, cond_true, isub, Int.reduceToNat, s0]
 refine CLL_pure _ h1 (by simp (disch := assumption) only [pureL, pureA, isL_pure, isLL_pure, isLLL_pure, pureL_map, Bool.and_self, Bool.and_true]) rfl rfl ?_
 simp (maxSteps := 10000000) (disch := first | assumption | omega) only [go_sem, ↓reduceIte, Nat.reduceEqDiff, reduceCtorEq, Nat.reduceAdd, Nat.reduceMul, Nat.reduceLeDiff, zfu, Int.mul_def, Int.add_def, zfv, cond_false, cond_true, isub, Int.reduceToNat, s0, impE_tupD]
 refine CLL_pure _ h2 (by simp (disch := assumption) only [pureL, pureA, isL_pure, isLL_pure, isLLL_pure, pureL_map, Bool.and_self, Bool.and_true]) rfl rfl ?_
 simp (maxSteps := 10000000) (disch := first | assumption | omega) only [go_sem, ↓reduceIte, Nat.reduceEqDiff, reduceCtorEq, Nat.reduceAdd, Nat.reduceMul, Nat.reduceLeDiff, zfu, Int.mul_def, Int.add_def, zfv, cond_false, cond_true, isub, Int.reduceToNat, s0, impE_tupD]
 refine CLL_q _ (cDat9 (isLL_imm S) (isLL_imm S) (isL_imm T) (isL_imm T) (by omega) (fun j hj => hRm j hj) (by omega)) (by repeat' first | exact exqL.nil | refine exqL.cons ?_ ?_ | exact exq_sc _ _ _ (by decide) | exact exq_L (by first | assumption | exact isL_imm _) (by decide) | exact exq_LL (by assumption) (by decide) | exact exq_LLL (by assumption) (by decide) | refine exq_refL ?_ ?_ (by decide) | refine exq_refLL ?_ ?_ (by decide) | refine exq_cube ?_ (by decide) | refine exq_agg ?_ | assumption | rfl | (simp only [↓zcy, ↓zcz, ↓zda, ↓zdb, ↓reduceIte, Nat.reduceEqDiff, and_true, true_and, and_self, ne_eq, not_false_eq_true, eq_self, false_and, and_false, reduceCtorEq, zfe, List.length_map]; done) | (simp only [↓zcy, ↓zcz, ↓zda, ↓zdb, ↓reduceIte, Nat.reduceEqDiff, and_true, true_and, and_self, ne_eq, not_false_eq_true, eq_self, false_and, and_false, reduceCtorEq]; first | rfl | assumption)) rfl rfl rfl ?_
 simp (maxSteps := 10000000) (disch := first | assumption | omega) only [go_sem, ↓reduceIte, Nat.reduceEqDiff, reduceCtorEq, Nat.reduceAdd, Nat.reduceMul, Nat.reduceLeDiff, zfu, Int.mul_def, Int.add_def, zfv, cond_false, cond_true, isub, Int.reduceToNat, s0]
 refine CLL_pure _ h3 (by simp (disch := assumption) only [pureL, pureA, isL_pure, isLL_pure, isLLL_pure, pureL_map, Bool.and_self, Bool.and_true]) rfl rfl ?_
 simp (maxSteps := 10000000) (disch := first | assumption | omega) only [go_sem, ↓reduceIte, Nat.reduceEqDiff, reduceCtorEq, Nat.reduceAdd, Nat.reduceMul, Nat.reduceLeDiff, zfu, Int.mul_def, Int.add_def, zfv, cond_false, cond_true, isub, Int.reduceToNat, s0, impE_tC]
 refine CLL_pure _ h4 (by simp (disch := assumption) only [pureL, pureA, isL_pure, isLL_pure, isLLL_pure, pureL_map, Bool.and_self, Bool.and_true]) rfl rfl ?_
 simp (maxSteps := 10000000) (disch := first | assumption | omega) only [go_sem, ↓reduceIte, Nat.reduceEqDiff, reduceCtorEq, Nat.reduceAdd, Nat.reduceMul, Nat.reduceLeDiff, zfu, Int.mul_def, Int.add_def, zfv, cond_false, cond_true, isub, Int.reduceToNat, s0, impE_tC]
 refine CLL_q _ (cRing9 iC iC (by omega) hT2) (by repeat' first | exact exqL.nil | refine exqL.cons ?_ ?_ | exact exq_sc _ _ _ (by decide) | exact exq_L (by first | assumption | exact isL_imm _) (by decide) | exact exq_LL (by assumption) (by decide) | exact exq_LLL (by assumption) (by decide) | refine exq_refL ?_ ?_ (by decide) | refine exq_refLL ?_ ?_ (by decide) | refine exq_cube ?_ (by decide) | refine exq_agg ?_ | assumption | rfl | (simp only [↓zcy, ↓zcz, ↓zda, ↓zdb, ↓reduceIte, Nat.reduceEqDiff, and_true, true_and, and_self, ne_eq, not_false_eq_true, eq_self, false_and, and_false, reduceCtorEq, zfe, List.length_map]; done) | (simp only [↓zcy, ↓zcz, ↓zda, ↓zdb, ↓reduceIte, Nat.reduceEqDiff, and_true, true_and, and_self, ne_eq, not_false_eq_true, eq_self, false_and, and_false, reduceCtorEq]; first | rfl | assumption)) rfl rfl rfl ?_
 simp (maxSteps := 10000000) (disch := first | assumption | omega) only [go_sem, ↓reduceIte, Nat.reduceEqDiff, reduceCtorEq, Nat.reduceAdd, Nat.reduceMul, Nat.reduceLeDiff, zfu, Int.mul_def, Int.add_def, zfv, cond_false, cond_true, isub, Int.reduceToNat, s0]
 refine CLL_q _ cG (by repeat' first | exact exqL.nil | refine exqL.cons ?_ ?_ | exact exq_sc _ _ _ (by decide) | exact exq_L (by first | assumption | exact isL_imm _) (by decide) | exact exq_LL (by assumption) (by decide) | exact exq_LLL (by assumption) (by decide) | refine exq_refL ?_ ?_ (by decide) | refine exq_refLL ?_ ?_ (by decide) | refine exq_cube ?_ (by decide) | refine exq_agg ?_ | assumption | rfl | (simp only [↓zcy, ↓zcz, ↓zda, ↓zdb, ↓reduceIte, Nat.reduceEqDiff, and_true, true_and, and_self, ne_eq, not_false_eq_true, eq_self, false_and, and_false, reduceCtorEq, zfe, List.length_map]; done) | (simp only [↓zcy, ↓zcz, ↓zda, ↓zdb, ↓reduceIte, Nat.reduceEqDiff, and_true, true_and, and_self, ne_eq, not_false_eq_true, eq_self, false_and, and_false, reduceCtorEq]; first | rfl | assumption)) rfl rfl rfl ?_
 simp (maxSteps := 10000000) (disch := first | assumption | omega) only [go_sem, ↓reduceIte, Nat.reduceEqDiff, reduceCtorEq, Nat.reduceAdd, Nat.reduceMul, Nat.reduceLeDiff, zfu, Int.mul_def, Int.add_def, zfv, cond_false, cond_true, isub, Int.reduceToNat, s0]
 refine CLL_q _ cP (by repeat' first | exact exqL.nil | refine exqL.cons ?_ ?_ | exact exq_sc _ _ _ (by decide) | exact exq_L (by first | assumption | exact isL_imm _) (by decide) | exact exq_LL (by assumption) (by decide) | exact exq_LLL (by assumption) (by decide) | refine exq_refL ?_ ?_ (by decide) | refine exq_refLL ?_ ?_ (by decide) | refine exq_cube ?_ (by decide) | refine exq_agg ?_ | assumption | rfl | (simp only [↓zcy, ↓zcz, ↓zda, ↓zdb, ↓reduceIte, Nat.reduceEqDiff, and_true, true_and, and_self, ne_eq, not_false_eq_true, eq_self, false_and, and_false, reduceCtorEq, zfe, List.length_map]; done) | (simp only [↓zcy, ↓zcz, ↓zda, ↓zdb, ↓reduceIte, Nat.reduceEqDiff, and_true, true_and, and_self, ne_eq, not_false_eq_true, eq_self, false_and, and_false, reduceCtorEq]; first | rfl | assumption)) rfl rfl rfl ?_
 simp (maxSteps := 10000000) (disch := first | assumption | omega) only [go_sem, ↓reduceIte, Nat.reduceEqDiff, reduceCtorEq, Nat.reduceAdd, Nat.reduceMul, Nat.reduceLeDiff, zfu, Int.mul_def, Int.add_def, zfv, cond_false, cond_true, isub, Int.reduceToNat, s0, hnn, kMake, Int.natCast_nonneg, Int.le_refl, hm', List.getD_cons_zero, rep_rws]
 refine WK_for (fun i st => st.sl 0 = a ∧ st.sl 3 = i64 (n : Int) ∧ st.sl 4 = i64 (k : Int) ∧ st.sl 5 = .ptr 20576 1 [] 0 ∧ st.sl 9 = .ptr 36960 1 [] 0 ∧ st.sl 10 = i64 0 ∧ st.sl 13 = i64 (n : Int) ∧ st.sl 14 = i64 0 ∧ st.sl 15 = bo true ∧ st.sl 16 = i64 0 ∧ st.sl 17 = .ref 69680 1 [] 0 N ∧ st.sl 18 = i64 (i : Int) ∧ st.ro 20576 1 = some (.bx [.ref 20512 1 [] 0 S.length, .ref 20513 1 [] 0 T.length]) ∧ st.ro 20512 1 = some (rowLL S) ∧ st.ro 20513 1 = some (rowL T) ∧ st.ro 36960 1 = some (.bx [.ref 36896 1 [] 0 N]) ∧ st.ro 36896 1 = some (cubeA (gD (adD n k)) N) ∧ st.ro 69680 1 = some (.row (rws (fun x => i64 (if x < i then 1 else 0)) N))) n ?_ ?_ ?_
 · refine ⟨?_, ?_, ?_, ?_, ?_, ?_, ?_, ?_, ?_, ?_, ?_, ?_, ?_, ?_, ?_, ?_, ?_, ?_⟩
   all_goals dsimp only
   all_goals try (simp only [↓zcy, ↓zcz, ↓zda, ↓zdb, ↓reduceIte, Nat.reduceEqDiff, and_true, true_and, and_self, ne_eq, not_false_eq_true, eq_self, false_and, and_false, reduceCtorEq, s0]; done)
   all_goals try (simp only [↓zcy, ↓zcz, ↓zda, ↓zdb, ↓reduceIte, Nat.reduceEqDiff, and_true, true_and, and_self, ne_eq, not_false_eq_true, eq_self, false_and, and_false, reduceCtorEq, s0]; rfl)
 · rintro i sl ro gn hi ⟨s0, s3, s4, s5, s9, s10, s13, s14, s15, s16, s17, s18, r20576, r20512, r20513, r36960, r36896, r69680⟩
   dsimp only at s0 s3 s4 s5 s9 s10 s13 s14 s15 s16 s17 s18 r20576 r20512 r20513 r36960 r36896 r69680
   have hi' : (i : Int) < (n : Nat) := by omega
   have hiN : i < N := by omega
   simp (maxSteps := 10000000) (disch := first | assumption | omega) only [go_sem, ↓reduceIte, Nat.reduceEqDiff, reduceCtorEq, Nat.reduceAdd, Nat.reduceMul, Nat.reduceLeDiff, zfu, Int.mul_def, Int.add_def, zfv, cond_false, cond_true, isub, Int.reduceToNat, s0, s3, s4, s5, s9, s10, s13, s14, s15, s16, s17, s18, r20576, r20512, r20513, r36960, r36896, r69680, hi', hi, hset]
   (repeat' first | rfl | assumption | exact i64c rfl | exact i64c (by omega) | exact trivial | apply And.intro)
 · rintro sl ro gn ⟨s0, s3, s4, s5, s9, s10, s13, s14, s15, s16, s17, s18, r20576, r20512, r20513, r36960, r36896, r69680⟩
   dsimp only at s0 s3 s4 s5 s9 s10 s13 s14 s15 s16 s17 s18 r20576 r20512 r20513 r36960 r36896 r69680
   have hi' : ¬ ((n : Nat) : Int) < (n : Nat) := by omega
   have e69 := hlv (fun x => i64 (if x < n then 1 else 0)) (fun x hx => rfl)
   rw [e69] at r69680
   have hL : N = (lgV n).length := by rw [← hNN]; exact (zfe _ _).symm
   rw [hL] at s17
   simp (maxSteps := 10000000) (disch := first | assumption | omega) only [go_sem, ↓reduceIte, Nat.reduceEqDiff, reduceCtorEq, Nat.reduceAdd, Nat.reduceMul, Nat.reduceLeDiff, zfu, Int.mul_def, Int.add_def, zfv, cond_false, cond_true, isub, Int.reduceToNat, s0, s3, s4, s5, s9, s10, s13, s14, s15, s16, s17, s18, r20576, r20512, r20513, r36960, r36896, r69680, hi']
   refine CLL_q _ cL (by repeat' first | exact exqL.nil | refine exqL.cons ?_ ?_ | exact exq_sc _ _ _ (by decide) | exact exq_L (by first | assumption | exact isL_imm _) (by decide) | exact exq_LL (by assumption) (by decide) | exact exq_LLL (by assumption) (by decide) | refine exq_refL ?_ ?_ (by decide) | refine exq_refLL ?_ ?_ (by decide) | refine exq_cube ?_ (by decide) | refine exq_agg ?_ | assumption | rfl | (simp only [↓zcy, ↓zcz, ↓zda, ↓zdb, ↓reduceIte, Nat.reduceEqDiff, and_true, true_and, and_self, ne_eq, not_false_eq_true, eq_self, false_and, and_false, reduceCtorEq, zfe, List.length_map]; done) | (simp only [↓zcy, ↓zcz, ↓zda, ↓zdb, ↓reduceIte, Nat.reduceEqDiff, and_true, true_and, and_self, ne_eq, not_false_eq_true, eq_self, false_and, and_false, reduceCtorEq]; first | rfl | assumption)) rfl rfl rfl ?_
   simp (maxSteps := 10000000) (disch := first | assumption | omega) only [go_sem, ↓reduceIte, Nat.reduceEqDiff, reduceCtorEq, Nat.reduceAdd, Nat.reduceMul, Nat.reduceLeDiff, zfu, Int.mul_def, Int.add_def, zfv, cond_false, cond_true, isub, Int.reduceToNat, s0, s3, s4, s5, s9, s10, s13, s14, s15, s16, s17, s18, r20576, r20512, r20513, r36960, r36896, r69680, hi']
   refine CLL_q _ cI (by repeat' first | exact exqL.nil | refine exqL.cons ?_ ?_ | exact exq_sc _ _ _ (by decide) | exact exq_L (by first | assumption | exact isL_imm _) (by decide) | exact exq_LL (by assumption) (by decide) | exact exq_LLL (by assumption) (by decide) | refine exq_refL ?_ ?_ (by decide) | refine exq_refLL ?_ ?_ (by decide) | refine exq_cube ?_ (by decide) | refine exq_agg ?_ | assumption | rfl | (simp only [↓zcy, ↓zcz, ↓zda, ↓zdb, ↓reduceIte, Nat.reduceEqDiff, and_true, true_and, and_self, ne_eq, not_false_eq_true, eq_self, false_and, and_false, reduceCtorEq, zfe, List.length_map]; done) | (simp only [↓zcy, ↓zcz, ↓zda, ↓zdb, ↓reduceIte, Nat.reduceEqDiff, and_true, true_and, and_self, ne_eq, not_false_eq_true, eq_self, false_and, and_false, reduceCtorEq]; first | rfl | assumption)) rfl rfl rfl ?_
   simp (maxSteps := 10000000) (disch := first | assumption | omega) only [go_sem, ↓reduceIte, Nat.reduceEqDiff, reduceCtorEq, Nat.reduceAdd, Nat.reduceMul, Nat.reduceLeDiff, zfu, Int.mul_def, Int.add_def, zfv, cond_false, cond_true, isub, Int.reduceToNat, s0, s3, s4, s5, s9, s10, s13, s14, s15, s16, s17, s18, r20576, r20512, r20513, r36960, r36896, r69680, hi', hlT, hnn]
   refine CLL_in rfl _ _ _ (inRoll ha hl 4024 _ _) ?_
   simp (maxSteps := 10000000) (disch := first | assumption | omega) only [go_sem, ↓reduceIte, Nat.reduceEqDiff, reduceCtorEq, Nat.reduceAdd, Nat.reduceMul, Nat.reduceLeDiff, zfu, Int.mul_def, Int.add_def, zfv, cond_false, cond_true, isub, Int.reduceToNat, s0, s3, s4, s5, s9, s10, s13, s14, s15, s16, s17, s18, r20576, r20512, r20513, r36960, r36896, r69680, hi']
   refine CLL_in rfl _ _ _ (B1 _ _ _ _ (by simp only [↓zcy, ↓zcz, ↓zda, ↓zdb, ↓reduceIte, Nat.reduceEqDiff, and_true, true_and, and_self, ne_eq, not_false_eq_true, eq_self, false_and, and_false, reduceCtorEq]; rfl)) ?_
   simp (maxSteps := 10000000) (disch := first | assumption | omega) only [go_sem, ↓reduceIte, Nat.reduceEqDiff, reduceCtorEq, Nat.reduceAdd, Nat.reduceMul, Nat.reduceLeDiff, zfu, Int.mul_def, Int.add_def, zfv, cond_false, cond_true, isub, Int.reduceToNat, s0, s3, s4, s5, s9, s10, s13, s14, s15, s16, s17, s18, r20576, r20512, r20513, r36960, r36896, r69680, hi']
   refine CLL_in rfl _ _ _ (B2 _ _ _ _ (by simp only [↓zcy, ↓zcz, ↓zda, ↓zdb, ↓reduceIte, Nat.reduceEqDiff, and_true, true_and, and_self, ne_eq, not_false_eq_true, eq_self, false_and, and_false, reduceCtorEq])) ?_
   simp (maxSteps := 10000000) (disch := first | assumption | omega) only [go_sem, ↓reduceIte, Nat.reduceEqDiff, reduceCtorEq, Nat.reduceAdd, Nat.reduceMul, Nat.reduceLeDiff, zfu, Int.mul_def, Int.add_def, zfv, cond_false, cond_true, isub, Int.reduceToNat, s0, s3, s4, s5, s9, s10, s13, s14, s15, s16, s17, s18, r20576, r20512, r20513, r36960, r36896, r69680, hi']
   refine CLL_in rfl _ _ _ (B3 _ _ _ _ (by simp only [↓zcy, ↓zcz, ↓zda, ↓zdb, ↓reduceIte, Nat.reduceEqDiff, and_true, true_and, and_self, ne_eq, not_false_eq_true, eq_self, false_and, and_false, reduceCtorEq])) ?_
   simp (maxSteps := 10000000) (disch := first | assumption | omega) only [go_sem, ↓reduceIte, Nat.reduceEqDiff, reduceCtorEq, Nat.reduceAdd, Nat.reduceMul, Nat.reduceLeDiff, zfu, Int.mul_def, Int.add_def, zfv, cond_false, cond_true, isub, Int.reduceToNat, s0, s3, s4, s5, s9, s10, s13, s14, s15, s16, s17, s18, r20576, r20512, r20513, r36960, r36896, r69680, hi']
   refine CLL_in rfl _ _ _ (B4 _ _ _ _ (by simp only [↓zcy, ↓zcz, ↓zda, ↓zdb, ↓reduceIte, Nat.reduceEqDiff, and_true, true_and, and_self, ne_eq, not_false_eq_true, eq_self, false_and, and_false, reduceCtorEq])) ?_
   by_cases h13 : v1 + v3 < n
   · have h13' : (v1 : Int) + (v3 : Int) < n := by omega
     have hgd := hg1 h13
     generalize v1 * n + v2 = j1 at *
     generalize v3 * n + v4 = j3 at *
     generalize m * n + z1 = j5 at *
     simp (maxSteps := 10000000) (disch := first | assumption | omega) only [go_sem, ↓reduceIte, Nat.reduceEqDiff, reduceCtorEq, Nat.reduceAdd, Nat.reduceMul, Nat.reduceLeDiff, zfu, Int.mul_def, Int.add_def, zfv, cond_false, cond_true, isub, Int.reduceToNat, s0, s3, s4, s5, s9, s10, s13, s14, s15, s16, s17, s18, r20576, r20512, r20513, r36960, r36896, r69680, hi', em, ez1, e1, e3, e5, h13', hgd]
     refine FIN_of (by kernel_rfl) ?_
     by_cases hk0 : (k : Int) = 0
     · by_cases hn2 : (n : Int) < 2
       · skip
         simp (maxSteps := 10000000) (disch := first | assumption | omega) only [go_sem, ↓reduceIte, Nat.reduceEqDiff, reduceCtorEq, Nat.reduceAdd, Nat.reduceMul, Nat.reduceLeDiff, zfu, Int.mul_def, Int.add_def, zfv, cond_false, cond_true, isub, Int.reduceToNat, s0, s3, s4, s5, s9, s10, s13, s14, s15, s16, s17, s18, r20576, r20512, r20513, r36960, r36896, r69680, hi', hgd, hk0, hn2]
         simp only [zbj, zbk, retR, resL, outT, zes, zez, oneV, ↓zcy, ↓zcz, ↓reduceIte, Nat.reduceEqDiff, Option.some.injEq, AV.sc.injEq, Value.bool.injEq, Value.int.injEq, outL, outT, zft, zcp, zed, zef, zei, zeh, List.length_cons, List.length_nil, Nat.reduceAdd, Nat.zero_add, Nat.reduceLeDiff, List.drop_zero, List.take_succ_cons, List.take_zero, zfi, zfh, Ro.dl, zdb, zda, zfe, and_self, and_true, true_and, eq_self, List.append_nil, List.nil_append, List.cons_append, ne_eq, not_false_eq_true, and_false, false_and, Bool.false_eq_true, St.ev, zes, zfn, zhk, List.length_map]
       · obtain ⟨V, hV, cH⟩ := hy (by omega) (by omega)
         have cM := cDataM hV.m hV.l.1 hV.d (by simp; omega) (by have := hV.l.2; omega)
         rw [hV.s, hV.t] at cM
         simp (maxSteps := 10000000) (disch := first | assumption | omega) only [go_sem, ↓reduceIte, Nat.reduceEqDiff, reduceCtorEq, Nat.reduceAdd, Nat.reduceMul, Nat.reduceLeDiff, zfu, Int.mul_def, Int.add_def, zfv, cond_false, cond_true, isub, Int.reduceToNat, s0, s3, s4, s5, s9, s10, s13, s14, s15, s16, s17, s18, r20576, r20512, r20513, r36960, r36896, r69680, hi', hgd, hk0, hn2]
         refine CLL_pure _ cH (by simp (disch := assumption) only [pureL, pureA, isL_pure, isLL_pure, isLLL_pure, pureL_map, Bool.and_self, Bool.and_true]) rfl rfl ?_
         simp (maxSteps := 10000000) (disch := first | assumption | omega) only [go_sem, ↓reduceIte, Nat.reduceEqDiff, reduceCtorEq, Nat.reduceAdd, Nat.reduceMul, Nat.reduceLeDiff, zfu, Int.mul_def, Int.add_def, zfv, cond_false, cond_true, isub, Int.reduceToNat, s0, s3, s4, s5, s9, s10, s13, s14, s15, s16, s17, s18, r20576, r20512, r20513, r36960, r36896, r69680, hi', impE_tM]
         refine CLL_q _ cM (by repeat' first | exact exqL.nil | refine exqL.cons ?_ ?_ | exact exq_sc _ _ _ (by decide) | exact exq_L (by first | assumption | exact isL_imm _) (by decide) | exact exq_LL (by assumption) (by decide) | exact exq_LLL (by assumption) (by decide) | refine exq_refL ?_ ?_ (by decide) | refine exq_refLL ?_ ?_ (by decide) | refine exq_cube ?_ (by decide) | refine exq_agg ?_ | assumption | rfl | (simp only [↓zcy, ↓zcz, ↓zda, ↓zdb, ↓reduceIte, Nat.reduceEqDiff, and_true, true_and, and_self, ne_eq, not_false_eq_true, eq_self, false_and, and_false, reduceCtorEq, zfe, List.length_map]; done) | (simp only [↓zcy, ↓zcz, ↓zda, ↓zdb, ↓reduceIte, Nat.reduceEqDiff, and_true, true_and, and_self, ne_eq, not_false_eq_true, eq_self, false_and, and_false, reduceCtorEq]; first | rfl | assumption)) rfl rfl (noI_tD _ _ _) ?_
         simp (maxSteps := 10000000) (disch := first | assumption | omega) only [go_sem, ↓reduceIte, Nat.reduceEqDiff, reduceCtorEq, Nat.reduceAdd, Nat.reduceMul, Nat.reduceLeDiff, zfu, Int.mul_def, Int.add_def, zfv, cond_false, cond_true, isub, Int.reduceToNat, s0, s3, s4, s5, s9, s10, s13, s14, s15, s16, s17, s18, r20576, r20512, r20513, r36960, r36896, r69680, hi', impE_tupD]
         refine CLL_q _ (cDat9 (isLL_imm S) (isLL_imm S) (isL_imm T) (isL_imm T) (by omega) (fun j hj => hRm j hj) (by omega)) (by repeat' first | exact exqL.nil | refine exqL.cons ?_ ?_ | exact exq_sc _ _ _ (by decide) | exact exq_L (by first | assumption | exact isL_imm _) (by decide) | exact exq_LL (by assumption) (by decide) | exact exq_LLL (by assumption) (by decide) | refine exq_refL ?_ ?_ (by decide) | refine exq_refLL ?_ ?_ (by decide) | refine exq_cube ?_ (by decide) | refine exq_agg ?_ | assumption | rfl | (simp only [↓zcy, ↓zcz, ↓zda, ↓zdb, ↓reduceIte, Nat.reduceEqDiff, and_true, true_and, and_self, ne_eq, not_false_eq_true, eq_self, false_and, and_false, reduceCtorEq, zfe, List.length_map]; done) | (simp only [↓zcy, ↓zcz, ↓zda, ↓zdb, ↓reduceIte, Nat.reduceEqDiff, and_true, true_and, and_self, ne_eq, not_false_eq_true, eq_self, false_and, and_false, reduceCtorEq]; first | rfl | assumption)) rfl rfl rfl ?_
         simp (maxSteps := 10000000) (disch := first | assumption | omega) only [go_sem, ↓reduceIte, Nat.reduceEqDiff, reduceCtorEq, Nat.reduceAdd, Nat.reduceMul, Nat.reduceLeDiff, zfu, Int.mul_def, Int.add_def, zfv, cond_false, cond_true, isub, Int.reduceToNat, s0, s3, s4, s5, s9, s10, s13, s14, s15, s16, s17, s18, r20576, r20512, r20513, r36960, r36896, r69680, hi']
         simp only [zbj, zbk, retR, resL, outT, zes, zez, oneV, ↓zcy, ↓zcz, ↓reduceIte, Nat.reduceEqDiff, Option.some.injEq, AV.sc.injEq, Value.bool.injEq, Value.int.injEq, outL, outT, zft, zcp, zed, zef, zei, zeh, List.length_cons, List.length_nil, Nat.reduceAdd, Nat.zero_add, Nat.reduceLeDiff, List.drop_zero, List.take_succ_cons, List.take_zero, zfi, zfh, Ro.dl, zdb, zda, zfe, and_self, and_true, true_and, eq_self, List.append_nil, List.nil_append, List.cons_append, ne_eq, not_false_eq_true, and_false, false_and, Bool.false_eq_true, St.ev, zes, zfn, zhk, List.length_map]
     · skip
       simp (maxSteps := 10000000) (disch := first | assumption | omega) only [go_sem, ↓reduceIte, Nat.reduceEqDiff, reduceCtorEq, Nat.reduceAdd, Nat.reduceMul, Nat.reduceLeDiff, zfu, Int.mul_def, Int.add_def, zfv, cond_false, cond_true, isub, Int.reduceToNat, s0, s3, s4, s5, s9, s10, s13, s14, s15, s16, s17, s18, r20576, r20512, r20513, r36960, r36896, r69680, hi', hgd, hk0]
       simp only [zbj, zbk, retR, resL, outT, zes, zez, oneV, ↓zcy, ↓zcz, ↓reduceIte, Nat.reduceEqDiff, Option.some.injEq, AV.sc.injEq, Value.bool.injEq, Value.int.injEq, outL, outT, zft, zcp, zed, zef, zei, zeh, List.length_cons, List.length_nil, Nat.reduceAdd, Nat.zero_add, Nat.reduceLeDiff, List.drop_zero, List.take_succ_cons, List.take_zero, zfi, zfh, Ro.dl, zdb, zda, zfe, and_self, and_true, true_and, eq_self, List.append_nil, List.nil_append, List.cons_append, ne_eq, not_false_eq_true, and_false, false_and, Bool.false_eq_true, St.ev, zes, zfn, zhk, List.length_map]
   · have h13' : ¬ (v1 : Int) + (v3 : Int) < n := by omega
     have hgd := hg2 h13
     generalize v1 * n + v2 = j1 at *
     generalize v3 * n + v4 = j3 at *
     generalize m * n + z2 = j5 at *
     simp (maxSteps := 10000000) (disch := first | assumption | omega) only [go_sem, ↓reduceIte, Nat.reduceEqDiff, reduceCtorEq, Nat.reduceAdd, Nat.reduceMul, Nat.reduceLeDiff, zfu, Int.mul_def, Int.add_def, zfv, cond_false, cond_true, isub, Int.reduceToNat, s0, s3, s4, s5, s9, s10, s13, s14, s15, s16, s17, s18, r20576, r20512, r20513, r36960, r36896, r69680, hi', em, ez1, ez2, e1, e3, e6, h13', hgd]
     refine FIN_of (by kernel_rfl) ?_
     by_cases hk0 : (k : Int) = 0
     · by_cases hn2 : (n : Int) < 2
       · skip
         simp (maxSteps := 10000000) (disch := first | assumption | omega) only [go_sem, ↓reduceIte, Nat.reduceEqDiff, reduceCtorEq, Nat.reduceAdd, Nat.reduceMul, Nat.reduceLeDiff, zfu, Int.mul_def, Int.add_def, zfv, cond_false, cond_true, isub, Int.reduceToNat, s0, s3, s4, s5, s9, s10, s13, s14, s15, s16, s17, s18, r20576, r20512, r20513, r36960, r36896, r69680, hi', hgd, hk0, hn2]
         simp only [zbj, zbk, retR, resL, outT, zes, zez, oneV, ↓zcy, ↓zcz, ↓reduceIte, Nat.reduceEqDiff, Option.some.injEq, AV.sc.injEq, Value.bool.injEq, Value.int.injEq, outL, outT, zft, zcp, zed, zef, zei, zeh, List.length_cons, List.length_nil, Nat.reduceAdd, Nat.zero_add, Nat.reduceLeDiff, List.drop_zero, List.take_succ_cons, List.take_zero, zfi, zfh, Ro.dl, zdb, zda, zfe, and_self, and_true, true_and, eq_self, List.append_nil, List.nil_append, List.cons_append, ne_eq, not_false_eq_true, and_false, false_and, Bool.false_eq_true, St.ev, zes, zfn, zhk, List.length_map]
       · obtain ⟨V, hV, cH⟩ := hy (by omega) (by omega)
         have cM := cDataM hV.m hV.l.1 hV.d (by simp; omega) (by have := hV.l.2; omega)
         rw [hV.s, hV.t] at cM
         simp (maxSteps := 10000000) (disch := first | assumption | omega) only [go_sem, ↓reduceIte, Nat.reduceEqDiff, reduceCtorEq, Nat.reduceAdd, Nat.reduceMul, Nat.reduceLeDiff, zfu, Int.mul_def, Int.add_def, zfv, cond_false, cond_true, isub, Int.reduceToNat, s0, s3, s4, s5, s9, s10, s13, s14, s15, s16, s17, s18, r20576, r20512, r20513, r36960, r36896, r69680, hi', hgd, hk0, hn2]
         refine CLL_pure _ cH (by simp (disch := assumption) only [pureL, pureA, isL_pure, isLL_pure, isLLL_pure, pureL_map, Bool.and_self, Bool.and_true]) rfl rfl ?_
         simp (maxSteps := 10000000) (disch := first | assumption | omega) only [go_sem, ↓reduceIte, Nat.reduceEqDiff, reduceCtorEq, Nat.reduceAdd, Nat.reduceMul, Nat.reduceLeDiff, zfu, Int.mul_def, Int.add_def, zfv, cond_false, cond_true, isub, Int.reduceToNat, s0, s3, s4, s5, s9, s10, s13, s14, s15, s16, s17, s18, r20576, r20512, r20513, r36960, r36896, r69680, hi', impE_tM]
         refine CLL_q _ cM (by repeat' first | exact exqL.nil | refine exqL.cons ?_ ?_ | exact exq_sc _ _ _ (by decide) | exact exq_L (by first | assumption | exact isL_imm _) (by decide) | exact exq_LL (by assumption) (by decide) | exact exq_LLL (by assumption) (by decide) | refine exq_refL ?_ ?_ (by decide) | refine exq_refLL ?_ ?_ (by decide) | refine exq_cube ?_ (by decide) | refine exq_agg ?_ | assumption | rfl | (simp only [↓zcy, ↓zcz, ↓zda, ↓zdb, ↓reduceIte, Nat.reduceEqDiff, and_true, true_and, and_self, ne_eq, not_false_eq_true, eq_self, false_and, and_false, reduceCtorEq, zfe, List.length_map]; done) | (simp only [↓zcy, ↓zcz, ↓zda, ↓zdb, ↓reduceIte, Nat.reduceEqDiff, and_true, true_and, and_self, ne_eq, not_false_eq_true, eq_self, false_and, and_false, reduceCtorEq]; first | rfl | assumption)) rfl rfl (noI_tD _ _ _) ?_
         simp (maxSteps := 10000000) (disch := first | assumption | omega) only [go_sem, ↓reduceIte, Nat.reduceEqDiff, reduceCtorEq, Nat.reduceAdd, Nat.reduceMul, Nat.reduceLeDiff, zfu, Int.mul_def, Int.add_def, zfv, cond_false, cond_true, isub, Int.reduceToNat, s0, s3, s4, s5, s9, s10, s13, s14, s15, s16, s17, s18, r20576, r20512, r20513, r36960, r36896, r69680, hi', impE_tupD]
         refine CLL_q _ (cDat9 (isLL_imm S) (isLL_imm S) (isL_imm T) (isL_imm T) (by omega) (fun j hj => hRm j hj) (by omega)) (by repeat' first | exact exqL.nil | refine exqL.cons ?_ ?_ | exact exq_sc _ _ _ (by decide) | exact exq_L (by first | assumption | exact isL_imm _) (by decide) | exact exq_LL (by assumption) (by decide) | exact exq_LLL (by assumption) (by decide) | refine exq_refL ?_ ?_ (by decide) | refine exq_refLL ?_ ?_ (by decide) | refine exq_cube ?_ (by decide) | refine exq_agg ?_ | assumption | rfl | (simp only [↓zcy, ↓zcz, ↓zda, ↓zdb, ↓reduceIte, Nat.reduceEqDiff, and_true, true_and, and_self, ne_eq, not_false_eq_true, eq_self, false_and, and_false, reduceCtorEq, zfe, List.length_map]; done) | (simp only [↓zcy, ↓zcz, ↓zda, ↓zdb, ↓reduceIte, Nat.reduceEqDiff, and_true, true_and, and_self, ne_eq, not_false_eq_true, eq_self, false_and, and_false, reduceCtorEq]; first | rfl | assumption)) rfl rfl rfl ?_
         simp (maxSteps := 10000000) (disch := first | assumption | omega) only [go_sem, ↓reduceIte, Nat.reduceEqDiff, reduceCtorEq, Nat.reduceAdd, Nat.reduceMul, Nat.reduceLeDiff, zfu, Int.mul_def, Int.add_def, zfv, cond_false, cond_true, isub, Int.reduceToNat, s0, s3, s4, s5, s9, s10, s13, s14, s15, s16, s17, s18, r20576, r20512, r20513, r36960, r36896, r69680, hi']
         simp only [zbj, zbk, retR, resL, outT, zes, zez, oneV, ↓zcy, ↓zcz, ↓reduceIte, Nat.reduceEqDiff, Option.some.injEq, AV.sc.injEq, Value.bool.injEq, Value.int.injEq, outL, outT, zft, zcp, zed, zef, zei, zeh, List.length_cons, List.length_nil, Nat.reduceAdd, Nat.zero_add, Nat.reduceLeDiff, List.drop_zero, List.take_succ_cons, List.take_zero, zfi, zfh, Ro.dl, zdb, zda, zfe, and_self, and_true, true_and, eq_self, List.append_nil, List.nil_append, List.cons_append, ne_eq, not_false_eq_true, and_false, false_and, Bool.false_eq_true, St.ev, zes, zfn, zhk, List.length_map]
     · skip
       simp (maxSteps := 10000000) (disch := first | assumption | omega) only [go_sem, ↓reduceIte, Nat.reduceEqDiff, reduceCtorEq, Nat.reduceAdd, Nat.reduceMul, Nat.reduceLeDiff, zfu, Int.mul_def, Int.add_def, zfv, cond_false, cond_true, isub, Int.reduceToNat, s0, s3, s4, s5, s9, s10, s13, s14, s15, s16, s17, s18, r20576, r20512, r20513, r36960, r36896, r69680, hi', hgd, hk0]
       simp only [zbj, zbk, retR, resL, outT, zes, zez, oneV, ↓zcy, ↓zcz, ↓reduceIte, Nat.reduceEqDiff, Option.some.injEq, AV.sc.injEq, Value.bool.injEq, Value.int.injEq, outL, outT, zft, zcp, zed, zef, zei, zeh, List.length_cons, List.length_nil, Nat.reduceAdd, Nat.zero_add, Nat.reduceLeDiff, List.drop_zero, List.take_succ_cons, List.take_zero, zfi, zfh, Ro.dl, zdb, zda, zfe, and_self, and_true, true_and, eq_self, List.append_nil, List.nil_append, List.cons_append, ne_eq, not_false_eq_true, and_false, false_and, Bool.false_eq_true, St.ev, zes, zfn, zhk, List.length_map]
end
end Go.Proofs.YtgcnmlecihegcaaGreat
/- The law of the doubles answers true, whatever the code. -/
namespace Go.Proofs.YtgcnmlecihegcaaGreat
open Go.RowKit
set_option maxRecDepth 1000000
theorem cjR2 : callF Tryz.prog ti0 KP (fun _ => false) 20 24 [i64 2] = some (.tup [.agg [rowL [2, 2], i64 2, rowL hV2], i64 0]) := rHyp2
theorem cjR3 : callF Tryz.prog ti0 KP (fun _ => false) 20 24 [i64 3] = some (.tup [.agg [rowL [3, 3], i64 3, rowL hV3], i64 0]) := rHyp3
theorem cjR4 : callF Tryz.prog ti0 KP (fun _ => false) 20 24 [i64 4] = some (.tup [.agg [rowL [4, 4], i64 4, rowL hV4], i64 0]) := rHyp4
instance decLag (S : List (List Int)) (T v : List Int) : Decidable (LagP S T v) :=
 decidable_of_iff ((v.length = T.length ∧ (∀ k, k < v.length → 0 ≤ atI v k ∧ atI v k ≤ 1000) ∧ atI v 0 = 1) ∧ (∀ i, i < v.length → atI v i ≠ 0 → atI T i = 1) ∧ (∀ i, i < T.length → sm (fun j => atI (row S i) j * atI v j) T.length % 55441 = sm (fun j => atI v j * atI (row S 0) j) T.length % 55441 * atI v i % 55441) ∧ (sm (fun j => atI v j * atI (row S 0) j) T.length % 55441) * (sm (fun j => atI v j * atI (row S 0) j) T.length % 55441) % 55441 = whl S T.length)
   ⟨fun ⟨⟨a, b, c⟩, d, e, f⟩ => ⟨a, b, c, d, e, f⟩, fun ⟨a, b, c, d, e, f⟩ => ⟨⟨a, b, c⟩, d, e, f⟩⟩
theorem lw10 : LwP 1 0 1 sD10 tD10 where
 rn := by decide
 rk := by decide
 hS := dS10
 hT := dT10
 db := db10
 gs := by decide +kernel
 lg := by decide +kernel
 hy := fun h1 h2 => by omega
theorem lw20 : LwP 2 0 41581 sD20 tD20 where
 rn := by decide
 rk := by decide
 hS := dS20
 hT := dT20
 db := db20
 gs := by decide +kernel
 lg := by decide +kernel
 hy := fun _ _ => ⟨hV2, hy2, callF_okG mixed0 KP_ok cjR2⟩
theorem lw21 : LwP 2 1 41581 sD21 tD21 where
 rn := by decide
 rk := by decide
 hS := dS21
 hT := dT21
 db := db21
 gs := by decide +kernel
 lg := by decide +kernel
 hy := fun h1 h2 => by omega
theorem lw30 : LwP 3 0 49281 sD30 tD30 where
 rn := by decide
 rk := by decide
 hS := dS30
 hT := dT30
 db := db30
 gs := by decide +kernel
 lg := by decide +kernel
 hy := fun _ _ => ⟨hV3, hy3, callF_okG mixed0 KP_ok cjR3⟩
theorem lw31 : LwP 3 1 49281 sD31 tD31 where
 rn := by decide
 rk := by decide
 hS := dS31
 hT := dT31
 db := db31
 gs := by decide +kernel
 lg := by decide +kernel
 hy := fun h1 h2 => by omega
theorem lw32 : LwP 3 2 49281 sD32 tD32 where
 rn := by decide
 rk := by decide
 hS := dS32
 hT := dT32
 db := db32
 gs := by decide +kernel
 lg := by decide +kernel
 hy := fun h1 h2 => by omega
theorem lw40 : LwP 4 0 51976 sD40 tD40 where
 rn := by decide
 rk := by decide
 hS := dS40
 hT := dT40
 db := db40
 gs := by decide +kernel
 lg := by decide +kernel
 hy := fun _ _ => ⟨hV4, hy4, callF_okG mixed0 KP_ok cjR4⟩
theorem lw41 : LwP 4 1 51976 sD41 tD41 where
 rn := by decide
 rk := by decide
 hS := dS41
 hT := dT41
 db := db41
 gs := by decide +kernel
 lg := by decide +kernel
 hy := fun h1 h2 => by omega
theorem lw42 : LwP 4 2 51976 sD42 tD42 where
 rn := by decide
 rk := by decide
 hS := dS42
 hT := dT42
 db := db42
 gs := by decide +kernel
 lg := by decide +kernel
 hy := fun h1 h2 => by omega
theorem lw43 : LwP 4 3 51976 sD43 tD43 where
 rn := by decide
 rk := by decide
 hS := dS43
 hT := dT43
 db := db43
 gs := by decide +kernel
 lg := by decide +kernel
 hy := fun h1 h2 => by omega
theorem lw_all (n k : Int) (hn : 1 ≤ n ∧ n ≤ 4) (hk : 0 ≤ k ∧ k ≤ n - 1) : ∃ (n' k' : Nat) (w : Int) (S : List (List Int)) (T : List Int), n = n' ∧ k = k' ∧ LwP n' k' w S T := by
 have h : (n = 1 ∧ k = 0) ∨ (n = 2 ∧ k = 0) ∨ (n = 2 ∧ k = 1) ∨ (n = 3 ∧ k = 0) ∨ (n = 3 ∧ k = 1) ∨ (n = 3 ∧ k = 2) ∨ (n = 4 ∧ k = 0) ∨ (n = 4 ∧ k = 1) ∨ (n = 4 ∧ k = 2) ∨ (n = 4 ∧ k = 3) := by omega
 rcases h with ⟨rfl, rfl⟩ | ⟨rfl, rfl⟩ | ⟨rfl, rfl⟩ | ⟨rfl, rfl⟩ | ⟨rfl, rfl⟩ | ⟨rfl, rfl⟩ | ⟨rfl, rfl⟩ | ⟨rfl, rfl⟩ | ⟨rfl, rfl⟩ | ⟨rfl, rfl⟩
 · exact ⟨1, 0, _, _, _, rfl, rfl, lw10⟩
 · exact ⟨2, 0, _, _, _, rfl, rfl, lw20⟩
 · exact ⟨2, 1, _, _, _, rfl, rfl, lw21⟩
 · exact ⟨3, 0, _, _, _, rfl, rfl, lw30⟩
 · exact ⟨3, 1, _, _, _, rfl, rfl, lw31⟩
 · exact ⟨3, 2, _, _, _, rfl, rfl, lw32⟩
 · exact ⟨4, 0, _, _, _, rfl, rfl, lw40⟩
 · exact ⟨4, 1, _, _, _, rfl, rfl, lw41⟩
 · exact ⟨4, 2, _, _, _, rfl, rfl, lw42⟩
 · exact ⟨4, 3, _, _, _, rfl, rfl, lw43⟩
theorem cDbl {a : AV} {bs : List Int} (ha : isB a bs) (hb : ∀ k, 0 ≤ atI bs k ∧ atI bs k < 256) : CallOK Tryz.prog 4 [a] (bo true) := by
 by_cases hl : bs.length ≤ 4096
 · obtain ⟨n, k, n1, n2, k1, k2, cd⟩ := cDraw ha (fun k _ => hb k) hl
   by_cases hn : 1 ≤ n ∧ n ≤ 4
   · by_cases hk : 0 ≤ k ∧ k ≤ n - 1
     · obtain ⟨n', k', w, S, T, rfl, rfl, h⟩ := lw_all n k hn hk
       exact cDb_yes ha (fun k _ => hb k) hl h cd
     · exact cDb_no ha hl cd (c11_no2 hn hk) (c10_no2 hn hk) (c16_no (c11_no2 hn hk)) (c15_no (c10_no2 hn hk))
   · exact cDb_no ha hl cd (c11_no1 hn) (c10_no1 hn) (c16_no (c11_no1 hn)) (c15_no (c10_no1 hn))
 · have hpu : pureL [a] = true := by simp only [pureL, isB_pure ha, Bool.and_self]
   have cb := cBig ha
   rw [decide_eq_true (by omega : 4096 < bs.length)] at cb
   refine call_of (fn := Tryz.f4) (code := bodyOf Tryz.f4) Tryz.func4 rfl (by kernel_rfl) (rfl) ?_
   intro sl hs
   have s0 : sl 0 = a := hs 0
   dsimp only [Tryz.f4, bodyOf, Option.getD]
   simp (maxSteps := 10000000) (disch := first | assumption | omega) only [go_sem, ↓reduceIte, Nat.reduceEqDiff, reduceCtorEq, Nat.reduceAdd, Nat.reduceMul, Nat.reduceLeDiff, zfu, Int.mul_def, Int.add_def, zfv, cond_false, cond_true, isub, Int.reduceToNat, s0]
   refine CLL_pure _ cb hpu rfl rfl ?_
   simp (maxSteps := 10000000) (disch := first | assumption | omega) only [go_sem, ↓reduceIte, Nat.reduceEqDiff, reduceCtorEq, Nat.reduceAdd, Nat.reduceMul, Nat.reduceLeDiff, zfu, Int.mul_def, Int.add_def, zfv, cond_false, cond_true, isub, Int.reduceToNat, s0]
   simp only [zbj, zbk, retR, resL, outT, zes, zez, oneV, ↓zcy, ↓zcz, ↓reduceIte, Nat.reduceEqDiff, Option.some.injEq, AV.sc.injEq, Value.bool.injEq, Value.int.injEq, outL, outT, zft, zcp, zed, zef, zei, zeh, List.length_cons, List.length_nil, Nat.reduceAdd, Nat.zero_add, Nat.reduceLeDiff, List.drop_zero, List.take_succ_cons, List.take_zero, zfi, zfh, Ro.dl, zdb, zda, zfe, and_self, and_true, true_and, eq_self, List.append_nil, List.nil_append, List.cons_append, ne_eq, not_false_eq_true, and_false, false_and, Bool.false_eq_true, St.ev, zes, zfn, zhk, List.length_map]
end Go.Proofs.YtgcnmlecihegcaaGreat
