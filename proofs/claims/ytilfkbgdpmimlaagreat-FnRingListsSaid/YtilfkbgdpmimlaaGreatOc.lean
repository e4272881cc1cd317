/- Texts joined: Ea7 Ea8. -/
import Derived.Test.YtilfkbgdpmimlaaGreatOb
set_option linter.all false
/- Enumeration of rings: triples and what they turn into. -/
namespace Go.Proofs.YtilfkbgdpmimlaaGreat
open Go.RowKit
set_option maxRecDepth 1000000
abbrev T33 := Nat × Nat × Nat
def tcl (t : T33) : List AV := [i64 (t.1 : Int), i64 (t.2.1 : Int), i64 (t.2.2 : Int)]
abbrev tA (t : T33) : AV := n3 (t.1 : Int) (t.2.1 : Int) (t.2.2 : Int)
def tcs (L : List T33) : List AV := L.flatMap tcl
abbrev immT (L : List T33) : AV := .immk 3 L.length (tcs L)
def tat (L : List T33) (i : Nat) : T33 := L.getD i (0, 0, 0)
theorem tcs_cons (t : T33) (L : List T33) : tcs (t :: L) = i64 (t.1 : Int) :: i64 (t.2.1 : Int) :: i64 (t.2.2 : Int) :: tcs L := rfl
theorem tcs_app (L M : List T33) : tcs (L ++ M) = tcs L ++ tcs M := List.flatMap_append
theorem tcs_len (L : List T33) : (tcs L).length = 3 * L.length := by
 induction L with
 | nil => rfl
 | cons t L ih => rw [tcs_cons]; simp only [List.length_cons, ih]; omega
theorem tcs_drop : ∀ (L : List T33) (i : Nat), i < L.length → (tcs L).drop (i * 3) = i64 ((tat L i).1 : Int) :: i64 ((tat L i).2.1 : Int) :: i64 ((tat L i).2.2 : Int) :: tcs (L.drop (i + 1))
 | t :: L, 0, _ => rfl
 | t :: L, i + 1, h => by
  have : (i + 1) * 3 = i * 3 + 1 + 1 + 1 := by omega
  rw [this, tcs_cons]
  simp only [List.drop_succ_cons]
  exact tcs_drop L i (by simpa using h)
theorem tcs_num (L : List T33) : (tcs L).all numA = true := by
 induction L with
 | nil => rfl
 | cons t L ih => rw [tcs_cons]; simp only [List.all_cons, ih]; rfl
theorem tcs_pure (L : List T33) : pureL (tcs L) = true := by
 induction L with
 | nil => rfl
 | cons t L ih => rw [tcs_cons]; simp only [pureL, ih]; rfl
theorem tat_mem {L : List T33} {i : Nat} (h : i < L.length) : tat L i ∈ L := by
 unfold tat
 rw [List.getD_eq_getElem?_getD, List.getElem?_eq_getElem h]
 exact List.getElem_mem h
theorem tat_ex {L : List T33} {t : T33} (h : t ∈ L) : ∃ i, i < L.length ∧ tat L i = t := by
 obtain ⟨i, hi, e⟩ := List.mem_iff_getElem.1 h
 exact ⟨i, hi, by unfold tat; rw [List.getD_eq_getElem?_getD, List.getElem?_eq_getElem hi]; exact e⟩
theorem t3_eq (a b : T33) : (((a.1 : Int) == (b.1 : Int)) && (((a.2.1 : Int) == (b.2.1 : Int)) && ((a.2.2 : Int) == (b.2.2 : Int)))) = decide (a = b) := by
 obtain ⟨a1, a2, a3⟩ := a
 obtain ⟨b1, b2, b3⟩ := b
 rw [Bool.eq_iff_iff]
 simp only [Bool.and_eq_true, beq_iff_eq, decide_eq_true_eq, Prod.mk.injEq, Int.ofNat_inj]
theorem kBin0_e3 {ro : Ro} {a1 : Nat} {a2 : Bool} {a3 : List Value} {a5 : List (Nat × Nat)} {a6 : Option IntKind} {a7 a8 : Bool} {a9 : Option (Nat × Nat)} {a b c x y z : Int} {el : Nat} : kBin0 (some ⟨a1, a2, a3, none, a5, a6, a7, a8, a9, some (3, el)⟩) ro .eql (n3 a b c) (n3 x y z) = some ⟨bo ((a == x) && ((b == y) && (c == z))), none, [], []⟩ := nr _
noncomputable def ixT (L : List T33) (t : T33) : Int := by
 classical exact if h : ∃ i, i < L.length ∧ tat L i = t ∧ ∀ j, j < i → tat L j ≠ t then ((Classical.choose h : Nat) : Int) else -1
theorem ixT_some {L : List T33} {t : T33} {i : Nat} (h1 : i < L.length) (h2 : tat L i = t) (h3 : ∀ j, j < i → tat L j ≠ t) : ixT L t = i := by
 have h : ∃ i, i < L.length ∧ tat L i = t ∧ ∀ j, j < i → tat L j ≠ t := ⟨i, h1, h2, h3⟩
 unfold ixT
 rw [dif_pos h]
 obtain ⟨k1, k2, k3⟩ := Classical.choose_spec h
 have : ¬ Classical.choose h < i := fun hl => h3 _ hl k2
 have : ¬ i < Classical.choose h := fun hl => k3 _ hl h2
 omega
theorem ixT_none {L : List T33} {t : T33} (h : ∀ j, j < L.length → tat L j ≠ t) : ixT L t = -1 := by
 unfold ixT
 rw [dif_neg]
 rintro ⟨i, h1, h2, -⟩
 exact h i h1 h2
theorem ixT_mem {L : List T33} {t : T33} : decide (0 ≤ ixT L t) = decide (t ∈ L) := by
 by_cases h : t ∈ L
 ·obtain ⟨i, ⟨h1, h2⟩, h3⟩ := Nat.find_ex (tat_ex h)
  rw [ixT_some h1 h2 (fun j hj e => h3 j hj ⟨by omega, e⟩), decide_eq_true h, decide_eq_true (by omega)]
 ·rw [ixT_none (fun j hj e => h (by rw [← e]; exact tat_mem hj)), decide_eq_false h]; rfl
theorem flatK_n {k j : Nat} {ev : Operand → AV} : flatK k ev j [] = some [] := nr _
theorem flatK_c {k j i : Nat} {ev : Operand → AV} {x : Operand} {r : List (Nat × Operand)} : flatK k ev j ((i, x) :: r) = if i = j then (match ev x with
  | .agg cs => if cs.length = k ∧ cs.all numA then (match flatK k ev (j + 1) r with
   | some ds => some (cs ++ ds)
   | none => none) else none
  | _ => none) else none := nr _
theorem numA_i (a : Int) : numA (i64 a) = true := nr _
section
variable {a1 : Nat} {a2 : Bool} {a3 : List Value} {a5 : List (Nat × Nat)} {a6 : Option IntKind} {a7 a8 : Bool} {a9 : Option (Nat × Nat)} {ro : Ro} {s g : Nat} {p : List Nat} {i el : Nat}
theorem kIdx_p0 : kIdx (some ⟨a1, a2, a3, none, a5, a6, a7, a8, a9, some (3, el)⟩) ro (.ptr s g p i) (i64 0) = if (ro.cells s g p).isSome = true then some ⟨.ptr s g p i, none, [], []⟩ else none := by
 have := kIdx_parr (a1 := a1) (a2 := a2) (a3 := a3) (a5 := a5) (a6 := a6) (a7 := a7) (a8 := a8) (a9 := a9) (ro := ro) (s := s) (g := g) (p := p) (i := i) (n := 3) (j := 0) (el := el)
 simpa using this
theorem kIdx_p1 : kIdx (some ⟨a1, a2, a3, none, a5, a6, a7, a8, a9, some (3, el)⟩) ro (.ptr s g p i) (i64 1) = if (ro.cells s g p).isSome = true then some ⟨.ptr s g p (i + 1), none, [], []⟩ else none := by
 have := kIdx_parr (a1 := a1) (a2 := a2) (a3 := a3) (a5 := a5) (a6 := a6) (a7 := a7) (a8 := a8) (a9 := a9) (ro := ro) (s := s) (g := g) (p := p) (i := i) (n := 3) (j := 1) (el := el)
 simpa using this
theorem kIdx_p2 : kIdx (some ⟨a1, a2, a3, none, a5, a6, a7, a8, a9, some (3, el)⟩) ro (.ptr s g p i) (i64 2) = if (ro.cells s g p).isSome = true then some ⟨.ptr s g p (i + 2), none, [], []⟩ else none := by
 have := kIdx_parr (a1 := a1) (a2 := a2) (a3 := a3) (a5 := a5) (a6 := a6) (a7 := a7) (a8 := a8) (a9 := a9) (ro := ro) (s := s) (g := g) (p := p) (i := i) (n := 3) (j := 2) (el := el)
 simpa using this
end
theorem tcs_drop1 (L : List T33) (i : Nat) (h : i < L.length) : (tcs L).drop (i * 3 + 1) = i64 ((tat L i).2.1 : Int) :: i64 ((tat L i).2.2 : Int) :: tcs (L.drop (i + 1)) := by
 rw [← List.drop_drop, tcs_drop L i h]; rfl
theorem tcs_drop2 (L : List T33) (i : Nat) (h : i < L.length) : (tcs L).drop (i * 3 + 2) = i64 ((tat L i).2.2 : Int) :: tcs (L.drop (i + 1)) := by
 rw [← List.drop_drop, tcs_drop L i h]; rfl
theorem get_drop {α : Type _} {l : List α} {i : Nat} {a : α} {r : List α} (h : l.drop i = a :: r) : l[i]? = some a := by
 have := congrArg List.head? h
 rwa [List.head?_drop] at this
attribute [go_sem] kIdx_p0 kIdx_p1 kIdx_p2 flatK_n flatK_c numA_i List.all_cons List.all_nil kBin0_e3
section
variable {L : List T33} {t : T33}
set_option maxHeartbeats 4000000 in
theorem cIdxT (hL : L.length ≤ maxN) : CallOK Tryz.prog 126 [immT L, tA t] (i64 (ixT L t)) := by
 have hL' : L.length ≤ 4294967296 := hL
 refine call_of (fn := Tryz.f126) (code := bodyOf Tryz.f126) Tryz.func126 rfl (by kernel_rfl) (rfl) ?_
 intro sl hs
 have s0 : sl 0 = immT L := hs 0
 have s1 : sl 1 = tA t := hs 1
 dsimp only [Tryz.f126, bodyOf, Option.getD]
 refine Yao ?_
 refine WK_for (fun i st => st.sl 0 = immT L ∧ st.ro 4096 (st.gn 4096) = some (.bx [i64 (t.1 : Int), i64 (t.2.1 : Int), i64 (t.2.2 : Int)]) ∧ st.sl 3 = .ptr 4096 (st.gn 4096) [] 0 ∧ st.sl 7 = i64 (L.length : Int) ∧ st.sl 8 = i64 (i : Int) ∧ (∀ j, j < i → tat L j ≠ t)) L.length ?_ ?_ ?_
 ·refine Yag ?_
  exact ⟨rfl, fun j hj => absurd hj (Nat.not_lt_zero _)⟩
 ·rintro i sl ro gn hi ⟨s0, r4096, s3, s7, s8, ps⟩
  dsimp only at s0 r4096 s3 s7 s8
  have hi' : (i : Int) < (L.length : Nat) := by omega
  have hd := tcs_drop L i hi
  simp (disch := first | assumption | omega) only [go_sem, ↓reduceIte, Nat.reduceEqDiff, Nat.reduceAdd, Nat.reduceMul, zc, s0, r4096, s3, s7, s8, hi', hi, ti3, ti4, hd, kBin0_e3, t3_eq]
  refine FIN_of (by kernel_rfl) ?_
  by_cases he : t = tat L i
  ·simp (disch := first | assumption | omega) only [go_sem, ↓reduceIte, Nat.reduceEqDiff, Nat.reduceAdd, Nat.reduceMul, zc, s0, r4096, s3, s7, s8, hi', hi, eq_true he]
   refine Yaa ?_
   rw [ixT_some hi he.symm ps]
  ·simp (disch := first | assumption | omega) only [go_sem, ↓reduceIte, Nat.reduceEqDiff, Nat.reduceAdd, Nat.reduceMul, zc, s0, r4096, s3, s7, s8, hi', hi, eq_false he]
   refine ⟨i64c (by omega), fun j hj e => ?_⟩
   rcases Nat.lt_or_ge j i with h | h
   ·exact ps j h e
   ·have : j = i := by omega
    subst this
    exact he e.symm
 ·rintro sl ro gn ⟨s0, r4096, s3, s7, s8, ps⟩
  dsimp only at s0 r4096 s3 s7 s8
  have hi' : ¬ ((L.length : Nat) : Int) < (L.length : Nat) := by omega
  simp (disch := first | assumption | omega) only [go_sem, ↓reduceIte, Nat.reduceEqDiff, Nat.reduceAdd, Nat.reduceMul, zc, s0, r4096, s3, s7, s8, hi']
  refine Yaa ?_
  rw [ixT_none ps]
set_option maxHeartbeats 4000000 in
theorem cHasT (hL : L.length ≤ maxN) : CallOK Tryz.prog 111 [immT L, tA t] (bo (decide (t ∈ L))) := by
 refine call_of (fn := Tryz.f111) (code := bodyOf Tryz.f111) Tryz.func111 rfl (by kernel_rfl) (rfl) ?_
 intro sl hs
 have s0 : sl 0 = immT L := hs 0
 have s1 : sl 1 = tA t := hs 1
 dsimp only [Tryz.f111, bodyOf, Option.getD]
 refine Yao ?_
 refine CLL_pure _ (cIdxT (t := t) hL) (by simp only [pureL, pureA, tcs_pure L, Bool.and_self, Bool.and_self]) rfl rfl ?_
 refine Yao ?_
 simp only [zr, zb, retR, resL, outT, outL, zes, zez, oneV, zcp, zed, zfi, Ro.dl, St.ev, zhk, ↓za, ↓reduceIte, Nat.reduceEqDiff, Nat.reduceAdd, Nat.reduceLeDiff, ← decide_not, Int.not_lt, ixT_mem]
def adT (L : List T33) (t : T33) : List T33 := if t ∈ L then L else L ++ [t]
def adK (L us : List T33) : Nat → List T33
 | 0 => L
 | k + 1 => adT (adK L us k) (tat us k)
def trU (x : List Nat) (t : T33) : List T33 := [(x.getD t.1 0, t.2.2, t.2.1), (t.2.2, x.getD t.2.1 0, t.1)]
def trI (x : List Nat) (t : T33) : Nat → List T33
 | 0 => [t]
 | i + 1 => adK (trI x t i) (trU x (tat (trI x t i) i)) 2
def W54 : List Nat := [4096, 8208, 28896, 36896, 45088]
end
theorem tcs_ex (ro : Ro) (k : Nat) (L : List T33) : (tcs L).map (ex ro (k + 1)) = tcs L := by
 induction L with
 | nil => rfl
 | cons t L ih => rw [tcs_cons]; simp only [List.map_cons, ih]; rfl
theorem exq_T {n : Nat} {ro : Ro} {s g : Nat} {L : List T33} (h : ro s g = some (.bx (tcs L))) (hn : 2 ≤ n) : exq n ro (.refk 3 s g L.length) (immT L) := by
 refine ⟨fun k hk => ?_, fun hp => by simp [pureA] at hp⟩
 obtain ⟨j, rfl⟩ : ∃ j, k = j + 2 := ⟨k - 2, by omega⟩
 show (match ro.cells s g [] with | some cs => AV.immk 3 L.length ((cs.take (3 * L.length)).map (ex ro (j + 1))) | none => .dead) = _
 rw [zef, h]
 show AV.immk 3 L.length (((tcs L).take (3 * L.length)).map (ex ro (j + 1))) = _
 rw [List.take_of_length_le (by rw [tcs_len]; exact Nat.le_refl _), tcs_ex]
theorem exq_t {n : Nat} {ro : Ro} {t : T33} (hn : 2 ≤ n) : exq n ro (tA t) (tA t) := by
 obtain ⟨j, rfl⟩ : ∃ j, n = j + 1 := ⟨n - 1, by omega⟩
 exact exq_agg (.cons (exq_sc _ _ _ (by omega)) (.cons (exq_sc _ _ _ (by omega)) (.cons (exq_sc _ _ _ (by omega)) .nil)))
theorem adT_len (L : List T33) (t : T33) : (adT L t).length ≤ L.length + 1 := by
 unfold adT
 split
 ·omega
 ·rw [List.length_append]; exact Nat.le_refl _
theorem adK_len (L us : List T33) : ∀ k, (adK L us k).length ≤ L.length + k
 | 0 => Nat.le_refl _
 | k + 1 => Nat.le_trans (adT_len _ _) (by have := adK_len L us k; omega)
theorem zl_get {x : List Nat} {i : Nat} (h : i < x.length) : ((zl x).map i64)[i]? = some (i64 ((x.getD i 0 : Nat) : Int)) := by
 unfold zl
 rw [List.getElem?_map, List.getElem?_map, List.getD_eq_getElem?_getD, List.getElem?_eq_getElem h]
 rfl
section
variable {ro : Ro} {gn : Nat → Nat} {n K : Nat} {x : List Nat} {t : T33}
set_option maxHeartbeats 8000000 in
theorem sTurn {sp : Nat} (hsp : sp = 4096 ∨ sp = 16384) {ro0 : Ro} {gn0 : Nat → Nat} {gp : Nat} (hx : n ≤ x.length) (rp : ro0 sp gp = some (rowL (zl x))) (lp : gp ≤ gn0 sp) (hK : (trI x t K).length = K) (hlt : ∀ i, i < K → i < (trI x t i).length) (hm : ∀ i, i ≤ K → (trI x t i).length ≤ 1000000) (hb : ∀ i, i ≤ K → ∀ u, u ∈ trI x t i → u.1 < n ∧ u.2.1 < n ∧ u.2.2 < n) (hn : n ≤ maxN) :
  InS Tryz.prog 82 [.ref sp gp [] 0 n, tA t] ro0 gn0 (fun r ro' gn' => Frx W54 (fun _ _ => False) ro0 gn0 ro' gn' ∧ ∃ g, r = .refk 3 8208 g K ∧ ro' 8208 g = some (.bx (tcs (trI x t K))) ∧ gn0 8208 < g ∧ g ≤ gn' 8208) := by
 rcases hsp with rfl | rfl
 ·refine in_ofS (fn := Tryz.f82) (code := bodyOf Tryz.f82) Tryz.func82 rfl (by kernel_rfl) ?_
  intro sl hs
  have s0 : sl 0 = .ref 4096 gp [] 0 n := hs 0
  have s1 : sl 1 = tA t := hs 1
  dsimp only [Tryz.f82, bodyOf, Option.getD]
  refine Yao ?_
  have hK6 : K ≤ 1000000 := by have := hm K (Nat.le_refl _); rwa [hK] at this
  have hL0 : tcs (trI x t 0) = [i64 (t.1 : Int), i64 (t.2.1 : Int), i64 (t.2.2 : Int)] := rfl
  refine WK_for (fun i st => st.sl 0 = .ref 4096 gp [] 0 n ∧ st.sl 6 = i64 (i : Int) ∧ (Frx W54 (fun _ _ => False) ro0 gn0 st.ro st.gn) ∧ (∃ g, st.sl 5 = .refk 3 8208 g (trI x t i).length ∧ st.ro 8208 g = some (.bx (tcs (trI x t i))) ∧ gn0 8208 < g ∧ g ≤ st.gn 8208)) K ?_ ?_ ?_
  ·refine Yag ?_
   refine ⟨rfl, KFt, gn0 8208 + 1, ?_⟩
   simp only [↓za, ↓reduceIte, Nat.reduceEqDiff, zb, reduceCtorEq, hL0]
   refine ⟨rfl, by omega, Nat.le_refl _⟩
  ·rintro i sl ro gn hi ⟨s0, s6, fr, ps⟩
   dsimp only at s0 s6
   have hi' : (i : Int) < (K : Nat) := by omega
   dsimp only at fr ps
   obtain ⟨g, s5, r5, lg, ug⟩ := ps
   have h1 := hlt i hi
   have h1' : (i : Int) < ((trI x t i).length : Nat) := by omega
   have hd := tcs_drop (trI x t i) i h1
   have hd1 := tcs_drop1 (trI x t i) i h1
   have hd2 := tcs_drop2 (trI x t i) i h1
   obtain ⟨b1, b2, b3⟩ := hb i (by omega) _ (tat_mem h1)
   have hg := get_drop hd
   have hg1 := get_drop hd1
   have hg2 := get_drop hd2
   generalize htt : tat (trI x t i) i = tt at hd hd1 hd2 hg hg1 hg2 b1 b2 b3
   have rp1 := (fr.kp 4096 gp lp (fun h => h)).trans rp
   refine Ydn ?_
   refine FIN_of (by kernel_rfl) ?_
   have p1 := zl_get (Nat.lt_of_lt_of_le b1 hx)
   have p2 := zl_get (Nat.lt_of_lt_of_le b2 hx)
   have b1' : (tt.1 : Int) < n := by omega
   have b2' : (tt.2.1 : Int) < n := by omega
   refine Ybv ?_
   refine FIN_of (by kernel_rfl) ?_
   obtain ⟨gU, hgU⟩ : ∃ g, g = gn 28896 + 1 := ⟨_, rfl⟩
   have hU : tcs (trU x tt) = [i64 ((x.getD tt.1 0 : Nat) : Int), i64 (tt.2.2 : Int), i64 (tt.2.1 : Int), i64 (tt.2.2 : Int), i64 ((x.getD tt.2.1 0 : Nat) : Int), i64 (tt.1 : Int)] := rfl
   simp (disch := first | assumption | omega) only [go_sem, ↓reduceIte, Nat.reduceEqDiff, Nat.reduceAdd, Nat.reduceMul, zc, s0, s6, hi', hi, ti3]
   refine WK_for (fun u st => st.sl 0 = .ref 4096 gp [] 0 n ∧ st.sl 6 = i64 (i : Int) ∧ st.sl 49 = .refk 3 28896 gU 2 ∧ st.sl 50 = i64 2 ∧ st.sl 51 = i64 (u : Int) ∧ st.ro 28896 gU = some (.bx (tcs (trU x tt))) ∧ (Frx W54 (fun _ _ => False) ro0 gn0 st.ro st.gn) ∧ (∃ g, st.sl 5 = .refk 3 8208 g (adK (trI x t i) (trU x tt) u).length ∧ st.ro 8208 g = some (.bx (tcs (adK (trI x t i) (trU x tt) u))) ∧ gn0 8208 < g ∧ g ≤ st.gn 8208)) 2 ?_ ?_ ?_
   ·simp only [↓za, ↓reduceIte, Nat.reduceEqDiff, zb, reduceCtorEq, rws_zero, s0, s6, hi', hi]
    subst hgU
    refine ⟨rfl, rfl, rfl, by rw [if_pos rfl]; rfl, KFt, g, s5, r5, lg, ug⟩
   ·rintro u sl ro gn hu ⟨s0, s6, s49, s50, s51, r28896, fr, ps⟩
    dsimp only at s0 s6 s49 s50 s51 r28896
    have hu' : (u : Int) < (2 : Nat) := by omega
    dsimp only at fr ps
    obtain ⟨g1, s5, r5, lg1, ug1⟩ := ps
    have hal := adK_len (trI x t i) (trU x tt) u
    have hal2 := hm i (by omega)
    generalize hAA : adK (trI x t i) (trU x tt) u = AA at s5 r5 hal
    have hu2 : u < (trU x tt).length := hu
    have hdU := tcs_drop (trU x tt) u hu2
    have hgU := get_drop hdU
    have hgU1 := get_drop (tcs_drop1 (trU x tt) u hu2)
    have hgU2 := get_drop (tcs_drop2 (trU x tt) u hu2)
    generalize htu : tat (trU x tt) u = tu at hdU hgU hgU1 hgU2
    have hu3 : (u : Int) < 2 := by omega
    have hc := cHasT (L := AA) (t := tu) (by unfold maxN; omega)
    have hlu : u * 3 + 3 ≤ (tcs (trU x tt)).length := by rw [tcs_len]; have : (trU x tt).length = 2 := rfl; omega
    have hk1 : adK (trI x t i) (trU x tt) (u + 1) = adT AA tu := by show adT _ _ = _; rw [hAA, htu]
    have v1 := fr.up 36896
    have v2 := fr.up 45088
    have v3 := fr.up 8208
    refine Ydq ?_
    refine CLL_q _ hc (.cons (exq_mono (exq_T (n := 2) (Ue r5) (by decide)) (by decide)) (.cons (exq_t (by decide)) .nil)) rfl rfl rfl ?_
    rw [hk1]
    unfold adT
    by_cases hmem : tu ∈ AA
    ·simp only [if_pos hmem, decide_eq_true hmem]
     refine Ybq ?_
     refine ⟨i64c (by omega), KFt, g1, s5, r5, lg1, ug1⟩
    ·simp only [if_neg hmem, decide_eq_false hmem]
     simp (disch := first | assumption | omega) only [go_sem, ↓reduceIte, Nat.reduceEqDiff, Nat.reduceAdd, Nat.reduceMul, zc, s0, s6, s49, s50, s51, r28896, hu', hu, ti3, s5, r5]
     refine OPE_x rfl (app_k (s := 8208) (g := g1) (n := AA.length) (s2 := 45088) (g2 := gn 45088 + 1) (m := 1) (cs := tcs AA) (ds := tcl tu) (tiG_ok _) rfl rfl rfl tiTs rfl (by simp only [go_sem, ↓reduceIte, Nat.reduceEqDiff, Nat.reduceAdd, Nat.reduceMul]) (by simp only [go_sem, ↓reduceIte, Nat.reduceEqDiff, Nat.reduceAdd, Nat.reduceMul]) (Ue r5) Ur (tcs_num _) rfl (by unfold maxN; omega)) ?_
     rintro _ _ _ ⟨rfl, rfl, rfl⟩
     refine Ybq ?_
     refine ⟨i64c (by omega), KFt, gn 8208 + 1, by rw [List.length_append]; rfl, ?_, by omega, Nat.le_refl _⟩
     rw [if_pos rfl, List.take_of_length_le (by rw [tcs_len]; exact Nat.le_refl _), tcs_app]
     rfl
   ·rintro sl ro gn ⟨s0, s6, s49, s50, s51, r28896, fr, ps⟩
    dsimp only at s0 s6 s49 s50 s51 r28896
    have hu' : ¬ ((2 : Nat) : Int) < (2 : Nat) := by omega
    dsimp only at fr ps
    simp (disch := first | assumption | omega) only [go_sem, ↓reduceIte, Nat.reduceEqDiff, Nat.reduceAdd, Nat.reduceMul, zc, s0, s6, s49, s50, s51, r28896, hu']
    rw [← htt] at ps
    exact ⟨i64c (by omega), fr, ps⟩
  ·rintro sl ro gn ⟨s0, s6, fr, ps⟩
   dsimp only at s0 s6
   have hi' : ¬ ((K : Nat) : Int) < (K : Nat) := by omega
   dsimp only at fr ps
   obtain ⟨g, s5, r5, lg, ug⟩ := ps
   rw [hK] at s5
   simp (disch := first | assumption | omega) only [go_sem, ↓reduceIte, Nat.reduceEqDiff, Nat.reduceAdd, Nat.reduceMul, zc, s0, s6, hi', s5, r5]
   exact RETS_1 _ Ur ⟨fr, g, rfl, r5, lg, ug⟩
 ·refine in_ofS (fn := Tryz.f82) (code := bodyOf Tryz.f82) Tryz.func82 rfl (by kernel_rfl) ?_
  intro sl hs
  have s0 : sl 0 = .ref 16384 gp [] 0 n := hs 0
  have s1 : sl 1 = tA t := hs 1
  dsimp only [Tryz.f82, bodyOf, Option.getD]
  refine Yao ?_
  have hK6 : K ≤ 1000000 := by have := hm K (Nat.le_refl _); rwa [hK] at this
  have hL0 : tcs (trI x t 0) = [i64 (t.1 : Int), i64 (t.2.1 : Int), i64 (t.2.2 : Int)] := rfl
  refine WK_for (fun i st => st.sl 0 = .ref 16384 gp [] 0 n ∧ st.sl 6 = i64 (i : Int) ∧ (Frx W54 (fun _ _ => False) ro0 gn0 st.ro st.gn) ∧ (∃ g, st.sl 5 = .refk 3 8208 g (trI x t i).length ∧ st.ro 8208 g = some (.bx (tcs (trI x t i))) ∧ gn0 8208 < g ∧ g ≤ st.gn 8208)) K ?_ ?_ ?_
  ·refine Yag ?_
   refine ⟨rfl, KFt, gn0 8208 + 1, ?_⟩
   simp only [↓za, ↓reduceIte, Nat.reduceEqDiff, zb, reduceCtorEq, hL0]
   refine ⟨rfl, by omega, Nat.le_refl _⟩
  ·rintro i sl ro gn hi ⟨s0, s6, fr, ps⟩
   dsimp only at s0 s6
   have hi' : (i : Int) < (K : Nat) := by omega
   dsimp only at fr ps
   obtain ⟨g, s5, r5, lg, ug⟩ := ps
   have h1 := hlt i hi
   have h1' : (i : Int) < ((trI x t i).length : Nat) := by omega
   have hd := tcs_drop (trI x t i) i h1
   have hd1 := tcs_drop1 (trI x t i) i h1
   have hd2 := tcs_drop2 (trI x t i) i h1
   obtain ⟨b1, b2, b3⟩ := hb i (by omega) _ (tat_mem h1)
   have hg := get_drop hd
   have hg1 := get_drop hd1
   have hg2 := get_drop hd2
   generalize htt : tat (trI x t i) i = tt at hd hd1 hd2 hg hg1 hg2 b1 b2 b3
   have rp1 := (fr.kp 16384 gp lp (fun h => h)).trans rp
   refine Ydn ?_
   refine FIN_of (by kernel_rfl) ?_
   have p1 := zl_get (Nat.lt_of_lt_of_le b1 hx)
   have p2 := zl_get (Nat.lt_of_lt_of_le b2 hx)
   have b1' : (tt.1 : Int) < n := by omega
   have b2' : (tt.2.1 : Int) < n := by omega
   refine Ybv ?_
   refine FIN_of (by kernel_rfl) ?_
   obtain ⟨gU, hgU⟩ : ∃ g, g = gn 28896 + 1 := ⟨_, rfl⟩
   have hU : tcs (trU x tt) = [i64 ((x.getD tt.1 0 : Nat) : Int), i64 (tt.2.2 : Int), i64 (tt.2.1 : Int), i64 (tt.2.2 : Int), i64 ((x.getD tt.2.1 0 : Nat) : Int), i64 (tt.1 : Int)] := rfl
   simp (disch := first | assumption | omega) only [go_sem, ↓reduceIte, Nat.reduceEqDiff, Nat.reduceAdd, Nat.reduceMul, zc, s0, s6, hi', hi, ti3]
   refine WK_for (fun u st => st.sl 0 = .ref 16384 gp [] 0 n ∧ st.sl 6 = i64 (i : Int) ∧ st.sl 49 = .refk 3 28896 gU 2 ∧ st.sl 50 = i64 2 ∧ st.sl 51 = i64 (u : Int) ∧ st.ro 28896 gU = some (.bx (tcs (trU x tt))) ∧ (Frx W54 (fun _ _ => False) ro0 gn0 st.ro st.gn) ∧ (∃ g, st.sl 5 = .refk 3 8208 g (adK (trI x t i) (trU x tt) u).length ∧ st.ro 8208 g = some (.bx (tcs (adK (trI x t i) (trU x tt) u))) ∧ gn0 8208 < g ∧ g ≤ st.gn 8208)) 2 ?_ ?_ ?_
   ·simp only [↓za, ↓reduceIte, Nat.reduceEqDiff, zb, reduceCtorEq, rws_zero, s0, s6, hi', hi]
    subst hgU
    refine ⟨rfl, rfl, rfl, by rw [if_pos rfl]; rfl, KFt, g, s5, r5, lg, ug⟩
   ·rintro u sl ro gn hu ⟨s0, s6, s49, s50, s51, r28896, fr, ps⟩
    dsimp only at s0 s6 s49 s50 s51 r28896
    have hu' : (u : Int) < (2 : Nat) := by omega
    dsimp only at fr ps
    obtain ⟨g1, s5, r5, lg1, ug1⟩ := ps
    have hal := adK_len (trI x t i) (trU x tt) u
    have hal2 := hm i (by omega)
    generalize hAA : adK (trI x t i) (trU x tt) u = AA at s5 r5 hal
    have hu2 : u < (trU x tt).length := hu
    have hdU := tcs_drop (trU x tt) u hu2
    have hgU := get_drop hdU
    have hgU1 := get_drop (tcs_drop1 (trU x tt) u hu2)
    have hgU2 := get_drop (tcs_drop2 (trU x tt) u hu2)
    generalize htu : tat (trU x tt) u = tu at hdU hgU hgU1 hgU2
    have hu3 : (u : Int) < 2 := by omega
    have hc := cHasT (L := AA) (t := tu) (by unfold maxN; omega)
    have hlu : u * 3 + 3 ≤ (tcs (trU x tt)).length := by rw [tcs_len]; have : (trU x tt).length = 2 := rfl; omega
    have hk1 : adK (trI x t i) (trU x tt) (u + 1) = adT AA tu := by show adT _ _ = _; rw [hAA, htu]
    have v1 := fr.up 36896
    have v2 := fr.up 45088
    have v3 := fr.up 8208
    refine Ydq ?_
    refine CLL_q _ hc (.cons (exq_mono (exq_T (n := 2) (Ue r5) (by decide)) (by decide)) (.cons (exq_t (by decide)) .nil)) rfl rfl rfl ?_
    rw [hk1]
    unfold adT
    by_cases hmem : tu ∈ AA
    ·simp only [if_pos hmem, decide_eq_true hmem]
     refine Ybq ?_
     refine ⟨i64c (by omega), KFt, g1, s5, r5, lg1, ug1⟩
    ·simp only [if_neg hmem, decide_eq_false hmem]
     simp (disch := first | assumption | omega) only [go_sem, ↓reduceIte, Nat.reduceEqDiff, Nat.reduceAdd, Nat.reduceMul, zc, s0, s6, s49, s50, s51, r28896, hu', hu, ti3, s5, r5]
     refine OPE_x rfl (app_k (s := 8208) (g := g1) (n := AA.length) (s2 := 45088) (g2 := gn 45088 + 1) (m := 1) (cs := tcs AA) (ds := tcl tu) (tiG_ok _) rfl rfl rfl tiTs rfl (by simp only [go_sem, ↓reduceIte, Nat.reduceEqDiff, Nat.reduceAdd, Nat.reduceMul]) (by simp only [go_sem, ↓reduceIte, Nat.reduceEqDiff, Nat.reduceAdd, Nat.reduceMul]) (Ue r5) Ur (tcs_num _) rfl (by unfold maxN; omega)) ?_
     rintro _ _ _ ⟨rfl, rfl, rfl⟩
     refine Ybq ?_
     refine ⟨i64c (by omega), KFt, gn 8208 + 1, by rw [List.length_append]; rfl, ?_, by omega, Nat.le_refl _⟩
     rw [if_pos rfl, List.take_of_length_le (by rw [tcs_len]; exact Nat.le_refl _), tcs_app]
     rfl
   ·rintro sl ro gn ⟨s0, s6, s49, s50, s51, r28896, fr, ps⟩
    dsimp only at s0 s6 s49 s50 s51 r28896
    have hu' : ¬ ((2 : Nat) : Int) < (2 : Nat) := by omega
    dsimp only at fr ps
    simp (disch := first | assumption | omega) only [go_sem, ↓reduceIte, Nat.reduceEqDiff, Nat.reduceAdd, Nat.reduceMul, zc, s0, s6, s49, s50, s51, r28896, hu']
    rw [← htt] at ps
    exact ⟨i64c (by omega), fr, ps⟩
  ·rintro sl ro gn ⟨s0, s6, fr, ps⟩
   dsimp only at s0 s6
   have hi' : ¬ ((K : Nat) : Int) < (K : Nat) := by omega
   dsimp only at fr ps
   obtain ⟨g, s5, r5, lg, ug⟩ := ps
   rw [hK] at s5
   simp (disch := first | assumption | omega) only [go_sem, ↓reduceIte, Nat.reduceEqDiff, Nat.reduceAdd, Nat.reduceMul, zc, s0, s6, hi', s5, r5]
   exact RETS_1 _ Ur ⟨fr, g, rfl, r5, lg, ug⟩
end
def setT (F : C3) (L : List T33) (v : Int) : C3 := L.foldl (fun F t => updF F t.1 t.2.1 t.2.2 v) F
theorem setT_take (F : C3) (L : List T33) (v : Int) {j : Nat} (h : j < L.length) : setT F (L.take (j + 1)) v = updF (setT F (L.take j) v) (tat L j).1 (tat L j).2.1 (tat L j).2.2 v := by
 have : L.take (j + 1) = L.take j ++ [tat L j] := by
  unfold tat
  rw [List.getD_eq_getElem?_getD, List.getElem?_eq_getElem h, List.take_succ, List.getElem?_eq_getElem h]
  rfl
 rw [this]
 unfold setT
 rw [List.foldl_append]
 rfl
theorem setT_ok {F : C3} {n : Nat} (hF : cubeOk F n) {v : Int} (h0 : 0 ≤ v) (h1 : v ≤ 1000) : ∀ (L : List T33), cubeOk (setT F L v) n := by
 intro L
 unfold setT
 induction L generalizing F with
 | nil => exact hF
 | cons t L ih =>
  refine ih (F := updF F t.1 t.2.1 t.2.2 v) fun i hi j hj k hk => ?_
  unfold updF
  split
  ·exact ⟨h0, h1⟩
  ·exact hF i hi j hj k hk
open Classical in
noncomputable def okB (F : C3) (n : Nat) : Bool := (RF (cubeL F n)).isNone && lstB F n
def filK (g : C3 → List C3 × C3) (o : List T33) (F : C3) : Nat → List C3 × C3
 | 0 => ([], F)
 | v + 1 => ((filK g o F v).1 ++ (g (setT (filK g o F v).2 o (v : Int))).1, (g (setT (filK g o F v).2 o (v : Int))).2)
noncomputable def filS (n m : Nat) : List (List T33) → C3 → List C3 × C3
 | [], F => (if okB F n then [F] else [], F)
 | o :: os, F => filK (filS n m os) o F (m + 1)
theorem filK_len {g : C3 → List C3 × C3} {c : Nat} (hg : ∀ F, (g F).1.length ≤ c) (o : List T33) (F : C3) : ∀ v, (filK g o F v).1.length ≤ v * c
 | 0 => Nat.zero_le _
 | v + 1 => by
  have h1 := filK_len hg o F v
  have h2 := hg (setT (filK g o F v).2 o (v : Int))
  rw [filK, List.length_append, Nat.add_mul, Nat.one_mul]
  omega
theorem filS_len (n m : Nat) : ∀ (os : List (List T33)) (F : C3), (filS n m os F).1.length ≤ (m + 1) ^ os.length
 | [], F => by unfold filS; split <;> simp
 | o :: os, F => by
  have := filK_len (g := filS n m os) (fun F => filS_len n m os F) o F (m + 1)
  rw [List.length_cons, Nat.pow_succ, Nat.mul_comm]
  exact this
theorem filS_ok {n m : Nat} (hm : m ≤ 1000) : ∀ (os : List (List T33)) (F : C3), cubeOk F n → cubeOk (filS n m os F).2 n
 | [], F, h => h
 | o :: os, F, h => by
  have hk : ∀ v, v ≤ m + 1 → cubeOk (filK (filS n m os) o F v).2 n := by
   intro v
   induction v with
   | zero => exact fun _ => h
   | succ v ih =>
    intro hv
    have h2 := ih (by omega)
    exact filS_ok hm os _ (setT_ok h2 (by omega) (by omega) o)
  exact hk (m + 1) (Nat.le_refl _)
theorem filK_ok {n m : Nat} (hm : m ≤ 1000) (os : List (List T33)) (o : List T33) (F : C3) (h : cubeOk F n) : ∀ v, v ≤ m + 1 → cubeOk (filK (filS n m os) o F v).2 n := by
 intro v
 induction v with
 | zero => exact fun _ => h
 | succ v ih =>
  intro hv
  have h2 := ih (by omega)
  exact filS_ok hm os _ (setT_ok h2 (by omega) (by omega) o)
noncomputable def filA (n m : Nat) : List (List T33) → C3 → List C3 × C3
 | [], F => (if (RF (cubeL F n)).isNone then [F] else [], F)
 | o :: os, F => filK (filA n m os) o F (m + 1)
theorem filK_flt {g g' : C3 → List C3 × C3} {p : C3 → Bool} (h : ∀ F, (g' F).1 = (g F).1.filter p ∧ (g' F).2 = (g F).2) (o : List T33) (F : C3) : ∀ v, (filK g' o F v).1 = (filK g o F v).1.filter p ∧ (filK g' o F v).2 = (filK g o F v).2
 | 0 => ⟨rfl, rfl⟩
 | v + 1 => by
  obtain ⟨h1, h2⟩ := filK_flt h o F v
  obtain ⟨h3, h4⟩ := h (setT (filK g o F v).2 o (v : Int))
  refine ⟨?_, ?_⟩
  ·rw [filK, filK, List.filter_append, h1, h2, h3]
  ·rw [filK, filK, h2, h4]
theorem filS_A (n m : Nat) : ∀ (os : List (List T33)) (F : C3), (filS n m os F).1 = (filA n m os F).1.filter (fun G => lstB G n) ∧ (filS n m os F).2 = (filA n m os F).2
 | [], F => by
  refine ⟨?_, rfl⟩
  show (if okB F n then [F] else []) = (if (RF (cubeL F n)).isNone then [F] else []).filter _
  unfold okB
  cases (RF (cubeL F n)).isNone
  ·rfl
  ·cases h : lstB F n
   ·simp [h]
   ·simp [h]
 | o :: os, F => filK_flt (filS_A n m os) o F (m + 1)
theorem filA_len (n m : Nat) : ∀ (os : List (List T33)) (F : C3), (filA n m os F).1.length ≤ (m + 1) ^ os.length
 | [], F => by unfold filA; split <;> simp
 | o :: os, F => by
  have := filK_len (g := filA n m os) (fun F => filA_len n m os F) o F (m + 1)
  rw [List.length_cons, Nat.pow_succ, Nat.mul_comm]
  exact this
theorem filKA_ok {n m : Nat} (hm : m ≤ 1000) (os : List (List T33)) (o : List T33) (F : C3) (h : cubeOk F n) (v : Nat) (hv : v ≤ m + 1) : cubeOk (filK (filA n m os) o F v).2 n := by
 rw [← (filK_flt (filS_A n m os) o F v).2]
 exact filK_ok hm os o F h v hv
def SVs : List Nat := [8208, 8192, 16384]
def W22v : List Nat := [4096, 4112, 12288, 4128, 4144, 8208, 8192, 28704, 12320, 12336, 16384]
structure VisP (n fv : Nat) (caps : List AV) (Sv : Nat → Nat → Prop) (P : Ro → (Nat → Nat) → List C3 → Prop) : Prop where
 sv : ∀ x y, Sv x y → x ∈ SVs
 loc : ∀ ro gn ro2 gn2 Ls, (∀ s, s ∈ SVs → ro2 s = ro s ∧ gn2 s = gn s) → P ro gn Ls → P ro2 gn2 Ls
 keep : ∀ ro gn ro' gn' Ls, P ro gn Ls → (∀ x y, x ∈ SVs → y ≤ gn x → ro' x y = ro x y) → (∀ x, gn x ≤ gn' x) → P ro' gn' Ls
 fin : XX.isIn fv = true
 shF : ∀ s g p, lift s g p (.fn fv caps) = .fn fv caps
 step : ∀ (ro : Ro) (gn : Nat → Nat) (F : C3) (gr : Nat) (Ls : List C3), P ro gn Ls → ro 12320 gr = some (cubeA F n) → gr ≤ gn 12320 → Ls.length < maxN →
  InS Tryz.prog fv (.agg [.ref 12320 gr [] 0 n] :: caps) ro gn (fun r ro' gn' => r = .tup [] ∧ Frx W22v (fun x y => Sv x y ∨ (x = 12320 ∧ y = gr)) ro gn ro' gn' ∧ P ro' gn' (Ls ++ [F]))
def W55 : List Nat := [4096, 4112, 12288, 4128, 4144, 8208, 8192, 28704, 12320, 12336, 12304, 36896, 16384]
abbrev CxF (Sv : Nat → Nat → Prop) (gr x y : Nat) : Prop := Sv x y ∨ (x = 12304 ∧ y = gr)
abbrev args55 (gO gR gV gM gF : Nat) : List AV := [.ptr 12368 gO [] 0, .ptr 12352 gR [] 0, .ptr 4112 gV [] 0, .ptr 4096 gM [] 0, .ptr 110592 gF [] 0]
structure EnvF (ro : Ro) (gn : Nat → Nat) (n m : Nat) (orbs : List (List T33)) (gO gR gV gM gF gr gs fv : Nat) (caps : List AV) : Prop where
 o : ro 12368 gO = some (.bx [.ref 12336 gs [] 0 orbs.length])
 os : ro 12336 gs = some (.row (orbs.map immT))
 r : ro 12352 gR = some (.bx [.ref 12304 gr [] 0 n])
 v : ro 4112 gV = some (.bx [.fn fv caps])
 m : ro 4096 gM = some (.bx [i64 (m : Int)])
 f : ro 110592 gF = some (.bx [.fn 83 (args55 gO gR gV gM gF)])
 ol : gO ≤ gn 12368
 sl : gs ≤ gn 12336
 rl : gR ≤ gn 12352
 vl : gV ≤ gn 4112
 ml : gM ≤ gn 4096
 fl : gF ≤ gn 110592
 gl : gr ≤ gn 12304
section
variable {W : List Nat} {C : Nat → Nat → Prop} {ro ro' : Ro} {gn gn' : Nat → Nat} {n m gO gR gV gM gF gr gs fv : Nat} {orbs : List (List T33)} {F : C3} {Ls : List C3} {caps : List AV} {Sv : Nat → Nat → Prop} {P : Ro → (Nat → Nat) → List C3 → Prop}
theorem SVs_of {x : Nat} (h : x ∈ SVs) : x = 8208 ∨ x = 8192 ∨ x = 16384 := by simpa [SVs] using h
theorem EnvF.keep (h : EnvF ro gn n m orbs gO gR gV gM gF gr gs fv caps) (fr : Frx W C ro gn ro' gn') (hC : ∀ x y, C x y → x = 8192 ∨ x = 8208 ∨ x = 12304 ∨ x = 16384) : EnvF ro' gn' n m orbs gO gR gV gM gF gr gs fv caps := by
 have k : ∀ x y, y ≤ gn x → x ≠ 8192 → x ≠ 8208 → x ≠ 12304 → x ≠ 16384 → ro' x y = ro x y := fun x y h1 h2 h3 h4 h5 => fr.kp x y h1 fun hc => by rcases hC x y hc with e | e | e | e <;> omega
 exact ⟨(k _ _ h.ol (by decide) (by decide) (by decide) (by decide)).trans h.o, (k _ _ h.sl (by decide) (by decide) (by decide) (by decide)).trans h.os, (k _ _ h.rl (by decide) (by decide) (by decide) (by decide)).trans h.r, (k _ _ h.vl (by decide) (by decide) (by decide) (by decide)).trans h.v, (k _ _ h.ml (by decide) (by decide) (by decide) (by decide)).trans h.m, (k _ _ h.fl (by decide) (by decide) (by decide) (by decide)).trans h.f,
  Nat.le_trans h.ol (fr.up _), Nat.le_trans h.sl (fr.up _), Nat.le_trans h.rl (fr.up _), Nat.le_trans h.vl (fr.up _), Nat.le_trans h.ml (fr.up _), Nat.le_trans h.fl (fr.up _), Nat.le_trans h.gl (fr.up _)⟩
def FillS (n m : Nat) (orbs : List (List T33)) (fv : Nat) (caps : List AV) (Sv : Nat → Nat → Prop) (P : Ro → (Nat → Nat) → List C3 → Prop) (d : Nat) : Prop := ∀ (ro : Ro) (gn : Nat → Nat) (F : C3) (Ls : List C3) (k gO gR gV gM gF gr gs : Nat), k + d = orbs.length → EnvF ro gn n m orbs gO gR gV gM gF gr gs fv caps → cubeOk F n → ro 12304 gr = some (cubeA F n) →
 P ro gn Ls → Ls.length + (m + 1) ^ d < maxN →
 InS Tryz.prog 83 (i64 (k : Int) :: args55 gO gR gV gM gF) ro gn (fun r ro' gn' => r = .tup [] ∧ Frx W55 (CxF Sv gr) ro gn ro' gn' ∧ ro' 12304 gr = some (cubeA (filA n m (orbs.drop k) F).2 n) ∧ P ro' gn' (Ls ++ (filA n m (orbs.drop k) F).1))
set_option maxHeartbeats 8000000 in
theorem fillBase (V : VisP n fv caps Sv P) (h1 : 1 ≤ n) (hn : n ≤ 16) : FillS n m orbs fv caps Sv P 0 := by
 intro ro gn F Ls k gO gR gV gM gF gr gs hk hE hF rr hPv hLs
 have hk' : k = orbs.length := by omega
 subst hk'
 have hn' : n ≤ maxN := by unfold maxN; omega
 rw [List.drop_length]
 have eo := hE.o
 have eos := hE.os
 have er := hE.r
 have ev := hE.v
 have cP := cubeP_of h1 hn hF
 have ck := c146 (isLLL_immC F n) cP
 have hlV := V.shF
 refine in_ofS (fn := Tryz.f83) (code := bodyOf Tryz.f83) Tryz.func83 rfl (by kernel_rfl) ?_
 intro sl hs
 have s0 : sl 0 = i64 (orbs.length : Int) := hs 0
 have s1 : sl 1 = .ptr 12368 gO [] 0 := hs 1
 have s2 : sl 2 = .ptr 12352 gR [] 0 := hs 2
 have s3 : sl 3 = .ptr 4112 gV [] 0 := hs 3
 have s4 : sl 4 = .ptr 4096 gM [] 0 := hs 4
 have s5 : sl 5 = .ptr 110592 gF [] 0 := hs 5
 dsimp only [Tryz.f83, bodyOf, Option.getD]
 simp (disch := first | assumption | omega) only [go_sem, ↓reduceIte, Nat.reduceEqDiff, Nat.reduceAdd, Nat.reduceMul, zc, s0, s1, s2, s3, s4, s5, ti3, ti33, eo, eos, er, eq_true (rfl : (orbs.length : Int) = orbs.length), List.length_map]
 have hq : exqL 8 ro [.agg [.ref 12304 gr [] 0 n]] [.agg [immC F n]] := .cons (exq_mono (exq_agg (n := 4) (.cons (exq_cube rr (by decide)) .nil)) (by decide)) .nil
 cases hf : RF (cubeL F n) with
 | none =>
  rw [hf] at ck
  refine CLL_q _ ck hq rfl rfl rfl ?_
  have hcop := cCopyR (isLLL_immC F n) h1 hn hF
  have eB : (RF (cubeL F n)).isNone = true := by rw [hf]; rfl
  rw [show filA n m [] F = (if (RF (cubeL F n)).isNone then [F] else [], F) from rfl, if_pos eB]
  have hsh : shO (blkO (ro 12304 gr)) = true := by rw [rr]; exact noRef_cube F n
  simp (disch := first | assumption | omega) only [go_sem, ↓reduceIte, Nat.reduceEqDiff, Nat.reduceAdd, Nat.reduceMul, zc, s0, s1, s2, s3, s4, s5, ti3, ti33, optA, er, ev, hsh, hlV]
  refine CLLD_q _ hcop hq rfl (noI_aggC _ _) ?_
  simp (disch := first | assumption | omega) only [go_sem, ↓reduceIte, Nat.reduceEqDiff, Nat.reduceAdd, Nat.reduceMul, zc, s0, s1, s2, s3, s4, s5, impE_agg1, zfe, ti33]
  refine CLLD_inS [⟨some [4112], []⟩, ⟨some [12352], []⟩, ⟨some [12304], [12320]⟩, ⟨some [], W22v⟩] (inX_frx (W := W22v) (C := fun x y => Sv x y ∨ (x = 12320 ∧ y = gn 12320 + 1)) (R := []) (Res := fun gn1 r ro' gn' => r = .tup [] ∧ P ro' gn' (Ls ++ [F])) (fun ro1 gn1 q1 q2 => ?_) (fun gn r ro' gn' ro2 gn1 gn2 hh hr => ?_) (by kernel_rfl) (aftB_ok (by kernel_rfl))) rfl ?_ rfl (by kernel_rfl) rfl
  ·have hmem : ∀ s, s ∈ SVs → s ∈ W22v := fun s hs => by rcases SVs_of hs with rfl | rfl | rfl <;> decide
   have hv := V.step ro1 gn1 F (gn 12320 + 1) Ls (V.loc _ _ _ _ _ (fun s hs => ⟨q1 s (.inr (hmem s hs)), q2 s (hmem s hs)⟩) (V.keep _ _ _ _ _ hPv (fun x y hx hy => by
    simp only [zdb]
    repeat' (first | rfl | rw [if_neg (by rintro ⟨rfl, rfl⟩; rcases SVs_of hx with e | e | e <;> omega)])) (fun x => by
    simp only [zda]
    repeat' (first | exact Nat.le_refl _ | (split; rename_i e; subst e; omega) | omega)))) (by rw [q1 12320 (.inr (by decide))]; simp only [↓za, ↓reduceIte, Nat.reduceEqDiff, zb, reduceCtorEq]) (by rw [q2 12320 (by decide)]; simp only [↓za, ↓reduceIte, Nat.reduceEqDiff, zb, reduceCtorEq]; exact Nat.le_refl _) (by simp only [Nat.pow_zero] at hLs; omega)
   refine hv.mono ?_
   rintro r ro' gn' ⟨k1, k2, k3⟩
   exact ⟨k2, k1, k3⟩
  ·have hmem : ∀ s, s ∈ SVs → s ∈ W22v := fun s hs => by rcases SVs_of hs with rfl | rfl | rfl <;> decide
   exact ⟨hr.1, V.loc _ _ _ _ _ (fun s hs => ⟨(hh s (hmem s hs)).1, (hh s (hmem s hs)).2.2⟩) hr.2⟩
  ·rintro r ro' gn' ⟨fr', rfl, hL'⟩
   refine Ydb ?_
   refine FING_of rfl ?_
   refine Ydb ?_
   have e12 : ro' 12304 gr = some (cubeA F n) := by rw [(fr'.off 12304 (by decide)).1]; simp only [↓za, ↓reduceIte, Nat.reduceEqDiff, zb, reduceCtorEq]; exact rr
   refine RETS_0 (.inr rfl) ⟨rfl, ?_, e12, hL'⟩
   exact (show Frx W55 (CxF Sv gr) ro gn _ _ from KFt).trans (fr'.monoB (by decide)) (by
    rintro a b (h | ⟨e1, e2⟩)
    ·exact .inr (.inl h)
    ·subst e1 e2; exact .inl (by omega))
 | some xs =>
  rw [hf] at ck
  have eB : ¬ (RF (cubeL F n)).isNone = true := by rw [hf]; exact fun h => (nomatch h)
  refine CLL_q _ ck hq rfl rfl (noI_optA _) ?_
  rw [show filA n m [] F = (if (RF (cubeL F n)).isNone then [F] else [], F) from rfl, if_neg eB]
  simp (disch := first | assumption | omega) only [go_sem, ↓reduceIte, Nat.reduceEqDiff, Nat.reduceAdd, Nat.reduceMul, zc, s0, s1, s2, s3, s4, s5, ti3, ti33, optA, impE_row, rowL]
  refine RETS_0 (.inr rfl) ⟨rfl, KFt, Ue rr, ?_⟩
  refine V.keep _ _ _ _ _ hPv (fun x y hx hy => ?_) (fun x => ?_)
  ·simp only [zdb]
   repeat' (first | rfl | rw [if_neg (by rintro ⟨rfl, rfl⟩; omega)])
  ·simp only [zda]
   repeat' (first | exact Nat.le_refl _ | (split; rename_i e; subst e; omega) | omega)
theorem CxF.s (V : VisP n fv caps Sv P) : ∀ x y, CxF Sv gr x y → x = 8192 ∨ x = 8208 ∨ x = 12304 ∨ x = 16384 := by
 rintro x y (h | h)
 ·have := SVs_of (V.sv x y h); omega
 ·exact .inr (.inr (.inl h.1))
theorem im_get {orbs : List (List T33)} {k : Nat} {o : List T33} (h : orbs[k]? = some o) : (orbs.map immT)[k]? = some (immT o) := by
 rw [List.getElem?_map, h]; rfl
set_option maxHeartbeats 16000000 in
theorem fillStep (V : VisP n fv caps Sv P) (h1 : 1 ≤ n) (hn : n ≤ 16) (hm : m ≤ 1000) (hob : ∀ o, o ∈ orbs → o.length ≤ 1000000 ∧ ∀ t, t ∈ o → t.1 < n ∧ t.2.1 < n ∧ t.2.2 < n) (hol : orbs.length ≤ 1000000) {d : Nat} (ih : FillS n m orbs fv caps Sv P d) : FillS n m orbs fv caps Sv P (d + 1) := by
 intro ro0 gn0 F Ls k gO gR gV gM gF gr gs hk hE0 hF rr hPv hLs
 have hkl : k < orbs.length := by omega
 obtain ⟨o, ho⟩ : ∃ o, orbs[k]? = some o := ⟨_, List.getElem?_eq_getElem hkl⟩
 have hdr : orbs.drop k = o :: orbs.drop (k + 1) := by
  rw [List.drop_eq_getElem_cons hkl]
  rw [List.getElem?_eq_getElem hkl] at ho
  rw [Option.some.inj ho]
 obtain ⟨ol, ot⟩ := hob o (List.mem_of_getElem? ho)
 have hn' : n ≤ maxN := by unfold maxN; omega
 have hkK : ¬ (k : Int) = orbs.length := by omega
 have hkK2 : (k : Int) < (orbs.length : Nat) := by omega
 have eo := hE0.o
 have eos := hE0.os
 have em := hE0.m
 have hig := im_get ho
 generalize hos : orbs.drop (k + 1) = os at hdr
 have hld : os.length = d := by rw [← hos, List.length_drop]; omega
 have hlen := filK_len (g := filA n m os) (c := (m + 1) ^ d) (fun F' => by have := filA_len n m os F'; rwa [hld] at this) o F
 rw [hdr, show filA n m (o :: os) F = filK (filA n m os) o F (m + 1) from rfl]
 rw [Nat.pow_succ, Nat.mul_comm] at hLs
 have em1 : ((m : Int) + 1) = ((m + 1 : Nat) : Int) := rfl
 refine in_ofS (fn := Tryz.f83) (code := bodyOf Tryz.f83) Tryz.func83 rfl (by kernel_rfl) ?_
 intro sl hs
 have s0 : sl 0 = i64 (k : Int) := hs 0
 have s1 : sl 1 = .ptr 12368 gO [] 0 := hs 1
 have s2 : sl 2 = .ptr 12352 gR [] 0 := hs 2
 have s3 : sl 3 = .ptr 4112 gV [] 0 := hs 3
 have s4 : sl 4 = .ptr 4096 gM [] 0 := hs 4
 have s5 : sl 5 = .ptr 110592 gF [] 0 := hs 5
 dsimp only [Tryz.f83, bodyOf, Option.getD]
 simp (disch := first | assumption | omega) only [go_sem, ↓reduceIte, Nat.reduceEqDiff, Nat.reduceAdd, Nat.reduceMul, zc, s0, s1, s2, s3, s4, s5, ti3, ti33, eo, eos, em, eq_false hkK, List.length_map, em1]
 refine WK_for (fun v st => st.sl 0 = i64 (k : Int) ∧ st.sl 1 = .ptr 12368 gO [] 0 ∧ st.sl 2 = .ptr 12352 gR [] 0 ∧ st.sl 5 = .ptr 110592 gF [] 0 ∧ st.sl 22 = i64 ((m + 1 : Nat) : Int) ∧ st.sl 23 = i64 (v : Int) ∧ (Frx W55 (CxF Sv gr) ro0 gn0 st.ro st.gn) ∧ (st.ro 12304 gr = some (cubeA (filK (filA n m os) o F v).2 n)) ∧ (P st.ro st.gn (Ls ++ (filK (filA n m os) o F v).1))) ((m + 1)) ?_ ?_ ?_
 ·simp only [↓za, ↓reduceIte, Nat.reduceEqDiff, zb, reduceCtorEq, rws_zero, s0, s1, s2, s3, s4, s5]
  refine ⟨rfl, Frx.refl _ _ _ _, rr, ?_⟩
  rw [show (filK (filA n m os) o F 0).1 = [] from rfl, List.append_nil]; exact hPv
 ·rintro v sl ro gn hv ⟨s0, s1, s2, s5, s22, s23, fr, pf, pl⟩
  dsimp only at s0 s1 s2 s5 s22 s23
  have hv' : (v : Int) < ((m + 1) : Nat) := by omega
  dsimp only at fr pf pl
  have hE := hE0.keep fr (CxF.s V)
  have eo := hE.o
  have eos := hE.os
  have er := hE.r
  have hFv := filKA_ok (n := n) hm os o F hF v (by omega)
  have hlv := hlen v
  have hmul : v * (m + 1) ^ d + (m + 1) ^ d ≤ (m + 1) * (m + 1) ^ d := by
   have := Nat.mul_le_mul_right ((m + 1) ^ d) (show v + 1 ≤ m + 1 by omega)
   rwa [Nat.add_mul, Nat.one_mul] at this
  have hsuc1 : (filK (filA n m os) o F (v + 1)).1 = (filK (filA n m os) o F v).1 ++ (filA n m os (setT (filK (filA n m os) o F v).2 o (v : Int))).1 := rfl
  have hsuc2 : (filK (filA n m os) o F (v + 1)).2 = (filA n m os (setT (filK (filA n m os) o F v).2 o (v : Int))).2 := rfl
  rw [hsuc1, hsuc2]
  generalize hA : filK (filA n m os) o F v = A at pf pl hFv hlv
  generalize hM : Ls ++ A.1 = Ms at pl
  have hMl : Ms.length = Ls.length + A.1.length := by rw [← hM, List.length_append]
  simp (disch := first | assumption | omega) only [go_sem, ↓reduceIte, Nat.reduceEqDiff, Nat.reduceAdd, Nat.reduceMul, zc, s0, s1, s2, s5, s22, s23, hv', hv, eo, eos, er, hig, ti3]
  refine WK_for (fun j st => st.sl 0 = i64 (k : Int) ∧ st.sl 1 = .ptr 12368 gO [] 0 ∧ st.sl 2 = .ptr 12352 gR [] 0 ∧ st.sl 5 = .ptr 110592 gF [] 0 ∧ st.sl 7 = i64 (v : Int) ∧ st.sl 22 = i64 ((m + 1 : Nat) : Int) ∧ st.sl 23 = i64 (v : Int) ∧ st.sl 29 = immT o ∧ st.sl 30 = i64 (o.length : Int) ∧ st.sl 31 = i64 (j : Int) ∧ (Frx W55 (CxF Sv gr) ro0 gn0 st.ro st.gn) ∧ (st.ro 12304 gr = some (cubeA (setT A.2 (o.take j) v) n)) ∧ (P st.ro st.gn Ms)) o.length ?_ ?_ ?_
  ·simp only [↓za, ↓reduceIte, Nat.reduceEqDiff, zb, reduceCtorEq, rws_zero, s0, s1, s2, s5, s22, s23, hv', hv]
   exact ⟨rfl, fr, pf, pl⟩
  ·rintro j sl ro gn hj ⟨s0, s1, s2, s5, s7, s22, s23, s29, s30, s31, fr, pf, pl⟩
   dsimp only at s0 s1 s2 s5 s7 s22 s23 s29 s30 s31
   have hj' : (j : Int) < (o.length : Nat) := by omega
   dsimp only at fr pf pl
   have hE := hE0.keep fr (CxF.s V)
   have er := hE.r
   have hd := tcs_drop o j hj
   obtain ⟨b1, b2, b3⟩ := ot _ (tat_mem hj)
   have hset := setT_take A.2 o (v : Int) hj
   rw [hset]
   generalize htt : tat o j = tt at hd b1 b2 b3
   generalize hG : setT A.2 (o.take j) (v : Int) = G at pf
   have b1' : (tt.1 : Int) < (n : Nat) := by omega
   have b2' : (tt.2.1 : Int) < (n : Nat) := by omega
   have b3' : (tt.2.2 : Int) < (n : Nat) := by omega
   have hpf2 : (upr (upr ro 36896 (gn 36896 + 1) (.bx [.sc (.int .i64 0), .sc (.int .i64 0), .sc (.int .i64 0)])) 36896 (gn 36896 + 1) (.bx [.sc (.int .i64 (tt.1 : Int)), .sc (.int .i64 (tt.2.1 : Int)), .sc (.int .i64 (tt.2.2 : Int))])) 12304 gr = some (cubeA G n) := by simp only [↓za, ↓reduceIte, Nat.reduceEqDiff, zb, reduceCtorEq]; exact pf
   simp (disch := first | assumption | omega) only [go_sem, ↓reduceIte, Nat.reduceEqDiff, Nat.reduceAdd, Nat.reduceMul, zc, s0, s1, s2, s5, s7, s22, s23, s29, s30, s31, hj', hj, hd, er, ti3, ti33, pf, b1, b2, b3, b1', b2', b3', cube_cells pf b1 b2, cube_bx pf b1 b2, cube_cells hpf2 b1 b2, cube_bx hpf2 b1 b2, cube_wr hpf2 b1 b2 b3, rws_get _ _ _ b1, rws_get _ _ _ b2, zfe]
   refine FIN_of (by kernel_rfl) ?_
   have v1 := fr.up 36896
   have glr := hE0.gl
   simp (disch := first | assumption | omega) only [go_sem, ↓reduceIte, Nat.reduceEqDiff, Nat.reduceAdd, Nat.reduceMul, zc, s0, s1, s2, s5, s7, s22, s23, s29, s30, s31, hj', hj]
   refine ⟨i64c (by omega), ?_, V.keep _ _ _ _ _ pl (fun x y hx hy => ?_) (fun x => ?_)⟩
   ·refine Frx.wr ?_ _ _ _ (by decide) (.inr (.inr ⟨rfl, rfl⟩))
    (repeat' first | assumption | exact Frx.refl _ _ _ _ | refine Frx.al ?_ _ _ _ (by decide) rfl | refine Frx.wr ?_ _ _ _ (by decide) (by first | (left; omega) | (right; exact ⟨rfl, rfl⟩) | (right; exact .inl ⟨rfl, rfl⟩) | (right; exact .inr ⟨rfl, rfl⟩) | (right; exact .inr (.inl ⟨rfl, rfl⟩)) | (right; exact .inr (.inr ⟨rfl, rfl⟩))))
   ·simp only [zdb]
    repeat' (first | rfl | rw [if_neg (by rintro ⟨rfl, rfl⟩; rcases SVs_of hx with e | e | e <;> omega)])
   ·simp only [zda]
    repeat' (first | exact Nat.le_refl _ | (split; rename_i e; subst e; omega) | omega)
  ·rintro sl ro gn ⟨s0, s1, s2, s5, s7, s22, s23, s29, s30, s31, fr, pf, pl⟩
   dsimp only at s0 s1 s2 s5 s7 s22 s23 s29 s30 s31
   have hj' : ¬ ((o.length : Nat) : Int) < (o.length : Nat) := by omega
   dsimp only at fr pf pl
   have hE := hE0.keep fr (CxF.s V)
   have ef := hE.f
   rw [List.take_length] at pf
   have hGo := setT_ok hFv (v := (v : Int)) (by omega) (by omega) o
   simp (disch := first | assumption | omega) only [go_sem, ↓reduceIte, Nat.reduceEqDiff, Nat.reduceAdd, Nat.reduceMul, zc, s0, s1, s2, s5, s7, s22, s23, s29, s30, s31, hj', ef]
   have I := ih ro gn (setT A.2 o (v : Int)) Ms (k + 1) gO gR gV gM gF gr gs (by omega) hE hGo pf pl (by omega)
   rw [hos] at I
   refine CLL_inS rfl I ?_
   rintro _ ro' gn' ⟨rfl, fr', pf', pl'⟩
   simp (disch := first | assumption | omega) only [go_sem, ↓reduceIte, Nat.reduceEqDiff, Nat.reduceAdd, Nat.reduceMul, zc, s0, s1, s2, s5, s7, s22, s23, s29, s30, s31, hj']
   refine ⟨i64c (by omega), fr.trans fr' (fun a b h => .inr h), pf', ?_⟩
   rw [← List.append_assoc, hM]; exact pl'
 ·rintro sl ro gn ⟨s0, s1, s2, s5, s22, s23, fr, pf, pl⟩
  dsimp only at s0 s1 s2 s5 s22 s23
  have hv' : ¬ (((m + 1) : Nat) : Int) < ((m + 1) : Nat) := by omega
  dsimp only at fr pf pl
  simp (disch := first | assumption | omega) only [go_sem, ↓reduceIte, Nat.reduceEqDiff, Nat.reduceAdd, Nat.reduceMul, zc, s0, s1, s2, s5, s22, s23, hv']
  exact RETS_0 (.inl rfl) ⟨rfl, fr, pf, pl⟩
theorem fillA (V : VisP n fv caps Sv P) (h1 : 1 ≤ n) (hn : n ≤ 16) (hm : m ≤ 1000) (hob : ∀ o, o ∈ orbs → o.length ≤ 1000000 ∧ ∀ t, t ∈ o → t.1 < n ∧ t.2.1 < n ∧ t.2.2 < n) (hol : orbs.length ≤ 1000000) : ∀ d, FillS n m orbs fv caps Sv P d
 | 0 => fillBase V h1 hn
 | d + 1 => fillStep V h1 hn hm hob hol (fillA V h1 hn hm hob hol d)
end
end Go.Proofs.YtilfkbgdpmimlaaGreat
