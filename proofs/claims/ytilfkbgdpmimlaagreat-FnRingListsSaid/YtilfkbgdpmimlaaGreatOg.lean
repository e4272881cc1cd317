/- Texts joined: Eb4. -/
import Derived.Test.YtilfkbgdpmimlaaGreatOf
set_option linter.all false
/- Enumeration of rings, the reference: all tables that fit. -/
namespace Go.Proofs.YtilfkbgdpmimlaaGreat
open Go.RowKit
set_option maxRecDepth 1000000
theorem frz_rowLs (L : List (List Int)) : frzL (L.map rowL) = L.map immL := by
 rw [frzL_map, List.map_map]
 refine List.map_congr_left fun xs _ => ?_
 show frzV (.row (xs.map i64)) = .imm (xs.map i64)
 rw [frzV, frzL_map, List.map_map]
 rfl
theorem noIL_rowLs (L : List (List Int)) : noIL (L.map rowL) = true := noIL_map _ (fun xs => noI_rowL xs) _
noncomputable def allS (n m : Nat) (Os : List (List Nat)) : Nat → List C3
 | 0 => []
 | k + 1 => allS n m Os k ++ (growS (Os.getD k []) n m ((n - 1) * (n - 1) * (n - 1)) 0 (uF (Os.getD k []) n)).1
theorem allS_len (n m : Nat) (Os : List (List Nat)) : ∀ k, (allS n m Os k).length ≤ k * (m + 1) ^ ((n - 1) * (n - 1) * (n - 1))
 | 0 => Nat.zero_le _
 | k + 1 => by
  have h1 := allS_len n m Os k
  have h2 := growS_len (Os.getD k []) n m ((n - 1) * (n - 1) * (n - 1)) 0 (uF (Os.getD k []) n)
  rw [Nat.add_mul, Nat.one_mul]
  show (allS n m Os k ++ _).length ≤ _
  rw [List.length_append]
  omega
theorem sg_zl {l : List Nat} {i : Nat} (h : i < l.length) : sg (zl l) i = l.getD i 0 := by
 unfold sg atI zl
 rw [List.getD_eq_getElem?_getD, List.getElem?_map, List.getD_eq_getElem?_getD, List.getElem?_eq_getElem h]
 exact Int.toNat_natCast _
theorem uF_col {x : List Nat} {n : Nat} (P : PrmI (zl x) n) (h0 : x.getD 0 0 = 0) : ColP (uF x n) n x := by
 have hl : x.length = n := by rw [← zl_len]; exact P.l
 have hs : ∀ i, i < n → sg (zl x) i = x.getD i 0 := fun i hi => sg_zl (by omega)
 have key : ∀ c, c ≤ n → ∀ i j, i < n → j < n → uF x c i j 0 = if (i < c ∧ j = x.getD i 0) then 1 else 0 := by
  intro c
  induction c with
  | zero => intro _ i j _ _; rw [if_neg (by omega)]; rfl
  | succ c ih =>
   intro hc i j hi hj
   have ih := ih (by omega) i j hi hj
   show updF (updF (updF (uF x c) 0 c c 1) c 0 c 1) c (x.getD c 0) 0 1 i j 0 = _
   unfold updF
   by_cases e1 : i = c ∧ j = x.getD c 0
   ·rw [if_pos ⟨e1.1, e1.2, rfl⟩, if_pos ⟨by omega, by rw [e1.1]; exact e1.2⟩]
   ·rw [if_neg (fun e => e1 ⟨e.1, e.2.1⟩)]
    by_cases e2 : c = 0
    ·subst e2
     rw [h0] at e1
     by_cases e3 : i = 0 ∧ j = 0
     ·exact absurd e3 e1
     ·rw [if_neg (fun e => e3 ⟨e.1, e.2.1⟩), if_neg (fun e => e3 ⟨e.1, e.2.1⟩), ih, if_neg (by omega), if_neg]
      rintro ⟨k1, k2⟩
      have : i = 0 := by omega
      subst this
      rw [h0] at k2
      exact e3 ⟨rfl, k2⟩
    ·rw [if_neg (fun e => e2 e.2.2.symm), if_neg (fun e => e2 e.2.2.symm), ih]
     by_cases e3 : i < c ∧ j = x.getD i 0
     ·rw [if_pos e3, if_pos ⟨by omega, e3.2⟩]
     ·rw [if_neg e3, if_neg]
      rintro ⟨k1, k2⟩
      by_cases e4 : i = c
      ·subst e4; exact e1 ⟨rfl, k2⟩
      ·exact e3 ⟨by omega, k2⟩
 intro i j hi hj
 rw [key n (Nat.le_refl _) i j hi hj]
 by_cases e : j = x.getD i 0
 ·rw [if_pos ⟨hi, e⟩, if_pos e]
 ·rw [if_neg (fun k => e k.2), if_neg e]
theorem vis_2 : ∀ n, 1 ≤ n → n ≤ 3 → 1 ≤ (vis n (n - 1) [0]).length ∧ (vis n (n - 1) [0]).length ≤ 2 ∧ ∀ l, l ∈ vis n (n - 1) [0] → l.length = n ∧ l.getD 0 0 = 0 := by
 intro n h1 h3
 have : ∀ n, n < 4 → 1 ≤ n → (decide (1 ≤ (vis n (n - 1) [0]).length) && decide ((vis n (n - 1) [0]).length ≤ 2) && (vis n (n - 1) [0]).all fun l => decide (l.length = n) && decide (l.getD 0 0 = 0)) = true := by decide
 have h := this n (by omega) h1
 simp only [Bool.and_eq_true, decide_eq_true_eq, List.all_eq_true] at h
 exact ⟨h.1.1, h.1.2, fun l hl => h.2 l hl⟩
theorem noRef_listB (n : Nat) (Ls : List C3) : noRef (listB n Ls) = true := noRef_row _ (by
 induction Ls with
 | nil => rfl
 | cons F Ls ih => rw [List.map_cons, noRefL, noRef_cube, ih]; rfl)
section
variable {n m : Nat}
set_option maxHeartbeats 16000000 in
theorem cAllS (h1 : 1 ≤ n) (h3 : n ≤ 3) (hm : m ≤ 4) : CallOK Tryz.prog 46 [i64 (n : Int), i64 (m : Int)] (listB n (allS n m (vis n (n - 1) [0]) (vis n (n - 1) [0]).length)) := by
 have hv := vis_ok n h1 h3
 obtain ⟨hv1, hv2, hv3⟩ := vis_2 n h1 h3
 have hn' : n ≤ maxN := by unfold maxN; omega
 have hpw : (n + 1) ^ (n - 1) ≤ 1000 := by
  obtain rfl | rfl | rfl : n = 1 ∨ n = 2 ∨ n = 3 := by omega
  all_goals decide
 refine call_of (fn := Tryz.f46) (code := bodyOf Tryz.f46) Tryz.func46 rfl (by kernel_rfl) (noRef_listB _ _) ?_
 intro sl hs
 have s0 : sl 0 = i64 (n : Int) := hs 0
 have s1 : sl 1 = i64 (m : Int) := hs 1
 dsimp only [Tryz.f46, bodyOf, Option.getD]
 refine Ybl ?_
 refine CLL_inS rfl (ordA (n := n) (by omega) (n - 1) _ _ [0] [] 12304 1 0 nilA (.inr (.inl rfl)) (by show 1 + (n - 1) = n; omega) (by simp) Ur Ur (.nil 0 rfl) (by show 0 + _ ≤ _; omega)) ?_
 rintro r ro1 gn1 ⟨fr1, gl1, hL1, -⟩
 rw [List.nil_append] at hL1
 have hpow : (m + 1) ^ ((n - 1) * (n - 1) * (n - 1)) ≤ 390625 := by
  refine pow_4 hm ?_
  obtain rfl | rfl | rfl : n = 1 ∨ n = 2 ∨ n = 3 := by omega
  all_goals decide
 generalize vis n (n - 1) [0] = Os at hv hv1 hv2 hv3 hL1
 have r8 : ro1 8192 1 = some (.row []) := (fr1.kp 8192 1 Ur (by omega)).trans Ur
 have u8 := fr1.up 8192
 simp only [↓za, ↓reduceIte, Nat.reduceEqDiff, zb, reduceCtorEq] at u8
 cases hL1 with
 | nil _ e => subst e; simp at hv1
 | ref _ rO lO =>
  refine Yao ?_
  obtain ⟨al, hal⟩ : ∃ al, al = immLL (Os.map zl) := ⟨_, rfl⟩
  have ha : isLL al (Os.map zl) := by rw [hal]; exact isLL_imm _
  have lOs : (Os.map zl).length = Os.length := List.length_map _
  refine WK_forG (fun k st => st.sl 0 = i64 (n : Int) ∧ st.sl 1 = i64 (m : Int) ∧ st.sl 6 = al ∧ st.sl 7 = i64 (k : Int) ∧ (∃ gl, st.sl 5 = .ref 8192 gl [] 0 (allS n m Os k).length ∧ st.ro 8192 gl = some (listB n (allS n m Os k)) ∧ gl ≤ st.gn 8192)) Os.length (.frzR 12336 gl1 ((Os.map zl).map rowL) rO (noIL_rowLs _)) ?_ ?_ ?_
  ·simp only [frzS, ↓za, ↓reduceIte, Nat.reduceEqDiff, zb, reduceCtorEq, s0, s1, frzB]
   rw [if_pos (by rw [List.length_map, List.length_map]), frz_rowLs]
   exact ⟨hal.symm, rfl, 1, rfl, r8, u8⟩
  ·rintro k sl ro gn hk ⟨s0, s1, s6, s7, pl⟩
   dsimp only at s0 s1 s6 s7
   have hk' : (k : Int) < (Os.length : Nat) := by omega
   dsimp only at pl
   obtain ⟨gl, s5, rl, ll⟩ := pl
   obtain ⟨l, hl⟩ : ∃ l, l = Os.getD k [] := ⟨_, rfl⟩
   have hlm : l ∈ Os := by
    rw [hl, List.getD_eq_getElem?_getD, List.getElem?_eq_getElem hk]
    exact List.getElem_mem hk
   have hp : isL (atA al k) (zl l) := by
    have := isLL_row ha (k := k) (by omega)
    have e : row (Os.map zl) k = zl l := by
     unfold row
     rw [hl, List.getD_eq_getElem?_getD, List.getElem?_map, List.getD_eq_getElem?_getD, List.getElem?_eq_getElem hk]
     rfl
    rwa [e] at this
   have P := hv l hlm
   obtain ⟨hll, hl0⟩ := hv3 l hlm
   have hzl : (zl l).length = n := by rw [zl_len]; exact hll
   have hal2 := allS_len n m Os k
   have hss : allS n m Os (k + 1) = allS n m Os k ++ (growS l n m ((n - 1) * (n - 1) * (n - 1)) 0 (uF l n)).1 := by rw [hl]; rfl
   rw [hss]
   generalize allS n m Os k = As at s5 rl hal2
   generalize hq : atA al k = q at hp
   simp (disch := first | assumption | omega) only [go_sem, ↓reduceIte, Nat.reduceEqDiff, Nat.reduceAdd, Nat.reduceMul, zc, s0, s1, s6, s7, hk', hk, ti2, ti3, lOs, hq, s5]
   refine WK_for (fun i st => st.sl 0 = i64 (n : Int) ∧ st.sl 1 = i64 (m : Int) ∧ st.sl 5 = .ref 8192 gl [] 0 As.length ∧ st.sl 6 = al ∧ st.sl 7 = i64 (k : Int) ∧ st.sl 8 = q ∧ st.sl 9 = bo true ∧ st.sl 10 = i64 (i : Int) ∧ st.ro 8192 gl = some (listB n As) ∧ (gl ≤ st.gn 8192)) n ?_ ?_ ?_
   ·simp only [↓za, ↓reduceIte, Nat.reduceEqDiff, zb, reduceCtorEq, rws_zero, s0, s1, s6, s7, hk', hk]
    exact ⟨s5, rfl, rl, ll⟩
   ·rintro i sl ro gn hi ⟨s0, s1, s5, s6, s7, s8, s9, s10, r8192, ll⟩
    dsimp only at s0 s1 s5 s6 s7 s8 s9 s10 r8192
    have hi' : (i : Int) < (n : Nat) := by omega
    obtain ⟨p1, p2⟩ := P.r i hi
    have p3 := P.i i hi
    obtain ⟨p4, -⟩ := P.r _ p2
    rw [p3] at p4
    have p2' : sg (zl l) i < (zl l).length := by omega
    have hi2 : i < (zl l).length := by omega
    simp (disch := first | assumption | omega) only [go_sem, ↓reduceIte, Nat.reduceEqDiff, Nat.reduceAdd, Nat.reduceMul, zc, s0, s1, s5, s6, s7, s8, s9, s10, r8192, hi', hi, ti2, ti3, ti4, p1, p4, hzl]
    exact ⟨i64c (by omega), ll⟩
   ·rintro sl ro gn ⟨s0, s1, s5, s6, s7, s8, s9, s10, r8192, ll⟩
    dsimp only at s0 s1 s5 s6 s7 s8 s9 s10 r8192
    have hi' : ¬ ((n : Nat) : Int) < (n : Nat) := by omega
    simp (disch := first | assumption | omega) only [go_sem, ↓reduceIte, Nat.reduceEqDiff, Nat.reduceAdd, Nat.reduceMul, zc, s0, s1, s5, s6, s7, s8, s9, s10, r8192, hi', ti2, ti4]
    refine CLL_pure _ (c101 hn') rfl rfl rfl ?_
    simp (disch := first | assumption | omega) only [go_sem, ↓reduceIte, Nat.reduceEqDiff, Nat.reduceAdd, Nat.reduceMul, zc, s0, s1, s5, s6, s7, s8, s9, s10, r8192, hi', impE_row, zfe, ti2]
    obtain ⟨gt, hgt⟩ : ∃ g, g = gn 53264 + 1 := ⟨_, rfl⟩
    rw [← hgt]
    refine WK_for (fun i st => st.sl 0 = i64 (n : Int) ∧ st.sl 1 = i64 (m : Int) ∧ st.sl 5 = .ref 8192 gl [] 0 As.length ∧ st.sl 6 = al ∧ st.sl 7 = i64 (k : Int) ∧ st.sl 8 = q ∧ st.sl 11 = .ref 53264 gt [] 0 n ∧ st.sl 12 = i64 (i : Int) ∧ st.ro 8192 gl = some (listB n As) ∧ (gl ≤ st.gn 8192) ∧ st.ro 53264 gt = some (cubeA (uF l i) n) ∧ (gt ≤ st.gn 53264)) n ?_ ?_ ?_
    ·simp only [↓za, ↓reduceIte, Nat.reduceEqDiff, zb, reduceCtorEq, rws_zero, s0, s1, s5, s6, s7, s8, s9, s10, r8192, hi']
     subst hgt
     exact ⟨rfl, ll, rfl, Nat.le_refl _⟩
    ·rintro i sl ro gn hi ⟨s0, s1, s5, s6, s7, s8, s11, s12, r8192, ll, r53264, lt⟩
     dsimp only at s0 s1 s5 s6 s7 s8 s11 s12 r8192 r53264
     have hi' : (i : Int) < (n : Nat) := by omega
     have h0 : 0 < n := by omega
     have h0' : (0 : Int) < (n : Nat) := by omega
     obtain ⟨p1, p2⟩ := P.r i hi
     have hi2 : i < (zl l).length := by omega
     have psg : sg (zl l) i = l.getD i 0 := sg_zl (by omega)
     rw [psg] at p1 p2
     generalize hG : uF l i = G at r53264
     generalize hpi : l.getD i 0 = pi at p1 p2
     have px' : (pi : Int) < (n : Nat) := by omega
     have hp1 : (upr ro 53264 gt (cubeA (updF G 0 i i 1) n)) 53264 gt = some (cubeA (updF G 0 i i 1) n) := by simp only [↓za, ↓reduceIte, Nat.reduceEqDiff, zb, reduceCtorEq]
     have hp2 : (upr (upr ro 53264 gt (cubeA (updF G 0 i i 1) n)) 53264 gt (cubeA (updF (updF G 0 i i 1) i 0 i 1) n)) 53264 gt = some (cubeA (updF (updF G 0 i i 1) i 0 i 1) n) := by simp only [↓za, ↓reduceIte, Nat.reduceEqDiff, zb, reduceCtorEq]
     simp (disch := first | assumption | omega) only [go_sem, ↓reduceIte, Nat.reduceEqDiff, Nat.reduceAdd, Nat.reduceMul, zc, s0, s1, s5, s6, s7, s8, s11, s12, r8192, r53264, hi', hi, kIdx_ref0, p1, p2, px', h0, h0', ti2, ti3, cube_cells r53264 h0 hi, cube_bx r53264 h0 hi, cube_wr r53264 h0 hi hi, cube_cells hp1 hi h0, cube_bx hp1 hi h0, cube_wr hp1 hi h0 hi, cube_cells hp2 hi p2, cube_bx hp2 hi p2, cube_wr hp2 hi p2 h0, rws_get _ _ _ hi, rws_get _ _ _ h0, zfe]
     refine FIN_of (by kernel_rfl) ?_
     have hu : uF l (i + 1) = updF (updF (updF G 0 i i 1) i 0 i 1) i pi 0 1 := by rw [← hG, ← hpi]; rfl
     rw [hu]
     simp (disch := first | assumption | omega) only [go_sem, ↓reduceIte, Nat.reduceEqDiff, Nat.reduceAdd, Nat.reduceMul, zc, s0, s1, s5, s6, s7, s8, s11, s12, r8192, r53264, hi', hi, ti2]
     exact ⟨i64c (by omega), ll, lt⟩
    ·rintro sl ro gn ⟨s0, s1, s5, s6, s7, s8, s11, s12, r8192, ll, r53264, lt⟩
     dsimp only at s0 s1 s5 s6 s7 s8 s11 s12 r8192 r53264
     have hi' : ¬ ((n : Nat) : Int) < (n : Nat) := by omega
     have hxx : ∀ i, i < n → l.getD i 0 < n := by
      intro i hi
      rw [← sg_zl (l := l) (by omega)]
      exact (P.r i hi).2
     simp (disch := first | assumption | omega) only [go_sem, ↓reduceIte, Nat.reduceEqDiff, Nat.reduceAdd, Nat.reduceMul, zc, s0, s1, s5, s6, s7, s8, s11, s12, r8192, r53264, hi', ti2]
     have I := growA h1 h3 hm (x := l) hxx ((n - 1) * (n - 1) * (n - 1)) ro gn (uF l n) As 0 gt gl (by omega) (uF_ok l n n) (uF_col P hl0) r53264 lt r8192 ll (by
      have : k * (m + 1) ^ ((n - 1) * (n - 1) * (n - 1)) ≤ 1 * 390625 := Nat.mul_le_mul (by omega) hpow
      omega)
     refine CLL_inS rfl I ?_
     rintro _ ro' gn' ⟨fr', pf', gl2, rfl, d2, d3, d4⟩
     simp (disch := first | assumption | omega) only [go_sem, ↓reduceIte, Nat.reduceEqDiff, Nat.reduceAdd, Nat.reduceMul, zc, s0, s1, s5, s6, s7, s8, s11, s12, r8192, r53264, hi', ti3]
     exact ⟨i64c (by omega), gl2, rfl, d2, d4⟩
  ·rintro sl ro gn ⟨s0, s1, s6, s7, pl⟩
   dsimp only at s0 s1 s6 s7
   have hk' : ¬ ((Os.length : Nat) : Int) < (Os.length : Nat) := by omega
   dsimp only at pl
   obtain ⟨gl, s5, rl, ll⟩ := pl
   simp (disch := first | assumption | omega) only [go_sem, ↓reduceIte, Nat.reduceEqDiff, Nat.reduceAdd, Nat.reduceMul, zc, s0, s1, s6, s7, hk', lOs, s5]
   simp only [zr, zb, retR, resL, outT, outL, zes, zez, oneV, zcp, zed, zfi, Ro.dl, St.ev, zhk, ↓za, ↓reduceIte, Nat.reduceEqDiff, Nat.reduceAdd, Nat.reduceLeDiff, rl, listB, List.length_map]
end
end Go.Proofs.YtilfkbgdpmimlaaGreat
