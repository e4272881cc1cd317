/- Texts joined: Ea9. -/
import Derived.Test.YtilfkbgdpmimlaaGreatOc
set_option linter.all false
/- Enumeration of rings: the rings over one dual. -/
namespace Go.Proofs.YtilfkbgdpmimlaaGreat
open Go.RowKit
set_option maxRecDepth 1000000
theorem mty3 : MTy Tryz.prog 101 104 4 3 := by
 refine ⟨by kernel_rfl, by kernel_rfl, by kernel_rfl, ?_, fun w => ?_⟩
 ·have hk : (Tryz.prog.info? 3).map (·.size) = some 1 := by kernel_rfl
  cases h : Tryz.prog.info? 3 with
  | none => rw [h] at hk; cases hk
  | some inf => exact ⟨inf, rfl, by rw [h] at hk; exact Option.some.inj hk⟩
 ·obtain ⟨inf, z, hinf, hs, hz, hzc⟩ := ((tiG_ok Tryz.prog).ok 4 _ ti4).info
  simp only [zeroValue, typeInfo, Sem.run_bind, run_program, Result.andThen_ok, hinf, Sem.run_pure, hz]
  have hk : (Tryz.prog.info? 4).bind (·.zero) = some (.bool false) := by kernel_rfl
  rw [hinf] at hk
  have hk2 : inf.zero = some (.bool false) := hk
  rw [hz] at hk2
  rw [Option.some.inj hk2]
def t3i (t : T33) : T3 := ((t.1 : Int), (t.2.1 : Int), (t.2.2 : Int))
theorem t3i_mem {t : T33} {L : List T33} : t3i t ∈ L.map t3i ↔ t ∈ L := by
 constructor
 ·intro h
  obtain ⟨u, hu, e⟩ := List.mem_map.1 h
  unfold t3i at e
  simp only [Prod.mk.injEq, Int.ofNat_inj] at e
  have : u = t := Prod.ext e.1 (Prod.ext e.2.1 e.2.2)
  rw [← this]; exact hu
 ·exact fun h => List.mem_map.2 ⟨t, h, rfl⟩
theorem addK_i (L : List T33) (t : T33) : addK (L.map t3i) (t3i t) = (adT L t).map t3i := by
 unfold addK adT
 by_cases h : t ∈ L
 ·rw [if_pos h, if_pos (t3i_mem.2 h)]
 ·rw [if_neg h, if_neg (fun e => h (t3i_mem.1 e)), List.map_append]; rfl
theorem tcs_noOwn (L : List T33) : noOwnL (tcs L) = true := by
 induction L with
 | nil => rfl
 | cons t L ih => rw [tcs_cons]; simp only [noOwnL, ih]; rfl
def itr {S : Type} (f : Nat → S → S) (s : S) : Nat → S
 | 0 => s
 | k + 1 => f k (itr f s k)
def uF (x : List Nat) : Nat → C3
 | 0 => fun _ _ _ => 0
 | i + 1 => updF (updF (updF (uF x i) 0 i i 1) i 0 i 1) i (x.getD i 0) 0 1
def kf (x : List Nat) (t : T33) : Nat := ((List.range 20).find? fun K => decide ((trI x t K).length = K)).getD 0
def trn (x : List Nat) (t : T33) : List T33 := trI x t (kf x t)
abbrev OS := List T33 × List (List T33)
def adL (s L : List T33) : List T33 := L.foldl adT s
def oSt (x : List Nat) (s : OS) (t : T33) : OS := if t ∈ s.1 then s else (adL s.1 (trn x t), s.2 ++ [trn x t])
def stC (x : List Nat) (a b : Nat) : Nat → OS → OS := fun c s => oSt x s (a + 1, b + 1, c + 1)
def stB (x : List Nat) (n a : Nat) : Nat → OS → OS := fun b s => itr (stC x a b) s (n - 1)
def stA (x : List Nat) (n : Nat) : Nat → OS → OS := fun a s => itr (stB x n a) s (n - 1)
def orbs (x : List Nat) (n : Nat) : List (List T33) := (itr (stA x n) ([], []) (n - 1)).2
structure TrnOK (x : List Nat) (n : Nat) : Prop where
 e : ∀ t : T33, t.1 < n → t.2.1 < n → t.2.2 < n → (trn x t).length = kf x t ∧ (∀ i, i < kf x t → i < (trI x t i).length) ∧ (∀ i, i ≤ kf x t → (trI x t i).length ≤ 1000000) ∧ ∀ i, i ≤ kf x t → ∀ u, u ∈ trI x t i → u.1 < n ∧ u.2.1 < n ∧ u.2.2 < n
 p : ∀ i, i < n → x.getD i 0 < n
 l : n ≤ x.length
 q : ∀ o, o ∈ orbs x n → o.length ≤ 1000000 ∧ ∀ t, t ∈ o → t.1 < n ∧ t.2.1 < n ∧ t.2.2 < n
 ql : (orbs x n).length ≤ 1000000
theorem itr_len {f : Nat → OS → OS} {c : Nat} (h : ∀ k s, (f k s).2.length ≤ s.2.length + c) (s : OS) : ∀ k, (itr f s k).2.length ≤ s.2.length + k * c
 | 0 => by rw [Nat.zero_mul]; exact Nat.le_refl _
 | k + 1 => by
  have h1 := itr_len h s k
  have h2 := h k (itr f s k)
  rw [Nat.add_mul, Nat.one_mul]
  show (f k (itr f s k)).2.length ≤ _
  omega
theorem oSt_len (x : List Nat) (s : OS) (t : T33) : (oSt x s t).2.length ≤ s.2.length + 1 := by
 unfold oSt
 split
 ·omega
 ·rw [List.length_append]; exact Nat.le_refl _
theorem stB_len (x : List Nat) {n : Nat} (hn : n ≤ 16) (a b : Nat) (s : OS) : (stB x n a b s).2.length ≤ s.2.length + 15 := by
 have := itr_len (f := stC x a b) (c := 1) (fun k s => oSt_len x s _) s (n - 1)
 unfold stB
 omega
theorem stA_len (x : List Nat) {n : Nat} (hn : n ≤ 16) (a : Nat) (s : OS) : (stA x n a s).2.length ≤ s.2.length + 225 := by
 have := itr_len (f := stB x n a) (c := 15) (fun k s => stB_len x hn a k s) s (n - 1)
 unfold stA
 omega
theorem uF_ok (x : List Nat) (n : Nat) : ∀ i, cubeOk (uF x i) n
 | 0 => fun _ _ _ _ _ _ => ⟨Int.le_refl _, (show (0 : Int) ≤ 1000 by decide)⟩
 | i + 1 => fun a ha b hb c hc => by
  have h := uF_ok x n i a ha b hb c hc
  show 0 ≤ updF (updF (updF (uF x i) 0 i i 1) i 0 i 1) i (x.getD i 0) 0 1 a b c ∧ updF (updF (updF (uF x i) 0 i i 1) i 0 i 1) i (x.getD i 0) 0 1 a b c ≤ 1000
  unfold updF
  split
  ·exact ⟨by decide, by decide⟩
  ·split
   ·exact ⟨by decide, by decide⟩
   ·split
    ·exact ⟨by decide, by decide⟩
    ·exact h
def W36 : List Nat := [9999, 4096, 4112, 8208, 16384, 28896, 36896, 45088, 12288, 4128, 4144, 8192, 28704, 12320, 12336, 12304, 12352, 12368, 73792, 94240, 106528, 110592]
structure Q36 (ro : Ro) (gn : Nat → Nat) (n m gM gV gR gr fv : Nat) (caps : List AV) : Prop where
 m : ro 4096 gM = some (.bx [i64 (m : Int)])
 v : ro 4112 gV = some (.bx [.fn fv caps])
 r : ro 12352 gR = some (.bx [.ref 12304 gr [] 0 n])
 ml : gM ≤ gn 4096
 vl : gV ≤ gn 4112
 rl : gR ≤ gn 12352
section
variable {W : List Nat} {C : Nat → Nat → Prop} {ro ro' ro0 : Ro} {gn gn' gn0 : Nat → Nat} {n m gO gR gV gM gF gr gs gp fv : Nat} {F : C3} {Ls : List C3} {x : List Nat} {caps : List AV} {Sv : Nat → Nat → Prop} {P : Ro → (Nat → Nat) → List C3 → Prop}
theorem Q36.keep (h : Q36 ro gn n m gM gV gR gr fv caps) (fr : Frx W C ro gn ro' gn') (hC : ∀ x y, C x y → x ≠ 4096 ∧ x ≠ 4112 ∧ x ≠ 12352) : Q36 ro' gn' n m gM gV gR gr fv caps := by
 have k : ∀ x y, y ≤ gn x → (x = 4096 ∨ x = 4112 ∨ x = 12352) → ro' x y = ro x y := fun x y h1 h2 => fr.kp x y h1 fun hc => by have := hC x y hc; omega
 exact ⟨(k _ _ h.ml (by omega)).trans h.m, (k _ _ h.vl (by omega)).trans h.v, (k _ _ h.rl (by omega)).trans h.r, Nat.le_trans h.ml (fr.up _), Nat.le_trans h.vl (fr.up _), Nat.le_trans h.rl (fr.up _)⟩
structure OPr (ro : Ro) (gn gn0 : Nat → Nat) (bm gO gs gm : Nat) (S : List (List T33)) (seen : List T33) : Prop where
 o : ro 12368 gO = some (.bx [.ref 12336 gs [] 0 S.length])
 s : ro 12336 gs = some (.row (S.map immT))
 m : ro 9999 gm = some (.mp bm (esK (seen.map t3i)))
 ol : gO ≤ gn 12368
 sl : gs ≤ gn 12336
 ml : gm ≤ gn 9999
 on : gn0 12368 < gO
 sn : gn0 12336 < gs
 mn : gn0 9999 < gm
theorem OPr.keep {bm gm : Nat} {S : List (List T33)} {seen : List T33} (h : OPr ro gn gn0 bm gO gs gm S seen) (fr : Frx W C ro gn ro' gn') (hC : ∀ x y, C x y → x ≠ 12368 ∧ x ≠ 12336 ∧ x ≠ 9999) : OPr ro' gn' gn0 bm gO gs gm S seen := by
 have k : ∀ x y, y ≤ gn x → (x = 12368 ∨ x = 12336 ∨ x = 9999) → ro' x y = ro x y := fun x y h1 h2 => fr.kp x y h1 fun hc => by have := hC x y hc; omega
 exact ⟨(k _ _ h.ol (by omega)).trans h.o, (k _ _ h.sl (by omega)).trans h.s, (k _ _ h.ml (by omega)).trans h.m, Nat.le_trans h.ol (fr.up _), Nat.le_trans h.sl (fr.up _), Nat.le_trans h.ml (fr.up _), h.on, h.sn, h.mn⟩
set_option maxHeartbeats 16000000 in
theorem sRings (V : VisP n fv caps Sv P) {sp : Nat} (hsp : sp = 4096 ∨ sp = 16384) (h1 : 1 ≤ n) (hn : n ≤ 16) (hm : m ≤ 1000) (T : TrnOK x n) (rp : ro0 sp gp = some (rowL (zl x))) (lp : gp ≤ gn0 sp) (hPv : P ro0 gn0 Ls) (hLs : Ls.length + (m + 1) ^ (orbs x n).length < maxN) :
  InS Tryz.prog 49 [.ref sp gp [] 0 n, i64 (m : Int), .fn fv caps] ro0 gn0 (fun r ro' gn' => r = .tup [] ∧ Frx W36 Sv ro0 gn0 ro' gn' ∧ P ro' gn' (Ls ++ (filA n m (orbs x n) (uF x n)).1)) := by
 rcases hsp with rfl | rfl
 ·have hn' : n ≤ maxN := by unfold maxN; omega
  refine in_ofS (fn := Tryz.f49) (code := bodyOf Tryz.f49) Tryz.func49 rfl (by kernel_rfl) ?_
  intro sl hs
  have s0 : sl 0 = .ref 4096 gp [] 0 n := hs 0
  have s1 : sl 1 = i64 (m : Int) := hs 1
  have s2 : sl 2 = .fn fv caps := hs 2
  have q1 : ¬ gp = gn0 4096 + 1 := by omega
  dsimp only [Tryz.f49, bodyOf, Option.getD]
  simp (disch := first | assumption | omega) only [go_sem, ↓reduceIte, Nat.reduceEqDiff, Nat.reduceAdd, Nat.reduceMul, zc, s0, s1, s2, ti3, rp, eq_false q1]
  refine CLL_q _ (c103 (by omega) hn') (.cons (exq_sc _ _ _ (by decide)) .nil) rfl rfl (noI_aggC _ _) ?_
  simp (disch := first | assumption | omega) only [go_sem, ↓reduceIte, Nat.reduceEqDiff, Nat.reduceAdd, Nat.reduceMul, zc, s0, s1, s2, impE_agg1, zfe, ti33]
  refine OPE_x rfl (op_makeMap (mt := 101) 9999 _ _ _) ?_
  rintro _ _ _ ⟨bm, rfl, rfl, rfl⟩
  simp (disch := first | assumption | omega) only [go_sem, ↓reduceIte, Nat.reduceEqDiff, Nat.reduceAdd, Nat.reduceMul, zc, s0, s1, s2, ti33]
  obtain ⟨gr, hgr⟩ : ∃ g, g = gn0 12304 + 1 := ⟨_, rfl⟩
  obtain ⟨gM, hgM⟩ : ∃ g, g = gn0 4096 + 1 := ⟨_, rfl⟩
  obtain ⟨gV, hgV⟩ : ∃ g, g = gn0 4112 + 1 := ⟨_, rfl⟩
  obtain ⟨gR, hgR⟩ : ∃ g, g = gn0 12352 + 1 := ⟨_, rfl⟩
  obtain ⟨gO, hgO⟩ : ∃ g, g = gn0 12368 + 1 := ⟨_, rfl⟩
  have grl : gn0 12304 < gr := by omega
  refine WK_for (fun i st => st.sl 0 = .ref 4096 gp [] 0 n ∧ st.sl 4 = .ptr 4096 gM [] 0 ∧ st.sl 5 = .ptr 4112 gV [] 0 ∧ st.sl 6 = i64 (n : Int) ∧ st.sl 7 = .ptr 12352 gR [] 0 ∧ st.sl 8 = .sc (.map (some bm)) ∧ st.sl 9 = .ptr 12368 gO [] 0 ∧ st.sl 25 = i64 (n : Int) ∧ st.sl 26 = i64 (i : Int) ∧ (Frx W36 (fun _ _ => False) ro0 gn0 st.ro st.gn) ∧ (Q36 st.ro st.gn n m gM gV gR gr fv caps) ∧ (gr ≤ st.gn 12304) ∧ (st.ro 12304 gr = some (cubeA (uF x i) n)) ∧ (∃ gs gm, OPr st.ro st.gn gn0 bm gO gs gm [] [])) n ?_ ?_ ?_
  ·refine Ybd ?_
   subst hgr hgM hgV hgR hgO
   refine ⟨rfl, rfl, rfl, rfl, rfl, KFt, ⟨?_, ?_, ?_, ?_, ?_, ?_⟩, Nat.le_refl _, by rw [if_pos rfl]; rfl, gn0 12336 + 1, gn0 9999 + 1, ⟨?_, ?_, ?_, ?_, ?_, ?_, ?_, ?_, ?_⟩⟩
   all_goals first | (simp only [↓za, ↓reduceIte, Nat.reduceEqDiff, zb, reduceCtorEq]; done) | (simp only [↓za, ↓reduceIte, Nat.reduceEqDiff, zb, reduceCtorEq]; rfl) | (simp only [↓za, ↓reduceIte, Nat.reduceEqDiff, zb, reduceCtorEq]; exact Nat.le_refl _) | omega
  ·rintro i sl ro gn hi ⟨s0, s4, s5, s6, s7, s8, s9, s25, s26, fr, q, gl, pf, op⟩
   dsimp only at s0 s4 s5 s6 s7 s8 s9 s25 s26
   have hi' : (i : Int) < (n : Nat) := by omega
   dsimp only at fr q gl pf op
   obtain ⟨gs, gm, op⟩ := op
   have qr := q.r
   have rp1 := (fr.kp 4096 gp lp (fun h => h)).trans rp
   have h0 : 0 < n := by omega
   have px := T.p i hi
   have pz := zl_get (Nat.lt_of_lt_of_le hi T.l)
   generalize hG : uF x i = G at pf
   generalize hpi : x.getD i 0 = pi at px pz
   have px' : (pi : Int) < (n : Nat) := by omega
   have h0' : (0 : Int) < (n : Nat) := by omega
   have hp1 : (upr ro 12304 gr (cubeA (updF G 0 i i 1) n)) 12304 gr = some (cubeA (updF G 0 i i 1) n) := by simp only [↓za, ↓reduceIte, Nat.reduceEqDiff, zb, reduceCtorEq]
   have hp2 : (upr (upr ro 12304 gr (cubeA (updF G 0 i i 1) n)) 12304 gr (cubeA (updF (updF G 0 i i 1) i 0 i 1) n)) 12304 gr = some (cubeA (updF (updF G 0 i i 1) i 0 i 1) n) := by simp only [↓za, ↓reduceIte, Nat.reduceEqDiff, zb, reduceCtorEq]
   refine Yap ?_
   refine FIN_of (by kernel_rfl) ?_
   have hu : uF x (i + 1) = updF (updF (updF G 0 i i 1) i 0 i 1) i pi 0 1 := by rw [← hG, ← hpi]; rfl
   rw [hu]
   simp (disch := first | assumption | omega) only [go_sem, ↓reduceIte, Nat.reduceEqDiff, Nat.reduceAdd, Nat.reduceMul, zc, s0, s4, s5, s6, s7, s8, s9, s25, s26, hi', hi]
   refine ⟨i64c (by omega), KFt, q.keep (W := W36) (C := fun a b => a = 12304 ∧ b = gr) KFt (by rintro a b ⟨e1, e2⟩; subst e1; omega), gl, gs, gm, op.keep (W := W36) (C := fun a b => a = 12304 ∧ b = gr) KFt (by rintro a b ⟨e1, e2⟩; subst e1; omega)⟩
  ·rintro sl ro gn ⟨s0, s4, s5, s6, s7, s8, s9, s25, s26, fr, q, gl, pf, op⟩
   dsimp only at s0 s4 s5 s6 s7 s8 s9 s25 s26
   have hi' : ¬ ((n : Nat) : Int) < (n : Nat) := by omega
   dsimp only at fr q gl pf op
   simp (disch := first | assumption | omega) only [go_sem, ↓reduceIte, Nat.reduceEqDiff, Nat.reduceAdd, Nat.reduceMul, zc, s0, s4, s5, s6, s7, s8, s9, s25, s26, hi', ti3]
   generalize hU : uF x n = U at pf
   refine WK_for (fun a st => st.sl 0 = .ref 4096 gp [] 0 n ∧ st.sl 4 = .ptr 4096 gM [] 0 ∧ st.sl 5 = .ptr 4112 gV [] 0 ∧ st.sl 6 = i64 (n : Int) ∧ st.sl 7 = .ptr 12352 gR [] 0 ∧ st.sl 8 = .sc (.map (some bm)) ∧ st.sl 9 = .ptr 12368 gO [] 0 ∧ st.sl 11 = i64 ((a + 1 : Nat) : Int) ∧ (Frx W36 (fun _ _ => False) ro0 gn0 st.ro st.gn) ∧ (Q36 st.ro st.gn n m gM gV gR gr fv caps) ∧ (gr ≤ st.gn 12304) ∧ (st.ro 12304 gr = some (cubeA U n)) ∧ (∃ gs gm, OPr st.ro st.gn gn0 bm gO gs gm (itr (stA x n) ([], []) a).2 (itr (stA x n) ([], []) a).1)) ((n - 1)) ?_ ?_ ?_
   ·simp only [↓za, ↓reduceIte, Nat.reduceEqDiff, zb, reduceCtorEq, rws_zero, s0, s4, s5, s6, s7, s8, s9, s25, s26, hi']
    exact ⟨rfl, fr, q, gl, pf, op⟩
   ·rintro a sl ro gn ha ⟨s0, s4, s5, s6, s7, s8, s9, s11, fr, q, gl, pf, op⟩
    dsimp only at s0 s4 s5 s6 s7 s8 s9 s11
    have ha' : (a : Int) < ((n - 1) : Nat) := by omega
    dsimp only at fr q gl pf op
    have ha1 : ((a + 1 : Nat) : Int) < (n : Nat) := by omega
    have hsa : itr (stA x n) ([], []) (a + 1) = stA x n a (itr (stA x n) ([], []) a) := rfl
    rw [hsa]
    have la : (itr (stA x n) ([], []) a).2.length ≤ 0 + a * 225 := itr_len (f := stA x n) (c := 225) (fun k s => stA_len x hn k s) ([], []) a
    generalize hSa : itr (stA x n) ([], []) a = Sa at op la
    simp (disch := first | assumption | omega) only [go_sem, ↓reduceIte, Nat.reduceEqDiff, Nat.reduceAdd, Nat.reduceMul, zc, s0, s4, s5, s6, s7, s8, s9, s11, ha', ha, ti3, ha1]
    refine WK_for (fun b st => st.sl 0 = .ref 4096 gp [] 0 n ∧ st.sl 4 = .ptr 4096 gM [] 0 ∧ st.sl 5 = .ptr 4112 gV [] 0 ∧ st.sl 6 = i64 (n : Int) ∧ st.sl 7 = .ptr 12352 gR [] 0 ∧ st.sl 8 = .sc (.map (some bm)) ∧ st.sl 9 = .ptr 12368 gO [] 0 ∧ st.sl 11 = i64 ((a + 1 : Nat) : Int) ∧ st.sl 12 = i64 ((b + 1 : Nat) : Int) ∧ (Frx W36 (fun _ _ => False) ro0 gn0 st.ro st.gn) ∧ (Q36 st.ro st.gn n m gM gV gR gr fv caps) ∧ (gr ≤ st.gn 12304) ∧ (st.ro 12304 gr = some (cubeA U n)) ∧ (∃ gs gm, OPr st.ro st.gn gn0 bm gO gs gm (itr (stB x n a) Sa b).2 (itr (stB x n a) Sa b).1)) ((n - 1)) ?_ ?_ ?_
    ·simp only [↓za, ↓reduceIte, Nat.reduceEqDiff, zb, reduceCtorEq, rws_zero, s0, s4, s5, s6, s7, s8, s9, s11, ha', ha]
     exact ⟨rfl, fr, q, gl, pf, op⟩
    ·rintro b sl ro gn hb ⟨s0, s4, s5, s6, s7, s8, s9, s11, s12, fr, q, gl, pf, op⟩
     dsimp only at s0 s4 s5 s6 s7 s8 s9 s11 s12
     have hb' : (b : Int) < ((n - 1) : Nat) := by omega
     dsimp only at fr q gl pf op
     have hb1 : ((b + 1 : Nat) : Int) < (n : Nat) := by omega
     have hsb : itr (stB x n a) Sa (b + 1) = stB x n a b (itr (stB x n a) Sa b) := rfl
     rw [hsb]
     have lb := itr_len (f := stB x n a) (c := 15) (fun k s => stB_len x hn a k s) Sa b
     generalize hSb : itr (stB x n a) Sa b = Sb at op lb
     refine Yec ?_
     refine WK_for (fun c st => st.sl 0 = .ref 4096 gp [] 0 n ∧ st.sl 4 = .ptr 4096 gM [] 0 ∧ st.sl 5 = .ptr 4112 gV [] 0 ∧ st.sl 6 = i64 (n : Int) ∧ st.sl 7 = .ptr 12352 gR [] 0 ∧ st.sl 8 = .sc (.map (some bm)) ∧ st.sl 9 = .ptr 12368 gO [] 0 ∧ st.sl 11 = i64 ((a + 1 : Nat) : Int) ∧ st.sl 12 = i64 ((b + 1 : Nat) : Int) ∧ st.sl 13 = i64 ((c + 1 : Nat) : Int) ∧ (Frx W36 (fun _ _ => False) ro0 gn0 st.ro st.gn) ∧ (Q36 st.ro st.gn n m gM gV gR gr fv caps) ∧ (gr ≤ st.gn 12304) ∧ (st.ro 12304 gr = some (cubeA U n)) ∧ (∃ gs gm, OPr st.ro st.gn gn0 bm gO gs gm (itr (stC x a b) Sb c).2 (itr (stC x a b) Sb c).1)) ((n - 1)) ?_ ?_ ?_
     ·simp only [↓za, ↓reduceIte, Nat.reduceEqDiff, zb, reduceCtorEq, rws_zero, s0, s4, s5, s6, s7, s8, s9, s11, s12, hb', hb]
      exact ⟨rfl, fr, q, gl, pf, op⟩
     ·rintro c sl ro gn hc ⟨s0, s4, s5, s6, s7, s8, s9, s11, s12, s13, fr, q, gl, pf, op⟩
      dsimp only at s0 s4 s5 s6 s7 s8 s9 s11 s12 s13
      have hc' : (c : Int) < ((n - 1) : Nat) := by omega
      dsimp only at fr q gl pf op
      have hc1 : ((c + 1 : Nat) : Int) < (n : Nat) := by omega
      have hsc : itr (stC x a b) Sb (c + 1) = oSt x (itr (stC x a b) Sb c) (a + 1, b + 1, c + 1) := rfl
      rw [hsc]
      have lcc := itr_len (f := stC x a b) (c := 1) (fun k s => oSt_len x s _) Sb c
      generalize hSc : itr (stC x a b) Sb c = Sc at op lcc
      obtain ⟨gs, gm, op⟩ := op
      have v1 := fr.up 73792
      have v2 := fr.up 94240
      have v3 := fr.up 106528
      have v4 := fr.up 9999
      have v5 := fr.up 12336
      have v6 := fr.up 4096
      refine Ybu ?_
      have hlk : decide (t3i (a + 1, b + 1, c + 1) ∈ Sc.1.map t3i) = decide ((a + 1, b + 1, c + 1) ∈ Sc.1) := by rw [Bool.eq_iff_iff, decide_eq_true_eq, decide_eq_true_eq]; exact t3i_mem
      refine OPE_x rfl (op_look (b := bm) (S := 9999) (g := gm) (ks := Sc.1.map t3i) (t := t3i (a + 1, b + 1, c + 1)) mty3 (by simp only [go_sem, ↓reduceIte, Nat.reduceEqDiff, Nat.reduceAdd, Nat.reduceMul]) (by simp only [go_sem, ↓reduceIte, Nat.reduceEqDiff, Nat.reduceAdd, Nat.reduceMul]; rfl) (Ue op.m)) ?_
      rintro _ _ _ ⟨rfl, rfl, rfl⟩
      rw [hlk]
      unfold oSt
      by_cases hmem : (a + 1, b + 1, c + 1) ∈ Sc.1
      ·rw [if_pos hmem, decide_eq_true hmem]
       refine Ybh ?_
       refine ⟨i64c (by omega), KFt, q.keep (W := W36) (C := fun _ _ => False) KFt (by intro _ _ h; exact h.elim), gl, pf, gs, gm, op.keep (W := W36) (C := fun _ _ => False) KFt (by intro _ _ h; exact h.elim)⟩
      ·rw [if_neg hmem, decide_eq_false hmem]
       refine Ybh ?_
       obtain ⟨e1, e2, e3, e4⟩ := T.e (a + 1, b + 1, c + 1) (by show a + 1 < n; omega) (by show b + 1 < n; omega) (by show c + 1 < n; omega)
       have I := sTurn (.inl rfl) (ro0 := upr (upr ro 73792 (gn 73792 + 1) (.bx [.sc (.int .i64 0), .sc (.int .i64 0), .sc (.int .i64 0)])) 73792 (gn 73792 + 1) (.bx [i64 ((a + 1 : Nat) : Int), i64 ((b + 1 : Nat) : Int), i64 ((c + 1 : Nat) : Int)])) (gn0 := upg gn 73792 (gn 73792 + 1)) (t := (a + 1, b + 1, c + 1)) (K := kf x (a + 1, b + 1, c + 1)) T.l (by simp only [↓za, ↓reduceIte, Nat.reduceEqDiff, zb, reduceCtorEq]; exact (fr.kp 4096 gp lp (fun h => h)).trans rp) (by simp only [↓za, ↓reduceIte, Nat.reduceEqDiff, zb, reduceCtorEq]; omega) e1 e2 e3 e4 hn'
       rw [← e1] at I
       rw [show trI x (a + 1, b + 1, c + 1) (trn x (a + 1, b + 1, c + 1)).length = trn x (a + 1, b + 1, c + 1) by rw [e1]; rfl] at I
       have eL : (trn x (a + 1, b + 1, c + 1)).length ≤ 1000000 := by have := e3 _ (Nat.le_refl _); exact this
       generalize trn x (a + 1, b + 1, c + 1) = L at I eL
       refine CLL_inS rfl I ?_
       rintro _ ro' gn' ⟨fr', g, rfl, rg, lg, ug⟩
       have frL : Frx W36 (fun _ _ => False) ro gn ro' gn' := (show Frx W36 (fun _ _ => False) ro gn _ _ from KFt).trans (fr'.mono' (by decide) (fun _ _ h => h)) (fun _ _ h => h.elim)
       have frT := fr.trans frL (fun _ _ h => h.elim)
       have qT := q.keep frL (by intro _ _ h; exact h.elim)
       have opT := op.keep frL (by intro _ _ h; exact h.elim)
       have glT := Nat.le_trans gl (frL.up 12304)
       have pfT := (frL.kp 12304 gr gl (fun h => h)).trans pf
       have ln : gn0 8208 < g := Nat.lt_of_le_of_lt (fr.up 8208) (by simp only [↓za, ↓reduceIte, Nat.reduceEqDiff, zb, reduceCtorEq] at lg; exact lg)
       refine Ydy ?_
       refine WK_forG (fun u st => st.sl 0 = .ref 4096 gp [] 0 n ∧ st.sl 4 = .ptr 4096 gM [] 0 ∧ st.sl 5 = .ptr 4112 gV [] 0 ∧ st.sl 6 = i64 (n : Int) ∧ st.sl 7 = .ptr 12352 gR [] 0 ∧ st.sl 8 = .sc (.map (some bm)) ∧ st.sl 9 = .ptr 12368 gO [] 0 ∧ st.sl 11 = i64 ((a + 1 : Nat) : Int) ∧ st.sl 12 = i64 ((b + 1 : Nat) : Int) ∧ st.sl 13 = i64 ((c + 1 : Nat) : Int) ∧ st.sl 15 = immT L ∧ st.sl 86 = immT L ∧ st.sl 87 = i64 (L.length : Int) ∧ st.sl 88 = i64 (u : Int) ∧ (Frx W36 (fun _ _ => False) ro0 gn0 st.ro st.gn) ∧ (Q36 st.ro st.gn n m gM gV gR gr fv caps) ∧ (gr ≤ st.gn 12304) ∧ (st.ro 12304 gr = some (cubeA U n)) ∧ (∃ gs gm, OPr st.ro st.gn gn0 bm gO gs gm Sc.2 (adL Sc.1 (L.take u)))) L.length (.frz 8208 g (tcs L) rg (tcs_noOwn L)) ?_ ?_ ?_
       ·simp only [frz, ↓za, ↓reduceIte, Nat.reduceEqDiff, zb, reduceCtorEq, rws_zero, s0, s4, s5, s6, s7, s8, s9, s11, s12, s13, frzA]
        have hcs : List.take (3 * L.length) (tcs L) = tcs L := List.take_of_length_le (by rw [tcs_len]; exact Nat.le_refl _)
        rw [hcs]
        refine ⟨rfl, rfl, rfl, KFt, qT.keep (W := W36) (C := fun a b => a = 8208 ∧ b = g) KFt (by rintro a b ⟨e1, e2⟩; subst e1; omega), glT, pfT, gs, gm, opT.keep (W := W36) (C := fun a b => a = 8208 ∧ b = g) KFt (by rintro a b ⟨e1, e2⟩; subst e1; omega)⟩
       ·rintro u sl ro gn hu ⟨s0, s4, s5, s6, s7, s8, s9, s11, s12, s13, s15, s86, s87, s88, fr, q, gl, pf, op⟩
        dsimp only at s0 s4 s5 s6 s7 s8 s9 s11 s12 s13 s15 s86 s87 s88
        have hu' : (u : Int) < (L.length : Nat) := by omega
        dsimp only at fr q gl pf op
        obtain ⟨gs, gm, op⟩ := op
        have hd := tcs_drop L u hu
        have v2 := fr.up 94240
        have v4 := fr.up 9999
        have hlu : u * 3 + 3 ≤ (tcs L).length := by rw [tcs_len]; omega
        have htk : adL Sc.1 (L.take (u + 1)) = adT (adL Sc.1 (L.take u)) (tat L u) := by
         have : L.take (u + 1) = L.take u ++ [tat L u] := by
          unfold tat
          rw [List.getD_eq_getElem?_getD, List.getElem?_eq_getElem hu, List.take_succ, List.getElem?_eq_getElem hu]
          rfl
         rw [this]
         unfold adL
         rw [List.foldl_append]
         rfl
        rw [htk]
        generalize tat L u = tu at hd
        generalize adL Sc.1 (L.take u) = AA at op
        refine Ydh ?_
        refine OPE_x rfl (op_put (b := bm) (S := 9999) (g := gm) (ks := AA.map t3i) (t := t3i tu) mty3 (by simp only [go_sem, ↓reduceIte, Nat.reduceEqDiff, Nat.reduceAdd, Nat.reduceMul]) (by simp only [go_sem, ↓reduceIte, Nat.reduceEqDiff, Nat.reduceAdd, Nat.reduceMul]; rfl) (by simp only [go_sem, ↓reduceIte, Nat.reduceEqDiff, Nat.reduceAdd, Nat.reduceMul]) (Ue op.m)) ?_
        rintro _ _ _ ⟨rfl, rfl⟩
        rw [addK_i]
        have hmn := op.mn
        refine Ydk ?_
        refine ⟨i64c (by omega), KFt, q.keep (W := W36) (C := fun a b => a = 9999 ∧ b = gm) KFt (by rintro a b ⟨e1, e2⟩; subst e1; omega), gl, pf, gs, gn 9999 + 1, ⟨?_, ?_, ?_, ?_, ?_, ?_, op.on, op.sn, ?_⟩⟩
        ·exact Ue op.o
        ·exact Ue op.s
        ·exact Ycb
        ·exact Ue op.ol
        ·exact Ue op.sl
        ·exact Ur
        ·omega
       ·rintro sl ro gn ⟨s0, s4, s5, s6, s7, s8, s9, s11, s12, s13, s15, s86, s87, s88, fr, q, gl, pf, op⟩
        dsimp only at s0 s4 s5 s6 s7 s8 s9 s11 s12 s13 s15 s86 s87 s88
        have hu' : ¬ ((L.length : Nat) : Int) < (L.length : Nat) := by omega
        dsimp only at fr q gl pf op
        obtain ⟨gs, gm, op⟩ := op
        have eo := op.o
        have es := op.s
        rw [List.take_length] at op
        have v3 := fr.up 106528
        have v5 := fr.up 12336
        have hsl : Sc.2.length ≤ 4294967295 := by omega
        have hon := op.on
        have hsn := op.sn
        refine Ycx ?_
        refine ⟨i64c (by omega), KFt, q.keep (W := W36) (C := fun a b => (a = 12336 ∧ b = gs) ∨ (a = 12368 ∧ b = gO)) KFt (by rintro a b (⟨e1, e2⟩ | ⟨e1, e2⟩) <;> subst e1 <;> omega), gl, pf, gn 12336 + 1, gm, ⟨?_, ?_, ?_, ?_, ?_, ?_, op.on, ?_, op.mn⟩⟩
        ·exact Yei
        ·refine Yeg ?_
         rw [List.take_of_length_le (by rw [List.length_map]; exact Nat.le_refl _)]
        ·exact Ue op.m
        ·exact Ue op.ol
        ·exact Ur
        ·exact Ue op.ml
        ·omega
     ·rintro sl ro gn ⟨s0, s4, s5, s6, s7, s8, s9, s11, s12, s13, fr, q, gl, pf, op⟩
      dsimp only at s0 s4 s5 s6 s7 s8 s9 s11 s12 s13
      have hc' : ¬ (((n - 1) : Nat) : Int) < ((n - 1) : Nat) := by omega
      dsimp only at fr q gl pf op
      have hc1 : ¬ ((n - 1 + 1 : Nat) : Int) < (n : Nat) := by omega
      simp (disch := first | assumption | omega) only [go_sem, ↓reduceIte, Nat.reduceEqDiff, Nat.reduceAdd, Nat.reduceMul, zc, s0, s4, s5, s6, s7, s8, s9, s11, s12, s13, hc', hc1]
      exact ⟨i64c (by omega), fr, q, gl, pf, op⟩
    ·rintro sl ro gn ⟨s0, s4, s5, s6, s7, s8, s9, s11, s12, fr, q, gl, pf, op⟩
     dsimp only at s0 s4 s5 s6 s7 s8 s9 s11 s12
     have hb' : ¬ (((n - 1) : Nat) : Int) < ((n - 1) : Nat) := by omega
     dsimp only at fr q gl pf op
     have hc1 : ¬ ((n - 1 + 1 : Nat) : Int) < (n : Nat) := by omega
     simp (disch := first | assumption | omega) only [go_sem, ↓reduceIte, Nat.reduceEqDiff, Nat.reduceAdd, Nat.reduceMul, zc, s0, s4, s5, s6, s7, s8, s9, s11, s12, hb', hc1]
     exact ⟨i64c (by omega), fr, q, gl, pf, op⟩
   ·rintro sl ro gn ⟨s0, s4, s5, s6, s7, s8, s9, s11, fr, q, gl, pf, op⟩
    dsimp only at s0 s4 s5 s6 s7 s8 s9 s11
    have ha' : ¬ (((n - 1) : Nat) : Int) < ((n - 1) : Nat) := by omega
    dsimp only at fr q gl pf op
    have hc1 : ¬ ((n - 1 + 1 : Nat) : Int) < (n : Nat) := by omega
    simp (disch := first | assumption | omega) only [go_sem, ↓reduceIte, Nat.reduceEqDiff, Nat.reduceAdd, Nat.reduceMul, zc, s0, s4, s5, s6, s7, s8, s9, s11, ha', hc1]
    obtain ⟨gs, gm, op⟩ := op
    have hUok : cubeOk U n := by rw [← hU]; exact uF_ok x n n
    have v1 := fr.up 110592
    have hP1 := V.keep _ _ _ _ _ hPv (fun x y _ hy => fr.kp x y hy (fun h => h)) fr.up
    have I := fillA V h1 hn hm T.q T.ql (orbs x n).length (upr (upr ro 110592 (gn 110592 + 1) (.bx [.sc .nilFunc])) 110592 (gn 110592 + 1) (.bx [.fn 83 (args55 gO gR gV gM (gn 110592 + 1))])) (upg gn 110592 (gn 110592 + 1)) U Ls 0 gO gR gV gM (gn 110592 + 1) gr gs (by omega) ⟨?_, ?_, ?_, ?_, ?_, ?_, ?_, ?_, ?_, ?_, ?_, ?_, ?_⟩ hUok (Ue pf) (V.keep _ _ _ _ _ hP1 (fun x y hx hy => ?_) (fun x => ?_)) hLs
    rotate_left
    ·exact Ue op.o
    ·exact Ue op.s
    ·exact Ue q.r
    ·exact Ue q.v
    ·exact Ue q.m
    ·exact Ycb
    ·exact Ue op.ol
    ·exact Ue op.sl
    ·exact Ue q.rl
    ·exact Ue q.vl
    ·exact Ue q.ml
    ·exact Ur
    ·exact Ue gl
    ·simp only [zdb]
     repeat' (first | rfl | rw [if_neg (by rintro ⟨rfl, rfl⟩; omega)])
    ·simp only [zda]
     repeat' (first | exact Nat.le_refl _ | (split; rename_i e; subst e; omega) | omega)
    rw [List.drop_zero] at I
    refine CLL_inS rfl I ?_
    rintro _ ro' gn' ⟨rfl, fr', pf', pl'⟩
    simp (disch := first | assumption | omega) only [go_sem, ↓reduceIte, Nat.reduceEqDiff, Nat.reduceAdd, Nat.reduceMul, zc, s0, s4, s5, s6, s7, s8, s9, s11, ha']
    refine RETS_0 (.inl rfl) ⟨rfl, ?_, pl'⟩
    have frB : Frx W36 Sv ro0 gn0 ro gn := fr.mono' (by decide) (fun _ _ h => h.elim)
    exact (show Frx W36 Sv ro0 gn0 _ _ from KFt).trans (fr'.monoB (by decide)) (by
     rintro a b (h | ⟨e1, e2⟩)
     ·exact .inr h
     ·subst e1 e2; exact .inl grl)
 ·have hn' : n ≤ maxN := by unfold maxN; omega
  refine in_ofS (fn := Tryz.f49) (code := bodyOf Tryz.f49) Tryz.func49 rfl (by kernel_rfl) ?_
  intro sl hs
  have s0 : sl 0 = .ref 16384 gp [] 0 n := hs 0
  have s1 : sl 1 = i64 (m : Int) := hs 1
  have s2 : sl 2 = .fn fv caps := hs 2
  have q1 : ¬ gp = gn0 16384 + 1 := by omega
  dsimp only [Tryz.f49, bodyOf, Option.getD]
  simp (disch := first | assumption | omega) only [go_sem, ↓reduceIte, Nat.reduceEqDiff, Nat.reduceAdd, Nat.reduceMul, zc, s0, s1, s2, ti3, rp, eq_false q1]
  refine CLL_q _ (c103 (by omega) hn') (.cons (exq_sc _ _ _ (by decide)) .nil) rfl rfl (noI_aggC _ _) ?_
  simp (disch := first | assumption | omega) only [go_sem, ↓reduceIte, Nat.reduceEqDiff, Nat.reduceAdd, Nat.reduceMul, zc, s0, s1, s2, impE_agg1, zfe, ti33]
  refine OPE_x rfl (op_makeMap (mt := 101) 9999 _ _ _) ?_
  rintro _ _ _ ⟨bm, rfl, rfl, rfl⟩
  simp (disch := first | assumption | omega) only [go_sem, ↓reduceIte, Nat.reduceEqDiff, Nat.reduceAdd, Nat.reduceMul, zc, s0, s1, s2, ti33]
  obtain ⟨gr, hgr⟩ : ∃ g, g = gn0 12304 + 1 := ⟨_, rfl⟩
  obtain ⟨gM, hgM⟩ : ∃ g, g = gn0 4096 + 1 := ⟨_, rfl⟩
  obtain ⟨gV, hgV⟩ : ∃ g, g = gn0 4112 + 1 := ⟨_, rfl⟩
  obtain ⟨gR, hgR⟩ : ∃ g, g = gn0 12352 + 1 := ⟨_, rfl⟩
  obtain ⟨gO, hgO⟩ : ∃ g, g = gn0 12368 + 1 := ⟨_, rfl⟩
  have grl : gn0 12304 < gr := by omega
  refine WK_for (fun i st => st.sl 0 = .ref 16384 gp [] 0 n ∧ st.sl 4 = .ptr 4096 gM [] 0 ∧ st.sl 5 = .ptr 4112 gV [] 0 ∧ st.sl 6 = i64 (n : Int) ∧ st.sl 7 = .ptr 12352 gR [] 0 ∧ st.sl 8 = .sc (.map (some bm)) ∧ st.sl 9 = .ptr 12368 gO [] 0 ∧ st.sl 25 = i64 (n : Int) ∧ st.sl 26 = i64 (i : Int) ∧ (Frx W36 (fun _ _ => False) ro0 gn0 st.ro st.gn) ∧ (Q36 st.ro st.gn n m gM gV gR gr fv caps) ∧ (gr ≤ st.gn 12304) ∧ (st.ro 12304 gr = some (cubeA (uF x i) n)) ∧ (∃ gs gm, OPr st.ro st.gn gn0 bm gO gs gm [] [])) n ?_ ?_ ?_
  ·refine Ybd ?_
   subst hgr hgM hgV hgR hgO
   refine ⟨rfl, rfl, rfl, rfl, rfl, KFt, ⟨?_, ?_, ?_, ?_, ?_, ?_⟩, Nat.le_refl _, by rw [if_pos rfl]; rfl, gn0 12336 + 1, gn0 9999 + 1, ⟨?_, ?_, ?_, ?_, ?_, ?_, ?_, ?_, ?_⟩⟩
   all_goals first | (simp only [↓za, ↓reduceIte, Nat.reduceEqDiff, zb, reduceCtorEq]; done) | (simp only [↓za, ↓reduceIte, Nat.reduceEqDiff, zb, reduceCtorEq]; rfl) | (simp only [↓za, ↓reduceIte, Nat.reduceEqDiff, zb, reduceCtorEq]; exact Nat.le_refl _) | omega
  ·rintro i sl ro gn hi ⟨s0, s4, s5, s6, s7, s8, s9, s25, s26, fr, q, gl, pf, op⟩
   dsimp only at s0 s4 s5 s6 s7 s8 s9 s25 s26
   have hi' : (i : Int) < (n : Nat) := by omega
   dsimp only at fr q gl pf op
   obtain ⟨gs, gm, op⟩ := op
   have qr := q.r
   have rp1 := (fr.kp 16384 gp lp (fun h => h)).trans rp
   have h0 : 0 < n := by omega
   have px := T.p i hi
   have pz := zl_get (Nat.lt_of_lt_of_le hi T.l)
   generalize hG : uF x i = G at pf
   generalize hpi : x.getD i 0 = pi at px pz
   have px' : (pi : Int) < (n : Nat) := by omega
   have h0' : (0 : Int) < (n : Nat) := by omega
   have hp1 : (upr ro 12304 gr (cubeA (updF G 0 i i 1) n)) 12304 gr = some (cubeA (updF G 0 i i 1) n) := by simp only [↓za, ↓reduceIte, Nat.reduceEqDiff, zb, reduceCtorEq]
   have hp2 : (upr (upr ro 12304 gr (cubeA (updF G 0 i i 1) n)) 12304 gr (cubeA (updF (updF G 0 i i 1) i 0 i 1) n)) 12304 gr = some (cubeA (updF (updF G 0 i i 1) i 0 i 1) n) := by simp only [↓za, ↓reduceIte, Nat.reduceEqDiff, zb, reduceCtorEq]
   refine Yap ?_
   refine FIN_of (by kernel_rfl) ?_
   have hu : uF x (i + 1) = updF (updF (updF G 0 i i 1) i 0 i 1) i pi 0 1 := by rw [← hG, ← hpi]; rfl
   rw [hu]
   simp (disch := first | assumption | omega) only [go_sem, ↓reduceIte, Nat.reduceEqDiff, Nat.reduceAdd, Nat.reduceMul, zc, s0, s4, s5, s6, s7, s8, s9, s25, s26, hi', hi]
   refine ⟨i64c (by omega), KFt, q.keep (W := W36) (C := fun a b => a = 12304 ∧ b = gr) KFt (by rintro a b ⟨e1, e2⟩; subst e1; omega), gl, gs, gm, op.keep (W := W36) (C := fun a b => a = 12304 ∧ b = gr) KFt (by rintro a b ⟨e1, e2⟩; subst e1; omega)⟩
  ·rintro sl ro gn ⟨s0, s4, s5, s6, s7, s8, s9, s25, s26, fr, q, gl, pf, op⟩
   dsimp only at s0 s4 s5 s6 s7 s8 s9 s25 s26
   have hi' : ¬ ((n : Nat) : Int) < (n : Nat) := by omega
   dsimp only at fr q gl pf op
   simp (disch := first | assumption | omega) only [go_sem, ↓reduceIte, Nat.reduceEqDiff, Nat.reduceAdd, Nat.reduceMul, zc, s0, s4, s5, s6, s7, s8, s9, s25, s26, hi', ti3]
   generalize hU : uF x n = U at pf
   refine WK_for (fun a st => st.sl 0 = .ref 16384 gp [] 0 n ∧ st.sl 4 = .ptr 4096 gM [] 0 ∧ st.sl 5 = .ptr 4112 gV [] 0 ∧ st.sl 6 = i64 (n : Int) ∧ st.sl 7 = .ptr 12352 gR [] 0 ∧ st.sl 8 = .sc (.map (some bm)) ∧ st.sl 9 = .ptr 12368 gO [] 0 ∧ st.sl 11 = i64 ((a + 1 : Nat) : Int) ∧ (Frx W36 (fun _ _ => False) ro0 gn0 st.ro st.gn) ∧ (Q36 st.ro st.gn n m gM gV gR gr fv caps) ∧ (gr ≤ st.gn 12304) ∧ (st.ro 12304 gr = some (cubeA U n)) ∧ (∃ gs gm, OPr st.ro st.gn gn0 bm gO gs gm (itr (stA x n) ([], []) a).2 (itr (stA x n) ([], []) a).1)) ((n - 1)) ?_ ?_ ?_
   ·simp only [↓za, ↓reduceIte, Nat.reduceEqDiff, zb, reduceCtorEq, rws_zero, s0, s4, s5, s6, s7, s8, s9, s25, s26, hi']
    exact ⟨rfl, fr, q, gl, pf, op⟩
   ·rintro a sl ro gn ha ⟨s0, s4, s5, s6, s7, s8, s9, s11, fr, q, gl, pf, op⟩
    dsimp only at s0 s4 s5 s6 s7 s8 s9 s11
    have ha' : (a : Int) < ((n - 1) : Nat) := by omega
    dsimp only at fr q gl pf op
    have ha1 : ((a + 1 : Nat) : Int) < (n : Nat) := by omega
    have hsa : itr (stA x n) ([], []) (a + 1) = stA x n a (itr (stA x n) ([], []) a) := rfl
    rw [hsa]
    have la : (itr (stA x n) ([], []) a).2.length ≤ 0 + a * 225 := itr_len (f := stA x n) (c := 225) (fun k s => stA_len x hn k s) ([], []) a
    generalize hSa : itr (stA x n) ([], []) a = Sa at op la
    simp (disch := first | assumption | omega) only [go_sem, ↓reduceIte, Nat.reduceEqDiff, Nat.reduceAdd, Nat.reduceMul, zc, s0, s4, s5, s6, s7, s8, s9, s11, ha', ha, ti3, ha1]
    refine WK_for (fun b st => st.sl 0 = .ref 16384 gp [] 0 n ∧ st.sl 4 = .ptr 4096 gM [] 0 ∧ st.sl 5 = .ptr 4112 gV [] 0 ∧ st.sl 6 = i64 (n : Int) ∧ st.sl 7 = .ptr 12352 gR [] 0 ∧ st.sl 8 = .sc (.map (some bm)) ∧ st.sl 9 = .ptr 12368 gO [] 0 ∧ st.sl 11 = i64 ((a + 1 : Nat) : Int) ∧ st.sl 12 = i64 ((b + 1 : Nat) : Int) ∧ (Frx W36 (fun _ _ => False) ro0 gn0 st.ro st.gn) ∧ (Q36 st.ro st.gn n m gM gV gR gr fv caps) ∧ (gr ≤ st.gn 12304) ∧ (st.ro 12304 gr = some (cubeA U n)) ∧ (∃ gs gm, OPr st.ro st.gn gn0 bm gO gs gm (itr (stB x n a) Sa b).2 (itr (stB x n a) Sa b).1)) ((n - 1)) ?_ ?_ ?_
    ·simp only [↓za, ↓reduceIte, Nat.reduceEqDiff, zb, reduceCtorEq, rws_zero, s0, s4, s5, s6, s7, s8, s9, s11, ha', ha]
     exact ⟨rfl, fr, q, gl, pf, op⟩
    ·rintro b sl ro gn hb ⟨s0, s4, s5, s6, s7, s8, s9, s11, s12, fr, q, gl, pf, op⟩
     dsimp only at s0 s4 s5 s6 s7 s8 s9 s11 s12
     have hb' : (b : Int) < ((n - 1) : Nat) := by omega
     dsimp only at fr q gl pf op
     have hb1 : ((b + 1 : Nat) : Int) < (n : Nat) := by omega
     have hsb : itr (stB x n a) Sa (b + 1) = stB x n a b (itr (stB x n a) Sa b) := rfl
     rw [hsb]
     have lb := itr_len (f := stB x n a) (c := 15) (fun k s => stB_len x hn a k s) Sa b
     generalize hSb : itr (stB x n a) Sa b = Sb at op lb
     refine Yec ?_
     refine WK_for (fun c st => st.sl 0 = .ref 16384 gp [] 0 n ∧ st.sl 4 = .ptr 4096 gM [] 0 ∧ st.sl 5 = .ptr 4112 gV [] 0 ∧ st.sl 6 = i64 (n : Int) ∧ st.sl 7 = .ptr 12352 gR [] 0 ∧ st.sl 8 = .sc (.map (some bm)) ∧ st.sl 9 = .ptr 12368 gO [] 0 ∧ st.sl 11 = i64 ((a + 1 : Nat) : Int) ∧ st.sl 12 = i64 ((b + 1 : Nat) : Int) ∧ st.sl 13 = i64 ((c + 1 : Nat) : Int) ∧ (Frx W36 (fun _ _ => False) ro0 gn0 st.ro st.gn) ∧ (Q36 st.ro st.gn n m gM gV gR gr fv caps) ∧ (gr ≤ st.gn 12304) ∧ (st.ro 12304 gr = some (cubeA U n)) ∧ (∃ gs gm, OPr st.ro st.gn gn0 bm gO gs gm (itr (stC x a b) Sb c).2 (itr (stC x a b) Sb c).1)) ((n - 1)) ?_ ?_ ?_
     ·simp only [↓za, ↓reduceIte, Nat.reduceEqDiff, zb, reduceCtorEq, rws_zero, s0, s4, s5, s6, s7, s8, s9, s11, s12, hb', hb]
      exact ⟨rfl, fr, q, gl, pf, op⟩
     ·rintro c sl ro gn hc ⟨s0, s4, s5, s6, s7, s8, s9, s11, s12, s13, fr, q, gl, pf, op⟩
      dsimp only at s0 s4 s5 s6 s7 s8 s9 s11 s12 s13
      have hc' : (c : Int) < ((n - 1) : Nat) := by omega
      dsimp only at fr q gl pf op
      have hc1 : ((c + 1 : Nat) : Int) < (n : Nat) := by omega
      have hsc : itr (stC x a b) Sb (c + 1) = oSt x (itr (stC x a b) Sb c) (a + 1, b + 1, c + 1) := rfl
      rw [hsc]
      have lcc := itr_len (f := stC x a b) (c := 1) (fun k s => oSt_len x s _) Sb c
      generalize hSc : itr (stC x a b) Sb c = Sc at op lcc
      obtain ⟨gs, gm, op⟩ := op
      have v1 := fr.up 73792
      have v2 := fr.up 94240
      have v3 := fr.up 106528
      have v4 := fr.up 9999
      have v5 := fr.up 12336
      have v6 := fr.up 16384
      refine Ybu ?_
      have hlk : decide (t3i (a + 1, b + 1, c + 1) ∈ Sc.1.map t3i) = decide ((a + 1, b + 1, c + 1) ∈ Sc.1) := by rw [Bool.eq_iff_iff, decide_eq_true_eq, decide_eq_true_eq]; exact t3i_mem
      refine OPE_x rfl (op_look (b := bm) (S := 9999) (g := gm) (ks := Sc.1.map t3i) (t := t3i (a + 1, b + 1, c + 1)) mty3 (by simp only [go_sem, ↓reduceIte, Nat.reduceEqDiff, Nat.reduceAdd, Nat.reduceMul]) (by simp only [go_sem, ↓reduceIte, Nat.reduceEqDiff, Nat.reduceAdd, Nat.reduceMul]; rfl) (Ue op.m)) ?_
      rintro _ _ _ ⟨rfl, rfl, rfl⟩
      rw [hlk]
      unfold oSt
      by_cases hmem : (a + 1, b + 1, c + 1) ∈ Sc.1
      ·rw [if_pos hmem, decide_eq_true hmem]
       refine Ybh ?_
       refine ⟨i64c (by omega), KFt, q.keep (W := W36) (C := fun _ _ => False) KFt (by intro _ _ h; exact h.elim), gl, pf, gs, gm, op.keep (W := W36) (C := fun _ _ => False) KFt (by intro _ _ h; exact h.elim)⟩
      ·rw [if_neg hmem, decide_eq_false hmem]
       refine Ybh ?_
       obtain ⟨e1, e2, e3, e4⟩ := T.e (a + 1, b + 1, c + 1) (by show a + 1 < n; omega) (by show b + 1 < n; omega) (by show c + 1 < n; omega)
       have I := sTurn (.inr rfl) (ro0 := upr (upr ro 73792 (gn 73792 + 1) (.bx [.sc (.int .i64 0), .sc (.int .i64 0), .sc (.int .i64 0)])) 73792 (gn 73792 + 1) (.bx [i64 ((a + 1 : Nat) : Int), i64 ((b + 1 : Nat) : Int), i64 ((c + 1 : Nat) : Int)])) (gn0 := upg gn 73792 (gn 73792 + 1)) (t := (a + 1, b + 1, c + 1)) (K := kf x (a + 1, b + 1, c + 1)) T.l (by simp only [↓za, ↓reduceIte, Nat.reduceEqDiff, zb, reduceCtorEq]; exact (fr.kp 16384 gp lp (fun h => h)).trans rp) (by simp only [↓za, ↓reduceIte, Nat.reduceEqDiff, zb, reduceCtorEq]; omega) e1 e2 e3 e4 hn'
       rw [← e1] at I
       rw [show trI x (a + 1, b + 1, c + 1) (trn x (a + 1, b + 1, c + 1)).length = trn x (a + 1, b + 1, c + 1) by rw [e1]; rfl] at I
       have eL : (trn x (a + 1, b + 1, c + 1)).length ≤ 1000000 := by have := e3 _ (Nat.le_refl _); exact this
       generalize trn x (a + 1, b + 1, c + 1) = L at I eL
       refine CLL_inS rfl I ?_
       rintro _ ro' gn' ⟨fr', g, rfl, rg, lg, ug⟩
       have frL : Frx W36 (fun _ _ => False) ro gn ro' gn' := (show Frx W36 (fun _ _ => False) ro gn _ _ from KFt).trans (fr'.mono' (by decide) (fun _ _ h => h)) (fun _ _ h => h.elim)
       have frT := fr.trans frL (fun _ _ h => h.elim)
       have qT := q.keep frL (by intro _ _ h; exact h.elim)
       have opT := op.keep frL (by intro _ _ h; exact h.elim)
       have glT := Nat.le_trans gl (frL.up 12304)
       have pfT := (frL.kp 12304 gr gl (fun h => h)).trans pf
       have ln : gn0 8208 < g := Nat.lt_of_le_of_lt (fr.up 8208) (by simp only [↓za, ↓reduceIte, Nat.reduceEqDiff, zb, reduceCtorEq] at lg; exact lg)
       refine Ydy ?_
       refine WK_forG (fun u st => st.sl 0 = .ref 16384 gp [] 0 n ∧ st.sl 4 = .ptr 4096 gM [] 0 ∧ st.sl 5 = .ptr 4112 gV [] 0 ∧ st.sl 6 = i64 (n : Int) ∧ st.sl 7 = .ptr 12352 gR [] 0 ∧ st.sl 8 = .sc (.map (some bm)) ∧ st.sl 9 = .ptr 12368 gO [] 0 ∧ st.sl 11 = i64 ((a + 1 : Nat) : Int) ∧ st.sl 12 = i64 ((b + 1 : Nat) : Int) ∧ st.sl 13 = i64 ((c + 1 : Nat) : Int) ∧ st.sl 15 = immT L ∧ st.sl 86 = immT L ∧ st.sl 87 = i64 (L.length : Int) ∧ st.sl 88 = i64 (u : Int) ∧ (Frx W36 (fun _ _ => False) ro0 gn0 st.ro st.gn) ∧ (Q36 st.ro st.gn n m gM gV gR gr fv caps) ∧ (gr ≤ st.gn 12304) ∧ (st.ro 12304 gr = some (cubeA U n)) ∧ (∃ gs gm, OPr st.ro st.gn gn0 bm gO gs gm Sc.2 (adL Sc.1 (L.take u)))) L.length (.frz 8208 g (tcs L) rg (tcs_noOwn L)) ?_ ?_ ?_
       ·simp only [frz, ↓za, ↓reduceIte, Nat.reduceEqDiff, zb, reduceCtorEq, rws_zero, s0, s4, s5, s6, s7, s8, s9, s11, s12, s13, frzA]
        have hcs : List.take (3 * L.length) (tcs L) = tcs L := List.take_of_length_le (by rw [tcs_len]; exact Nat.le_refl _)
        rw [hcs]
        refine ⟨rfl, rfl, rfl, KFt, qT.keep (W := W36) (C := fun a b => a = 8208 ∧ b = g) KFt (by rintro a b ⟨e1, e2⟩; subst e1; omega), glT, pfT, gs, gm, opT.keep (W := W36) (C := fun a b => a = 8208 ∧ b = g) KFt (by rintro a b ⟨e1, e2⟩; subst e1; omega)⟩
       ·rintro u sl ro gn hu ⟨s0, s4, s5, s6, s7, s8, s9, s11, s12, s13, s15, s86, s87, s88, fr, q, gl, pf, op⟩
        dsimp only at s0 s4 s5 s6 s7 s8 s9 s11 s12 s13 s15 s86 s87 s88
        have hu' : (u : Int) < (L.length : Nat) := by omega
        dsimp only at fr q gl pf op
        obtain ⟨gs, gm, op⟩ := op
        have hd := tcs_drop L u hu
        have v2 := fr.up 94240
        have v4 := fr.up 9999
        have hlu : u * 3 + 3 ≤ (tcs L).length := by rw [tcs_len]; omega
        have htk : adL Sc.1 (L.take (u + 1)) = adT (adL Sc.1 (L.take u)) (tat L u) := by
         have : L.take (u + 1) = L.take u ++ [tat L u] := by
          unfold tat
          rw [List.getD_eq_getElem?_getD, List.getElem?_eq_getElem hu, List.take_succ, List.getElem?_eq_getElem hu]
          rfl
         rw [this]
         unfold adL
         rw [List.foldl_append]
         rfl
        rw [htk]
        generalize tat L u = tu at hd
        generalize adL Sc.1 (L.take u) = AA at op
        refine Ydh ?_
        refine OPE_x rfl (op_put (b := bm) (S := 9999) (g := gm) (ks := AA.map t3i) (t := t3i tu) mty3 (by simp only [go_sem, ↓reduceIte, Nat.reduceEqDiff, Nat.reduceAdd, Nat.reduceMul]) (by simp only [go_sem, ↓reduceIte, Nat.reduceEqDiff, Nat.reduceAdd, Nat.reduceMul]; rfl) (by simp only [go_sem, ↓reduceIte, Nat.reduceEqDiff, Nat.reduceAdd, Nat.reduceMul]) (Ue op.m)) ?_
        rintro _ _ _ ⟨rfl, rfl⟩
        rw [addK_i]
        have hmn := op.mn
        refine Ydk ?_
        refine ⟨i64c (by omega), KFt, q.keep (W := W36) (C := fun a b => a = 9999 ∧ b = gm) KFt (by rintro a b ⟨e1, e2⟩; subst e1; omega), gl, pf, gs, gn 9999 + 1, ⟨?_, ?_, ?_, ?_, ?_, ?_, op.on, op.sn, ?_⟩⟩
        ·exact Ue op.o
        ·exact Ue op.s
        ·exact Ycb
        ·exact Ue op.ol
        ·exact Ue op.sl
        ·exact Ur
        ·omega
       ·rintro sl ro gn ⟨s0, s4, s5, s6, s7, s8, s9, s11, s12, s13, s15, s86, s87, s88, fr, q, gl, pf, op⟩
        dsimp only at s0 s4 s5 s6 s7 s8 s9 s11 s12 s13 s15 s86 s87 s88
        have hu' : ¬ ((L.length : Nat) : Int) < (L.length : Nat) := by omega
        dsimp only at fr q gl pf op
        obtain ⟨gs, gm, op⟩ := op
        have eo := op.o
        have es := op.s
        rw [List.take_length] at op
        have v3 := fr.up 106528
        have v5 := fr.up 12336
        have hsl : Sc.2.length ≤ 4294967295 := by omega
        have hon := op.on
        have hsn := op.sn
        refine Ycx ?_
        refine ⟨i64c (by omega), KFt, q.keep (W := W36) (C := fun a b => (a = 12336 ∧ b = gs) ∨ (a = 12368 ∧ b = gO)) KFt (by rintro a b (⟨e1, e2⟩ | ⟨e1, e2⟩) <;> subst e1 <;> omega), gl, pf, gn 12336 + 1, gm, ⟨?_, ?_, ?_, ?_, ?_, ?_, op.on, ?_, op.mn⟩⟩
        ·exact Yei
        ·refine Yeg ?_
         rw [List.take_of_length_le (by rw [List.length_map]; exact Nat.le_refl _)]
        ·exact Ue op.m
        ·exact Ue op.ol
        ·exact Ur
        ·exact Ue op.ml
        ·omega
     ·rintro sl ro gn ⟨s0, s4, s5, s6, s7, s8, s9, s11, s12, s13, fr, q, gl, pf, op⟩
      dsimp only at s0 s4 s5 s6 s7 s8 s9 s11 s12 s13
      have hc' : ¬ (((n - 1) : Nat) : Int) < ((n - 1) : Nat) := by omega
      dsimp only at fr q gl pf op
      have hc1 : ¬ ((n - 1 + 1 : Nat) : Int) < (n : Nat) := by omega
      simp (disch := first | assumption | omega) only [go_sem, ↓reduceIte, Nat.reduceEqDiff, Nat.reduceAdd, Nat.reduceMul, zc, s0, s4, s5, s6, s7, s8, s9, s11, s12, s13, hc', hc1]
      exact ⟨i64c (by omega), fr, q, gl, pf, op⟩
    ·rintro sl ro gn ⟨s0, s4, s5, s6, s7, s8, s9, s11, s12, fr, q, gl, pf, op⟩
     dsimp only at s0 s4 s5 s6 s7 s8 s9 s11 s12
     have hb' : ¬ (((n - 1) : Nat) : Int) < ((n - 1) : Nat) := by omega
     dsimp only at fr q gl pf op
     have hc1 : ¬ ((n - 1 + 1 : Nat) : Int) < (n : Nat) := by omega
     simp (disch := first | assumption | omega) only [go_sem, ↓reduceIte, Nat.reduceEqDiff, Nat.reduceAdd, Nat.reduceMul, zc, s0, s4, s5, s6, s7, s8, s9, s11, s12, hb', hc1]
     exact ⟨i64c (by omega), fr, q, gl, pf, op⟩
   ·rintro sl ro gn ⟨s0, s4, s5, s6, s7, s8, s9, s11, fr, q, gl, pf, op⟩
    dsimp only at s0 s4 s5 s6 s7 s8 s9 s11
    have ha' : ¬ (((n - 1) : Nat) : Int) < ((n - 1) : Nat) := by omega
    dsimp only at fr q gl pf op
    have hc1 : ¬ ((n - 1 + 1 : Nat) : Int) < (n : Nat) := by omega
    simp (disch := first | assumption | omega) only [go_sem, ↓reduceIte, Nat.reduceEqDiff, Nat.reduceAdd, Nat.reduceMul, zc, s0, s4, s5, s6, s7, s8, s9, s11, ha', hc1]
    obtain ⟨gs, gm, op⟩ := op
    have hUok : cubeOk U n := by rw [← hU]; exact uF_ok x n n
    have v1 := fr.up 110592
    have hP1 := V.keep _ _ _ _ _ hPv (fun x y _ hy => fr.kp x y hy (fun h => h)) fr.up
    have I := fillA V h1 hn hm T.q T.ql (orbs x n).length (upr (upr ro 110592 (gn 110592 + 1) (.bx [.sc .nilFunc])) 110592 (gn 110592 + 1) (.bx [.fn 83 (args55 gO gR gV gM (gn 110592 + 1))])) (upg gn 110592 (gn 110592 + 1)) U Ls 0 gO gR gV gM (gn 110592 + 1) gr gs (by omega) ⟨?_, ?_, ?_, ?_, ?_, ?_, ?_, ?_, ?_, ?_, ?_, ?_, ?_⟩ hUok (Ue pf) (V.keep _ _ _ _ _ hP1 (fun x y hx hy => ?_) (fun x => ?_)) hLs
    rotate_left
    ·exact Ue op.o
    ·exact Ue op.s
    ·exact Ue q.r
    ·exact Ue q.v
    ·exact Ue q.m
    ·exact Ycb
    ·exact Ue op.ol
    ·exact Ue op.sl
    ·exact Ue q.rl
    ·exact Ue q.vl
    ·exact Ue q.ml
    ·exact Ur
    ·exact Ue gl
    ·simp only [zdb]
     repeat' (first | rfl | rw [if_neg (by rintro ⟨rfl, rfl⟩; omega)])
    ·simp only [zda]
     repeat' (first | exact Nat.le_refl _ | (split; rename_i e; subst e; omega) | omega)
    rw [List.drop_zero] at I
    refine CLL_inS rfl I ?_
    rintro _ ro' gn' ⟨rfl, fr', pf', pl'⟩
    simp (disch := first | assumption | omega) only [go_sem, ↓reduceIte, Nat.reduceEqDiff, Nat.reduceAdd, Nat.reduceMul, zc, s0, s4, s5, s6, s7, s8, s9, s11, ha']
    refine RETS_0 (.inl rfl) ⟨rfl, ?_, pl'⟩
    have frB : Frx W36 Sv ro0 gn0 ro gn := fr.mono' (by decide) (fun _ _ h => h.elim)
    exact (show Frx W36 Sv ro0 gn0 _ _ from KFt).trans (fr'.monoB (by decide)) (by
     rintro a b (h | ⟨e1, e2⟩)
     ·exact .inr h
     ·subst e1 e2; exact .inl grl)
end
end Go.Proofs.YtilfkbgdpmimlaaGreat
