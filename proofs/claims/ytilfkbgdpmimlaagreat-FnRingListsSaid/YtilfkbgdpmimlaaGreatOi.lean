/- Texts joined: Eb5 Eb6. -/
import Derived.Test.YtilfkbgdpmimlaaGreatOg
set_option linter.all false
/- Enumeration of rings, the reference: the list. -/
namespace Go.Proofs.YtilfkbgdpmimlaaGreat
open Go.RowKit
set_option maxRecDepth 1000000
def listI (n : Nat) (Ls : List C3) : AV := .row (Ls.map fun F => immC F n)
theorem noRef_listI (n : Nat) (Ls : List C3) : noRef (listI n Ls) = true := noRef_row _ (pure_noRefL _ (immC_pure Ls n))
abbrev immR (n : Nat) (Ls : List C3) : AV := .imm (Ls.map fun F => immC F n)
def c0 : C3 := fun _ _ _ => 0
section
variable {ro : Ro} {a1 : Nat} {a2 : Bool} {a3 : List Value} {e : Nat} {a5 : List (Nat × Nat)} {a6 : Option IntKind} {a7 a8 : Bool} {a9 a10 : Option (Nat × Nat)} {cs : List AV}
theorem kLen_imm : kLen1 (some ⟨a1, a2, a3, some e, a5, a6, a7, a8, a9, a10⟩) ro (.imm cs) = some ⟨i64 cs.length, none, [], []⟩ := by
 simp [kLen1]
theorem kIdx_imm {k : Nat} : kIdx (some ⟨a1, a2, a3, some e, a5, a6, a7, a8, a9, a10⟩) ro (.imm cs) (i64 (k : Int)) = (match cs[k]? with
  | some c => some ⟨.iptr [c], none, [], []⟩
  | none => none) := by
 simp [kIdx]
 rfl
end
theorem frz_listB (n : Nat) (Ls : List C3) : frzV (listB n Ls) = immR n Ls := by
 have h1 : ∀ (f : Nat → AV), frzL (rws f n) = rws (fun i => frzV (f i)) n := fun f => by rw [frzL_map, rws_map]
 unfold listB
 rw [frzV, frzL_map, List.map_map]
 refine congrArg AV.imm (List.map_congr_left fun F _ => ?_)
 show frzV (cubeA F n) = immC F n
 unfold cubeA
 simp only [frzV, h1]
theorem noI_listB (n : Nat) (Ls : List C3) : noI (listB n Ls) = true := noI_row _ (noIL_map _ (fun F => noI_cube F n) _)
def lstK (n : Nat) (Os : List (List Nat)) (F : C3) (j : Nat) : Bool := (Os.take j).all fun o => decide (¬ cmp3 (cubeL (imgF (zl o) F) n) (cubeL F n) < 0)
theorem lstK_succ {n : Nat} {Os : List (List Nat)} {F : C3} {j : Nat} (h : j < Os.length) : lstK n Os F (j + 1) = (lstK n Os F j && decide (¬ cmp3 (cubeL (imgF (zl (Os.getD j [])) F) n) (cubeL F n) < 0)) := by
 have e : Os.take (j + 1) = Os.take j ++ [Os.getD j []] := by
  rw [List.getD_eq_getElem?_getD, List.getElem?_eq_getElem h, List.take_succ, List.getElem?_eq_getElem h]
  rfl
 unfold lstK
 rw [e, List.all_append]
 simp only [List.all_cons, List.all_nil, Bool.and_true]
theorem nrLc (F : C3) (n : Nat) : noRefL (rws (fun i => AV.row (rws (fun j => AV.row (rws (fun k => i64 (F i j k)) n)) n)) n) = true := by
 have := noRef_cube F n
 unfold cubeA at this
 simpa only [noRef] using this
theorem nrLi (F : C3) (n : Nat) : noRefL (rws (fun i => AV.imm (rws (fun j => AV.imm (rws (fun k => i64 (F i j k)) n)) n)) n) = true := by
 have := pure_noRefL [immC F n] (by simp only [pureL, isLLL_pure (isLLL_immC F n), Bool.and_self])
 simpa only [noRefL, noRef, Bool.and_true] using this
theorem imR_drop {n : Nat} {As : List C3} {i : Nat} (h : i < As.length) : (As.map fun F => immC F n).drop i = immC (As.getD i c0) n :: (As.map fun F => immC F n).drop (i + 1) := by
 rw [List.drop_eq_getElem_cons (by rw [List.length_map]; exact h), List.getElem_map, List.getD_eq_getElem?_getD, List.getElem?_eq_getElem h]
 rfl
def befN (n : Nat) (K : List C3) (F : C3) : Nat := (K.takeWhile fun G => decide (cmp3 (cubeL G n) (cubeL F n) < 0)).length
def insR (n : Nat) (K : List C3) (F : C3) : List C3 := K.take (befN n K F) ++ F :: K.drop (befN n K F)
def kepS (n : Nat) (Os : List (List Nat)) (As : List C3) : Nat → List C3
 | 0 => []
 | i + 1 => if lstK n Os (As.getD i c0) Os.length then insR n (kepS n Os As i) (As.getD i c0) else kepS n Os As i
theorem befN_le (n : Nat) (K : List C3) (F : C3) : befN n K F ≤ K.length := (List.takeWhile_sublist _).length_le
theorem befN_lt {n : Nat} {K : List C3} {F : C3} : ∀ {k : Nat}, k < befN n K F → ∃ G, K[k]? = some G ∧ cmp3 (cubeL G n) (cubeL F n) < 0 := by
 induction K with
 | nil => intro k h; simp [befN] at h
 | cons G K ih =>
  intro k h
  unfold befN at h
  rw [List.takeWhile_cons] at h
  split at h
  ·rename_i hd
   cases k with
   | zero => exact ⟨G, rfl, of_decide_eq_true hd⟩
   | succ k => exact ih (by simpa [befN] using h)
  ·simp at h
theorem befN_at {n : Nat} {K : List C3} {F G : C3} (h : K[befN n K F]? = some G) : ¬ cmp3 (cubeL G n) (cubeL F n) < 0 := by
 induction K with
 | nil => simp at h
 | cons H K ih =>
  unfold befN at h
  rw [List.takeWhile_cons] at h
  split at h
  ·rename_i hd
   exact ih (by simpa [befN] using h)
  ·rename_i hd
   simp at h
   subst h
   simpa using hd
theorem insR_len (n : Nat) (K : List C3) (F : C3) : (insR n K F).length = K.length + 1 := by
 have := befN_le n K F
 unfold insR
 rw [List.length_append, List.length_take, List.length_cons, List.length_drop]
 omega
theorem kepS_len (n : Nat) (Os : List (List Nat)) (As : List C3) : ∀ i, (kepS n Os As i).length ≤ i
 | 0 => Nat.zero_le _
 | i + 1 => by
  have := kepS_len n Os As i
  unfold kepS
  split
  ·rw [insR_len]; omega
  ·omega
section
variable {n m : Nat}
set_option maxHeartbeats 16000000 in
theorem cListS (h1 : 1 ≤ n) (h3 : n ≤ 3) (hm : m ≤ 4) : CallOK Tryz.prog 24 [i64 (n : Int), i64 (m : Int)] (listI n (kepS n (vis n (n - 1) [0]) (allS n m (vis n (n - 1) [0]) (vis n (n - 1) [0]).length) (allS n m (vis n (n - 1) [0]) (vis n (n - 1) [0]).length).length)) := by
 have hv := vis_ok n h1 h3
 obtain ⟨hv1, hv2, hv3⟩ := vis_2 n h1 h3
 have hn' : n ≤ maxN := by unfold maxN; omega
 have hpw : (n + 1) ^ (n - 1) ≤ 1000 := by
  obtain rfl | rfl | rfl : n = 1 ∨ n = 2 ∨ n = 3 := by omega
  all_goals decide
 have hal := allS_len n m (vis n (n - 1) [0]) (vis n (n - 1) [0]).length
 have hpow : (m + 1) ^ ((n - 1) * (n - 1) * (n - 1)) ≤ 390625 := by
  refine pow_4 hm ?_
  obtain rfl | rfl | rfl : n = 1 ∨ n = 2 ∨ n = 3 := by omega
  all_goals decide
 have hal2 : (allS n m (vis n (n - 1) [0]) (vis n (n - 1) [0]).length).length ≤ 1000000 := by
  have : (vis n (n - 1) [0]).length * (m + 1) ^ ((n - 1) * (n - 1) * (n - 1)) ≤ 2 * 390625 := Nat.mul_le_mul hv2 hpow
  omega
 have cA := cAllS h1 h3 hm
 refine call_of (fn := Tryz.f24) (code := bodyOf Tryz.f24) Tryz.func24 rfl (by kernel_rfl) (noRef_listI _ _) ?_
 intro sl hs
 have s0 : sl 0 = i64 (n : Int) := hs 0
 have s1 : sl 1 = i64 (m : Int) := hs 1
 dsimp only [Tryz.f24, bodyOf, Option.getD]
 refine Ybl ?_
 refine CLL_inS rfl (InS_frz (r := listB n (allS n m (vis n (n - 1) [0]) (vis n (n - 1) [0]).length)) cA (noI_listB _ _)) ?_
 rintro _ _ _ ⟨rfl, rfl, rfl⟩
 rw [frz_listB]
 generalize allS n m (vis n (n - 1) [0]) (vis n (n - 1) [0]).length = As at hal2
 refine Ybl ?_
 refine CLL_inS rfl (ordA (n := n) (by omega) (n - 1) _ _ [0] [] 8256 1 0 nilA (.inl rfl) (by show 1 + (n - 1) = n; omega) (by simp) Ur Ur (.nil 0 rfl) (by show 0 + _ ≤ _; omega)) ?_
 rintro r ro1 gn1 ⟨fr1, gl1, hL1, -⟩
 rw [List.nil_append] at hL1
 clear hal hpow cA
 generalize vis n (n - 1) [0] = Os at hv hv1 hv2 hv3 hL1
 cases hL1 with
 | nil _ e => subst e; simp at hv1
 | ref _ rO lO =>
  refine Yao ?_
  obtain ⟨ol, hol⟩ : ∃ ol, ol = immLL (Os.map zl) := ⟨_, rfl⟩
  have ha : isLL ol (Os.map zl) := by rw [hol]; exact isLL_imm _
  have lOs : (Os.map zl).length = Os.length := List.length_map _
  refine WK_forG (fun i st => st.sl 0 = i64 (n : Int) ∧ st.sl 1 = i64 (m : Int) ∧ st.sl 5 = immR n As ∧ st.sl 6 = ol ∧ st.sl 8 = i64 (i : Int) ∧ (∃ sk gk, (sk = 8288 ∨ sk = 65536) ∧ st.sl 7 = .ref sk gk [] 0 (kepS n Os As i).length ∧ st.ro sk gk = some (listI n (kepS n Os As i)) ∧ gk ≤ st.gn sk)) As.length (.frzR 12336 gl1 ((Os.map zl).map rowL) (Ue rO) (noIL_rowLs _)) ?_ ?_ ?_
  ·simp only [frzS, ↓za, ↓reduceIte, Nat.reduceEqDiff, zb, reduceCtorEq, s0, s1, frzB]
   rw [if_pos (by rw [List.length_map, List.length_map]), frz_rowLs]
   exact ⟨hol.symm, rfl, 8288, gn1 8288 + 1, .inl rfl, rfl, by rw [if_neg (by omega), if_pos ⟨rfl, rfl⟩]; rfl, by rw [if_pos rfl]; exact Nat.le_refl _⟩
  ·rintro i sl ro gn hi ⟨s0, s1, s5, s6, s8, ps⟩
   dsimp only at s0 s1 s5 s6 s8
   have hi' : (i : Int) < (As.length : Nat) := by omega
   dsimp only at ps
   obtain ⟨sk, gk, hsk, s7, rk, lk⟩ := ps
   obtain ⟨F, hF⟩ : ∃ F, F = As.getD i c0 := ⟨_, rfl⟩
   have hdF := imR_drop (n := n) hi
   rw [← hF] at hdF
   have hgF := get_drop hdF
   have lAs : (As.map fun F => immC F n).length = As.length := List.length_map _
   have hpi : pureA (immC F n) = true := isLLL_pure (isLLL_immC F n)
   have hks : kepS n Os As (i + 1) = if lstK n Os F Os.length then insR n (kepS n Os As i) F else kepS n Os As i := by rw [hF]; rfl
   have hkl := kepS_len n Os As i
   rw [hks]
   generalize kepS n Os As i = K at s7 rk hkl
   rcases hsk with rfl | rfl
   ·simp (disch := first | assumption | omega) only [go_sem, ↓reduceIte, Nat.reduceEqDiff, Nat.reduceAdd, Nat.reduceMul, zc, s0, s1, s5, s6, s8, hi', hi, ti3, s7, lAs, kLen_imm]
    refine WK_for (fun j st => st.sl 0 = i64 (n : Int) ∧ st.sl 1 = i64 (m : Int) ∧ st.sl 5 = immR n As ∧ st.sl 6 = ol ∧ st.sl 7 = .ref 8288 gk [] 0 K.length ∧ st.sl 8 = i64 (i : Int) ∧ st.sl 9 = bo (lstK n Os F j) ∧ st.sl 10 = i64 (j : Int) ∧ (st.ro 8288 gk = some (listI n K)) ∧ (gk ≤ st.gn 8288)) Os.length ?_ ?_ ?_
    ·simp only [↓za, ↓reduceIte, Nat.reduceEqDiff, zb, reduceCtorEq, rws_zero, s0, s1, s5, s6, s8, hi', hi]
     exact ⟨s7, rfl, rfl, rk, lk⟩
    ·rintro j sl ro gn hj ⟨s0, s1, s5, s6, s7, s8, s9, s10, rk, lk⟩
     dsimp only at s0 s1 s5 s6 s7 s8 s9 s10
     have hj' : (j : Int) < (Os.length : Nat) := by omega
     rw [lstK_succ hj]
     cases hb : lstK n Os F j
     ·rw [hb] at s9
      refine Yed ?_
      refine FIN_of (by kernel_rfl) ?_
      refine Ybn ?_
      exact ⟨rfl, i64c (by omega), rk, lk⟩
     ·rw [hb] at s9
      obtain ⟨l, hl⟩ : ∃ l, l = Os.getD j [] := ⟨_, rfl⟩
      have hlm : l ∈ Os := by
       rw [hl, List.getD_eq_getElem?_getD, List.getElem?_eq_getElem hj]
       exact List.getElem_mem hj
      have hp : isL (atA ol j) (zl l) := by
       have := isLL_row ha (k := j) (by omega)
       have e : row (Os.map zl) j = zl l := by
        unfold row
        rw [hl, List.getD_eq_getElem?_getD, List.getElem?_map, List.getD_eq_getElem?_getD, List.getElem?_eq_getElem hj]
        rfl
       rwa [e] at this
      rw [← hl]
      have P := hv l hlm
      refine Ycs ?_
      refine CLLD_pure _ (cImage (isLLL_immC F n) hp P hn') (by simp only [pureL, hpi, isL_pure hp, Bool.and_self]) rfl ?_
      refine Ycz ?_
      refine CLLD_q _ (cBefore (isLLL_immC (imgF (zl l) F) n) (isLLL_immC F n) hn') (.cons (exq_cube Ur (by decide)) (.cons (exq_mono (exq_LLL (isLLL_immC F n) (Nat.le_refl 4)) (by decide)) .nil)) rfl rfl ?_
      simp (disch := first | assumption | omega) only [go_sem, ↓reduceIte, Nat.reduceEqDiff, Nat.reduceAdd, Nat.reduceMul, zc, s0, s1, s5, s6, s7, s8, s9, s10, hj', hj]
      refine FIN_of (by kernel_rfl) ?_
      refine Ybn ?_
      exact ⟨congrArg bo (decide_not).symm, i64c (by omega), rk, lk⟩
    ·rintro sl ro gn ⟨s0, s1, s5, s6, s7, s8, s9, s10, rk, lk⟩
     dsimp only at s0 s1 s5 s6 s7 s8 s9 s10
     have hj' : ¬ ((Os.length : Nat) : Int) < (Os.length : Nat) := by omega
     cases hb : lstK n Os F Os.length
     ·rw [hb] at s9
      refine Ybm ?_
      exact ⟨i64c (by omega), 8288, gk, by decide, rfl, rk, lk⟩
     ·rw [hb] at s9
      have hb1 := befN_le n K F
      have lKm : (K.map fun F => immC F n).length = K.length := List.length_map _
      have hdt : List.take (K.length - befN n K F) (List.drop (befN n K F) (K.map fun F => immC F n)) = (K.drop (befN n K F)).map fun F => immC F n := by
       rw [List.take_of_length_le (by rw [List.length_drop, List.length_map]; exact Nat.le_refl _), List.map_drop]
      have hda : ((K.drop (befN n K F)).map fun F => immC F n).all zez = true := List.all_eq_true.2 fun a h => by obtain ⟨G, -, rfl⟩ := List.mem_map.1 h; rfl
      have hdl : ((K.drop (befN n K F)).map fun F => immC F n).length = K.length - befN n K F := by rw [List.length_map, List.length_drop]
      have hbd : 1 + (K.length - befN n K F) ≤ 4294967296 := by omega
      have htt : List.take (befN n K F) (K.map fun F => immC F n) = (K.take (befN n K F)).map fun F => immC F n := by rw [List.map_take]
      have hta : ((K.take (befN n K F)).map fun F => immC F n).all zez = true := List.all_eq_true.2 fun a h => by obtain ⟨G, -, rfl⟩ := List.mem_map.1 h; rfl
      have htl : ((K.take (befN n K F)).map fun F => immC F n).length = befN n K F := by rw [List.length_map, List.length_take]; omega
      have htb : befN n K F ≤ 4294967296 := by omega
      have hxt : List.take (1 + (K.length - befN n K F)) (immC F n :: (K.drop (befN n K F)).map fun F => immC F n) = (F :: K.drop (befN n K F)).map fun F => immC F n := by
       rw [List.take_of_length_le (by rw [List.length_cons, hdl]; omega)]
       rfl
      have hxa : ((F :: K.drop (befN n K F)).map fun F => immC F n).all zez = true := List.all_eq_true.2 fun a h => by obtain ⟨G, -, rfl⟩ := List.mem_map.1 h; rfl
      have hxl : ((F :: K.drop (befN n K F)).map fun F => immC F n).length = 1 + (K.length - befN n K F) := by rw [List.length_map, List.length_cons, List.length_drop]; omega
      have hxb : befN n K F + (1 + (K.length - befN n K F)) ≤ 4294967296 := by omega
      have htt2 : List.take (befN n K F) ((K.take (befN n K F)).map fun F => immC F n) = (K.take (befN n K F)).map fun F => immC F n := List.take_of_length_le (by rw [htl]; exact Nat.le_refl _)
      rw [if_pos rfl]
      refine Ybm ?_
      refine WK_for (fun k st => st.sl 0 = i64 (n : Int) ∧ st.sl 1 = i64 (m : Int) ∧ st.sl 5 = immR n As ∧ st.sl 6 = ol ∧ st.sl 7 = .ref 8288 gk [] 0 K.length ∧ st.sl 8 = i64 (i : Int) ∧ st.sl 11 = i64 (k : Int) ∧ (st.ro 8288 gk = some (listI n K)) ∧ (gk ≤ st.gn 8288)) ((befN n K F)) ?_ ?_ ?_
      ·simp only [↓za, ↓reduceIte, Nat.reduceEqDiff, zb, reduceCtorEq, rws_zero, s0, s1, s5, s6, s7, s8, s9, s10, hj']
       exact ⟨rfl, rk, lk⟩
      ·rintro k sl ro gn hk ⟨s0, s1, s5, s6, s7, s8, s11, rk, lk⟩
       dsimp only at s0 s1 s5 s6 s7 s8 s11
       have hk' : (k : Int) < ((befN n K F) : Nat) := by omega
       obtain ⟨G, hG, hbef⟩ := befN_lt hk
       have hkK : (k : Int) < (K.length : Nat) := by omega
       have hkK2 : k < K.length := by omega
       have hgG : (K.map fun F => immC F n)[k]? = some (immC G n) := by rw [List.getElem?_map, hG]; rfl
       dsimp only at rk lk
       have hpG : pureA (immC G n) = true := isLLL_pure (isLLL_immC G n)
       refine Ycm ?_
       refine CLLD_pure _ (cBefore (isLLL_immC G n) (isLLL_immC F n) hn') (by simp only [pureL, hpG, hpi, Bool.and_self]) rfl ?_
       refine Yee ?_
       refine FIN_of (by kernel_rfl) ?_
       simp (disch := first | assumption | omega) only [go_sem, ↓reduceIte, Nat.reduceEqDiff, Nat.reduceAdd, Nat.reduceMul, zc, s0, s1, s5, s6, s7, s8, s11, hk', hk, ti4, ti3]
       exact ⟨i64c (by omega), rk, lk⟩
      ·rintro sl ro gn ⟨s0, s1, s5, s6, s7, s8, s11, rk, lk⟩
       dsimp only at s0 s1 s5 s6 s7 s8 s11
       have hk' : ¬ (((befN n K F) : Nat) : Int) < ((befN n K F) : Nat) := by omega
       dsimp only at rk lk
       cases hG : K[befN n K F]? with
       | none =>
        have hkK : ¬ (befN n K F : Int) < (K.length : Nat) := by
         have := List.getElem?_eq_none_iff.1 hG
         omega
        refine Ydm ?_
        refine FIN_of (by kernel_rfl) ?_
        refine Yal ?_
        refine FIN_of (by kernel_rfl) ?_
        have hne : ¬ gk = gn 8288 + 1 := by omega
        refine Yai ?_
        refine ⟨i64c (by omega), 65536, gn 65536 + 1 + 1 + 1, .inr rfl, ?_, ?_, ?_⟩
        ·rw [insR_len, show befN n K F + (K.length - befN n K F + 1) = K.length + 1 by omega]
        ·exact Ydc
        ·exact Ur
       | some G =>
        have hkK2 : befN n K F < K.length := (List.getElem?_eq_some_iff.1 hG).1
        have hkK : (befN n K F : Int) < (K.length : Nat) := by omega
        have hbef := befN_at hG
        have hgG : (K.map fun F => immC F n)[befN n K F]? = some (immC G n) := by rw [List.getElem?_map, hG]; rfl
        have hpG : pureA (immC G n) = true := isLLL_pure (isLLL_immC G n)
        refine Yco ?_
        refine CLLD_pure _ (cBefore (isLLL_immC G n) (isLLL_immC F n) hn') (by simp only [pureL, hpG, hpi, Bool.and_self]) rfl ?_
        simp (disch := first | assumption | omega) only [go_sem, ↓reduceIte, Nat.reduceEqDiff, Nat.reduceAdd, Nat.reduceMul, zc, s0, s1, s5, s6, s7, s8, s11, hk', ti4, eq_false hbef]
        refine FIN_of (by kernel_rfl) ?_
        refine Yal ?_
        refine FIN_of (by kernel_rfl) ?_
        have hne : ¬ gk = gn 8288 + 1 := by omega
        refine Yai ?_
        refine ⟨i64c (by omega), 65536, gn 65536 + 1 + 1 + 1, .inr rfl, ?_, ?_, ?_⟩
        ·rw [insR_len, show befN n K F + (K.length - befN n K F + 1) = K.length + 1 by omega]
        ·exact Ydc
        ·exact Ur
   ·simp (disch := first | assumption | omega) only [go_sem, ↓reduceIte, Nat.reduceEqDiff, Nat.reduceAdd, Nat.reduceMul, zc, s0, s1, s5, s6, s8, hi', hi, ti3, s7, lAs, kLen_imm]
    refine WK_for (fun j st => st.sl 0 = i64 (n : Int) ∧ st.sl 1 = i64 (m : Int) ∧ st.sl 5 = immR n As ∧ st.sl 6 = ol ∧ st.sl 7 = .ref 65536 gk [] 0 K.length ∧ st.sl 8 = i64 (i : Int) ∧ st.sl 9 = bo (lstK n Os F j) ∧ st.sl 10 = i64 (j : Int) ∧ (st.ro 65536 gk = some (listI n K)) ∧ (gk ≤ st.gn 65536)) Os.length ?_ ?_ ?_
    ·simp only [↓za, ↓reduceIte, Nat.reduceEqDiff, zb, reduceCtorEq, rws_zero, s0, s1, s5, s6, s8, hi', hi]
     exact ⟨s7, rfl, rfl, rk, lk⟩
    ·rintro j sl ro gn hj ⟨s0, s1, s5, s6, s7, s8, s9, s10, rk, lk⟩
     dsimp only at s0 s1 s5 s6 s7 s8 s9 s10
     have hj' : (j : Int) < (Os.length : Nat) := by omega
     rw [lstK_succ hj]
     cases hb : lstK n Os F j
     ·rw [hb] at s9
      refine Yed ?_
      refine FIN_of (by kernel_rfl) ?_
      refine Ybn ?_
      exact ⟨rfl, i64c (by omega), rk, lk⟩
     ·rw [hb] at s9
      obtain ⟨l, hl⟩ : ∃ l, l = Os.getD j [] := ⟨_, rfl⟩
      have hlm : l ∈ Os := by
       rw [hl, List.getD_eq_getElem?_getD, List.getElem?_eq_getElem hj]
       exact List.getElem_mem hj
      have hp : isL (atA ol j) (zl l) := by
       have := isLL_row ha (k := j) (by omega)
       have e : row (Os.map zl) j = zl l := by
        unfold row
        rw [hl, List.getD_eq_getElem?_getD, List.getElem?_map, List.getD_eq_getElem?_getD, List.getElem?_eq_getElem hj]
        rfl
       rwa [e] at this
      rw [← hl]
      have P := hv l hlm
      refine Ycs ?_
      refine CLLD_pure _ (cImage (isLLL_immC F n) hp P hn') (by simp only [pureL, hpi, isL_pure hp, Bool.and_self]) rfl ?_
      refine Ycz ?_
      refine CLLD_q _ (cBefore (isLLL_immC (imgF (zl l) F) n) (isLLL_immC F n) hn') (.cons (exq_cube Ur (by decide)) (.cons (exq_mono (exq_LLL (isLLL_immC F n) (Nat.le_refl 4)) (by decide)) .nil)) rfl rfl ?_
      simp (disch := first | assumption | omega) only [go_sem, ↓reduceIte, Nat.reduceEqDiff, Nat.reduceAdd, Nat.reduceMul, zc, s0, s1, s5, s6, s7, s8, s9, s10, hj', hj]
      refine FIN_of (by kernel_rfl) ?_
      refine Ybn ?_
      exact ⟨congrArg bo (decide_not).symm, i64c (by omega), rk, lk⟩
    ·rintro sl ro gn ⟨s0, s1, s5, s6, s7, s8, s9, s10, rk, lk⟩
     dsimp only at s0 s1 s5 s6 s7 s8 s9 s10
     have hj' : ¬ ((Os.length : Nat) : Int) < (Os.length : Nat) := by omega
     cases hb : lstK n Os F Os.length
     ·rw [hb] at s9
      refine Ybm ?_
      exact ⟨i64c (by omega), 65536, gk, by decide, rfl, rk, lk⟩
     ·rw [hb] at s9
      have hb1 := befN_le n K F
      have lKm : (K.map fun F => immC F n).length = K.length := List.length_map _
      have hdt : List.take (K.length - befN n K F) (List.drop (befN n K F) (K.map fun F => immC F n)) = (K.drop (befN n K F)).map fun F => immC F n := by
       rw [List.take_of_length_le (by rw [List.length_drop, List.length_map]; exact Nat.le_refl _), List.map_drop]
      have hda : ((K.drop (befN n K F)).map fun F => immC F n).all zez = true := List.all_eq_true.2 fun a h => by obtain ⟨G, -, rfl⟩ := List.mem_map.1 h; rfl
      have hdl : ((K.drop (befN n K F)).map fun F => immC F n).length = K.length - befN n K F := by rw [List.length_map, List.length_drop]
      have hbd : 1 + (K.length - befN n K F) ≤ 4294967296 := by omega
      have htt : List.take (befN n K F) (K.map fun F => immC F n) = (K.take (befN n K F)).map fun F => immC F n := by rw [List.map_take]
      have hta : ((K.take (befN n K F)).map fun F => immC F n).all zez = true := List.all_eq_true.2 fun a h => by obtain ⟨G, -, rfl⟩ := List.mem_map.1 h; rfl
      have htl : ((K.take (befN n K F)).map fun F => immC F n).length = befN n K F := by rw [List.length_map, List.length_take]; omega
      have htb : befN n K F ≤ 4294967296 := by omega
      have hxt : List.take (1 + (K.length - befN n K F)) (immC F n :: (K.drop (befN n K F)).map fun F => immC F n) = (F :: K.drop (befN n K F)).map fun F => immC F n := by
       rw [List.take_of_length_le (by rw [List.length_cons, hdl]; omega)]
       rfl
      have hxa : ((F :: K.drop (befN n K F)).map fun F => immC F n).all zez = true := List.all_eq_true.2 fun a h => by obtain ⟨G, -, rfl⟩ := List.mem_map.1 h; rfl
      have hxl : ((F :: K.drop (befN n K F)).map fun F => immC F n).length = 1 + (K.length - befN n K F) := by rw [List.length_map, List.length_cons, List.length_drop]; omega
      have hxb : befN n K F + (1 + (K.length - befN n K F)) ≤ 4294967296 := by omega
      have htt2 : List.take (befN n K F) ((K.take (befN n K F)).map fun F => immC F n) = (K.take (befN n K F)).map fun F => immC F n := List.take_of_length_le (by rw [htl]; exact Nat.le_refl _)
      rw [if_pos rfl]
      refine Ybm ?_
      refine WK_for (fun k st => st.sl 0 = i64 (n : Int) ∧ st.sl 1 = i64 (m : Int) ∧ st.sl 5 = immR n As ∧ st.sl 6 = ol ∧ st.sl 7 = .ref 65536 gk [] 0 K.length ∧ st.sl 8 = i64 (i : Int) ∧ st.sl 11 = i64 (k : Int) ∧ (st.ro 65536 gk = some (listI n K)) ∧ (gk ≤ st.gn 65536)) ((befN n K F)) ?_ ?_ ?_
      ·simp only [↓za, ↓reduceIte, Nat.reduceEqDiff, zb, reduceCtorEq, rws_zero, s0, s1, s5, s6, s7, s8, s9, s10, hj']
       exact ⟨rfl, rk, lk⟩
      ·rintro k sl ro gn hk ⟨s0, s1, s5, s6, s7, s8, s11, rk, lk⟩
       dsimp only at s0 s1 s5 s6 s7 s8 s11
       have hk' : (k : Int) < ((befN n K F) : Nat) := by omega
       obtain ⟨G, hG, hbef⟩ := befN_lt hk
       have hkK : (k : Int) < (K.length : Nat) := by omega
       have hkK2 : k < K.length := by omega
       have hgG : (K.map fun F => immC F n)[k]? = some (immC G n) := by rw [List.getElem?_map, hG]; rfl
       dsimp only at rk lk
       have hpG : pureA (immC G n) = true := isLLL_pure (isLLL_immC G n)
       refine Ycm ?_
       refine CLLD_pure _ (cBefore (isLLL_immC G n) (isLLL_immC F n) hn') (by simp only [pureL, hpG, hpi, Bool.and_self]) rfl ?_
       refine Yee ?_
       refine FIN_of (by kernel_rfl) ?_
       simp (disch := first | assumption | omega) only [go_sem, ↓reduceIte, Nat.reduceEqDiff, Nat.reduceAdd, Nat.reduceMul, zc, s0, s1, s5, s6, s7, s8, s11, hk', hk, ti4, ti3]
       exact ⟨i64c (by omega), rk, lk⟩
      ·rintro sl ro gn ⟨s0, s1, s5, s6, s7, s8, s11, rk, lk⟩
       dsimp only at s0 s1 s5 s6 s7 s8 s11
       have hk' : ¬ (((befN n K F) : Nat) : Int) < ((befN n K F) : Nat) := by omega
       dsimp only at rk lk
       cases hG : K[befN n K F]? with
       | none =>
        have hkK : ¬ (befN n K F : Int) < (K.length : Nat) := by
         have := List.getElem?_eq_none_iff.1 hG
         omega
        refine Ydm ?_
        refine FIN_of (by kernel_rfl) ?_
        refine Yal ?_
        refine FIN_of (by kernel_rfl) ?_
        have hne : ¬ gk = gn 65536 + 1 := by omega
        refine Yai ?_
        refine ⟨i64c (by omega), 65536, gn 65536 + 1 + 1 + 1, .inr rfl, ?_, ?_, ?_⟩
        ·rw [insR_len, show befN n K F + (K.length - befN n K F + 1) = K.length + 1 by omega]
        ·exact Ydc
        ·exact Ur
       | some G =>
        have hkK2 : befN n K F < K.length := (List.getElem?_eq_some_iff.1 hG).1
        have hkK : (befN n K F : Int) < (K.length : Nat) := by omega
        have hbef := befN_at hG
        have hgG : (K.map fun F => immC F n)[befN n K F]? = some (immC G n) := by rw [List.getElem?_map, hG]; rfl
        have hpG : pureA (immC G n) = true := isLLL_pure (isLLL_immC G n)
        refine Yco ?_
        refine CLLD_pure _ (cBefore (isLLL_immC G n) (isLLL_immC F n) hn') (by simp only [pureL, hpG, hpi, Bool.and_self]) rfl ?_
        simp (disch := first | assumption | omega) only [go_sem, ↓reduceIte, Nat.reduceEqDiff, Nat.reduceAdd, Nat.reduceMul, zc, s0, s1, s5, s6, s7, s8, s11, hk', ti4, eq_false hbef]
        refine FIN_of (by kernel_rfl) ?_
        refine Yal ?_
        refine FIN_of (by kernel_rfl) ?_
        have hne : ¬ gk = gn 65536 + 1 := by omega
        refine Yai ?_
        refine ⟨i64c (by omega), 65536, gn 65536 + 1 + 1 + 1, .inr rfl, ?_, ?_, ?_⟩
        ·rw [insR_len, show befN n K F + (K.length - befN n K F + 1) = K.length + 1 by omega]
        ·exact Ydc
        ·exact Ur
  ·rintro sl ro gn ⟨s0, s1, s5, s6, s8, ps⟩
   dsimp only at s0 s1 s5 s6 s8
   have hi' : ¬ ((As.length : Nat) : Int) < (As.length : Nat) := by omega
   dsimp only at ps
   obtain ⟨sk, gk, hsk, s7, rk, lk⟩ := ps
   have lAs : (As.map fun F => immC F n).length = As.length := List.length_map _
   simp (disch := first | assumption | omega) only [go_sem, ↓reduceIte, Nat.reduceEqDiff, Nat.reduceAdd, Nat.reduceMul, zc, s0, s1, s5, s6, s8, hi', s7, lAs, kLen_imm]
   simp only [zr, zb, retR, resL, outT, outL, zes, zez, oneV, zcp, zed, zfi, Ro.dl, St.ev, zhk, ↓za, ↓reduceIte, Nat.reduceEqDiff, Nat.reduceAdd, Nat.reduceLeDiff, rk, listI, List.length_map]
end
noncomputable def tabsS (n m : Nat) : List C3 := kepS n (vis n (n - 1) [0]) (allS n m (vis n (n - 1) [0]) (vis n (n - 1) [0]).length) (allS n m (vis n (n - 1) [0]) (vis n (n - 1) [0]).length).length
section
variable {n m : Nat}
theorem cSAll1 (h1 : 1 ≤ n) (h3 : n ≤ 3) (hm : m ≤ 4) : CallOK Tryz.prog 7 [i64 (n : Int), i64 (m : Int)] (.tup [listI n (tabsS n m), i64 0]) := by
 have d1 : 1 ≤ (n : Int) ∧ (n : Int) ≤ 3 := by omega
 have d2 : 0 ≤ (m : Int) ∧ (m : Int) ≤ 4 := by omega
 refine call_of (fn := Tryz.f7) (code := bodyOf Tryz.f7) Tryz.func7 rfl (by kernel_rfl) (by rw [noRef, noRefL, noRef_listI]; rfl) ?_
 intro sl hs
 have s0 : sl 0 = i64 (n : Int) := hs 0
 have s1 : sl 1 = i64 (m : Int) := hs 1
 dsimp only [Tryz.f7, bodyOf, Option.getD]
 refine Yae ?_
 refine CLL_pure _ (c38 (a := (n : Int)) (b := 1) (c := 3)) rfl rfl rfl ?_
 simp (disch := first | assumption | omega) only [go_sem, ↓reduceIte, Nat.reduceEqDiff, Nat.reduceAdd, Nat.reduceMul, zc, s0, s1, ti2, ti4, eq_true d1]
 refine CLL_pure _ (c38 (a := (m : Int)) (b := 0) (c := 4)) rfl rfl rfl ?_
 simp (disch := first | assumption | omega) only [go_sem, ↓reduceIte, Nat.reduceEqDiff, Nat.reduceAdd, Nat.reduceMul, zc, s0, s1, ti2, ti4, eq_true d2]
 refine CLL_pure _ (cListS h1 h3 hm) rfl rfl rfl ?_
 rw [show kepS n (vis n (n - 1) [0]) (allS n m (vis n (n - 1) [0]) (vis n (n - 1) [0]).length) (allS n m (vis n (n - 1) [0]) (vis n (n - 1) [0]).length).length = tabsS n m from rfl]
 simp (disch := first | assumption | omega) only [go_sem, ↓reduceIte, Nat.reduceEqDiff, Nat.reduceAdd, Nat.reduceMul, zc, s0, s1, listI, impE_row, List.length_map]
 simp only [zr, zb, retR, resL, outT, outL, zes, zez, oneV, zcp, zed, zfi, Ro.dl, St.ev, zhk, ↓za, ↓reduceIte, Nat.reduceEqDiff, Nat.reduceAdd, Nat.reduceLeDiff, List.length_map]
theorem cSAll0 {n m : Int} (h : ¬ ((1 ≤ n ∧ n ≤ 3) ∧ 0 ≤ m ∧ m ≤ 4)) : CallOK Tryz.prog 7 [i64 n, i64 m] (.tup [nilA, i64 2]) := by
 by_cases d1 : 1 ≤ n ∧ n ≤ 3
 ·have d2 : ¬ (0 ≤ m ∧ m ≤ 4) := fun e => h ⟨d1, e⟩
  refine call_of (fn := Tryz.f7) (code := bodyOf Tryz.f7) Tryz.func7 rfl (by kernel_rfl) (rfl) ?_
  intro sl hs
  have s0 : sl 0 = i64 n := hs 0
  have s1 : sl 1 = i64 m := hs 1
  dsimp only [Tryz.f7, bodyOf, Option.getD]
  refine Yae ?_
  refine CLL_pure _ (c38 (a := n) (b := 1) (c := 3)) rfl rfl rfl ?_
  simp (disch := first | assumption | omega) only [go_sem, ↓reduceIte, Nat.reduceEqDiff, Nat.reduceAdd, Nat.reduceMul, zc, s0, s1, ti2, ti4, eq_true d1]
  refine CLL_pure _ (c38 (a := m) (b := 0) (c := 4)) rfl rfl rfl ?_
  simp (disch := first | assumption | omega) only [go_sem, ↓reduceIte, Nat.reduceEqDiff, Nat.reduceAdd, Nat.reduceMul, zc, s0, s1, ti2, ti4, eq_false d2]
  exact Yab
 ·refine call_of (fn := Tryz.f7) (code := bodyOf Tryz.f7) Tryz.func7 rfl (by kernel_rfl) (rfl) ?_
  intro sl hs
  have s0 : sl 0 = i64 n := hs 0
  have s1 : sl 1 = i64 m := hs 1
  dsimp only [Tryz.f7, bodyOf, Option.getD]
  refine Yae ?_
  refine CLL_pure _ (c38 (a := n) (b := 1) (c := 3)) rfl rfl rfl ?_
  simp (disch := first | assumption | omega) only [go_sem, ↓reduceIte, Nat.reduceEqDiff, Nat.reduceAdd, Nat.reduceMul, zc, s0, s1, ti2, ti4, eq_false d1]
  exact Yab
end
end Go.Proofs.YtilfkbgdpmimlaaGreat
