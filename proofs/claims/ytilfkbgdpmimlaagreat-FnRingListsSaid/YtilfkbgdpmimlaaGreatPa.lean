/- Texts joined: Ed1 Ed2 Ed3 Ed4 Ed5 Ed6 Ed7 Ed8. -/
import Derived.Test.YtilfkbgdpmimlaaGreatOk
set_option linter.all false
/- Enumeration of rings, plain: both lists are in order. -/
namespace Go.Proofs.YtilfkbgdpmimlaaGreat
open Go.RowKit
set_option maxRecDepth 1000000
abbrev cl (n : Nat) (F : C3) : List (List (List Int)) := cubeL F n
theorem cmp3_self (X : List (List (List Int))) : cmp3 X X = 0 := (cmp3_O.eq0 X X).2 rfl
theorem cmp3_le_trans {X Y Z : List (List (List Int))} (h1 : ¬ cmp3 Y X < 0) (h2 : ¬ cmp3 Z Y < 0) : ¬ cmp3 Z X < 0 := by
 intro h3
 by_cases e : cmp3 X Y = 0
 ·have e := (cmp3_O.eq0 _ _).1 e
  rw [← e] at h2
  exact h2 h3
 ·have h4 : cmp3 X Y < 0 := by
   have := cmp3_O.anti Y X
   omega
  exact h2 (cmp3_O.trans _ _ _ h3 h4)
theorem srt_uniqM {n : Nat} {Ls Ls' : List C3} (h1 : (Ls'.map (cl n)).Perm (Ls.map (cl n))) (h2 : Ls'.Pairwise (fun F G => ¬ cmp3 (cubeL G n) (cubeL F n) < 0)) : Ls'.map (cl n) = (srtL n Ls).map (cl n) := by
 have hp : (srtL n Ls).Perm Ls := List.mergeSort_perm Ls (leR n)
 have p2 : (srtL n Ls).Pairwise (fun F G => leR n F G = true) := by
  refine List.pairwise_mergeSort (le := leR n) (fun a b c h1 h2 => ?_) (fun a b => ?_) Ls
  ·exact decide_eq_true (cmp3_le_trans (of_decide_eq_true h1) (of_decide_eq_true h2))
  ·by_cases h : cmp3 (cubeL b n) (cubeL a n) < 0
   ·have h' := (cmp3_O.anti _ _).1 h
    have : leR n b a = true := decide_eq_true (by omega)
    rw [this, Bool.or_true]
   ·have : leR n a b = true := decide_eq_true h
    rw [this, Bool.true_or]
 refine List.Perm.eq_of_pairwise (le := fun X Y => ¬ cmp3 Y X < 0) (fun X Y _ _ h1 h2 => ?_) ?_ ?_ (h1.trans (hp.symm.map _))
 ·have := cmp3_O.anti Y X
  exact (cmp3_O.eq0 _ _).1 (by omega)
 ·exact List.pairwise_map.2 h2
 ·exact List.pairwise_map.2 (p2.imp fun h => of_decide_eq_true h)
abbrev SrtB (n : Nat) (K : List C3) : Prop := K.Pairwise (fun F G => ¬ cmp3 (cubeL G n) (cubeL F n) < 0)
theorem insR_perm (n : Nat) (K : List C3) (F : C3) : (insR n K F).Perm (F :: K) := by
 unfold insR
 have h := List.perm_middle (a := F) (l₁ := K.take (befN n K F)) (l₂ := K.drop (befN n K F))
 rwa [List.take_append_drop] at h
theorem insR_srt {n : Nat} {K : List C3} (h : SrtB n K) (F : C3) : SrtB n (insR n K F) := by
 have ht : ∀ G, G ∈ K.take (befN n K F) → cmp3 (cubeL G n) (cubeL F n) < 0 := by
  intro G hG
  obtain ⟨k, hk, e⟩ := List.mem_iff_getElem.1 hG
  rw [List.length_take] at hk
  obtain ⟨G2, e2, h2⟩ := befN_lt (show k < befN n K F by omega)
  rw [List.getElem_take] at e
  rw [List.getElem?_eq_getElem (by omega)] at e2
  rw [← e, Option.some.inj e2]
  exact h2
 have hs : SrtB n (K.take (befN n K F) ++ K.drop (befN n K F)) := by rw [List.take_append_drop]; exact h
 obtain ⟨a1, a2, a3⟩ := List.pairwise_append.1 hs
 have hd : ∀ G, G ∈ K.drop (befN n K F) → ¬ cmp3 (cubeL G n) (cubeL F n) < 0 := by
  intro G hG
  cases hg : K[befN n K F]? with
  | none =>
   rw [List.drop_eq_nil_of_le (List.getElem?_eq_none_iff.1 hg)] at hG
   cases hG
  | some G0 =>
   have h0 := befN_at hg
   have hlt := (List.getElem?_eq_some_iff.1 hg).1
   have he := (List.getElem?_eq_some_iff.1 hg).2
   rw [List.drop_eq_getElem_cons hlt, he] at hG a2
   rcases List.mem_cons.1 hG with rfl | hG
   ·exact h0
   ·exact cmp3_le_trans h0 ((List.pairwise_cons.1 a2).1 G hG)
 refine List.pairwise_append.2 ⟨a1, List.pairwise_cons.2 ⟨hd, a2⟩, fun G hG G2 hG2 => ?_⟩
 rcases List.mem_cons.1 hG2 with rfl | hG2
 ·have := (cmp3_O.anti _ _).1 (ht G hG)
  omega
 ·exact a3 G hG G2 hG2
theorem kepS_srt (n : Nat) (Os : List (List Nat)) (As : List C3) : ∀ i, SrtB n (kepS n Os As i)
 | 0 => List.Pairwise.nil
 | i + 1 => by
  unfold kepS
  split
  ·exact insR_srt (kepS_srt n Os As i) _
  ·exact kepS_srt n Os As i
theorem kepS_perm (n : Nat) (Os : List (List Nat)) (As : List C3) : ∀ i, i ≤ As.length → (kepS n Os As i).Perm ((As.take i).filter fun F => lstK n Os F Os.length)
 | 0, _ => List.Perm.refl _
 | i + 1, h => by
  have ih := kepS_perm n Os As i (by omega)
  have e : As.take (i + 1) = As.take i ++ [As.getD i c0] := by
   rw [List.getD_eq_getElem?_getD, List.getElem?_eq_getElem (by omega), List.take_succ, List.getElem?_eq_getElem (by omega)]
   rfl
  rw [e, List.filter_append]
  unfold kepS
  split
  ·rename_i hl
   rw [List.filter_cons, if_pos hl, List.filter_nil]
   refine (insR_perm n _ _).trans ((ih.cons _).trans ?_)
   exact (List.perm_append_singleton _ _).symm
  ·rename_i hl
   rw [List.filter_cons, if_neg hl, List.filter_nil, List.append_nil]
   exact ih
noncomputable def keptS (n m : Nat) : List C3 := (allS n m (vis n (n - 1) [0]) (vis n (n - 1) [0]).length).filter fun F => lstK n (vis n (n - 1) [0]) F (vis n (n - 1) [0]).length
theorem plain_of {n m : Nat} (h : ((keptS n m).map (cl n)).Perm ((tabs n m).map (cl n))) : (tabsS n m).map (fun F => cubeL F n) = (srtL n (tabs n m)).map (fun F => cubeL F n) := by
 have hp := kepS_perm n (vis n (n - 1) [0]) (allS n m (vis n (n - 1) [0]) (vis n (n - 1) [0]).length) _ (Nat.le_refl _)
 rw [List.take_length] at hp
 exact srt_uniqM ((hp.map _).trans h) (kepS_srt n _ _ _)
section
variable {n : Nat} {F : C3}
theorem nxB_le (B : C3) (l : List Nat) : ¬ cmp3 (cubeL B n) (cubeL (nxB F n B l) n) < 0 ∧ ¬ cmp3 (cubeL (imgF (zl l) F) n) (cubeL (nxB F n B l) n) < 0 := by
 unfold nxB
 split
 ·rename_i h
  refine ⟨fun h2 => ?_, by rw [cmp3_self]; decide⟩
  have := (cmp3_O.anti _ _).1 h2
  omega
 ·rename_i h
  exact ⟨by rw [cmp3_self]; decide, h⟩
theorem bst_le : ∀ (Ls : List (List Nat)) (B : C3), ¬ cmp3 (cubeL B n) (cubeL (bstB F n Ls B) n) < 0 ∧ ∀ l, l ∈ Ls → ¬ cmp3 (cubeL (imgF (zl l) F) n) (cubeL (bstB F n Ls B) n) < 0
 | [], B => ⟨by show ¬ cmp3 (cubeL B n) (cubeL B n) < 0; rw [cmp3_self]; decide, fun _ h => by cases h⟩
 | l :: Ls, B => by
  obtain ⟨h1, h2⟩ := bst_le Ls (nxB F n B l)
  obtain ⟨h3, h4⟩ := nxB_le (F := F) (n := n) B l
  refine ⟨cmp3_le_trans h1 h3, fun l' hl => ?_⟩
  rcases List.mem_cons.1 hl with rfl | hl
  ·exact cmp3_le_trans h1 h4
  ·exact h2 l' hl
theorem bst_id : ∀ (Ls : List (List Nat)), (∀ l, l ∈ Ls → ¬ cmp3 (cubeL (imgF (zl l) F) n) (cubeL F n) < 0) → bstB F n Ls F = F
 | [], _ => rfl
 | l :: Ls, h => by
  have e : nxB F n F l = F := by unfold nxB; rw [if_neg (h l (by simp))]
  show bstB F n Ls (nxB F n F l) = F
  rw [e]
  exact bst_id Ls fun l' hl => h l' (by simp [hl])
theorem lst_eq : lstK n (vis n (n - 1) [0]) F (vis n (n - 1) [0]).length = lstB F n := by
 unfold lstK lstB leastF
 rw [List.take_length]
 generalize vis n (n - 1) [0] = Os
 rw [Bool.eq_iff_iff, List.all_eq_true, decide_eq_true_eq]
 constructor
 ·intro h
  rw [bst_id Os fun l hl => of_decide_eq_true (h l hl)]
  exact cmp3_self _
 ·intro h l hl
  have h2 := (bst_le (F := F) (n := n) Os F).2 l hl
  have e := (cmp3_O.eq0 _ _).1 h
  rw [e] at h2
  exact decide_eq_true h2
end
theorem flt_eq (F : C3) (n : Nat) : fltB F n = (RF (cubeL F n)).isNone := by
 unfold fltB
 cases h : RF (cubeL F n) with
 | none => rfl
 | some xs =>
  have := RF_ne h
  exact decide_eq_false (by omega)
theorem okB_eq (F : C3) (n : Nat) : okB F n = (fltB F n && lstK n (vis n (n - 1) [0]) F (vis n (n - 1) [0]).length) := by
 rw [lst_eq, flt_eq]
 rfl
def agr (n : Nat) (S : List T33) (F G : C3) : Prop := ∀ i j k, i < n → j < n → k < n → (i, j, k) ∉ S → F i j k = G i j k
theorem agr_refl (n : Nat) (S : List T33) (F : C3) : agr n S F F := fun _ _ _ _ _ _ _ => rfl
theorem agr_trans {n : Nat} {S : List T33} {F G H : C3} (h1 : agr n S F G) (h2 : agr n S G H) : agr n S F H := fun i j k hi hj hk h => (h1 i j k hi hj hk h).trans (h2 i j k hi hj hk h)
theorem agr_symm {n : Nat} {S : List T33} {F G : C3} (h : agr n S F G) : agr n S G F := fun i j k hi hj hk hn => (h i j k hi hj hk hn).symm
theorem agr_mono {n : Nat} {S S' : List T33} {F G : C3} (h : agr n S F G) (hs : ∀ t, t ∈ S → t ∈ S') : agr n S' F G := fun i j k hi hj hk hn => h i j k hi hj hk fun e => hn (hs _ e)
theorem cl_eq {n : Nat} {F G : C3} : cubeL F n = cubeL G n ↔ agr n [] F G := by
 constructor
 ·intro h i j k hi hj hk _
  rw [← at3_cube (F := F) hi hj hk, h, at3_cube hi hj hk]
 ·intro h
  exact rws_congr fun i hi => rws_congr fun j hj => rws_congr fun k hk => h i j k hi hj hk (by simp)
theorem updF_at (F : C3) (a b c : Nat) (v : Int) (i j k : Nat) : updF F a b c v i j k = if (i, j, k) = (a, b, c) then v else F i j k := by
 unfold updF
 simp only [Prod.mk.injEq]
theorem setT_at : ∀ (o : List T33) (F : C3) (v : Int) (i j k : Nat), setT F o v i j k = if (i, j, k) ∈ o then v else F i j k
 | [], F, v, i, j, k => by simp [setT]
 | t :: o, F, v, i, j, k => by
  show setT (updF F t.1 t.2.1 t.2.2 v) o v i j k = _
  rw [setT_at o, updF_at]
  by_cases h1 : (i, j, k) ∈ o
  ·rw [if_pos h1, if_pos (by simp [h1])]
  ·rw [if_neg h1]
   by_cases h2 : (i, j, k) = t
   ·rw [if_pos (by rw [h2]), if_pos (by simp [h2])]
   ·rw [if_neg (fun e => h2 (by rw [e])), if_neg (by simp [h1, h2])]
theorem agr_set (n : Nat) (F : C3) (o : List T33) (v : Int) : agr n o F (setT F o v) := fun i j k _ _ _ h => by rw [setT_at, if_neg h]
theorem lst_congr {n : Nat} (h1 : 1 ≤ n) (h3 : n ≤ 3) {F G : C3} (h : agr n [] F G) : lstB F n = lstB G n := by
 rw [← lst_eq, ← lst_eq]
 unfold lstK
 rw [List.take_length]
 have hv := vis_ok n h1 h3
 rw [Bool.eq_iff_iff, List.all_eq_true, List.all_eq_true]
 have e : ∀ l, l ∈ vis n (n - 1) [0] → decide (¬ cmp3 (cubeL (imgF (zl l) F) n) (cubeL F n) < 0) = decide (¬ cmp3 (cubeL (imgF (zl l) G) n) (cubeL G n) < 0) := by
  intro l hl
  have P := hv l hl
  have e1 : cubeL (imgF (zl l) F) n = cubeL (imgF (zl l) G) n := cl_eq.2 fun i j k hi hj hk _ => h _ _ _ (P.r i hi).2 (P.r j hj).2 (P.r k hk).2 (by simp)
  rw [e1, cl_eq.2 h]
 exact ⟨fun k l hl => (e l hl) ▸ k l hl, fun k l hl => (e l hl).symm ▸ k l hl⟩
theorem okB_congr {n : Nat} (h1 : 1 ≤ n) (h3 : n ≤ 3) {F G : C3} (h : agr n [] F G) : okB F n = okB G n := by
 unfold okB
 rw [lst_congr h1 h3 h, cl_eq.2 h]
abbrev atT (G : C3) (t : T33) : Int := G t.1 t.2.1 t.2.2
def cstP (m : Nat) (os : List (List T33)) (G : C3) : Prop := ∀ o, o ∈ os → ∃ v : Nat, v ≤ m ∧ ∀ t, t ∈ o → atT G t = v
structure OrbOK (n : Nat) (os : List (List T33)) : Prop where
 ne : ∀ o, o ∈ os → o ≠ []
 dj : os.Pairwise (fun o o' => ∀ t, t ∈ o → t ∉ o')
 lt : ∀ o, o ∈ os → ∀ t, t ∈ o → t.1 < n ∧ t.2.1 < n ∧ t.2.2 < n
theorem mem_filK {g : C3 → List C3 × C3} {o : List T33} {F G : C3} : ∀ {k : Nat}, G ∈ (filK g o F k).1 ↔ ∃ v, v < k ∧ G ∈ (g (setT (filK g o F v).2 o (v : Int))).1
 | 0 => by simp [filK]
 | k + 1 => by
  show G ∈ (filK g o F k).1 ++ (g (setT (filK g o F k).2 o (k : Int))).1 ↔ _
  rw [List.mem_append, mem_filK]
  constructor
  ·rintro (⟨v, h1, h2⟩ | h)
   ·exact ⟨v, by omega, h2⟩
   ·exact ⟨k, by omega, h⟩
  ·rintro ⟨v, h1, h2⟩
   rcases Nat.lt_or_ge v k with h | h
   ·exact .inl ⟨v, h, h2⟩
   ·have : v = k := by omega
    subst this
    exact .inr h2
structure FilP (n m : Nat) (os : List (List T33)) (F : C3) (r : List C3 × C3) : Prop where
 a : agr n os.flatten F r.2
 b : ∀ G, G ∈ r.1 → okB G n = true ∧ agr n os.flatten F G ∧ cstP m os G
 c : ∀ G, okB G n = true → agr n os.flatten F G → cstP m os G → ∃ G', G' ∈ r.1 ∧ agr n [] G G'
 d : r.1.Pairwise (fun G G' => ¬ agr n [] G G')
theorem fil_ok {n m : Nat} (h1 : 1 ≤ n) (h3 : n ≤ 3) : ∀ (os : List (List T33)) (F : C3), OrbOK n os → FilP n m os F (filS n m os F)
 | [], F, _ => by
  refine ⟨agr_refl _ _ _, fun G hG => ?_, fun G hok hag _ => ?_, ?_⟩
  ·simp only [filS] at hG
   split at hG
   ·rename_i h
    rw [List.mem_singleton] at hG
    subst hG
    exact ⟨h, agr_refl _ _ _, fun o ho => by cases ho⟩
   ·cases hG
  ·refine ⟨F, ?_, agr_symm hag⟩
   simp only [filS]
   rw [if_pos (by rw [okB_congr h1 h3 hag]; exact hok)]
   simp
  ·simp only [filS]
   split
   ·exact List.pairwise_singleton _ _
   ·exact List.Pairwise.nil
 | o :: os, F, h => by
  have hos : OrbOK n os := ⟨fun p hp => h.ne p (by simp [hp]), (List.pairwise_cons.1 h.dj).2, fun p hp => h.lt p (by simp [hp])⟩
  have ih := fun F => fil_ok (m := m) h1 h3 os F hos
  have hdj : ∀ t, t ∈ o → t ∉ os.flatten := by
   intro t ht hf
   obtain ⟨p, hp, htp⟩ := List.mem_flatten.1 hf
   exact (List.pairwise_cons.1 h.dj).1 p hp t ht htp
  have hA : ∀ v, agr n (o :: os).flatten F (filK (filS n m os) o F v).2 := by
   intro v
   induction v with
   | zero => exact agr_refl _ _ _
   | succ v ihv =>
    refine agr_trans ihv (agr_trans (agr_mono (agr_set n _ o (v : Int)) fun t ht => by simp [ht]) (agr_mono (ih _).a fun t ht => ?_))
    rw [List.flatten_cons]
    exact List.mem_append_right _ ht
  have hH : ∀ v, agr n (o :: os).flatten F (setT (filK (filS n m os) o F v).2 o (v : Int)) := fun v => agr_trans (hA v) (agr_mono (agr_set n _ o (v : Int)) fun t ht => by simp [ht])
  have hB : ∀ v G, G ∈ (filS n m os (setT (filK (filS n m os) o F v).2 o (v : Int))).1 → ∀ t, t ∈ o → atT G t = v := by
   intro v G hG t ht
   obtain ⟨k1, k2, k3⟩ := h.lt o (by simp) t ht
   have := ((ih _).b G hG).2.1 t.1 t.2.1 t.2.2 k1 k2 k3 (hdj t ht)
   show G t.1 t.2.1 t.2.2 = v
   rw [← this, setT_at, if_pos ht]
  show FilP n m (o :: os) F (filK (filS n m os) o F (m + 1))
  refine ⟨hA _, fun G hG => ?_, fun G hok hag hc => ?_, ?_⟩
  ·obtain ⟨v, hv, hG⟩ := mem_filK.1 hG
   obtain ⟨b1, b2, b3⟩ := (ih _).b G hG
   refine ⟨b1, agr_trans (hH v) (agr_mono b2 fun t ht => ?_), fun p hp => ?_⟩
   ·rw [List.flatten_cons]; exact List.mem_append_right _ ht
   ·rcases List.mem_cons.1 hp with rfl | hp
    ·exact ⟨v, by omega, hB v G hG⟩
    ·exact b3 p hp
  ·obtain ⟨v, hv, hvo⟩ := hc o (by simp)
   obtain ⟨G', hG', hag'⟩ := (ih (setT (filK (filS n m os) o F v).2 o (v : Int))).c G hok (by
    intro i j k hi hj hk hn
    by_cases ho : (i, j, k) ∈ o
    ·rw [setT_at, if_pos ho]
     exact (hvo _ ho).symm
    ·have hno : (i, j, k) ∉ (o :: os).flatten := by
      rw [List.flatten_cons, List.mem_append]
      rintro (e | e)
      ·exact ho e
      ·exact hn e
     exact ((hH v) i j k hi hj hk hno).symm.trans (hag i j k hi hj hk hno)) (fun p hp => hc p (by simp [hp]))
   exact ⟨G', mem_filK.2 ⟨v, by omega, hG'⟩, hag'⟩
  ·have : ∀ k, (filK (filS n m os) o F k).1.Pairwise (fun G G' => ¬ agr n [] G G') := by
    intro k
    induction k with
    | zero => exact List.Pairwise.nil
    | succ k ihk =>
     refine List.pairwise_append.2 ⟨ihk, (ih _).d, fun G hG G' hG' hag => ?_⟩
     obtain ⟨v, hv, hG⟩ := mem_filK.1 hG
     obtain ⟨t, ht⟩ := List.exists_mem_of_ne_nil _ (h.ne o (by simp))
     obtain ⟨k1, k2, k3⟩ := h.lt o (by simp) t ht
     have e1 := hB v G hG t ht
     have e2 := hB k G' hG' t ht
     have e3 := hag t.1 t.2.1 t.2.2 k1 k2 k3 (by simp)
     have : (v : Int) = k := e1.symm.trans (e3.trans e2)
     omega
   exact this _
def plc (r a : Nat) : T33 := (gI r a, gJ r a, gK r a)
def pls (r : Nat) : Nat → Nat → List T33
 | _, 0 => []
 | a, d + 1 => plc r a :: pls r (a + 1) d
def valP (m : Nat) (S : List T33) (G : C3) : Prop := ∀ t, t ∈ S → ∃ v : Nat, v ≤ m ∧ atT G t = v
def fitP (x : List Nat) (S : List T33) (G : C3) : Prop := ∀ t, t ∈ S → fitB x G t.1 t.2.1 t.2.2 = true
def plsB (r : Nat) : Bool := (List.range (r * r * r)).all fun a =>
 let t := plc r a
 decide (t ∉ pls r (a + 1) (r * r * r - a - 1)) && decide (t.1 < r + 1 ∧ t.2.1 < r + 1 ∧ t.2.2 < r + 1) &&
 (List.range (r + 1)).all fun p => decide (t.1 < p) || (decide (p = t.1) && decide (t.2.1 < t.2.2)) || decide ((p, t.2.2, t.2.1) ∉ pls r (a + 1) (r * r * r - a - 1))
theorem pls_ok {r a d : Nat} (hr : r ≤ 2) (h : a + (d + 1) = r * r * r) : plc r a ∉ pls r (a + 1) d ∧ ((plc r a).1 < r + 1 ∧ (plc r a).2.1 < r + 1 ∧ (plc r a).2.2 < r + 1) ∧ ∀ p, p < r + 1 → ¬ (plc r a).1 < p → ¬ (p = (plc r a).1 ∧ (plc r a).2.1 < (plc r a).2.2) → (p, (plc r a).2.2, (plc r a).2.1) ∉ pls r (a + 1) d := by
 have hB : ∀ r, r < 3 → plsB r = true := by decide
 have := hB r (by omega)
 unfold plsB at this
 have := List.all_eq_true.1 this a (List.mem_range.2 (by omega))
 simp only [Bool.and_eq_true, decide_eq_true_eq, List.all_eq_true, List.mem_range, Bool.or_eq_true] at this
 obtain ⟨⟨k1, k2⟩, k3⟩ := this
 rw [show r * r * r - a - 1 = d by omega] at k1 k3
 refine ⟨k1, k2, fun p hp n1 n2 => ?_⟩
 rcases k3 p hp with (h | h) | h
 ·exact absurd h n1
 ·exact absurd h n2
 ·exact h
theorem flt_congr {n : Nat} {F G : C3} (h : agr n [] F G) : fltB F n = fltB G n := by
 unfold fltB
 rw [cl_eq.2 h]
structure GrwP (x : List Nat) (n m : Nat) (S : List T33) (F : C3) (r : List C3 × C3) : Prop where
 a : agr n S F r.2
 b : ∀ G, G ∈ r.1 → fltB G n = true ∧ agr n S F G ∧ valP m S G
 c : ∀ G, fltB G n = true → fitP x S G → agr n S F G → valP m S G → ∃ G', G' ∈ r.1 ∧ agr n [] G G'
 d : r.1.Pairwise (fun G G' => ¬ agr n [] G G')
theorem agr_upd (n : Nat) (F : C3) (t : T33) (v : Int) : agr n [t] F (updF F t.1 t.2.1 t.2.2 v) := fun i j k _ _ _ h => by
 rw [updF_at, if_neg (fun e => h (by rw [e]; simp))]
theorem mem_growK {g : C3 → List C3 × C3} {fit : C3 → Bool} {i j l : Nat} {F G : C3} : ∀ {k : Nat}, G ∈ (growK g fit i j l F k).1 ↔ ∃ v, v < k ∧ fit (updF (growK g fit i j l F v).2 i j l (v : Int)) = true ∧ G ∈ (g (updF (growK g fit i j l F v).2 i j l (v : Int))).1
 | 0 => by simp [growK]
 | k + 1 => by
  have e : growK g fit i j l F (k + 1) = if fit (updF (growK g fit i j l F k).2 i j l (k : Int)) then ((growK g fit i j l F k).1 ++ (g (updF (growK g fit i j l F k).2 i j l (k : Int))).1, (g (updF (growK g fit i j l F k).2 i j l (k : Int))).2) else ((growK g fit i j l F k).1, updF (growK g fit i j l F k).2 i j l (k : Int)) := rfl
  rw [e]
  constructor
  ·intro h
   split at h
   ·rename_i hf
    rcases List.mem_append.1 h with h | h
    ·obtain ⟨v, h1, h2⟩ := mem_growK.1 h
     exact ⟨v, by omega, h2⟩
    ·exact ⟨k, by omega, hf, h⟩
   ·obtain ⟨v, h1, h2⟩ := mem_growK.1 h
    exact ⟨v, by omega, h2⟩
  ·rintro ⟨v, h1, h2, h3⟩
   rcases Nat.lt_or_ge v k with h | h
   ·have hm := mem_growK.2 ⟨v, h, h2, h3⟩
    split
    ·exact List.mem_append_left _ hm
    ·exact hm
   ·have : v = k := by omega
    subst this
    rw [if_pos h2]
    exact List.mem_append_right _ h3
theorem fit_agr {x : List Nat} {n : Nat} {H G : C3} {S : List T33} {i j k : Nat} (ha : agr n S H G) (hi : i < n) (hj : j < n) (hk : k < n) (hx : x.getD i 0 < n) (h1 : (i, j, k) ∉ S) (h2 : ¬ i < x.getD i 0 → ¬ (x.getD i 0 = i ∧ j < k) → (x.getD i 0, k, j) ∉ S) (hG : fitB x G i j k = true) : fitB x H i j k = true := by
 unfold fitB at hG ⊢
 simp only [Bool.or_eq_true, Bool.and_eq_true, decide_eq_true_eq] at hG ⊢
 by_cases c1 : i < x.getD i 0
 ·exact .inl (.inl c1)
 ·by_cases c2 : x.getD i 0 = i ∧ j < k
  ·exact .inl (.inr c2)
  ·right
   rcases hG with (h | h) | h
   ·exact absurd h c1
   ·exact absurd h c2
   ·rw [ha i j k hi hj hk h1, ha _ k j hx hk hj (h2 c1 c2)]
    exact h
theorem grow_ok {x : List Nat} {n m : Nat} (h1 : 1 ≤ n) (h3 : n ≤ 3) (hx : ∀ i, i < n → x.getD i 0 < n) : ∀ (d a : Nat) (F : C3), a + d = (n - 1) * (n - 1) * (n - 1) → GrwP x n m (pls (n - 1) a d) F (growS x n m d a F)
 | 0, a, F, _ => by
  refine ⟨agr_refl _ _ _, fun G hG => ?_, fun G hok _ hag _ => ?_, ?_⟩
  ·simp only [growS] at hG
   split at hG
   ·rename_i h
    rw [List.mem_singleton] at hG
    subst hG
    exact ⟨h, agr_refl _ _ _, fun t ht => by cases ht⟩
   ·cases hG
  ·refine ⟨F, ?_, agr_symm hag⟩
   simp only [growS]
   rw [if_pos (by rw [flt_congr hag]; exact hok)]
   simp
  ·simp only [growS]
   split
   ·exact List.pairwise_singleton _ _
   ·exact List.Pairwise.nil
 | d + 1, a, F, h => by
  have ih := fun F => grow_ok (m := m) h1 h3 hx d (a + 1) F (by omega)
  obtain ⟨p1, ⟨p2, p3, p4⟩, p5⟩ := pls_ok (r := n - 1) (a := a) (d := d) (by omega) h
  rw [show n - 1 + 1 = n by omega] at p2 p3 p4 p5
  show GrwP x n m (plc (n - 1) a :: pls (n - 1) (a + 1) d) F (growS x n m (d + 1) a F)
  generalize hS : pls (n - 1) (a + 1) d = S at ih p1 p5
  obtain ⟨g, hg⟩ : ∃ g, g = growS x n m d (a + 1) := ⟨_, rfl⟩
  have ih : ∀ F, GrwP x n m S F (g F) := fun F => by rw [hg]; exact ih F
  obtain ⟨t, ht⟩ : ∃ t, t = plc (n - 1) a := ⟨_, rfl⟩
  have eG : growS x n m (d + 1) a F = ((growK g (fun G => fitB x G t.1 t.2.1 t.2.2) t.1 t.2.1 t.2.2 F (m + 1)).1, updF (growK g (fun G => fitB x G t.1 t.2.1 t.2.2) t.1 t.2.1 t.2.2 F (m + 1)).2 t.1 t.2.1 t.2.2 0) := by rw [hg, ht]; rfl
  rw [eG, ← ht]
  rw [← ht] at p1 p2 p3 p4 p5
  clear eG hg ht
  generalize hf : (fun G => fitB x G t.1 t.2.1 t.2.2) = fit
  have hfit : ∀ G, fit G = fitB x G t.1 t.2.1 t.2.2 := fun G => by rw [← hf]
  clear hf
  have hA : ∀ v, agr n (t :: S) F (growK g fit t.1 t.2.1 t.2.2 F v).2 := by
   intro v
   induction v with
   | zero => exact agr_refl _ _ _
   | succ v ihv =>
    have hu := agr_trans ihv (agr_mono (agr_upd n (growK g fit t.1 t.2.1 t.2.2 F v).2 t (v : Int)) fun s hs => by simp at hs; simp [hs])
    have e : growK g fit t.1 t.2.1 t.2.2 F (v + 1) = if fit (updF (growK g fit t.1 t.2.1 t.2.2 F v).2 t.1 t.2.1 t.2.2 (v : Int)) then ((growK g fit t.1 t.2.1 t.2.2 F v).1 ++ (g (updF (growK g fit t.1 t.2.1 t.2.2 F v).2 t.1 t.2.1 t.2.2 (v : Int))).1, (g (updF (growK g fit t.1 t.2.1 t.2.2 F v).2 t.1 t.2.1 t.2.2 (v : Int))).2) else ((growK g fit t.1 t.2.1 t.2.2 F v).1, updF (growK g fit t.1 t.2.1 t.2.2 F v).2 t.1 t.2.1 t.2.2 (v : Int)) := rfl
    rw [e]
    split
    ·exact agr_trans hu (agr_mono (ih _).a fun s hs => by simp [hs])
    ·exact hu
  have hH : ∀ v, agr n (t :: S) F (updF (growK g fit t.1 t.2.1 t.2.2 F v).2 t.1 t.2.1 t.2.2 (v : Int)) := fun v => agr_trans (hA v) (agr_mono (agr_upd n _ t (v : Int)) fun s hs => by simp at hs; simp [hs])
  have hB : ∀ v G, G ∈ (g (updF (growK g fit t.1 t.2.1 t.2.2 F v).2 t.1 t.2.1 t.2.2 (v : Int))).1 → atT G t = v := by
   intro v G hG
   have := ((ih _).b G hG).2.1 t.1 t.2.1 t.2.2 p2 p3 p4 p1
   show G t.1 t.2.1 t.2.2 = v
   rw [← this, updF_at, if_pos rfl]
  refine ⟨agr_trans (hA _) (agr_mono (agr_upd n _ t 0) fun s hs => by simp at hs; simp [hs]), fun G hG => ?_, fun G hok hfp hag hv => ?_, ?_⟩
  ·obtain ⟨v, hv, -, hG⟩ := mem_growK.1 hG
   obtain ⟨b1, b2, b3⟩ := (ih _).b G hG
   refine ⟨b1, agr_trans (hH v) (agr_mono b2 fun s hs => by simp [hs]), fun s hs => ?_⟩
   rcases List.mem_cons.1 hs with rfl | hs
   ·exact ⟨v, by omega, hB v G hG⟩
   ·exact b3 s hs
  ·obtain ⟨v, hvm, hvt⟩ := hv t (by simp)
   have hag2 : agr n S (updF (growK g fit t.1 t.2.1 t.2.2 F v).2 t.1 t.2.1 t.2.2 (v : Int)) G := by
    intro i j k hi hj hk hn
    by_cases ho : (i, j, k) = t
    ·rw [updF_at, if_pos ho]
     rw [← hvt, ← ho]
    ·have hno : (i, j, k) ∉ t :: S := by
      intro e
      rcases List.mem_cons.1 e with e | e
      ·exact ho e
      ·exact hn e
     exact ((hH v) i j k hi hj hk hno).symm.trans (hag i j k hi hj hk hno)
   have hff : fit (updF (growK g fit t.1 t.2.1 t.2.2 F v).2 t.1 t.2.1 t.2.2 (v : Int)) = true := by
    rw [hfit]
    exact fit_agr hag2 p2 p3 p4 (hx _ p2) p1 (fun c1 c2 => p5 _ (hx _ p2) c1 c2) (hfp t (by simp))
   obtain ⟨G', hG', hag'⟩ := (ih _).c G hok (fun s hs => hfp s (by simp [hs])) hag2 (fun s hs => hv s (by simp [hs]))
   exact ⟨G', mem_growK.2 ⟨v, by omega, hff, hG'⟩, hag'⟩
  ·have : ∀ k, (growK g fit t.1 t.2.1 t.2.2 F k).1.Pairwise (fun G G' => ¬ agr n [] G G') := by
    intro k
    induction k with
    | zero => exact List.Pairwise.nil
    | succ k ihk =>
     have e : growK g fit t.1 t.2.1 t.2.2 F (k + 1) = if fit (updF (growK g fit t.1 t.2.1 t.2.2 F k).2 t.1 t.2.1 t.2.2 (k : Int)) then ((growK g fit t.1 t.2.1 t.2.2 F k).1 ++ (g (updF (growK g fit t.1 t.2.1 t.2.2 F k).2 t.1 t.2.1 t.2.2 (k : Int))).1, (g (updF (growK g fit t.1 t.2.1 t.2.2 F k).2 t.1 t.2.1 t.2.2 (k : Int))).2) else ((growK g fit t.1 t.2.1 t.2.2 F k).1, updF (growK g fit t.1 t.2.1 t.2.2 F k).2 t.1 t.2.1 t.2.2 (k : Int)) := rfl
     rw [e]
     split
     ·refine List.pairwise_append.2 ⟨ihk, (ih _).d, fun G hG G' hG' hag => ?_⟩
      obtain ⟨v, hv, -, hG⟩ := mem_growK.1 hG
      have e1 := hB v G hG
      have e2 := hB k G' hG'
      have e3 := hag t.1 t.2.1 t.2.2 p2 p3 p4 (by simp)
      have : (v : Int) = k := e1.symm.trans (e3.trans e2)
      omega
     ·exact ihk
   exact this _
theorem fndN {α : Type} {f : Nat → Option α} : ∀ {n : Nat}, fnd n f = none → ∀ i, i < n → f i = none := fun h => fnd_none.1 h
theorem dl_of {G : C3} {n : Nat} {x : List Nat} (h1 : 1 ≤ n) (hC : ColP G n x) (hx : ∀ i, i < n → x.getD i 0 < n) {i : Nat} (hi : i < n) : dlT (cubeL G n) i = (x.getD i 0 : Nat) := by
 refine du_is ⟨by rw [lenC]; exact hx i hi, ?_, fun j hj hne => ?_⟩
 ·show at3 (cubeL G n) i (x.getD i 0) 0 = 1
  rw [at3_cube hi (hx i hi) (by omega), hC i _ hi (hx i hi), if_pos rfl]
 ·rw [lenC] at hj
  show at3 (cubeL G n) i j 0 = 0
  rw [at3_cube hi hj (by omega), hC i j hi hj, if_neg hne]
theorem flt_turn {G : C3} {n : Nat} {x : List Nat} (h1 : 1 ≤ n) (hC : ColP G n x) (hx : ∀ i, i < n → x.getD i 0 < n) (hf : fltB G n = true) {i j k : Nat} (hi : i < n) (hj : j < n) (hk : k < n) : G i j k = G (x.getD i 0) k j ∧ G i j k = G k (x.getD j 0) i := by
 rw [flt_eq, Option.isNone_iff_eq_none] at hf
 have h3 : F3 (cubeL G n) = none := by
  unfold RF at hf
  cases e1 : F1 (cubeL G n) with
  | some v => rw [e1] at hf; cases hf
  | none =>
   cases e2 : F2 (cubeL G n) with
   | some v => rw [e1, e2] at hf; cases hf
   | none =>
    cases e3 : F3 (cubeL G n) with
    | some v => rw [e1, e2, e3] at hf; cases hf
    | none => rfl
 have h4 := fndN (fndN (fndN h3 i (by rw [lenC]; exact hi)) j (by rw [lenC]; exact hj)) k (by rw [lenC]; exact hk)
 unfold p3 at h4
 rw [dl_of h1 hC hx hi, dl_of h1 hC hx hj, Int.toNat_natCast, Int.toNat_natCast, at3_cube hi hj hk, at3_cube (hx i hi) hk hj, at3_cube hk (hx j hj) hi] at h4
 split at h4
 ·assumption
 ·cases h4
theorem flt_fit {G : C3} {n : Nat} {x : List Nat} (h1 : 1 ≤ n) (hC : ColP G n x) (hx : ∀ i, i < n → x.getD i 0 < n) (hf : fltB G n = true) {S : List T33} (hS : ∀ t, t ∈ S → t.1 < n ∧ t.2.1 < n ∧ t.2.2 < n) : fitP x S G := by
 intro t ht
 obtain ⟨a, b, c⟩ := hS t ht
 have := (flt_turn h1 hC hx hf a b c).1
 unfold fitB
 rw [decide_eq_true this, Bool.or_true]
theorem trI_cst {G : C3} {n : Nat} {x : List Nat} (h1 : 1 ≤ n) (hC : ColP G n x) (hx : ∀ i, i < n → x.getD i 0 < n) (hf : fltB G n = true) {t : T33} {K : Nat} (hlt : ∀ i, i < K → i < (trI x t i).length) (hb : ∀ i, i ≤ K → ∀ u, u ∈ trI x t i → u.1 < n ∧ u.2.1 < n ∧ u.2.2 < n) : ∀ i, i ≤ K → ∀ u, u ∈ trI x t i → atT G u = atT G t
 | 0, _, u, hu => by
  rw [trI, List.mem_singleton] at hu
  rw [hu]
 | i + 1, hi, u, hu => by
  have ih := trI_cst h1 hC hx hf hlt hb i (by omega)
  have hm := tat_mem (hlt i (by omega))
  obtain ⟨a1, a2, a3⟩ := hb i (by omega) _ hm
  have e0 := ih _ hm
  obtain ⟨k1, -⟩ := flt_turn h1 hC hx hf a1 a2 a3
  obtain ⟨-, k2⟩ := flt_turn h1 hC hx hf a1 a2 a3
  have key : ∀ (L us : List T33) (k : Nat), (∀ u, u ∈ L → atT G u = atT G t) → (∀ j, j < k → atT G (tat us j) = atT G t) → ∀ u, u ∈ adK L us k → atT G u = atT G t := by
   intro L us k hL
   induction k with
   | zero => exact fun _ => hL
   | succ k ihk =>
    intro hj u hu
    have h0 := ihk fun j hjk => hj j (by omega)
    unfold adK adT at hu
    split at hu
    ·exact h0 u hu
    ·rcases List.mem_append.1 hu with hu | hu
     ·exact h0 u hu
     ·rw [List.mem_singleton] at hu
      rw [hu]
      exact hj k (by omega)
  refine key _ _ 2 ih (fun j hj => ?_) u hu
  obtain rfl | rfl : j = 0 ∨ j = 1 := by omega
  ·exact k1.symm.trans e0
  ·exact k2.symm.trans e0
theorem perm_of_mem {α : Type} [DecidableEq α] : ∀ {L M : List α}, L.Nodup → M.Nodup → (∀ a, a ∈ L ↔ a ∈ M) → L.Perm M := by
 intro L M h1 h2 h
 exact (List.perm_ext_iff_of_nodup h1 h2).2 h
def chkB (x : List Nat) (n : Nat) : Bool :=
 ((orbs x n).all fun o => decide (o ≠ []) && decide (o = trn x (o.headD (0, 0, 0))) && o.all fun t => decide (t.1 < n) && (decide (t.2.1 < n) && decide (t.2.2 < n)))
 && decide ((orbs x n).Pairwise (fun o o' => ∀ t, t ∈ o → t ∉ o'))
 && ((pls (n - 1) 0 ((n - 1) * (n - 1) * (n - 1))).all fun t => decide (t ∈ (orbs x n).flatten) && (decide (t.1 < n) && (decide (t.2.1 < n) && decide (t.2.2 < n))) && decide (1 ≤ t.2.2))
 && ((orbs x n).flatten.all fun t => decide (t ∈ pls (n - 1) 0 ((n - 1) * (n - 1) * (n - 1))))
structure ChkP (x : List Nat) (n : Nat) : Prop where
 o : OrbOK n (orbs x n)
 h : ∀ o, o ∈ orbs x n → ∃ t, t ∈ o ∧ o = trn x t
 p1 : ∀ t, t ∈ pls (n - 1) 0 ((n - 1) * (n - 1) * (n - 1)) → t ∈ (orbs x n).flatten ∧ (t.1 < n ∧ t.2.1 < n ∧ t.2.2 < n) ∧ 1 ≤ t.2.2
 p2 : ∀ t, t ∈ (orbs x n).flatten → t ∈ pls (n - 1) 0 ((n - 1) * (n - 1) * (n - 1))
theorem chk_ok {x : List Nat} {n : Nat} (h : chkB x n = true) : ChkP x n := by
 unfold chkB at h
 simp only [Bool.and_eq_true, List.all_eq_true, decide_eq_true_eq] at h
 obtain ⟨⟨⟨h1, h2⟩, h3⟩, h4⟩ := h
 refine ⟨⟨fun o ho => (h1 o ho).1.1, h2, fun o ho t ht => (h1 o ho).2 t ht⟩, fun o ho => ?_, fun t ht => ⟨(h3 t ht).1.1, (h3 t ht).1.2, (h3 t ht).2⟩, h4⟩
 obtain ⟨⟨k1, k2⟩, -⟩ := h1 o ho
 cases o with
 | nil => exact absurd rfl k1
 | cons t o => exact ⟨t, by simp, k2⟩
theorem chk_1 : ChkP [0, 1, 2] 1 := chk_ok (by kernel_rfl)
theorem chk_2 : ChkP [0, 1, 2] 2 := chk_ok (by kernel_rfl)
theorem chk_3 : ChkP [0, 1, 2] 3 := chk_ok (by kernel_rfl)
theorem chk_t : ChkP [0, 2, 1] 3 := chk_ok (by kernel_rfl)
theorem nodup_cl {n : Nat} {L : List C3} (h : L.Pairwise (fun G G' => ¬ agr n [] G G')) : (L.map (cl n)).Nodup := by
 refine List.pairwise_map.2 (h.imp fun hk e => hk (cl_eq.1 e))
theorem one_perm {x y : List Nat} {n m : Nat} (h1 : 1 ≤ n) (h3 : n ≤ 3) (K : ChkP x n) (T : TrnOK x n) (hy : ∀ i, i < n → y.getD i 0 = x.getD i 0) {F : C3} (hC : ColP F n x) :
  ((((growS y n m ((n - 1) * (n - 1) * (n - 1)) 0 F).1.filter fun G => lstK n (vis n (n - 1) [0]) G (vis n (n - 1) [0]).length)).map (cl n)).Perm ((filS n m (orbs x n) F).1.map (cl n)) := by
 have hyp : ∀ i, i < n → y.getD i 0 < n := fun i hi => by rw [hy i hi]; exact T.p i hi
 have A := grow_ok (x := y) (m := m) h1 h3 hyp ((n - 1) * (n - 1) * (n - 1)) 0 F (by omega)
 have B := fil_ok (m := m) h1 h3 (orbs x n) F K.o
 have hcol : ∀ G, agr n (pls (n - 1) 0 ((n - 1) * (n - 1) * (n - 1))) F G → ColP G n x := by
  intro G hG i j hi hj
  rw [← hG i j 0 hi hj (by omega) (fun e => by have h0 : 1 ≤ 0 := (K.p1 _ e).2.2; omega)]
  exact hC i j hi hj
 refine perm_of_mem (nodup_cl (A.d.filter _)) (nodup_cl B.d) fun X => ?_
 rw [List.mem_map, List.mem_map]
 constructor
 ·rintro ⟨G, hG, rfl⟩
  obtain ⟨hG1, hG2⟩ := List.mem_filter.1 hG
  obtain ⟨b1, b2, b3⟩ := A.b G hG1
  have hok : okB G n = true := by rw [okB_eq, b1, hG2]; rfl
  obtain ⟨G', k1, k2⟩ := B.c G hok (agr_mono b2 fun t ht => (K.p1 t ht).1) (fun o ho => by
   obtain ⟨t, ht, e⟩ := K.h o ho
   have hto := K.o.lt o ho t ht
   obtain ⟨v, hv, hvt⟩ := b3 t (K.p2 t (List.mem_flatten.2 ⟨o, ho, ht⟩))
   obtain ⟨e1, e2, -, e4⟩ := T.e t hto.1 hto.2.1 hto.2.2
   refine ⟨v, hv, fun u hu => ?_⟩
   rw [e] at hu
   rw [trI_cst h1 (hcol G b2) T.p b1 e2 e4 _ (Nat.le_refl _) u hu, hvt])
  exact ⟨G', k1, (cl_eq.2 k2).symm⟩
 ·rintro ⟨G, hG, rfl⟩
  obtain ⟨b1, b2, b3⟩ := B.b G hG
  rw [okB_eq, Bool.and_eq_true] at b1
  have hag : agr n (pls (n - 1) 0 ((n - 1) * (n - 1) * (n - 1))) F G := agr_mono b2 K.p2
  obtain ⟨G', k1, k2⟩ := A.c G b1.1 (flt_fit h1 (x := y) (fun i j hi hj => by rw [hy i hi]; exact hcol G hag i j hi hj) hyp b1.1 fun t ht => (K.p1 t ht).2.1) hag (fun t ht => by
   obtain ⟨o, ho, hto⟩ := List.mem_flatten.1 (K.p1 t ht).1
   obtain ⟨v, hv, hvt⟩ := b3 o ho
   exact ⟨v, hv, hvt t hto⟩)
  refine ⟨G', List.mem_filter.2 ⟨k1, ?_⟩, (cl_eq.2 k2).symm⟩
  rw [lst_eq, ← lst_congr h1 h3 k2, ← lst_eq]
  exact b1.2
theorem uF_same {x y : List Nat} : ∀ {c : Nat}, (∀ i, i < c → x.getD i 0 = y.getD i 0) → uF x c = uF y c
 | 0, _ => rfl
 | c + 1, h => by
  show updF (updF (updF (uF x c) 0 c c 1) c 0 c 1) c (x.getD c 0) 0 1 = updF (updF (updF (uF y c) 0 c c 1) c 0 c 1) c (y.getD c 0) 0 1
  rw [uF_same fun i hi => h i (by omega), h c (by omega)]
theorem col_of {x : List Nat} {n : Nat} (l : List Nat) (P : PrmI (zl l) n) (h0 : l.getD 0 0 = 0) (h : ∀ i, i < n → l.getD i 0 = x.getD i 0) : ColP (uF x n) n x := by
 have hc := uF_col P h0
 intro i j hi hj
 rw [← uF_same h, hc i j hi hj, h i hi]
theorem plain1 (m : Nat) : ((keptS 1 m).map (cl 1)).Perm ((tabs 1 m).map (cl 1)) := by
 have e1 : vis 1 (1 - 1) [0] = [[0]] := by decide
 have C : ColP (uF [0, 1, 2] 1) 1 [0, 1, 2] := col_of [0] (vis_ok 1 (by decide) (by decide) [0] (by decide)) rfl (by decide)
 have P := one_perm (y := [0]) (m := m) (by decide) (by decide) chk_1 trn_1 (by decide) C
 have e2 : uF [0] 1 = uF [0, 1, 2] 1 := uF_same (by decide)
 have e3 : allS 1 m [[0]] 1 = [] ++ (growS [0] 1 m 0 0 (uF [0] 1)).1 := rfl
 have e4 : tabs 1 m = (filS 1 m (orbs [0, 1, 2] 1) (uF [0, 1, 2] 1)).1 ++ [] := rfl
 unfold keptS
 rw [e1] at P ⊢
 rw [show ([[0]] : List (List Nat)).length = 1 from rfl] at P ⊢
 rw [e3, e4, List.nil_append, List.append_nil, e2]
 exact P
theorem plain2 (m : Nat) : ((keptS 2 m).map (cl 2)).Perm ((tabs 2 m).map (cl 2)) := by
 have e1 : vis 2 (2 - 1) [0] = [[0, 1]] := by decide
 have C : ColP (uF [0, 1, 2] 2) 2 [0, 1, 2] := col_of [0, 1] (vis_ok 2 (by decide) (by decide) [0, 1] (by decide)) rfl (by decide)
 have P := one_perm (y := [0, 1]) (m := m) (by decide) (by decide) chk_2 trn_2 (by decide) C
 have e2 : uF [0, 1] 2 = uF [0, 1, 2] 2 := uF_same (by decide)
 have e3 : allS 2 m [[0, 1]] 1 = [] ++ (growS [0, 1] 2 m 1 0 (uF [0, 1] 2)).1 := rfl
 have e4 : tabs 2 m = (filS 2 m (orbs [0, 1, 2] 2) (uF [0, 1, 2] 2)).1 ++ [] := rfl
 unfold keptS
 rw [e1] at P ⊢
 rw [show ([[0, 1]] : List (List Nat)).length = 1 from rfl] at P ⊢
 rw [e3, e4, List.nil_append, List.append_nil, e2]
 exact P
theorem plain3 (m : Nat) : ((keptS 3 m).map (cl 3)).Perm ((tabs 3 m).map (cl 3)) := by
 have e1 : vis 3 (3 - 1) [0] = [[0, 1, 2], [0, 2, 1]] := by decide
 have hv := vis_ok 3 (by decide) (by decide)
 have C1 : ColP (uF [0, 1, 2] 3) 3 [0, 1, 2] := col_of [0, 1, 2] (hv [0, 1, 2] (by decide)) rfl (by decide)
 have C2 : ColP (uF [0, 2, 1] 3) 3 [0, 2, 1] := col_of [0, 2, 1] (hv [0, 2, 1] (by decide)) rfl (by decide)
 have P1 := one_perm (y := [0, 1, 2]) (m := m) (by decide) (by decide) chk_3 trn_3 (by decide) C1
 have P2 := one_perm (y := [0, 2, 1]) (m := m) (by decide) (by decide) chk_t trn_t (by decide) C2
 have e3 : allS 3 m [[0, 1, 2], [0, 2, 1]] 2 = ([] ++ (growS [0, 1, 2] 3 m 8 0 (uF [0, 1, 2] 3)).1) ++ (growS [0, 2, 1] 3 m 8 0 (uF [0, 2, 1] 3)).1 := rfl
 have e4 : tabs 3 m = (filS 3 m (orbs [0, 1, 2] 3) (uF [0, 1, 2] 3)).1 ++ (filS 3 m (orbs [0, 2, 1] 3) (uF [0, 2, 1] 3)).1 := rfl
 unfold keptS
 rw [e1] at P1 P2 ⊢
 rw [show ([[0, 1, 2], [0, 2, 1]] : List (List Nat)).length = 2 from rfl] at P1 P2 ⊢
 rw [e3, e4, List.nil_append, List.filter_append, List.map_append, List.map_append]
 exact P1.append P2
theorem plainLaw {n m : Nat} (h1 : 1 ≤ n) (h3 : n ≤ 3) : (tabsS n m).map (fun F => cubeL F n) = (srtL n (tabs n m)).map (fun F => cubeL F n) := by
 refine plain_of ?_
 obtain rfl | rfl | rfl : n = 1 ∨ n = 2 ∨ n = 3 := by omega
 ·exact plain1 m
 ·exact plain2 m
 ·exact plain3 m
end Go.Proofs.YtilfkbgdpmimlaaGreat
