/- Texts joined: U9 UA UB UC UD. -/
import Derived.Stop.LaidErr
import Derived.Shelf.Vars
import Derived.Handed
import Derived.LaidSub
import Derived.MakeChecks
import Derived.Lib.LaidTab
import Derived.Test.YteaaangdibabnaaGreatDoorMi
import Derived.Test.YteaaangdibabnaaGreatDoorUb
set_option linter.all false
/- Lists out of texts: the reference's and the program's. -/
namespace Go.Proofs.YteaaangdibabnaaGreatDoor
open Go.RowKit
set_option maxRecDepth 1000000
def RV (r : List UInt8) : List Int := (spl 32 r).map val
def RP (r : List UInt8) : List Int := (spl 32 r).map piN
def okW (r : List UInt8) : Prop := ∀ w, w ∈ spl 32 r → (rdv w).isSome = true
theorem rdv_piN {w : List UInt8} {v : Int} (h : rdv w = some v) : piN w = v := by
 unfold rdv at h
 unfold piN
 split at h
 ·rename_i v' hv'
  split at h
  ·simp only [Option.some.injEq] at h; rw [hv']; exact h
  ·cases h
 ·cases h
theorem getD_mem {ws : List (List UInt8)} {k : Nat} (h : k < ws.length) : ws.getD k [] ∈ ws := by
 rw [List.getD_eq_getElem?_getD, List.getElem?_eq_getElem h]
 exact List.getElem_mem h
theorem map_rws (f : List UInt8 → Int) (ws : List (List UInt8)) : ws.map f = rws (fun i => f (ws.getD i [])) ws.length := by
 apply List.ext_getElem?
 intro k
 by_cases h : k < ws.length
 ·rw [rws_get _ _ _ h, List.getElem?_map, List.getD_eq_getElem?_getD, List.getElem?_eq_getElem h]
  rfl
 ·rw [List.getElem?_eq_none (by simpa using h), List.getElem?_eq_none (by rw [zfe]; omega)]
theorem atI_map {f : List UInt8 → Int} {ws : List (List UInt8)} {k : Nat} (h : k < ws.length) : atI (ws.map f) k = f (ws.getD k []) := by
 rw [map_rws, atI_rws _ h]
theorem RV_len (r : List UInt8) : (RV r).length = (spl 32 r).length := List.length_map _
theorem RP_len (r : List UInt8) : (RP r).length = (spl 32 r).length := List.length_map _
theorem nv_ok {r : List UInt8} (h : numL (RV r)) : okW r ∧ RP r = RV r := by
 have key : ∀ w, w ∈ spl 32 r → rdv w = some (val w) := by
  intro w hw
  obtain ⟨k, hk, e⟩ := List.mem_iff_getElem.1 hw
  have h1 := h k
  unfold RV at h1
  rw [atI_map hk] at h1
  have e2 : (spl 32 r).getD k [] = w := by rw [List.getD_eq_getElem?_getD, List.getElem?_eq_getElem hk, e]; rfl
  rw [e2] at h1
  exact rdv_of_val h1.1
 exact ⟨fun w hw => by rw [key w hw]; rfl, List.map_congr_left fun w hw => rdv_piN (key w hw)⟩
theorem np_ok {r : List UInt8} (ho : okW r) (h : numL (RP r)) : RV r = RP r := by
 refine List.map_congr_left fun w hw => ?_
 obtain ⟨v, hv⟩ := Option.isSome_iff_exists.1 (ho w hw)
 rw [rdv_piN hv]
 rcases val_of_rdv hv with e | ⟨e1, e2⟩
 ·exact e
 ·exfalso
  obtain ⟨k, hk, e⟩ := List.mem_iff_getElem.1 hw
  have h1 := h k
  unfold RP at h1
  rw [atI_map hk] at h1
  have e3 : (spl 32 r).getD k [] = w := by rw [List.getD_eq_getElem?_getD, List.getElem?_eq_getElem hk, e]; rfl
  rw [e3, rdv_piN hv] at h1
  unfold num at h1
  omega
theorem spl_bytes (c : UInt8) : ∀ (n : Nat) (l : List UInt8), l.length ≤ n → ∀ b, b ∈ l → b = c ∨ ∃ w, w ∈ spl c l ∧ b ∈ w := by
 intro n
 induction n with
 | zero => intro l h b hb; have : l = [] := List.length_eq_zero_iff.1 (by omega); subst this; cases hb
 | succ n ih =>
  intro l h b hb
  rcases byte_cases c l with hc | ⟨p, q, rfl, hp⟩
  ·exact .inr ⟨l, by rw [spl_miss hc]; simp, hb⟩
  ·rw [spl_hit hp]
   rcases List.mem_append.1 hb with hb | hb
   ·exact .inr ⟨p, by simp, hb⟩
   ·rcases List.mem_cons.1 hb with rfl | hb
    ·exact .inl rfl
    ·rcases ih q (by simp at h; omega) b hb with h1 | ⟨w, h1, h2⟩
     ·exact .inl h1
     ·exact .inr ⟨w, by simp [h1], h2⟩
theorem ok_bar {q : List UInt8} (h : okW q) : (124 : UInt8) ∉ q := by
 intro hm
 rcases spl_bytes 32 _ q (Nat.le_refl _) _ hm with e | ⟨w, hw, hb⟩
 ·exact absurd e (by decide)
 ·obtain ⟨v, hv⟩ := Option.isSome_iff_exists.1 (h w hw)
  unfold rdv at hv
  split at hv
  ·split at hv
   ·rename_i hi
    unfold Lib.itoa at hi
    have t : ∀ u : Nat, (124 : UInt8) ∉ Lib.decDigits u := fun u hm => by
     have := dec_dg u _ hm
     unfold dgP at this
     have e : (124 : UInt8).toNat = 124 := rfl
     omega
    split at hi
    ·rw [← hi] at hb
     rcases List.mem_cons.1 hb with e | hb
     ·exact absurd e (by decide)
     ·exact t _ hb
    ·rw [← hi] at hb; exact t _ hb
   ·cases hv
  ·cases hv
theorem cReadS {l : List UInt8} (hl : l.length ≤ 4000000000) : CallOK Tryz.prog 25 [sB l] (rowL (RV l)) := by
 have cs := cSplitS (l := l) (c := 32) hl
 have e32 : ((32 : UInt8).toNat : Int) = 32 := rfl
 have hlen := spl_len 32 l
 have e0 : rowL (RV l) = .row (rws (fun i => i64 (val ((spl 32 l).getD i []))) (spl 32 l).length) := by unfold RV; rw [map_rws]; simp only [rowL, rws_map]
 refine call_of (fn := Tryz.f25) (code := bodyOf Tryz.f25) Tryz.func25 rfl (by kernel_rfl) (noRef_rowL _) ?_
 intro sl hs
 have s0 : sl 0 = sB l := hs 0
 rw [e0]
 dsimp only [Tryz.f25, bodyOf, Option.getD]
 simp (maxSteps := 10000000) (disch := first | assumption | omega) only [go_sem, ↓reduceIte, Nat.reduceEqDiff, reduceCtorEq, Nat.reduceAdd, Nat.reduceMul, Nat.reduceLeDiff, zc, Int.reduceToNat, s0, tiSt, tiBy, tiSS]
 refine CLL_pure _ cs rfl rfl rfl ?_
 simp (maxSteps := 10000000) (disch := first | assumption | omega) only [go_sem, ↓reduceIte, Nat.reduceEqDiff, reduceCtorEq, Nat.reduceAdd, Nat.reduceMul, Nat.reduceLeDiff, zc, Int.reduceToNat, s0, tiSS, impE_row, List.length_map]
 refine WK_for (fun k st => st.sl 0 = sB l ∧ st.sl 3 = .ref 8208 1 [] 0 (spl 32 l).length ∧ st.ro 8208 1 = some (rowS (spl 32 l)) ∧ st.sl 4 = .ref 8224 (st.gn 8224) [] 0 k ∧ st.ro 8224 (st.gn 8224) = some (.row (rws (fun i => i64 (val ((spl 32 l).getD i []))) k)) ∧ st.sl 5 = i64 (k : Int)) ((spl 32 l).length) ?_ ?_ ?_
 ·simp only [↓za, ↓reduceIte, Nat.reduceEqDiff, zb, reduceCtorEq, rws_zero, s0]
  rfl
 ·rintro k sl ro gn hk ⟨s0, s3, r8208, s4, r8224, s5⟩
  dsimp only at s0 s3 r8208 s4 r8224 s5
  have hk' : (k : Int) < ((spl 32 l).length : Nat) := by omega
  have hw : ((spl 32 l).getD k []).length < 2^62 := by
   have := spl_mem_len _ l (Nat.le_refl _) _ (getD_mem hk)
   omega
  have hi2 : k + 1 ≤ 4294967296 := by omega
  simp (maxSteps := 10000000) (disch := first | assumption | omega) only [go_sem, ↓reduceIte, Nat.reduceEqDiff, reduceCtorEq, Nat.reduceAdd, Nat.reduceMul, Nat.reduceLeDiff, zc, Int.reduceToNat, s0, s3, r8208, s4, r8224, s5, hk', hk, tiSt, tiSS, rowS_get hk, zfn]
  refine CLL_pure _ (cValS hw) rfl rfl rfl ?_
  simp (maxSteps := 10000000) (disch := first | assumption | omega) only [go_sem, ↓reduceIte, Nat.reduceEqDiff, reduceCtorEq, Nat.reduceAdd, Nat.reduceMul, Nat.reduceLeDiff, zc, Int.reduceToNat, s0, s3, r8208, s4, r8224, s5, hk', hk, hi2]
  exact i64c (by omega)
 ·rintro sl ro gn ⟨s0, s3, r8208, s4, r8224, s5⟩
  dsimp only at s0 s3 r8208 s4 r8224 s5
  have hk' : ¬ (((spl 32 l).length : Nat) : Int) < ((spl 32 l).length : Nat) := by omega
  simp (maxSteps := 10000000) (disch := first | assumption | omega) only [go_sem, ↓reduceIte, Nat.reduceEqDiff, reduceCtorEq, Nat.reduceAdd, Nat.reduceMul, Nat.reduceLeDiff, zc, Int.reduceToNat, s0, s3, r8208, s4, r8224, s5, hk', tiSS]
  simp only [zr, zb, retR, resL, outT, outL, zes, zez, oneV, zcp, zed, zfi, Ro.dl, St.ev, zhk, ↓za, ↓reduceIte, Nat.reduceEqDiff, Nat.reduceAdd, Nat.reduceLeDiff, r8224]
theorem cReadI {l : List UInt8} (hl : l.length ≤ 4000000000) (ho : okW l) : CallOK Tryz.prog 28 [sB l] (.tup [rowL (RP l), bo true]) := by
 have cs := cSplit (l := l) (c := 32) hl
 have hlen := spl_len 32 l
 have e0 : rowL (RP l) = .row (rws (fun i => i64 (piN ((spl 32 l).getD i []))) (spl 32 l).length) := by unfold RP; rw [map_rws]; simp only [rowL, rws_map]
 refine call_of (fn := Tryz.f28) (code := bodyOf Tryz.f28) Tryz.func28 rfl (by kernel_rfl) (by simp only [noRef, noRefL, zhi, Bool.and_self, Bool.and_true]) ?_
 intro sl hs
 have s0 : sl 0 = sB l := hs 0
 rw [e0]
 dsimp only [Tryz.f28, bodyOf, Option.getD]
 simp (maxSteps := 10000000) (disch := first | assumption | omega) only [go_sem, ↓reduceIte, Nat.reduceEqDiff, reduceCtorEq, Nat.reduceAdd, Nat.reduceMul, Nat.reduceLeDiff, zc, Int.reduceToNat, s0, tiSt, tiBy, tiSS]
 refine CLL_pure _ cs rfl rfl rfl ?_
 simp (maxSteps := 10000000) (disch := first | assumption | omega) only [go_sem, ↓reduceIte, Nat.reduceEqDiff, reduceCtorEq, Nat.reduceAdd, Nat.reduceMul, Nat.reduceLeDiff, zc, Int.reduceToNat, s0, tiSS, impE_row, List.length_map]
 refine WK_for (fun k st => st.sl 0 = sB l ∧ st.sl 11 = .ref 12304 1 [] 0 (spl 32 l).length ∧ st.ro 12304 1 = some (rowS (spl 32 l)) ∧ st.sl 12 = i64 ((spl 32 l).length : Nat) ∧ st.sl 4 = .ref 8192 (st.gn 8192) [] 0 k ∧ st.ro 8192 (st.gn 8192) = some (.row (rws (fun i => i64 (piN ((spl 32 l).getD i []))) k)) ∧ st.sl 13 = i64 (k : Int)) ((spl 32 l).length) ?_ ?_ ?_
 ·simp only [↓za, ↓reduceIte, Nat.reduceEqDiff, zb, reduceCtorEq, rws_zero, s0]
  rfl
 ·rintro k sl ro gn hk ⟨s0, s11, r12304, s12, s4, r8192, s13⟩
  dsimp only at s0 s11 r12304 s12 s4 r8192 s13
  have hk' : (k : Int) < ((spl 32 l).length : Nat) := by omega
  have hw : ((spl 32 l).getD k []).length ≤ 4000000000 := by
   have := spl_mem_len _ l (Nat.le_refl _) _ (getD_mem hk)
   omega
  have hi2 : k + 1 ≤ 4294967296 := by omega
  have c := cRd hw
  rw [ho _ (getD_mem hk)] at c
  simp (maxSteps := 10000000) (disch := first | assumption | omega) only [go_sem, ↓reduceIte, Nat.reduceEqDiff, reduceCtorEq, Nat.reduceAdd, Nat.reduceMul, Nat.reduceLeDiff, zc, Int.reduceToNat, s0, s11, r12304, s12, s4, r8192, s13, hk', hk, tiSt, tiSS, rowS_get hk, zfn]
  refine CLL_pure _ c rfl rfl rfl ?_
  simp (maxSteps := 10000000) (disch := first | assumption | omega) only [go_sem, ↓reduceIte, Nat.reduceEqDiff, reduceCtorEq, Nat.reduceAdd, Nat.reduceMul, Nat.reduceLeDiff, zc, Int.reduceToNat, s0, s11, r12304, s12, s4, r8192, s13, hk', hk, hi2]
  exact i64c (by omega)
 ·rintro sl ro gn ⟨s0, s11, r12304, s12, s4, r8192, s13⟩
  dsimp only at s0 s11 r12304 s12 s4 r8192 s13
  have hk' : ¬ (((spl 32 l).length : Nat) : Int) < ((spl 32 l).length : Nat) := by omega
  simp (maxSteps := 10000000) (disch := first | assumption | omega) only [go_sem, ↓reduceIte, Nat.reduceEqDiff, reduceCtorEq, Nat.reduceAdd, Nat.reduceMul, Nat.reduceLeDiff, zc, Int.reduceToNat, s0, s11, r12304, s12, s4, r8192, s13, hk', tiSS]
  simp only [zr, zb, retR, resL, outT, outL, zes, zez, oneV, zcp, zed, zfi, Ro.dl, St.ev, zhk, ↓za, ↓reduceIte, Nat.reduceEqDiff, Nat.reduceAdd, Nat.reduceLeDiff, r8192]
theorem cReadN {l : List UInt8} (hl : l.length ≤ 4000000000) (ho : ¬ okW l) : CallOK Tryz.prog 28 [sB l] (.tup [nilA, bo false]) := by
 have cs := cSplit (l := l) (c := 32) hl
 have hlen := spl_len 32 l
 refine call_of (fn := Tryz.f28) (code := bodyOf Tryz.f28) Tryz.func28 rfl (by kernel_rfl) (rfl) ?_
 intro sl hs
 have s0 : sl 0 = sB l := hs 0
 dsimp only [Tryz.f28, bodyOf, Option.getD]
 simp (maxSteps := 10000000) (disch := first | assumption | omega) only [go_sem, ↓reduceIte, Nat.reduceEqDiff, reduceCtorEq, Nat.reduceAdd, Nat.reduceMul, Nat.reduceLeDiff, zc, Int.reduceToNat, s0, tiSt, tiBy, tiSS]
 refine CLL_pure _ cs rfl rfl rfl ?_
 simp (maxSteps := 10000000) (disch := first | assumption | omega) only [go_sem, ↓reduceIte, Nat.reduceEqDiff, reduceCtorEq, Nat.reduceAdd, Nat.reduceMul, Nat.reduceLeDiff, zc, Int.reduceToNat, s0, tiSS, impE_row, List.length_map]
 refine WK_for (fun k st => st.sl 0 = sB l ∧ st.sl 11 = .ref 12304 1 [] 0 (spl 32 l).length ∧ st.ro 12304 1 = some (rowS (spl 32 l)) ∧ st.sl 12 = i64 ((spl 32 l).length : Nat) ∧ st.sl 4 = .ref 8192 (st.gn 8192) [] 0 k ∧ st.ro 8192 (st.gn 8192) = some (.row (rws (fun i => i64 (piN ((spl 32 l).getD i []))) k)) ∧ st.sl 13 = i64 (k : Int) ∧ (∀ j, j < k → (rdv ((spl 32 l).getD j [])).isSome = true)) ((spl 32 l).length) ?_ ?_ ?_
 ·simp only [↓za, ↓reduceIte, Nat.reduceEqDiff, zb, reduceCtorEq, rws_zero, s0]
  exact ⟨rfl, fun j hj => absurd hj (Nat.not_lt_zero j)⟩
 ·rintro k sl ro gn hk ⟨s0, s11, r12304, s12, s4, r8192, s13, q⟩
  dsimp only at s0 s11 r12304 s12 s4 r8192 s13
  have hk' : (k : Int) < ((spl 32 l).length : Nat) := by omega
  have hw : ((spl 32 l).getD k []).length ≤ 4000000000 := by
   have := spl_mem_len _ l (Nat.le_refl _) _ (getD_mem hk)
   omega
  have hi2 : k + 1 ≤ 4294967296 := by omega
  have c := cRd hw
  cases hb : (rdv ((spl 32 l).getD k [])).isSome with
  | true =>
   rw [hb] at c
   simp (maxSteps := 10000000) (disch := first | assumption | omega) only [go_sem, ↓reduceIte, Nat.reduceEqDiff, reduceCtorEq, Nat.reduceAdd, Nat.reduceMul, Nat.reduceLeDiff, zc, Int.reduceToNat, s0, s11, r12304, s12, s4, r8192, s13, hk', hk, tiSt, tiSS, rowS_get hk, zfn]
   refine CLL_pure _ c rfl rfl rfl ?_
   simp (maxSteps := 10000000) (disch := first | assumption | omega) only [go_sem, ↓reduceIte, Nat.reduceEqDiff, reduceCtorEq, Nat.reduceAdd, Nat.reduceMul, Nat.reduceLeDiff, zc, Int.reduceToNat, s0, s11, r12304, s12, s4, r8192, s13, hk', hk, hi2]
   refine ⟨i64c (by omega), fun j hj => ?_⟩
   rcases Nat.lt_or_eq_of_le (Nat.le_of_lt_succ hj) with h | h
   ·exact q j h
   ·rw [h]; exact hb
  | false =>
   rw [hb] at c
   simp (maxSteps := 10000000) (disch := first | assumption | omega) only [go_sem, ↓reduceIte, Nat.reduceEqDiff, reduceCtorEq, Nat.reduceAdd, Nat.reduceMul, Nat.reduceLeDiff, zc, Int.reduceToNat, s0, s11, r12304, s12, s4, r8192, s13, hk', hk, tiSt, tiSS, rowS_get hk, zfn]
   refine CLL_pure _ c rfl rfl rfl ?_
   simp (maxSteps := 10000000) (disch := first | assumption | omega) only [go_sem, ↓reduceIte, Nat.reduceEqDiff, reduceCtorEq, Nat.reduceAdd, Nat.reduceMul, Nat.reduceLeDiff, zc, Int.reduceToNat, s0, s11, r12304, s12, s4, r8192, s13, hk', hk]
   simp only [zr, zb, retR, resL, outT, outL, zes, zez, oneV, zcp, zed, zfi, Ro.dl, St.ev, zhk, ↓za, ↓reduceIte, Nat.reduceEqDiff, Nat.reduceAdd, Nat.reduceLeDiff]
 ·rintro sl ro gn ⟨s0, s11, r12304, s12, s4, r8192, s13, q⟩
  dsimp only at s0 s11 r12304 s12 s4 r8192 s13
  have hk' : ¬ (((spl 32 l).length : Nat) : Int) < ((spl 32 l).length : Nat) := by omega
  exact absurd (fun w hw => by
   obtain ⟨k, hk, e⟩ := List.mem_iff_getElem.1 hw
   have h1 := q k hk
   rw [List.getD_eq_getElem?_getD, List.getElem?_eq_getElem hk, e] at h1
   exact h1) ho
end Go.Proofs.YteaaangdibabnaaGreatDoor
/- Data out of a text: the reference's. -/
namespace Go.Proofs.YteaaangdibabnaaGreatDoor
open Go.RowKit
set_option maxRecDepth 1000000
def SV (u : List UInt8) : List (List Int) := (spl 47 u).map RV
def SP (u : List UInt8) : List (List Int) := (spl 47 u).map RP
theorem SV_row (u : List UInt8) : rowLL (SV u) = .row (rws (fun i => rowL (RV ((spl 47 u).getD i []))) (spl 47 u).length) := by
 unfold rowLL SV
 congr 1
 rw [List.map_map]
 apply List.ext_getElem?
 intro k
 by_cases h : k < (spl 47 u).length
 ·rw [rws_get _ _ _ h, List.getElem?_map, List.getD_eq_getElem?_getD, List.getElem?_eq_getElem h]
  rfl
 ·rw [List.getElem?_eq_none (by simpa using h), List.getElem?_eq_none (by rw [zfe]; omega)]
theorem row_map {f : List UInt8 → List Int} {ws : List (List UInt8)} {k : Nat} (h : k < ws.length) : row (ws.map f) k = f (ws.getD k []) := by
 unfold row
 rw [List.getD_eq_getElem?_getD, List.getElem?_map, List.getD_eq_getElem?_getD, List.getElem?_eq_getElem h]
 rfl
theorem kIdx_r0 {ro : Ro} {s g : Nat} {p : List Nat} {off n : Nat} {a1 : Nat} {a2 : Bool} {a3 : List Value} {e : Nat} {a5 : List (Nat × Nat)} {a6 : Option IntKind} {a7 a8 : Bool} : kIdx (some ⟨a1, a2, a3, some e, a5, a6, a7, a8⟩) ro (.ref s g p off n) (.sc (.int .i64 0)) = if 0 < n ∧ (ro.cells s g p).isSome = true then some ⟨.ptr s g p (off + 0), none, [], []⟩ else none := zen (k := 0)
theorem kIdx_r1 {ro : Ro} {s g : Nat} {p : List Nat} {off n : Nat} {a1 : Nat} {a2 : Bool} {a3 : List Value} {e : Nat} {a5 : List (Nat × Nat)} {a6 : Option IntKind} {a7 a8 : Bool} : kIdx (some ⟨a1, a2, a3, some e, a5, a6, a7, a8⟩) ro (.ref s g p off n) (.sc (.int .i64 1)) = if 1 < n ∧ (ro.cells s g p).isSome = true then some ⟨.ptr s g p (off + 1), none, [], []⟩ else none := zen (k := 1)
theorem cPDn {l : List UInt8} (hl : l.length ≤ 2000000) (hn : (spl 124 l).length ≠ 2) : CallOK Tryz.prog 10 [sB l] (.tup [.agg [nilA, nilA], i64 6]) := by
 have cs := cSplitS (l := l) (c := 124) (by omega)
 have e' : ¬ (((spl 124 l).length : Nat) : Int) = 2 := by omega
 refine call_of (fn := Tryz.f10) (code := bodyOf Tryz.f10) Tryz.func10 rfl (by kernel_rfl) (rfl) ?_
 intro sl hs
 have s0 : sl 0 = sB l := hs 0
 dsimp only [Tryz.f10, bodyOf, Option.getD]
 simp (maxSteps := 10000000) (disch := first | assumption | omega) only [go_sem, ↓reduceIte, Nat.reduceEqDiff, reduceCtorEq, Nat.reduceAdd, Nat.reduceMul, Nat.reduceLeDiff, zc, Int.reduceToNat, s0, tiSt, tiBy, tiSS]
 refine CLL_pure _ cs rfl rfl rfl ?_
 simp (maxSteps := 10000000) (disch := first | assumption | omega) only [go_sem, ↓reduceIte, Nat.reduceEqDiff, reduceCtorEq, Nat.reduceAdd, Nat.reduceMul, Nat.reduceLeDiff, zc, Int.reduceToNat, s0, tiSS, impE_row, List.length_map, eq_false e']
 simp only [zr, zb, retR, resL, outT, outL, zes, zez, oneV, zcp, zed, zfi, Ro.dl, St.ev, zhk, ↓za, ↓reduceIte, Nat.reduceEqDiff, Nat.reduceAdd, Nat.reduceLeDiff, ti25]
theorem cPDs {l u v : List UInt8} (hl : l.length ≤ 2000000) (hn : spl 124 l = [u, v]) {t : Bool} (ht : t = true ↔ DataP (SV u) (RV v)) : CallOK Tryz.prog 10 [sB l] (if t = true then .tup [.agg [rowLL (SV u), rowL (RV v)], i64 0] else .tup [.agg [nilA, nilA], i64 6]) := by
 have cs := cSplitS (l := l) (c := 124) (by omega)
 rw [hn] at cs
 have hu : u.length ≤ 2000000 := Nat.le_trans (spl_mem_len _ l (Nat.le_refl _) u (by rw [hn]; simp)) hl
 have hv : v.length ≤ 2000000 := Nat.le_trans (spl_mem_len _ l (Nat.le_refl _) v (by rw [hn]; simp)) hl
 have c1 := cSplitS (l := u) (c := 47) (by omega)
 have c2 := cReadS (l := v) (by omega)
 have w1 := spl_len 47 u
 have w2 := spl_len 32 v
 have hS : (SV u).length = (spl 47 u).length := List.length_map _
 have hT : (RV v).length = (spl 32 v).length := RV_len v
 have hR : ∀ i, i < (SV u).length → (row (SV u) i).length ≤ maxN := by
  intro i hi
  rw [hS] at hi
  unfold SV
  rw [row_map hi, RV_len]
  have h1 := spl_mem_len _ u (Nat.le_refl _) _ (getD_mem hi)
  have h2 := spl_len 32 ((spl 47 u).getD i [])
  have : maxN = 4294967296 := rfl
  omega
 have cI := c66 (isLL_imm (SV u)) (isL_imm (RV v)) (by rw [hS]; have : maxN = 4294967296 := rfl; omega) (by rw [hT]; have : maxN = 4294967296 := rfl; omega) hR ht
 have hr0 : noRef (if t = true then AV.tup [.agg [rowLL (SV u), rowL (RV v)], i64 0] else .tup [.agg [nilA, nilA], i64 6]) = true := by
  split
  ·simp only [noRef, noRefL, noRef_rowLL, noRef_rowL, Bool.and_self, zhi, zhj]
  ·rfl
 refine call_of (fn := Tryz.f10) (code := bodyOf Tryz.f10) Tryz.func10 rfl (by kernel_rfl) (hr0) ?_
 intro sl hs
 have s0 : sl 0 = sB l := hs 0
 have e1 : (List.map sB [u, v]).length = 2 := rfl
 dsimp only [Tryz.f10, bodyOf, Option.getD]
 simp (maxSteps := 10000000) (disch := first | assumption | omega) only [go_sem, ↓reduceIte, Nat.reduceEqDiff, reduceCtorEq, Nat.reduceAdd, Nat.reduceMul, Nat.reduceLeDiff, zc, Int.reduceToNat, s0, tiSt, tiBy, tiSS]
 refine CLL_pure _ cs rfl rfl rfl ?_
 simp (maxSteps := 10000000) (disch := first | assumption | omega) only [go_sem, ↓reduceIte, Nat.reduceEqDiff, reduceCtorEq, Nat.reduceAdd, Nat.reduceMul, Nat.reduceLeDiff, zc, Int.reduceToNat, s0, tiSS, tiSt, impE_row, List.length_map, kIdx_r0, kIdx_r1, zfn]
 refine CLLD_pure _ c1 rfl rfl ?_
 simp (maxSteps := 10000000) (disch := first | assumption | omega) only [go_sem, ↓reduceIte, Nat.reduceEqDiff, reduceCtorEq, Nat.reduceAdd, Nat.reduceMul, Nat.reduceLeDiff, zc, Int.reduceToNat, s0, tiSS, tiSt, impE_row, List.length_map, kIdx_r0, kIdx_r1, zfn]
 refine CLLD_pure _ c2 rfl rfl ?_
 simp (maxSteps := 10000000) (disch := first | assumption | omega) only [go_sem, ↓reduceIte, Nat.reduceEqDiff, reduceCtorEq, Nat.reduceAdd, Nat.reduceMul, Nat.reduceLeDiff, zc, Int.reduceToNat, s0, tiSS, tiSt, impE_row, List.length_map, ti25, ti22, ti23]
 refine FIN_of (by kernel_rfl) ?_
 simp (maxSteps := 10000000) (disch := first | assumption | omega) only [go_sem, ↓reduceIte, Nat.reduceEqDiff, reduceCtorEq, Nat.reduceAdd, Nat.reduceMul, Nat.reduceLeDiff, zc, Int.reduceToNat, s0, tiSS]
 refine WK_for (fun i st => st.sl 2 = .ptr 4096 1 [] 0 ∧ st.ro 4096 1 = some (.bx [nilA, nilA]) ∧ st.sl 5 = .ref 20528 1 [] 0 (spl 47 u).length ∧ st.ro 20528 1 = some (rowS (spl 47 u)) ∧ st.ro 20592 1 = some (rowL (RV v)) ∧ st.sl 6 = .ptr 20624 1 [] 0 ∧ st.sl 7 = i64 (i : Int) ∧ ((i = 0 ∧ st.ro 20624 1 = some (.bx [nilA, .ref 20592 1 [] 0 (RV v).length])) ∨ (0 < i ∧ st.ro 20624 1 = some (.bx [.ref 36992 (st.gn 36992) [] 0 i, .ref 20592 1 [] 0 (RV v).length]) ∧ st.ro 36992 (st.gn 36992) = some (.row (rws (fun x => rowL (RV ((spl 47 u).getD x []))) i))))) ((spl 47 u).length) ?_ ?_ ?_
 ·simp only [↓za, ↓reduceIte, Nat.reduceEqDiff, zb, reduceCtorEq, rws_zero, s0]
  exact ⟨rfl, .inl trivial⟩
 ·rintro i sl ro gn hi ⟨s2, r4096, s5, r20528, r20592, s6, s7, q⟩
  dsimp only at s2 r4096 s5 r20528 r20592 s6 s7
  have hi' : (i : Int) < ((spl 47 u).length : Nat) := by omega
  dsimp only at q
  have hi2 : i + 1 ≤ 4294967296 := by omega
  have hw : ((spl 47 u).getD i []).length ≤ 4000000000 := by
   have := spl_mem_len _ u (Nat.le_refl _) _ (getD_mem hi)
   omega
  have c := cReadS hw
  rcases q with ⟨hi0, q2⟩ | ⟨hi0, q2, q3⟩
  ·simp (maxSteps := 10000000) (disch := first | assumption | omega) only [go_sem, ↓reduceIte, Nat.reduceEqDiff, reduceCtorEq, Nat.reduceAdd, Nat.reduceMul, Nat.reduceLeDiff, zc, Int.reduceToNat, s2, r4096, s5, r20528, r20592, s6, s7, hi', hi, tiSt, tiSS, rowS_get hi, zfn, q2]
   refine CLLD_pure _ c rfl rfl ?_
   simp (maxSteps := 10000000) (disch := first | assumption | omega) only [go_sem, ↓reduceIte, Nat.reduceEqDiff, reduceCtorEq, Nat.reduceAdd, Nat.reduceMul, Nat.reduceLeDiff, zc, Int.reduceToNat, s2, r4096, s5, r20528, r20592, s6, s7, hi', hi, tiSt, tiSS, q2, impE_row, List.length_map]
   refine FIN_of (by kernel_rfl) ?_
   simp (maxSteps := 10000000) (disch := first | assumption | omega) only [go_sem, ↓reduceIte, Nat.reduceEqDiff, reduceCtorEq, Nat.reduceAdd, Nat.reduceMul, Nat.reduceLeDiff, zc, Int.reduceToNat, s2, r4096, s5, r20528, r20592, s6, s7, hi', hi, q2]
   subst hi0
   exact ⟨i64c (by omega), .inr ⟨by omega, rfl, rfl⟩⟩
  ·simp (maxSteps := 10000000) (disch := first | assumption | omega) only [go_sem, ↓reduceIte, Nat.reduceEqDiff, reduceCtorEq, Nat.reduceAdd, Nat.reduceMul, Nat.reduceLeDiff, zc, Int.reduceToNat, s2, r4096, s5, r20528, r20592, s6, s7, hi', hi, tiSt, tiSS, rowS_get hi, zfn, q2, q3, hi2]
   refine CLLD_pure _ c rfl rfl ?_
   simp (maxSteps := 10000000) (disch := first | assumption | omega) only [go_sem, ↓reduceIte, Nat.reduceEqDiff, reduceCtorEq, Nat.reduceAdd, Nat.reduceMul, Nat.reduceLeDiff, zc, Int.reduceToNat, s2, r4096, s5, r20528, r20592, s6, s7, hi', hi, tiSt, tiSS, q2, q3, hi2, impE_row, List.length_map]
   refine FIN_of (by kernel_rfl) ?_
   simp (maxSteps := 10000000) (disch := first | assumption | omega) only [go_sem, ↓reduceIte, Nat.reduceEqDiff, reduceCtorEq, Nat.reduceAdd, Nat.reduceMul, Nat.reduceLeDiff, zc, Int.reduceToNat, s2, r4096, s5, r20528, r20592, s6, s7, hi', hi, q2, q3, hi2]
   refine ⟨i64c (by omega), .inr ?_⟩
   first | exact trivial | exact congrArg (fun z => some (AV.row z)) (zfm _ _) | exact ⟨rfl, congrArg (fun z => some (AV.row z)) (zfm _ _)⟩ | exact ⟨by omega, rfl, congrArg (fun z => some (AV.row z)) (zfm _ _)⟩
 ·rintro sl ro gn ⟨s2, r4096, s5, r20528, r20592, s6, s7, q⟩
  dsimp only at s2 r4096 s5 r20528 r20592 s6 s7
  have hi' : ¬ (((spl 47 u).length : Nat) : Int) < ((spl 47 u).length : Nat) := by omega
  dsimp only at q
  rcases q with ⟨hi0, q2⟩ | ⟨hi0, q2, q3⟩
  ·exact absurd (spl_pos 47 u) (by omega)
  ·rw [← SV_row] at q3
   simp (maxSteps := 10000000) (disch := first | assumption | omega) only [go_sem, ↓reduceIte, Nat.reduceEqDiff, reduceCtorEq, Nat.reduceAdd, Nat.reduceMul, Nat.reduceLeDiff, zc, Int.reduceToNat, s2, r4096, s5, r20528, r20592, s6, s7, hi', tiSS, q2, q3]
   refine CLL_q _ cI (.cons (exq_agg (.cons (exq_refLL q3 (by rw [hS]) (by decide)) (.cons (exq_refL r20592 rfl (by decide)) .nil))) .nil) rfl rfl rfl ?_
   cases t with
   | true =>
    simp (maxSteps := 10000000) (disch := first | assumption | omega) only [go_sem, ↓reduceIte, Nat.reduceEqDiff, reduceCtorEq, Nat.reduceAdd, Nat.reduceMul, Nat.reduceLeDiff, zc, Int.reduceToNat, s2, r4096, s5, r20528, r20592, s6, s7, hi', q2, q3]
    simp only [zr, zb, retR, resL, outT, outL, zes, zez, oneV, zcp, zed, zfi, Ro.dl, St.ev, zhk, ↓za, ↓reduceIte, Nat.reduceEqDiff, Nat.reduceAdd, Nat.reduceLeDiff, ti25, s2, q2, q3, r20592, hS]
   | false =>
    simp (maxSteps := 10000000) (disch := first | assumption | omega) only [go_sem, ↓reduceIte, Nat.reduceEqDiff, reduceCtorEq, Nat.reduceAdd, Nat.reduceMul, Nat.reduceLeDiff, zc, Int.reduceToNat, s2, r4096, s5, r20528, r20592, s6, s7, hi', q2, q3]
    simp only [zr, zb, retR, resL, outT, outL, zes, zez, oneV, zcp, zed, zfi, Ro.dl, St.ev, zhk, ↓za, ↓reduceIte, Nat.reduceEqDiff, Nat.reduceAdd, Nat.reduceLeDiff, ti25, s2, q2, q3, r20592, hS]
end Go.Proofs.YteaaangdibabnaaGreatDoor
/- Data out of a text: the program's. -/
namespace Go.Proofs.YteaaangdibabnaaGreatDoor
open Go.RowKit
set_option maxRecDepth 1000000
theorem imp_tL (b : Nat) (gn : Nat → Nat) (xs : List AV) (v : Value) : impE b gn (.tup [.row xs, .sc v]) = ⟨.tup [.ref b (gn b + 1) [] 0 xs.length, .sc v], none, [], [(b, .row xs)]⟩ := nr _
theorem imp_t2 (b : Nat) (gn : Nat → Nat) (v x : Value) : impE b gn (.tup [.sc v, .sc x]) = ⟨.tup [.sc v, .sc x], none, [], []⟩ := nr _
theorem imp_t3 (b : Nat) (gn : Nat → Nat) (v x y : Value) : impE b gn (.tup [.sc v, .sc x, .sc y]) = ⟨.tup [.sc v, .sc x, .sc y], none, [], []⟩ := nr _
def okB (l : List UInt8) : Bool := (spl 32 l).all fun w => (rdv w).isSome
theorem okB_iff {l : List UInt8} : okB l = true ↔ okW l := by unfold okB okW; rw [List.all_eq_true]
def cA (l : List UInt8) : AV := if okB l = true then rowL (RP l) else nilA
def fndW (W : List (List UInt8)) (f : Bool) : Nat → Bool
 | 0 => f
 | i + 1 => fndW W f i && okB (W.getD i [])
theorem fndW_true {W : List (List UInt8)} {f : Bool} : ∀ {n : Nat}, fndW W f n = true → f = true ∧ ∀ j, j < n → okB (W.getD j []) = true
 | 0, h => ⟨h, fun j hj => absurd hj (Nat.not_lt_zero j)⟩
 | n + 1, h => by
  unfold fndW at h
  rw [Bool.and_eq_true] at h
  obtain ⟨h1, h2⟩ := fndW_true h.1
  refine ⟨h1, fun j hj => ?_⟩
  rcases Nat.lt_or_eq_of_le (Nat.le_of_lt_succ hj) with h' | h'
  ·exact h2 j h'
  ·rw [h']; exact h.2
theorem SP_row (u : List UInt8) : rowLL (SP u) = .row (rws (fun i => rowL (RP ((spl 47 u).getD i []))) (spl 47 u).length) := by
 unfold rowLL SP
 congr 1
 rw [List.map_map]
 apply List.ext_getElem?
 intro k
 by_cases h : k < (spl 47 u).length
 ·rw [rws_get _ _ _ h, List.getElem?_map, List.getD_eq_getElem?_getD, List.getElem?_eq_getElem h]
  rfl
 ·rw [List.getElem?_eq_none (by simpa using h), List.getElem?_eq_none (by rw [zfe]; omega)]
theorem cA_row {u : List UInt8} (h : ∀ j, j < (spl 47 u).length → okB ((spl 47 u).getD j []) = true) : AV.row (rws (fun x => cA ((spl 47 u).getD x [])) (spl 47 u).length) = rowLL (SP u) := by
 rw [SP_row]
 congr 1
 exact rws_congr fun j hj => by unfold cA; rw [if_pos (h j hj)]
def goodI (l : List UInt8) : Bool := fndW (spl 47 (cuT 124 l).1) (cuT 124 l).2.2 (spl 47 (cuT 124 l).1).length && okB (cuT 124 l).2.1
theorem cPDi {l u v : List UInt8} {f : Bool} (hl : l.length ≤ 2000000) (hu : u.length ≤ 2000000) (hv : v.length ≤ 2000000) (hc : cuT 124 l = (u, v, f)) {t : Bool} (ht : t = true ↔ DataP (SP u) (RP v)) :
  CallOK Tryz.prog 11 [sB l] (if (goodI l && t) = true then .tup [.agg [rowLL (SP u), rowL (RP v)], i64 0] else .tup [.agg [nilA, nilA], i64 6]) := by
 have cs := cCut (l := l) (c := 124) (by omega)
 rw [hc] at cs
 have hg : goodI l = (fndW (spl 47 u) f (spl 47 u).length && okB v) := by unfold goodI; rw [hc]
 have c1 := cSplit (l := u) (c := 47) (by omega)
 have w1 := spl_len 47 u
 have w2 := spl_len 32 v
 have hS : (SP u).length = (spl 47 u).length := List.length_map _
 have hT : (RP v).length = (spl 32 v).length := RP_len v
 have hR : ∀ i, i < (SP u).length → (row (SP u) i).length ≤ maxN := by
  intro i hi
  rw [hS] at hi
  unfold SP
  rw [row_map hi, RP_len]
  have h1 := spl_mem_len _ u (Nat.le_refl _) _ (getD_mem hi)
  have h2 := spl_len 32 ((spl 47 u).getD i [])
  have : maxN = 4294967296 := rfl
  omega
 have cI := c62 (isLL_imm (SP u)) (isL_imm (RP v)) (by rw [hS]; have : maxN = 4294967296 := rfl; omega) (by rw [hT]; have : maxN = 4294967296 := rfl; omega) hR ht
 have hr0 : noRef (if (goodI l && t) = true then AV.tup [.agg [rowLL (SP u), rowL (RP v)], i64 0] else .tup [.agg [nilA, nilA], i64 6]) = true := by
  split
  ·simp only [noRef, noRefL, noRef_rowLL, noRef_rowL, Bool.and_self, zhi, zhj]
  ·rfl
 refine call_of (fn := Tryz.f11) (code := bodyOf Tryz.f11) Tryz.func11 rfl (by kernel_rfl) (hr0) ?_
 intro sl hs
 have s0 : sl 0 = sB l := hs 0
 rw [hg]
 dsimp only [Tryz.f11, bodyOf, Option.getD]
 simp (maxSteps := 10000000) (disch := first | assumption | omega) only [go_sem, ↓reduceIte, Nat.reduceEqDiff, reduceCtorEq, Nat.reduceAdd, Nat.reduceMul, Nat.reduceLeDiff, zc, Int.reduceToNat, s0, tiSt, tiBy, tiSS]
 refine CLL_pure _ cs rfl rfl rfl ?_
 simp (maxSteps := 10000000) (disch := first | assumption | omega) only [go_sem, ↓reduceIte, Nat.reduceEqDiff, reduceCtorEq, Nat.reduceAdd, Nat.reduceMul, Nat.reduceLeDiff, zc, Int.reduceToNat, s0, tiSS, tiSt, imp_t3]
 refine CLL_pure _ c1 rfl rfl rfl ?_
 simp (maxSteps := 10000000) (disch := first | assumption | omega) only [go_sem, ↓reduceIte, Nat.reduceEqDiff, reduceCtorEq, Nat.reduceAdd, Nat.reduceMul, Nat.reduceLeDiff, zc, Int.reduceToNat, s0, tiSS, tiSt, impE_row, List.length_map]
 refine WK_for (fun i st => st.sl 2 = .ptr 4096 1 [] 0 ∧ st.ro 4096 1 = some (.bx [nilA, nilA]) ∧ st.sl 22 = .ref 16400 1 [] 0 (spl 47 u).length ∧ st.ro 16400 1 = some (rowS (spl 47 u)) ∧ st.sl 23 = i64 ((spl 47 u).length : Nat) ∧ st.sl 7 = .ptr 12304 1 [] 0 ∧ st.sl 5 = sB v ∧ st.sl 6 = bo (fndW (spl 47 u) f i) ∧ st.sl 24 = i64 (i : Int) ∧ ((i = 0 ∧ st.ro 12304 1 = some (.bx [nilA, nilA])) ∨ (0 < i ∧ st.ro 12304 1 = some (.bx [.ref 36928 (st.gn 36928) [] 0 i, nilA]) ∧ st.ro 36928 (st.gn 36928) = some (.row (rws (fun x => cA ((spl 47 u).getD x [])) i))))) ((spl 47 u).length) ?_ ?_ ?_
 ·simp only [↓za, ↓reduceIte, Nat.reduceEqDiff, zb, reduceCtorEq, rws_zero, s0]
  exact ⟨rfl, rfl, .inl trivial⟩
 ·rintro i sl ro gn hi ⟨s2, r4096, s22, r16400, s23, s7, s5, s6, s24, q⟩
  dsimp only at s2 r4096 s22 r16400 s23 s7 s5 s6 s24
  have hi' : (i : Int) < ((spl 47 u).length : Nat) := by omega
  dsimp only at q
  have hi2 : i + 1 ≤ 4294967296 := by omega
  have hw : ((spl 47 u).getD i []).length ≤ 4000000000 := by
   have := spl_mem_len _ u (Nat.le_refl _) _ (getD_mem hi)
   omega
  cases hb : okB ((spl 47 u).getD i []) with
  | true =>
   have c := cReadI hw (okB_iff.1 hb)
   have hA : cA ((spl 47 u).getD i []) = rowL (RP ((spl 47 u).getD i [])) := by unfold cA; rw [if_pos hb]
   cases hf : fndW (spl 47 u) f i with
   | true =>
    have hf1 : fndW (spl 47 u) f (i + 1) = true := by unfold fndW; rw [hf, hb]; rfl
    rw [hf] at s6
    rcases q with ⟨hi0, q2⟩ | ⟨hi0, q2, q3⟩
    ·simp (maxSteps := 10000000) (disch := first | assumption | omega) only [go_sem, ↓reduceIte, Nat.reduceEqDiff, reduceCtorEq, Nat.reduceAdd, Nat.reduceMul, Nat.reduceLeDiff, zc, Int.reduceToNat, s2, r4096, s22, r16400, s23, s7, s5, s6, s24, hi', hi, tiSt, tiSS, rowS_get hi, zfn, q2]
     refine CLL_pure _ c rfl rfl rfl ?_
     simp (maxSteps := 10000000) (disch := first | assumption | omega) only [go_sem, ↓reduceIte, Nat.reduceEqDiff, reduceCtorEq, Nat.reduceAdd, Nat.reduceMul, Nat.reduceLeDiff, zc, Int.reduceToNat, s2, r4096, s22, r16400, s23, s7, s5, s6, s24, hi', hi, tiSt, tiSS, q2, imp_tL, imp_t2, List.length_map]
     rw [hf1]
     subst hi0
     refine ⟨rfl, i64c (by omega), .inr ⟨by omega, rfl, ?_⟩⟩
     exact congrArg (fun z => some (AV.row z)) (by show _ = [cA _]; rw [hA])
    ·simp (maxSteps := 10000000) (disch := first | assumption | omega) only [go_sem, ↓reduceIte, Nat.reduceEqDiff, reduceCtorEq, Nat.reduceAdd, Nat.reduceMul, Nat.reduceLeDiff, zc, Int.reduceToNat, s2, r4096, s22, r16400, s23, s7, s5, s6, s24, hi', hi, tiSt, tiSS, rowS_get hi, zfn, q2, q3, hi2]
     refine CLL_pure _ c rfl rfl rfl ?_
     simp (maxSteps := 10000000) (disch := first | assumption | omega) only [go_sem, ↓reduceIte, Nat.reduceEqDiff, reduceCtorEq, Nat.reduceAdd, Nat.reduceMul, Nat.reduceLeDiff, zc, Int.reduceToNat, s2, r4096, s22, r16400, s23, s7, s5, s6, s24, hi', hi, tiSt, tiSS, q2, q3, hi2, imp_tL, imp_t2, List.length_map]
     rw [hf1]
     refine ⟨rfl, i64c (by omega), .inr ?_⟩
     rw [rws_succ, hA]
   | false =>
    have hf1 : fndW (spl 47 u) f (i + 1) = false := by unfold fndW; rw [hf]; rfl
    rw [hf] at s6
    rcases q with ⟨hi0, q2⟩ | ⟨hi0, q2, q3⟩
    ·simp (maxSteps := 10000000) (disch := first | assumption | omega) only [go_sem, ↓reduceIte, Nat.reduceEqDiff, reduceCtorEq, Nat.reduceAdd, Nat.reduceMul, Nat.reduceLeDiff, zc, Int.reduceToNat, s2, r4096, s22, r16400, s23, s7, s5, s6, s24, hi', hi, tiSt, tiSS, rowS_get hi, zfn, q2]
     refine CLL_pure _ c rfl rfl rfl ?_
     simp (maxSteps := 10000000) (disch := first | assumption | omega) only [go_sem, ↓reduceIte, Nat.reduceEqDiff, reduceCtorEq, Nat.reduceAdd, Nat.reduceMul, Nat.reduceLeDiff, zc, Int.reduceToNat, s2, r4096, s22, r16400, s23, s7, s5, s6, s24, hi', hi, tiSt, tiSS, q2, imp_tL, imp_t2, List.length_map]
     rw [hf1]
     subst hi0
     refine ⟨rfl, i64c (by omega), .inr ⟨by omega, rfl, ?_⟩⟩
     exact congrArg (fun z => some (AV.row z)) (by show _ = [cA _]; rw [hA])
    ·simp (maxSteps := 10000000) (disch := first | assumption | omega) only [go_sem, ↓reduceIte, Nat.reduceEqDiff, reduceCtorEq, Nat.reduceAdd, Nat.reduceMul, Nat.reduceLeDiff, zc, Int.reduceToNat, s2, r4096, s22, r16400, s23, s7, s5, s6, s24, hi', hi, tiSt, tiSS, rowS_get hi, zfn, q2, q3, hi2]
     refine CLL_pure _ c rfl rfl rfl ?_
     simp (maxSteps := 10000000) (disch := first | assumption | omega) only [go_sem, ↓reduceIte, Nat.reduceEqDiff, reduceCtorEq, Nat.reduceAdd, Nat.reduceMul, Nat.reduceLeDiff, zc, Int.reduceToNat, s2, r4096, s22, r16400, s23, s7, s5, s6, s24, hi', hi, tiSt, tiSS, q2, q3, hi2, imp_tL, imp_t2, List.length_map]
     rw [hf1]
     refine ⟨rfl, i64c (by omega), .inr ?_⟩
     rw [rws_succ, hA]
  | false =>
   have c := cReadN hw (fun h => by rw [okB_iff.2 h] at hb; cases hb)
   have hA : cA ((spl 47 u).getD i []) = nilA := by unfold cA; rw [hb]; rfl
   cases hf : fndW (spl 47 u) f i with
   | true =>
    have hf1 : fndW (spl 47 u) f (i + 1) = false := by unfold fndW; rw [hf, hb]; rfl
    rw [hf] at s6
    rcases q with ⟨hi0, q2⟩ | ⟨hi0, q2, q3⟩
    ·simp (maxSteps := 10000000) (disch := first | assumption | omega) only [go_sem, ↓reduceIte, Nat.reduceEqDiff, reduceCtorEq, Nat.reduceAdd, Nat.reduceMul, Nat.reduceLeDiff, zc, Int.reduceToNat, s2, r4096, s22, r16400, s23, s7, s5, s6, s24, hi', hi, tiSt, tiSS, rowS_get hi, zfn, q2]
     refine CLL_pure _ c rfl rfl rfl ?_
     simp (maxSteps := 10000000) (disch := first | assumption | omega) only [go_sem, ↓reduceIte, Nat.reduceEqDiff, reduceCtorEq, Nat.reduceAdd, Nat.reduceMul, Nat.reduceLeDiff, zc, Int.reduceToNat, s2, r4096, s22, r16400, s23, s7, s5, s6, s24, hi', hi, tiSt, tiSS, q2, imp_tL, imp_t2, List.length_map]
     rw [hf1]
     subst hi0
     refine ⟨rfl, i64c (by omega), .inr ⟨by omega, rfl, ?_⟩⟩
     exact congrArg (fun z => some (AV.row z)) (by show _ = [cA _]; rw [hA])
    ·simp (maxSteps := 10000000) (disch := first | assumption | omega) only [go_sem, ↓reduceIte, Nat.reduceEqDiff, reduceCtorEq, Nat.reduceAdd, Nat.reduceMul, Nat.reduceLeDiff, zc, Int.reduceToNat, s2, r4096, s22, r16400, s23, s7, s5, s6, s24, hi', hi, tiSt, tiSS, rowS_get hi, zfn, q2, q3, hi2]
     refine CLL_pure _ c rfl rfl rfl ?_
     simp (maxSteps := 10000000) (disch := first | assumption | omega) only [go_sem, ↓reduceIte, Nat.reduceEqDiff, reduceCtorEq, Nat.reduceAdd, Nat.reduceMul, Nat.reduceLeDiff, zc, Int.reduceToNat, s2, r4096, s22, r16400, s23, s7, s5, s6, s24, hi', hi, tiSt, tiSS, q2, q3, hi2, imp_tL, imp_t2, List.length_map]
     rw [hf1]
     refine ⟨rfl, i64c (by omega), .inr ?_⟩
     rw [rws_succ, hA]
   | false =>
    have hf1 : fndW (spl 47 u) f (i + 1) = false := by unfold fndW; rw [hf]; rfl
    rw [hf] at s6
    rcases q with ⟨hi0, q2⟩ | ⟨hi0, q2, q3⟩
    ·simp (maxSteps := 10000000) (disch := first | assumption | omega) only [go_sem, ↓reduceIte, Nat.reduceEqDiff, reduceCtorEq, Nat.reduceAdd, Nat.reduceMul, Nat.reduceLeDiff, zc, Int.reduceToNat, s2, r4096, s22, r16400, s23, s7, s5, s6, s24, hi', hi, tiSt, tiSS, rowS_get hi, zfn, q2]
     refine CLL_pure _ c rfl rfl rfl ?_
     simp (maxSteps := 10000000) (disch := first | assumption | omega) only [go_sem, ↓reduceIte, Nat.reduceEqDiff, reduceCtorEq, Nat.reduceAdd, Nat.reduceMul, Nat.reduceLeDiff, zc, Int.reduceToNat, s2, r4096, s22, r16400, s23, s7, s5, s6, s24, hi', hi, tiSt, tiSS, q2, imp_tL, imp_t2, List.length_map]
     rw [hf1]
     subst hi0
     refine ⟨rfl, i64c (by omega), .inr ⟨by omega, rfl, ?_⟩⟩
     exact congrArg (fun z => some (AV.row z)) (by show _ = [cA _]; rw [hA])
    ·simp (maxSteps := 10000000) (disch := first | assumption | omega) only [go_sem, ↓reduceIte, Nat.reduceEqDiff, reduceCtorEq, Nat.reduceAdd, Nat.reduceMul, Nat.reduceLeDiff, zc, Int.reduceToNat, s2, r4096, s22, r16400, s23, s7, s5, s6, s24, hi', hi, tiSt, tiSS, rowS_get hi, zfn, q2, q3, hi2]
     refine CLL_pure _ c rfl rfl rfl ?_
     simp (maxSteps := 10000000) (disch := first | assumption | omega) only [go_sem, ↓reduceIte, Nat.reduceEqDiff, reduceCtorEq, Nat.reduceAdd, Nat.reduceMul, Nat.reduceLeDiff, zc, Int.reduceToNat, s2, r4096, s22, r16400, s23, s7, s5, s6, s24, hi', hi, tiSt, tiSS, q2, q3, hi2, imp_tL, imp_t2, List.length_map]
     rw [hf1]
     refine ⟨rfl, i64c (by omega), .inr ?_⟩
     rw [rws_succ, hA]
 ·rintro sl ro gn ⟨s2, r4096, s22, r16400, s23, s7, s5, s6, s24, q⟩
  dsimp only at s2 r4096 s22 r16400 s23 s7 s5 s6 s24
  have hi' : ¬ (((spl 47 u).length : Nat) : Int) < ((spl 47 u).length : Nat) := by omega
  dsimp only at q
  have hw : v.length ≤ 4000000000 := by omega
  rcases q with ⟨hi0, q2⟩ | ⟨hi0, q2, q3⟩
  ·exact absurd (spl_pos 47 u) (by omega)
  cases hv1 : okB v with
  | true =>
   have c := cReadI hw (okB_iff.1 hv1)
   cases hf : fndW (spl 47 u) f (spl 47 u).length with
   | true =>
    rw [hf] at s6
    rw [cA_row (fndW_true hf).2] at q3
    simp (maxSteps := 10000000) (disch := first | assumption | omega) only [go_sem, ↓reduceIte, Nat.reduceEqDiff, reduceCtorEq, Nat.reduceAdd, Nat.reduceMul, Nat.reduceLeDiff, zc, Int.reduceToNat, s2, r4096, s22, r16400, s23, s7, s5, s6, s24, hi', tiSt, tiSS, q2, q3]
    refine CLL_pure _ c rfl rfl rfl ?_
    simp (maxSteps := 10000000) (disch := first | assumption | omega) only [go_sem, ↓reduceIte, Nat.reduceEqDiff, reduceCtorEq, Nat.reduceAdd, Nat.reduceMul, Nat.reduceLeDiff, zc, Int.reduceToNat, s2, r4096, s22, r16400, s23, s7, s5, s6, s24, hi', tiSt, tiSS, q2, q3, imp_tL, imp_t2, List.length_map, undef]
    refine CLL_q _ cI (.cons (exq_agg (.cons (exq_refLL (Ue q3) (by rw [hS]) (by decide)) (.cons (exq_refL Ur rfl (by decide)) .nil))) .nil) rfl rfl rfl ?_
    cases t with
    | true =>
     simp (maxSteps := 10000000) (disch := first | assumption | omega) only [go_sem, ↓reduceIte, Nat.reduceEqDiff, reduceCtorEq, Nat.reduceAdd, Nat.reduceMul, Nat.reduceLeDiff, zc, Int.reduceToNat, s2, r4096, s22, r16400, s23, s7, s5, s6, s24, hi', q2, q3]
     simp only [zr, zb, retR, resL, outT, outL, zes, zez, oneV, zcp, zed, zfi, Ro.dl, St.ev, zhk, ↓za, ↓reduceIte, Nat.reduceEqDiff, Nat.reduceAdd, Nat.reduceLeDiff, ti25, s2, q2, q3, hS]
    | false =>
     simp (maxSteps := 10000000) (disch := first | assumption | omega) only [go_sem, ↓reduceIte, Nat.reduceEqDiff, reduceCtorEq, Nat.reduceAdd, Nat.reduceMul, Nat.reduceLeDiff, zc, Int.reduceToNat, s2, r4096, s22, r16400, s23, s7, s5, s6, s24, hi', q2, q3]
     simp only [zr, zb, retR, resL, outT, outL, zes, zez, oneV, zcp, zed, zfi, Ro.dl, St.ev, zhk, ↓za, ↓reduceIte, Nat.reduceEqDiff, Nat.reduceAdd, Nat.reduceLeDiff, ti25, s2, q2, q3, hS]
   | false =>
    rw [hf] at s6
    simp (maxSteps := 10000000) (disch := first | assumption | omega) only [go_sem, ↓reduceIte, Nat.reduceEqDiff, reduceCtorEq, Nat.reduceAdd, Nat.reduceMul, Nat.reduceLeDiff, zc, Int.reduceToNat, s2, r4096, s22, r16400, s23, s7, s5, s6, s24, hi', tiSt, tiSS, q2, q3]
    refine CLL_pure _ c rfl rfl rfl ?_
    simp (maxSteps := 10000000) (disch := first | assumption | omega) only [go_sem, ↓reduceIte, Nat.reduceEqDiff, reduceCtorEq, Nat.reduceAdd, Nat.reduceMul, Nat.reduceLeDiff, zc, Int.reduceToNat, s2, r4096, s22, r16400, s23, s7, s5, s6, s24, hi', tiSt, tiSS, q2, q3, imp_tL, imp_t2, List.length_map, undef]
    simp only [zr, zb, retR, resL, outT, outL, zes, zez, oneV, zcp, zed, zfi, Ro.dl, St.ev, zhk, ↓za, ↓reduceIte, Nat.reduceEqDiff, Nat.reduceAdd, Nat.reduceLeDiff, ti25, s2, q2, q3, hS]
    rfl
  | false =>
   have c := cReadN hw (fun h => by rw [okB_iff.2 h] at hv1; cases hv1)
   cases hf : fndW (spl 47 u) f (spl 47 u).length with
   | true =>
    rw [hf] at s6
    simp (maxSteps := 10000000) (disch := first | assumption | omega) only [go_sem, ↓reduceIte, Nat.reduceEqDiff, reduceCtorEq, Nat.reduceAdd, Nat.reduceMul, Nat.reduceLeDiff, zc, Int.reduceToNat, s2, r4096, s22, r16400, s23, s7, s5, s6, s24, hi', tiSt, tiSS, q2, q3]
    refine CLL_pure _ c rfl rfl rfl ?_
    simp (maxSteps := 10000000) (disch := first | assumption | omega) only [go_sem, ↓reduceIte, Nat.reduceEqDiff, reduceCtorEq, Nat.reduceAdd, Nat.reduceMul, Nat.reduceLeDiff, zc, Int.reduceToNat, s2, r4096, s22, r16400, s23, s7, s5, s6, s24, hi', tiSt, tiSS, q2, q3, imp_tL, imp_t2, List.length_map, undef]
    simp only [zr, zb, retR, resL, outT, outL, zes, zez, oneV, zcp, zed, zfi, Ro.dl, St.ev, zhk, ↓za, ↓reduceIte, Nat.reduceEqDiff, Nat.reduceAdd, Nat.reduceLeDiff, ti25, s2, q2, q3, hS]
    rfl
   | false =>
    rw [hf] at s6
    simp (maxSteps := 10000000) (disch := first | assumption | omega) only [go_sem, ↓reduceIte, Nat.reduceEqDiff, reduceCtorEq, Nat.reduceAdd, Nat.reduceMul, Nat.reduceLeDiff, zc, Int.reduceToNat, s2, r4096, s22, r16400, s23, s7, s5, s6, s24, hi', tiSt, tiSS, q2, q3]
    refine CLL_pure _ c rfl rfl rfl ?_
    simp (maxSteps := 10000000) (disch := first | assumption | omega) only [go_sem, ↓reduceIte, Nat.reduceEqDiff, reduceCtorEq, Nat.reduceAdd, Nat.reduceMul, Nat.reduceLeDiff, zc, Int.reduceToNat, s2, r4096, s22, r16400, s23, s7, s5, s6, s24, hi', tiSt, tiSS, q2, q3, imp_tL, imp_t2, List.length_map, undef]
    simp only [zr, zb, retR, resL, outT, outL, zes, zez, oneV, zcp, zed, zfi, Ro.dl, St.ev, zhk, ↓za, ↓reduceIte, Nat.reduceEqDiff, Nat.reduceAdd, Nat.reduceLeDiff, ti25, s2, q2, q3, hS]
    rfl
end Go.Proofs.YteaaangdibabnaaGreatDoor
/- The law of ParseData. -/
namespace Go.Proofs.YteaaangdibabnaaGreatDoor
open Go.RowKit
set_option maxRecDepth 1000000
theorem goodI_no {l u v : List UInt8} {f : Bool} (hc : cuT 124 l = (u, v, f)) (h : f = false ∨ okB v = false) : goodI l = false := by
 unfold goodI
 rw [hc]
 rcases h with h | h
 ·subst h
  cases hf : fndW (spl 47 u) false (spl 47 u).length with
  | true => exact absurd (fndW_true hf).1 (by decide)
  | false => simp [hf]
 ·simp [h]
theorem fndW_of {W : List (List UInt8)} : ∀ {n : Nat}, (∀ j, j < n → okB (W.getD j []) = true) → fndW W true n = true
 | 0, _ => rfl
 | n + 1, h => by
  unfold fndW
  rw [fndW_of fun j hj => h j (by omega), h n (by omega)]
  rfl
theorem map_get {f g : List UInt8 → List Int} {ws : List (List UInt8)} (h : ∀ j, j < ws.length → f (ws.getD j []) = g (ws.getD j [])) : ws.map f = ws.map g := by
 apply List.ext_getElem?
 intro k
 by_cases hk : k < ws.length
 ·have := h k hk
  rw [List.getD_eq_getElem?_getD, List.getElem?_eq_getElem hk] at this
  rw [List.getElem?_map, List.getElem?_map, List.getElem?_eq_getElem hk]
  exact congrArg some this
 ·rw [List.getElem?_eq_none (by simpa using hk), List.getElem?_eq_none (by simpa using hk)]
open Classical in
theorem pd_both {l : List UInt8} (hl : l.length ≤ 2000000) :
  (∃ X Y, X.length ≤ 16 ∧ Y.length ≤ 16 ∧ (∀ j, j < X.length → (row X j).length ≤ 16) ∧ CallOK Tryz.prog 10 [sB l] (.tup [.agg [rowLL X, rowL Y], i64 0]) ∧ CallOK Tryz.prog 11 [sB l] (.tup [.agg [rowLL X, rowL Y], i64 0])) ∨
  ∃ z, CallOK Tryz.prog 10 [sB l] (.tup [.agg [nilA, nilA], i64 z]) ∧ CallOK Tryz.prog 11 [sB l] (.tup [.agg [nilA, nilA], i64 z]) := by
 rcases byte_cases 124 l with hm | ⟨u, v, e, hp⟩
 ·have hc : cuT 124 l = (l, [], false) := cut_miss hm
  have c := cPDi hl hl (by simp) hc (t := decide (DataP (SP l) (RP []))) decide_eq_true_iff
  rw [goodI_no hc (.inl rfl), Bool.false_and, if_neg (by decide)] at c
  exact .inr ⟨6, cPDn hl (by rw [spl_miss hm]; simp), c⟩
 ·have hc : cuT 124 l = (u, v, true) := by rw [e]; exact cut_hit hp
  have hu : u.length ≤ 2000000 := by rw [e] at hl; simp at hl; omega
  have hv : v.length ≤ 2000000 := by rw [e] at hl; simp at hl; omega
  have c := cPDi hl hu hv hc (t := decide (DataP (SP u) (RP v))) decide_eq_true_iff
  by_cases hm : (124 : UInt8) ∈ v
  ·have hk : okB v = false := by
    cases h : okB v with
    | true => exact absurd hm (ok_bar (okB_iff.1 h))
    | false => rfl
   rw [goodI_no hc (.inr hk), Bool.false_and, if_neg (by decide)] at c
   refine .inr ⟨6, cPDn hl ?_, c⟩
   rw [e, spl_hit hp]
   rcases byte_cases 124 v with h | ⟨p, q, e2, hp2⟩
   ·exact absurd hm h
   ·rw [e2, spl_hit hp2]
    have := spl_pos 124 q
    simp only [List.length_cons]
    omega
  ·have hs : spl 124 l = [u, v] := by rw [e, spl_hit hp, spl_miss hm]
   have d := cPDs hl hs (t := decide (DataP (SV u) (RV v))) decide_eq_true_iff
   by_cases hD : DataP (SV u) (RV v)
   ·have D := hD.dat
    have nv := nv_ok D.shp.nT
    have nr : ∀ j, j < (spl 47 u).length → okW ((spl 47 u).getD j []) ∧ RP ((spl 47 u).getD j []) = RV ((spl 47 u).getD j []) := fun j hj => by
     have h1 := D.shp.nS j
     unfold SV at h1
     rw [row_map hj] at h1
     exact nv_ok h1
    have eS : SP u = SV u := map_get fun j hj => (nr j hj).2
    rw [eS, nv.2] at c
    have hg : goodI l = true := by
     unfold goodI
     rw [hc]
     show (fndW (spl 47 u) true (spl 47 u).length && okB v) = true
     rw [fndW_of fun j hj => okB_iff.2 (nr j hj).1, okB_iff.2 nv.1]
     rfl
    rw [hg, decide_eq_true hD, Bool.true_and, if_pos rfl] at c
    rw [decide_eq_true hD, if_pos rfl] at d
    have l1 := D.shp.lS
    exact .inl ⟨_, _, by have := D.m16; omega, D.m16, fun j hj => by rw [D.shp.lR j (by omega)]; exact D.m16, d, c⟩
   ·rw [decide_eq_false hD, if_neg (by decide)] at d
    have hz : (goodI l && decide (DataP (SP u) (RP v))) = false := by
     cases hg : goodI l with
     | false => rfl
     | true =>
      rw [Bool.true_and, decide_eq_false_iff_not]
      intro h
      apply hD
      have D := h.dat
      unfold goodI at hg
      rw [hc] at hg
      have hg' : (fndW (spl 47 u) true (spl 47 u).length && okB v) = true := hg
      rw [Bool.and_eq_true] at hg'
      have eT := np_ok (okB_iff.1 hg'.2) D.shp.nT
      have eS : SV u = SP u := map_get fun j hj => by
       have h1 := D.shp.nS j
       unfold SP at h1
       rw [row_map hj] at h1
       exact np_ok (okB_iff.1 ((fndW_true hg'.1).2 j hj)) h1
      rw [eS, eT]
      exact h
    rw [hz, if_neg (by decide)] at c
    exact .inr ⟨6, d, c⟩
theorem cLPD {l : List UInt8} (hl : l.length < 2^63) : CallOK Tryz.prog 4 [sB l] (bo true) := by
 refine call_of (fn := Tryz.f4) (code := bodyOf Tryz.f4) Tryz.func4 rfl (by kernel_rfl) (rfl) ?_
 intro sl hs
 have s0 : sl 0 = sB l := hs 0
 by_cases hlen : (1048576 : Int) < (l.length : Nat)
 ·dsimp only [Tryz.f4, bodyOf, Option.getD]
  simp (maxSteps := 10000000) (disch := first | assumption | omega) only [go_sem, ↓reduceIte, Nat.reduceEqDiff, reduceCtorEq, Nat.reduceAdd, Nat.reduceMul, Nat.reduceLeDiff, zc, Int.reduceToNat, s0, tiSt, kLen_sB, eq_true hlen]
  simp only [zr, zb, retR, resL, outT, outL, zes, zez, oneV, zcp, zed, zfi, Ro.dl, St.ev, zhk, ↓za, ↓reduceIte, Nat.reduceEqDiff, Nat.reduceAdd, Nat.reduceLeDiff]
 rcases pd_both (l := l) (by omega) with ⟨X, Y, m1, m2, m3, hL, hI⟩ | ⟨z, hL, hI⟩
 ·have hX : X.length ≤ maxN := Nat.le_trans m1 (by decide)
  have hY : Y.length ≤ maxN := Nat.le_trans m2 (by decide)
  have hXr : ∀ j, j < X.length → (row X j).length ≤ maxN := fun j hj => Nat.le_trans (m3 j hj) (by decide)
  have cD := c12t (xss := X) (us := Y) hX (row_max hXr) hY
  have hns : (X.map List.length).length ≤ maxN := by simpa using hX
  have hns2 : ∀ j, (X.map List.length).getD j 0 ≤ 16 := fun j => by
   rcases Nat.lt_or_ge j X.length with hj | hj
   ·have := m3 j hj
    unfold row at this
    simp only [List.getD_eq_getElem?_getD, List.getElem?_map] at this ⊢
    cases h : X[j]? <;> simp_all
   ·rw [List.getD_eq_getElem?_getD, List.getElem?_eq_none (by simpa using hj)]; exact Nat.zero_le _
  have hsum3 := sumN_le (X.map List.length) 16 hns2
  rw [List.length_map] at hsum3
  have hsum2 : sumN (X.map List.length) ≤ 256 := by omega
  have cH := c14' hns (fun j => Nat.le_trans (hns2 j) (by decide)) hY (by omega)
  have hl1 : X.length = (labs 1 (X.map List.length)).length := by rw [labs_len, List.length_map]
  have hl2 : Y.length = (iota (1 + sumN (X.map List.length)) Y.length).length := (iota_len _ _).symm
  have hge : ¬ ((1 : Int) + (sumN (X.map List.length) : Nat) + Y.length < 0) := by omega
  dsimp only [Tryz.f4, bodyOf, Option.getD]
  simp (maxSteps := 10000000) (disch := first | assumption | omega) only [go_sem, ↓reduceIte, Nat.reduceEqDiff, reduceCtorEq, Nat.reduceAdd, Nat.reduceMul, Nat.reduceLeDiff, zc, Int.reduceToNat, s0, tiSt, kLen_sB, eq_false hlen]
  refine CLL_pure _ hL rfl rfl rfl ?_
  simp (maxSteps := 10000000) (disch := first | assumption | omega) only [go_sem, ↓reduceIte, Nat.reduceEqDiff, reduceCtorEq, Nat.reduceAdd, Nat.reduceMul, Nat.reduceLeDiff, zc, Int.reduceToNat, s0, impE_tupD]
  refine CLL_pure _ hI rfl rfl rfl ?_
  simp (maxSteps := 10000000) (disch := first | assumption | omega) only [go_sem, ↓reduceIte, Nat.reduceEqDiff, reduceCtorEq, Nat.reduceAdd, Nat.reduceMul, Nat.reduceLeDiff, zc, Int.reduceToNat, s0, impE_tupD]
  refine CLL_q _ cD (by repeat' first | exact exqL.nil | refine exqL.cons ?_ ?_ | exact exq_sc _ _ _ (by decide) | exact exq_L (by first | assumption | exact isL_imm _) (by decide) | exact exq_LL (by assumption) (by decide) | exact exq_LLL (by assumption) (by decide) | exact exq_refL (by first | assumption | (simp only [↓za, ↓reduceIte, Nat.reduceEqDiff, zb, reduceCtorEq]; done) | (simp only [↓za, ↓reduceIte, Nat.reduceEqDiff, zb, reduceCtorEq]; first | rfl | assumption)) (by first | rfl | (simp only [zfe, List.length_map, tms_len]; done)) (by decide) | exact exq_refLL (by first | assumption | (simp only [↓za, ↓reduceIte, Nat.reduceEqDiff, zb, reduceCtorEq]; done) | (simp only [↓za, ↓reduceIte, Nat.reduceEqDiff, zb, reduceCtorEq]; first | rfl | assumption)) (by first | rfl | (simp only [zfe, List.length_map, tms_len]; done)) (by decide) | exact exq_cube (by first | assumption | (simp only [↓za, ↓reduceIte, Nat.reduceEqDiff, zb, reduceCtorEq]; done) | (simp only [↓za, ↓reduceIte, Nat.reduceEqDiff, zb, reduceCtorEq]; first | rfl | assumption)) (by decide) | exact exq_mat (by first | assumption | (simp only [↓za, ↓reduceIte, Nat.reduceEqDiff, zb, reduceCtorEq]; done) | (simp only [↓za, ↓reduceIte, Nat.reduceEqDiff, zb, reduceCtorEq]; first | rfl | assumption)) (by decide) | refine exq_agg ?_) rfl rfl rfl ?_
  simp (maxSteps := 10000000) (disch := first | assumption | omega) only [go_sem, ↓reduceIte, Nat.reduceEqDiff, reduceCtorEq, Nat.reduceAdd, Nat.reduceMul, Nat.reduceLeDiff, zc, Int.reduceToNat, s0]
  refine CLL_in rfl _ _ _ (in13' (xss := X) (us := Y) (k := 1) Ur Ur (by decide) (by first | (simp only [↓za, ↓reduceIte, Nat.reduceEqDiff, zb, reduceCtorEq]; done) | (simp only [↓za, ↓reduceIte, Nat.reduceEqDiff, zb, reduceCtorEq]; decide)) (by first | (simp only [↓za, ↓reduceIte, Nat.reduceEqDiff, zb, reduceCtorEq]; done) | (simp only [↓za, ↓reduceIte, Nat.reduceEqDiff, zb, reduceCtorEq]; decide)) hX (row_max hXr) hY (by decide) (by omega)) ?_
  simp (maxSteps := 10000000) (disch := first | assumption | omega) only [go_sem, ↓reduceIte, Nat.reduceEqDiff, reduceCtorEq, Nat.reduceAdd, Nat.reduceMul, Nat.reduceLeDiff, zc, Int.reduceToNat, s0]
  refine CLL_q _ cH (.cons (exq_agg (.cons (exq_refLL Ur hl1 (by decide)) (.cons (exq_refL Ur hl2 (by decide)) .nil))) (.cons (exq_sc _ _ _ (by decide)) .nil)) rfl rfl rfl ?_
  simp (maxSteps := 10000000) (disch := first | assumption | omega) only [go_sem, ↓reduceIte, Nat.reduceEqDiff, reduceCtorEq, Nat.reduceAdd, Nat.reduceMul, Nat.reduceLeDiff, zc, Int.reduceToNat, s0, hge]
  refine CLL_pure _ hI rfl rfl rfl ?_
  simp (maxSteps := 10000000) (disch := first | assumption | omega) only [go_sem, ↓reduceIte, Nat.reduceEqDiff, reduceCtorEq, Nat.reduceAdd, Nat.reduceMul, Nat.reduceLeDiff, zc, Int.reduceToNat, s0, impE_tupD]
  refine CLL_q _ cD (by repeat' first | exact exqL.nil | refine exqL.cons ?_ ?_ | exact exq_sc _ _ _ (by decide) | exact exq_L (by first | assumption | exact isL_imm _) (by decide) | exact exq_LL (by assumption) (by decide) | exact exq_LLL (by assumption) (by decide) | exact exq_refL (by first | assumption | (simp only [↓za, ↓reduceIte, Nat.reduceEqDiff, zb, reduceCtorEq]; done) | (simp only [↓za, ↓reduceIte, Nat.reduceEqDiff, zb, reduceCtorEq]; first | rfl | assumption)) (by first | rfl | (simp only [zfe, List.length_map, tms_len]; done)) (by decide) | exact exq_refLL (by first | assumption | (simp only [↓za, ↓reduceIte, Nat.reduceEqDiff, zb, reduceCtorEq]; done) | (simp only [↓za, ↓reduceIte, Nat.reduceEqDiff, zb, reduceCtorEq]; first | rfl | assumption)) (by first | rfl | (simp only [zfe, List.length_map, tms_len]; done)) (by decide) | exact exq_cube (by first | assumption | (simp only [↓za, ↓reduceIte, Nat.reduceEqDiff, zb, reduceCtorEq]; done) | (simp only [↓za, ↓reduceIte, Nat.reduceEqDiff, zb, reduceCtorEq]; first | rfl | assumption)) (by decide) | exact exq_mat (by first | assumption | (simp only [↓za, ↓reduceIte, Nat.reduceEqDiff, zb, reduceCtorEq]; done) | (simp only [↓za, ↓reduceIte, Nat.reduceEqDiff, zb, reduceCtorEq]; first | rfl | assumption)) (by decide) | refine exq_agg ?_) rfl rfl rfl ?_
  simp (maxSteps := 10000000) (disch := first | assumption | omega) only [go_sem, ↓reduceIte, Nat.reduceEqDiff, reduceCtorEq, Nat.reduceAdd, Nat.reduceMul, Nat.reduceLeDiff, zc, Int.reduceToNat, s0]
  refine CLL_q _ cH (.cons (exq_agg (.cons (exq_refLL Ur hl1 (by decide)) (.cons (exq_refL Ur hl2 (by decide)) .nil))) (.cons (exq_sc _ _ _ (by decide)) .nil)) rfl rfl rfl ?_
  simp (maxSteps := 10000000) (disch := first | assumption | omega) only [go_sem, ↓reduceIte, Nat.reduceEqDiff, reduceCtorEq, Nat.reduceAdd, Nat.reduceMul, Nat.reduceLeDiff, zc, Int.reduceToNat, s0, hge]
  simp only [zr, zb, retR, resL, outT, outL, zes, zez, oneV, zcp, zed, zfi, Ro.dl, St.ev, zhk, ↓za, ↓reduceIte, Nat.reduceEqDiff, Nat.reduceAdd, Nat.reduceLeDiff]
 ·have e12 : CallOK Tryz.prog 9 [.agg [nilA, nilA], .agg [nilA, nilA]] (bo true) := by
   have := c12 (a := nilA) (b := nilA) (c := nilA) (d := nilA) (xs := []) (ys := []) (us := []) (vs := []) (.inr ⟨rfl, rfl⟩) (.inr ⟨rfl, rfl⟩) (.inr ⟨rfl, rfl⟩) (.inr ⟨rfl, rfl⟩) (by decide) (fun j => by simp) (by decide)
   rwa [decide_eq_true ⟨rfl, rfl⟩] at this
  have e14 : CallOK Tryz.prog 13 [.agg [nilA, nilA], i64 1] (i64 1) :=
   c14 (a := nilA) (b := nilA) (ns := []) (m := 0) (k := 1) (.inr ⟨rfl, rfl⟩) (.inr ⟨rfl, rfl⟩) (by decide) (fun j => by simp) (by decide) (by decide) (by decide)
  have hge : ¬ ((1 : Int) < 0) := by omega
  dsimp only [Tryz.f4, bodyOf, Option.getD]
  simp (maxSteps := 10000000) (disch := first | assumption | omega) only [go_sem, ↓reduceIte, Nat.reduceEqDiff, reduceCtorEq, Nat.reduceAdd, Nat.reduceMul, Nat.reduceLeDiff, zc, Int.reduceToNat, s0, tiSt, kLen_sB, eq_false hlen]
  refine CLL_pure _ hL rfl rfl rfl ?_
  simp (maxSteps := 10000000) (disch := first | assumption | omega) only [go_sem, ↓reduceIte, Nat.reduceEqDiff, reduceCtorEq, Nat.reduceAdd, Nat.reduceMul, Nat.reduceLeDiff, zc, Int.reduceToNat, s0, impE_tupN]
  refine CLL_pure _ hI rfl rfl rfl ?_
  simp (maxSteps := 10000000) (disch := first | assumption | omega) only [go_sem, ↓reduceIte, Nat.reduceEqDiff, reduceCtorEq, Nat.reduceAdd, Nat.reduceMul, Nat.reduceLeDiff, zc, Int.reduceToNat, s0, impE_tupN]
  refine CLL_pure _ e12 rfl rfl rfl ?_
  simp (maxSteps := 10000000) (disch := first | assumption | omega) only [go_sem, ↓reduceIte, Nat.reduceEqDiff, reduceCtorEq, Nat.reduceAdd, Nat.reduceMul, Nat.reduceLeDiff, zc, Int.reduceToNat, s0]
  refine CLL_in rfl _ _ _ in13n ?_
  simp (maxSteps := 10000000) (disch := first | assumption | omega) only [go_sem, ↓reduceIte, Nat.reduceEqDiff, reduceCtorEq, Nat.reduceAdd, Nat.reduceMul, Nat.reduceLeDiff, zc, Int.reduceToNat, s0]
  refine CLL_pure _ e14 rfl rfl rfl ?_
  simp (maxSteps := 10000000) (disch := first | assumption | omega) only [go_sem, ↓reduceIte, Nat.reduceEqDiff, reduceCtorEq, Nat.reduceAdd, Nat.reduceMul, Nat.reduceLeDiff, zc, Int.reduceToNat, s0, hge]
  refine CLL_pure _ hI rfl rfl rfl ?_
  simp (maxSteps := 10000000) (disch := first | assumption | omega) only [go_sem, ↓reduceIte, Nat.reduceEqDiff, reduceCtorEq, Nat.reduceAdd, Nat.reduceMul, Nat.reduceLeDiff, zc, Int.reduceToNat, s0, impE_tupN]
  refine CLL_pure _ e12 rfl rfl rfl ?_
  simp (maxSteps := 10000000) (disch := first | assumption | omega) only [go_sem, ↓reduceIte, Nat.reduceEqDiff, reduceCtorEq, Nat.reduceAdd, Nat.reduceMul, Nat.reduceLeDiff, zc, Int.reduceToNat, s0]
  refine CLL_pure _ e14 rfl rfl rfl ?_
  simp (maxSteps := 10000000) (disch := first | assumption | omega) only [go_sem, ↓reduceIte, Nat.reduceEqDiff, reduceCtorEq, Nat.reduceAdd, Nat.reduceMul, Nat.reduceLeDiff, zc, Int.reduceToNat, s0, hge]
  simp only [zr, zb, retR, resL, outT, outL, zes, zez, oneV, zcp, zed, zfi, Ro.dl, St.ev, zhk, ↓za, ↓reduceIte, Nat.reduceEqDiff, Nat.reduceAdd, Nat.reduceLeDiff]
theorem cLPDs {s : ByteArray} (hs : s.size < 2^63) : CallOK Tryz.prog 4 [.sc (.string s)] (bo true) := by
 have e : s = ⟨s.data.toList.toArray⟩ := by cases s; simp
 have hl : s.data.toList.length < 2^63 := by rw [Array.length_toList]; exact hs
 rw [e]
 exact cLPD hl
end Go.Proofs.YteaaangdibabnaaGreatDoor
/- What a row's list of variables and the world's shape give: the world at entry is known. And the plain wrap of a law with both, the list and the shape. -/
namespace Go.Proofs.YteaaangdibabnaaGreatDoor
open Go.RowKit
set_option maxRecDepth 1000000
def esD : DataW Unit := .iface "*errors.errorString" (.ptr (.agg [.lit (.string [105, 110, 118, 97, 108, 105, 100, 32, 115, 121, 110, 116, 97, 120])]))
def erD : DataW Unit := .iface "*errors.errorString" (.ptr (.agg [.lit (.string [118, 97, 108, 117, 101, 32, 111, 117, 116, 32, 111, 102, 32, 114, 97, 110, 103, 101])]))
theorem starE : "*" ++ "errors.errorString" = "*errors.errorString" := by decide
theorem rowE (u : TypeId) (h : Tryz.prog.typeName? 3 u = some "*errors.errorString") : u = 165 :=
 typeName_ptr_named (nm := "errors.errorString") (by rw [starE]; kernel_rfl) (by kernel_rfl) (by decide) u (by rw [starE]; exact h)
theorem sen_of {W : World} {n : String} {text : List UInt8} {g : Nat} (hg : Tryz.prog.globalNamed n = some g) (ht : (Tryz.prog.globals[g]?).map (·.type) = some 85) (h : laidMet Tryz.prog [(n, .iface "*errors.errorString" (.ptr (.agg [.lit (.string text)])))] W) :
  ∃ v, W.cell? ⟨g, 0, none⟩ = some v ∧ (v = .nilIface ∨ ∃ t p, v = .iface t p) := by
 obtain ⟨a, s, hv, -, -, -⟩ := laid_sentinel h hg ht Tryz.underlying85 rowE Tryz.underlying165 Tryz.underlying167 rfl rfl Tryz.underlying9 (by kernel_rfl) (by kernel_rfl)
 exact ⟨_, by have h0 := World.var?_cell hg hv 0; simpa using h0, .inr ⟨_, _, rfl⟩⟩
theorem pow_of {w : World} (h : Lib.TabIs Tryz.prog w "internal/strconv.uint64pow10" .u64 Lib.pow10Tab) : ∃ t fr, w.heap[5]? = some (.cells (Lib.pow10Tab.map fun z => Value.int .u64 z).toArray t fr) := by
 have hg : Tryz.prog.globalNamed "internal/strconv.uint64pow10" = some 5 := laysFmt.m17
 unfold Lib.TabIs World.var? at h
 rw [hg] at h
 have h' : (match w.heap[5]? with | some (Obj.cells cs _ _) => some cs | _ => none) = some (Lib.pow10Tab.map fun z => Value.int .u64 z).toArray := h
 split at h'
 ·rename_i cs t fr hc
  simp only [Option.some.injEq] at h'
  subst h'
  exact ⟨t, fr, hc⟩
 ·cases h'
theorem gd_full {W : World} {l : List (String × DataW Unit)} (hsh : W.ShapedOpen Tryz.prog) (hL : laidMetH Tryz.prog l W)
  (h1 : (l.filter fun x => x.1 == "internal/strconv.uint64pow10") = [("internal/strconv.uint64pow10", Lib.tabData .u64 Lib.pow10Tab)])
  (h2 : (l.filter fun x => x.1 == "strconv.ErrSyntax") = [("strconv.ErrSyntax", esD)])
  (h3 : (l.filter fun x => x.1 == "strconv.ErrRange") = [("strconv.ErrRange", erD)]) : Gd W := by
 have k1 := hL.filter fun x => x.1 == "internal/strconv.uint64pow10"
 have k2 := hL.filter fun x => x.1 == "strconv.ErrSyntax"
 have k3 := hL.filter fun x => x.1 == "strconv.ErrRange"
 rw [h1, Go.MakeChecks.laidMetH_plain _ _ _ (by kernel_rfl)] at k1
 rw [h2, Go.MakeChecks.laidMetH_plain _ _ _ (by kernel_rfl)] at k2
 rw [h3, Go.MakeChecks.laidMetH_plain _ _ _ (by kernel_rfl)] at k3
 have kT := Lib.tabIs_of_head (g := 5) (t := 161) (e := 137) (n := 20) (by kernel_rfl) (by kernel_rfl) Tryz.underlying161 Tryz.underlying137 (by kernel_rfl) (by kernel_rfl) k1
 have kM : ∃ m, W.cell? ⟨0, 0, none⟩ = some (.int .i64 m) := cell_of_shapedOpen_int (t := 3) (zero := #[.int .i64 0]) hsh (of_decide_eq_true (by kernel_rfl)) (by kernel_rfl) rfl (by kernel_rfl) (by kernel_rfl) Tryz.underlying3
 exact Gd.start { size := by decide, pow := pow_of kT, maxl := kM, es := sen_of (by kernel_rfl) (by kernel_rfl) k2, er := sen_of (by kernel_rfl) (by kernel_rfl) k3 }
variable {H : Type} {enc : TypeId × Value → H}
theorem wrap_shaped {a : Assume} {C : Checked} {os : Os} {f : FuncId} {fn : Func} {s : ChangeSpec} {conds : List PathCond} {apart fresh handsOn again : Bool} {X : World → Array Value → Prop}
  (hX : ∀ (w w' : World) (args : Array Value), w.heap = w'.heap → X w args → X w' args)
  (own : ownKnob C.prog.godebug = none) (started : os.Started) (noInit : C.prog.inits.idxOf? f = none) (hfn : C.prog.funcs[f]? = some fn)
  (witness : ∃ (w : World) (tape : Tape) (i : Input), w.os = os ∧ (w.forCall tape i).Shaped C.prog ∧ i.vars = [] ∧ Input.okWide C.prog (w.forCall tape i) .any w.heap.size f i ∧
   ((s.pre enc C.prog fn conds apart (w.forCall tape i).memory i.args ∧ X (w.forCall tape i).memory i.args) ∧ sizedMet enc C.prog fn (OpenSpec.ofChange s) apart (w.forCall tape i).memory i.args) ∧ a.holds C.prog (lone (Frame.enter C.prog f i.args .normal) [] (w.forCall tape i)))
  (contract : ∀ (W : World) (base : Nat) (args : Array Value) (ds gs : List (DataW H)) (before : List MemPlace),
   (∀ (j : Nat) t v, fn.params[j]? = some t → args[j]? = some v → Value.okWide C.prog W .any base t v) →
   DataW.Whole enc C.prog fn.params.toList s.vars apart W args.toList ds gs before →
   conds.all (PathCond.test C.prog ⟨fn.params.toList, ds, s.plain.varTypes C.prog, gs⟩) = true →
   (DataW.weightsEach C.prog (fn.params.toList ++ s.plain.varTypes C.prog) (ds ++ gs)).all (· ≤ reachBytes) = true → X W args → W.ShapedOpen C.prog →
   a.holds C.prog (lone (Frame.enter C.prog f args .normal) [] W) →
   Calls C.prog f args W fun e W' => ∃ v, e = .returned v ∧ s.post enc C.prog fn apart fresh handsOn again W args v W') :
  ReturnsInHanded a C os f .any (fun w args => (s.pre enc C.prog fn conds apart w args ∧ X w args) ∧ sizedMet enc C.prog fn (OpenSpec.ofChange s) apart w args) (s.post enc C.prog fn apart fresh handsOn again) := by
 refine returnsInHanded_of_calls own started noInit witness ?_
 intro w tape i _ hsh _ hok hpre hholds
 obtain ⟨_, _, _, fn', hfn', _, _, _, _, hval⟩ := hok
 have e : fn' = fn := Option.some.inj (hfn'.symm.trans hfn)
 subst e
 obtain ⟨⟨⟨ds, gs, before, hw, hc⟩, hx⟩, hz⟩ := hpre
 have hw' := DataW.Whole.of_heap (w' := w.forCall tape i) (by rfl) hw
 refine (contract (w.forCall tape i) w.heap.size i.args ds gs before hval hw' hc (hz.weights hw) (hX _ _ _ (by rfl) hx) hsh hholds).mono fun e W' ⟨v, he, hp⟩ => ?_
 subst he
 exact ChangeSpec.post_blind hp
end Go.Proofs.YteaaangdibabnaaGreatDoor
