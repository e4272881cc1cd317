/- Texts joined: QI QJ QJz QK. -/
import Derived.Test.YtmchdjiigfiabaaGreatOa
import Derived.Test.YtmchdjiigfiabaaGreatOe
set_option linter.all false
/- Braidings, drawn and mostly left as they are. -/
namespace Go.Proofs.YtmchdjiigfiabaaGreat
open Go.RowKit
set_option maxRecDepth 1000000
theorem mat_cells {ro : Ro} {s g i n m : Nat} {f : Nat → Nat → Int} (h : ro s g = some (matA f n m)) (hi : i < n) : ro.cells s g [i] = some (rws (fun j => i64 (f i j)) m) := by
 unfold Ro.cells Ro.at
 simp only [h, ath, rws_get _ _ _ hi]
theorem mat_bx {ro : Ro} {s g i n m : Nat} {f : Nat → Nat → Int} (h : ro s g = some (matA f n m)) (hi : i < n) : isBxAt ro s g [i] = false := by
 unfold isBxAt Ro.at
 simp only [h, ath, rws_get _ _ _ hi]
theorem mat_wr {ro : Ro} {s g i j n m : Nat} {f : Nat → Nat → Int} {v : Int} (h : ro s g = some (matA f n m)) (hi : i < n) (hj : j < m) : ro.wr ⟨s, g, [i], j, [i64 v]⟩ = upr ro s g (matA (upd2 f i j v) n m) := by
 unfold Ro.wr
 simp only [h, putR, rws_get _ _ _ hi, setL]
 rw [rws_set, rws_set]
 refine congrArg (upr ro s g) (congrArg AV.row (rws_congr fun x hx => ?_))
 by_cases hxi : x = i
 ·subst hxi
  rw [if_pos rfl]
  refine congrArg AV.row (rws_congr fun y hy => ?_)
  by_cases hyj : y = j
  ·subst hyj; rw [if_pos rfl]; simp [upd2]
  ·rw [if_neg hyj]; simp [upd2, hyj]
 ·rw [if_neg hxi]
  refine congrArg AV.row (rws_congr fun y hy => ?_)
  simp [upd2, hxi]
def LO : List Nat := [28704, 41168, 12304, 69776, 24672, 41024, 53376, 61440, 69840]
def LC : List Nat := [28705, 41169, 12352, 69777, 24673, 41025, 53377, 61441, 69841]
def LQ : List Nat := [28706, 41170, 127040, 69778]
def WSp : List Nat := 8224 :: 28800 :: (W18 ++ WDa)
def RSp (gb : Nat → Nat) (r : AV) (ro : Ro) (gn : Nat → Nat) : Prop := ∃ (o c : AV) (O : List Int) (M : Int) (F : Nat → Nat → Nat → Int) (n sq uq off k l : Nat) (G : Nat → Nat → Int), r = .agg [o, i64 M, c, .ref sq uq [] off k] ∧ BkL LO gb ro gn o O ∧ BkC LC gb ro gn c F n ∧ sq ∈ LQ ∧ gb sq < uq ∧ uq ≤ gn sq ∧ ro sq uq = some (matA G (off + k) l) ∧ O.length ≤ 6 ∧ n ≤ 8 ∧ (0 ≤ M ∧ M ≤ 2000) ∧ off ≤ 1 ∧ k ≤ 8 ∧ l ≤ 8
section
variable {a : AV} {bs : List Int} {g : Nat} {rb : Ro} {gb : Nat → Nat}
end
end Go.Proofs.YtmchdjiigfiabaaGreat
/- Draws of the law on braidings. -/
namespace Go.Proofs.YtmchdjiigfiabaaGreat
open Go.RowKit
set_option maxRecDepth 1000000
structure Kpt (rb : Ro) (gb : Nat → Nat) (ro : Ro) (gn : Nat → Nat) : Prop where
 up : ∀ x, gb x ≤ gn x
 kp : ∀ x y, y ≤ gb x → ro x y = rb x y
def LvB (r : AV) (ro : Ro) (gn : Nat → Nat) : Prop := ∃ (O : List Int) (M : Int) (F : Nat → Nat → Nat → Int) (n so uo sp up sq uq off k l : Nat) (G : Nat → Nat → Int), r = .agg [.ref so uo [] 0 O.length, i64 M, .ref sp up [] 0 n, .ref sq uq [] off k] ∧ uo ≤ gn so ∧ up ≤ gn sp ∧ uq ≤ gn sq ∧ ro so uo = some (rowL O) ∧ ro sp up = some (cubeA F n) ∧ ro sq uq = some (matA G (off + k) l) ∧ O.length ≤ 6 ∧ n ≤ 8 ∧ (0 ≤ M ∧ M ≤ 2000) ∧ k ≤ 8 ∧ l ≤ 8
abbrev shG (G : Nat → Nat → Int) (off : Nat) : Nat → Nat → Int := fun x y => G (off + x) y
theorem rws_cut {α : Type} (f : Nat → α) (off k : Nat) : ((rws f (off + k)).drop off).take k = rws (fun i => f (off + i)) k := by
 apply List.ext_getElem?
 intro i
 by_cases hi : i < k
 ·simp [rws, hi]
 ·simp [rws, hi]
theorem exq_mato {n : Nat} {ro : Ro} {s g off k m : Nat} {f : Nat → Nat → Int} (h : ro s g = some (matA f (off + k) m)) (hn : 3 ≤ n) : exq n ro (.ref s g [] off k) (immLL (matL (shG f off) k m)) := by
 refine ⟨fun j hj => ?_, fun hp => by simp [pureA] at hp⟩
 obtain ⟨j, rfl⟩ : ∃ i, j = i + 3 := ⟨j - 3, by omega⟩
 show (match ro.cells s g [] with | some cs => AV.imm (((cs.drop off).take k).map (ex ro (j + 2))) | none => .dead) = _
 rw [zef, h, ← rowLL_mat]
 simp only [zeh]
 rw [← List.map_drop, ← List.map_take, exLL]
 unfold matL
 rw [rws_cut]
theorem upg_ge (gn : Nat → Nat) (s x : Nat) : gn x ≤ upg gn s (gn s + 1) x := by
 rw [zda]
 split
 ·rename_i h; subst h; omega
 ·exact Nat.le_refl _
theorem Frm.ug {W : List Nat} {g : Nat} {rb ro : Ro} {gb gn : Nat → Nat} (h : Frm W g rb gb ro gn) (t : Nat) (hW : t ∈ W) : Frm W g rb gb ro (upg gn t (gn t + 1)) :=
 ⟨fun s hs => ⟨(h.off s hs).1, by rw [zda, if_neg (fun e => hs (by rw [e]; exact hW))]; exact (h.off s hs).2⟩, fun x => Nat.le_trans (h.up x) (upg_ge _ _ _), h.kp⟩
def WL : List Nat := 12320 :: 28752 :: 28896 :: 12304 :: WSp
section
variable {a : AV} {bs : List Int} {rb : Ro} {gb : Nat → Nat}
end
end Go.Proofs.YtmchdjiigfiabaaGreat
/- Short names, IV. -/
namespace Go.Proofs.YtmchdjiigfiabaaGreat
open Go.RowKit
theorem KQt {p : Prop} (h : p := by (repeat' first | assumption | exact Frm.refl _ _ _ _ | refine Frm.src ?_ _ (by decide) | refine Frm.wr ?_ _ _ _ (by decide) (by omega) | refine Frm.al ?_ _ _ _ (by decide) rfl | refine Frm.ug ?_ _ (by decide))) : p := h
end Go.Proofs.YtmchdjiigfiabaaGreat
/- Draws of the law on braidings, II. -/
namespace Go.Proofs.YtmchdjiigfiabaaGreat
open Go.RowKit
set_option maxRecDepth 1000000
def LB : List Nat := LO ++ LC ++ LQ
def WM : List Nat := 4112 :: 28784 :: 28785 :: 28864 :: 32928 :: 32929 :: 32930 :: 69776 :: 69777 :: 69778 :: (W17 ++ WL ++ WCh)
def FW : List Nat := WCh ++ LO
section
variable {a : AV} {bs : List Int} {rb : Ro} {gb : Nat → Nat}
end
end Go.Proofs.YtmchdjiigfiabaaGreat
