/- Texts joined: N1 N2 N3 N4. -/
import Derived.Test.YtgcnmlecihegcaaMe
import Derived.Test.YtgcnmlecihegcaaMj
import Derived.Test.YtgcnmlecihegcaaMya
set_option linter.all false
/- Runs of the interpreter with a table of contracts that are known. -/
namespace Go.Proofs.Ytgcnmlecihegcaa
open Go.RowKit
set_option maxRecDepth 1000000

mutual
def avB : AV → AV → Bool
  | .sc (.int k n), .sc (.int k' m) => decide (k = k') && decide (n = m)
  | .sc (.string s), .sc (.string t) => decide (s = t)
  | .sc (.slice none 0 0), .sc (.slice none 0 0) => true
  | .imm xs, .imm ys => avBL xs ys
  | .agg xs, .agg ys => avBL xs ys
  | _, _ => false
def avBL : List AV → List AV → Bool
  | [], [] => true
  | x :: xs, y :: ys => avB x y && avBL xs ys
  | _, _ => false
end
mutual
theorem avB_ok : ∀ {a b : AV}, avB a b = true → a = b
  | .sc (.int k n), .sc (.int k' m), h => by
    simp only [avB, Bool.and_eq_true, decide_eq_true_eq] at h
    rw [h.1, h.2]
  | .sc (.string s), .sc (.string t), h => by
    simp only [avB, decide_eq_true_eq] at h
    rw [h]
  | .sc (.slice none 0 0), .sc (.slice none 0 0), _ => rfl
  | .imm xs, .imm ys, h => by
    simp only [avB] at h
    rw [avBL_ok h]
  | .agg xs, .agg ys, h => by
    simp only [avB] at h
    rw [avBL_ok h]
theorem avBL_ok : ∀ {xs ys : List AV}, avBL xs ys = true → xs = ys
  | [], [], _ => rfl
  | x :: xs, y :: ys, h => by
    simp only [avBL, Bool.and_eq_true] at h
    rw [avB_ok h.1, avBL_ok h.2]
  | [], _ :: _, h => by simp [avBL] at h
  | _ :: _, [], h => by simp [avBL] at h
end
def tab : List (Nat × List AV × AV) → Nat → List AV → Option AV
  | [], _, _ => none
  | (g, xs, r) :: T, f, args => cond (Nat.beq f g && avBL args xs) (some r) (tab T f args)
theorem tab_ok : ∀ {T : List (Nat × List AV × AV)}, (∀ e, e ∈ T → CallOK Try.prog e.1 e.2.1 e.2.2) → ∀ f args r, tab T f args = some r → CallOK Try.prog f args r
  | [], _, _, _, _, h => by cases h
  | (g, xs, r0) :: T, hT, f, args, r, h => by
    simp only [tab] at h
    cases hc : (Nat.beq f g && avBL args xs) with
    | true =>
      rw [hc] at h
      simp only [cond_true, Option.some.injEq] at h
      rw [Bool.and_eq_true] at hc
      have h1 : f = g := Nat.eq_of_beq_eq_true hc.1
      have h2 := avBL_ok hc.2
      subst h1 h2 h
      exact hT (f, args, r0) (by simp)
    | false =>
      rw [hc] at h
      exact tab_ok (fun e he => hT e (by simp [he])) f args r h
def KN (T : List (Nat × List AV × AV)) (f : Nat) (args : List AV) : Option AV := match KP f args with
  | some r => some r
  | none => tab T f args
theorem KN_ok {T : List (Nat × List AV × AV)} (hT : ∀ e, e ∈ T → CallOK Try.prog e.1 e.2.1 e.2.2) : ∀ f args r, KN T f args = some r → CallOK Try.prog f args r := by
  intro f args r h
  unfold KN at h
  cases hk : KP f args with
  | some r' => rw [hk] at h; cases h; exact KP_ok f args r hk
  | none => rw [hk] at h; exact tab_ok hT f args r h
/-- A run with a table. -/
theorem of_run {T : List (Nat × List AV × AV)} (hT : ∀ e, e ∈ T → CallOK Try.prog e.1 e.2.1 e.2.2) (isIn : Nat → Bool) {n f : Nat} {args : List AV} {r : AV} (h : callF Try.prog ti0 (KN T) isIn n f args = some r) : CallOK Try.prog f args r :=
  callF_ok (tiG_ok _) mixed0 (KN_ok hT) h
abbrev ent (f : Nat) (args : List AV) (r : AV) : Nat × List AV × AV := (f, args, r)
abbrev strA (xs : List UInt8) : AV := .sc (.string ⟨xs.toArray⟩)

theorem grp2 : GrpP [2] := ⟨by decide, by decide, by decide, by decide⟩
theorem add2 (a b c : Int) (h : 0 ≤ a ∧ a ≤ 1 ∧ 0 ≤ b ∧ b ≤ 1) (e : adO [2] a b = c) : CallOK Try.prog 59 [immL [2], i64 a, i64 b] (i64 c) := by
  rw [← e]
  exact cAddI grp2 (by omega) (by omega)
end Go.Proofs.Ytgcnmlecihegcaa

/- The first desk: runs of its parts. -/
namespace Go.Proofs.Ytgcnmlecihegcaa
open Go.RowKit
set_option maxRecDepth 1000000

def tb1 : List (Nat × List AV × AV) := [
  ent 59 [immL [2], i64 0, i64 0] (i64 0), ent 59 [immL [2], i64 0, i64 1] (i64 1),
  ent 59 [immL [2], i64 1, i64 0] (i64 1), ent 59 [immL [2], i64 1, i64 1] (i64 0),
  ent 56 [] (i64 38)]
theorem tb1_ok : ∀ e, e ∈ tb1 → CallOK Try.prog e.1 e.2.1 e.2.2 := by
  intro e he
  simp only [tb1, List.mem_cons, List.not_mem_nil, or_false] at he
  rcases he with rfl | rfl | rfl | rfl | rfl
  · exact add2 0 0 0 (by decide) (by decide +kernel)
  · exact add2 0 1 1 (by decide) (by decide +kernel)
  · exact add2 1 0 1 (by decide) (by decide +kernel)
  · exact add2 1 1 0 (by decide) (by decide +kernel)
  · exact c100
abbrev mN : AV := .agg [immL [2], i64 4, immL [0, 1]]
theorem rDat : callF Try.prog ti0 (KN tb1) (fun _ => false) 20 10 [mN] = some (.agg [rowLL [[1, 1], [1, 55440]], rowL [1, 14440]]) := by kernel_rfl
theorem cDat : CallOK Try.prog 10 [mN] (.agg [rowLL [[1, 1], [1, 55440]], rowL [1, 14440]]) := of_run tb1_ok _ rDat
theorem rParse : callF Try.prog ti0 (KN tb1) (fun _ => false) 20 35 [strA [49, 32, 48, 32, 48, 32, 49, 47, 48, 32, 49, 32, 49, 32, 49], .sc (.int .u8 47)] = some (.row [strA [49, 32, 48, 32, 48, 32, 49], strA [48, 32, 49, 32, 49, 32, 49]]) := by kernel_rfl
theorem rMet : callF Try.prog ti0 (KN tb1) (fun _ => false) 20 21 [i64 2, i64 1] = some (.agg [rowL [2], i64 4, rowL [0, 1]]) := by kernel_rfl
end Go.Proofs.Ytgcnmlecihegcaa

/- The first desk: runs of the reference's tests of the ring and of the data. -/
namespace Go.Proofs.Ytgcnmlecihegcaa
open Go.RowKit
set_option maxRecDepth 1000000

abbrev tF : AV := .imm [.imm [immL [1, 0], immL [0, 1]], .imm [immL [0, 1], immL [1, 1]]]
abbrev tZ : AV := .imm [.imm [immL [1, 0], immL [0, 1]], .imm [immL [0, 1], immL [1, 0]]]
abbrev tZr : AV := .row [.row [rowL [1, 0], rowL [0, 1]], .row [rowL [0, 1], rowL [1, 0]]]
abbrev dN : AV := .agg [immLL [[1, 1], [1, 55440]], immL [1, 14440]]
theorem ring2 {T : List (List (List Int))} (hl : T.length = 2) (hc : CubeP T) (d : ∀ i, i < 2 → DuQ (fun j => at3 T i j 0) 2 i) (h1 : F1 T = none)
    (h3 : ∀ i, i < 2 → ∀ j, j < 2 → ∀ k, k < 2 → at3 T i j k = at3 T i k j ∧ at3 T i j k = at3 T k j i) (h4 : F4 T = none) : RingP T := by
  have hd : ∀ i : Nat, i < 2 → dlT T i = i := fun i hi => by
    unfold dlT; rw [hl]; exact du_is (d i hi)
  refine ⟨hc, ?_⟩
  have h2 : F2 T = none := fnd_none.2 fun i hi => by
    rw [hl] at hi
    unfold p2
    rw [hd i hi, Int.toNat_natCast, hd i hi]
    rw [if_neg]
    omega
  have h3' : F3 T = none := fnd_none.2 fun i hi => fnd_none.2 fun j hj => fnd_none.2 fun k hk => by
    rw [hl] at hi hj hk
    unfold p3
    rw [hd i hi, hd j hj, Int.toNat_natCast, Int.toNat_natCast]
    exact if_pos (h3 i hi j hj k hk)
  unfold RF
  rw [h1, h2, h3']
  exact h4
abbrev TF : List (List (List Int)) := [[[1, 0], [0, 1]], [[0, 1], [1, 1]]]
abbrev TZ : List (List (List Int)) := [[[1, 0], [0, 1]], [[0, 1], [1, 0]]]
theorem rpF : RingP TF := ring2 rfl (by unfold CubeP; decide +kernel) (by unfold DuQ; decide +kernel) (by decide +kernel) (by decide +kernel) (by decide +kernel)
theorem rpZ : RingP TZ := ring2 rfl (by unfold CubeP; decide +kernel) (by unfold DuQ; decide +kernel) (by decide +kernel) (by decide +kernel) (by decide +kernel)
theorem isLs_im : ∀ t : List (List Int), isLs (t.map immL) t
  | [] => trivial
  | a :: t => ⟨isL_imm a, isLs_im t⟩
theorem isLLs_im : ∀ T : List (List (List Int)), isLLs (T.map (fun t => .imm (t.map immL))) T
  | [] => trivial
  | t :: T => ⟨.inl ⟨_, rfl, isLs_im t⟩, isLLs_im T⟩
theorem cIF : CallOK Try.prog 37 [.agg [tF]] (bo true) := c108 (T := TF) (.inl ⟨_, rfl, isLLs_im TF⟩) (by simp [rpF])
theorem cIZ : CallOK Try.prog 37 [.agg [tZ]] (bo true) := c108 (T := TZ) (.inl ⟨_, rfl, isLLs_im TZ⟩) (by simp [rpZ])
theorem rSh : callF Try.prog ti0 (KN tb1) (fun _ => false) 20 57 [dN] = some (bo true) := by kernel_rfl
theorem rWh : callF Try.prog ti0 (KN tb1) (fun _ => false) 20 68 [dN] = some (i64 2) := by kernel_rfl
theorem rGs : callF Try.prog ti0 (KN tb1) (fun _ => false) 20 71 [dN, immL [1, 14440]] = some (i64 14441) := by kernel_rfl
theorem rT1 : callF Try.prog ti0 (KN tb1) (fun _ => false) 20 70 [immLL [[1, 14440], [1, 41001]], immLL [[1, 14440], [1, 41001]]] = some (rowLL [[14441, 14441], [41002, 14439]]) := by kernel_rfl
theorem rT2 : callF Try.prog ti0 (KN tb1) (fun _ => false) 20 70 [immLL [[14441, 14441], [41002, 14439]], immLL [[1, 14440], [1, 41001]]] = some (rowLL [[28882, 0], [0, 28882]]) := by kernel_rfl
theorem rT3 : callF Try.prog ti0 (KN tb1) (fun _ => false) 20 70 [immLL [[1, 1], [1, 55440]], immLL [[1, 1], [1, 55440]]] = some (rowLL [[2, 0], [0, 2]]) := by kernel_rfl
def ta3 : List (Nat × List AV × AV) := tb1 ++ [
  ent 37 [.agg [tF]] (bo true),
  ent 37 [.agg [tZ]] (bo true),
  ent 57 [dN] (bo true),
  ent 68 [dN] (i64 2),
  ent 71 [dN, immL [1, 14440]] (i64 14441),
  ent 70 [immLL [[1, 14440], [1, 41001]], immLL [[1, 14440], [1, 41001]]] (rowLL [[14441, 14441], [41002, 14439]]),
  ent 70 [immLL [[14441, 14441], [41002, 14439]], immLL [[1, 14440], [1, 41001]]] (rowLL [[28882, 0], [0, 28882]]),
  ent 70 [immLL [[1, 1], [1, 55440]], immLL [[1, 1], [1, 55440]]] (rowLL [[2, 0], [0, 2]])]
theorem ta3_ok : ∀ e, e ∈ ta3 → CallOK Try.prog e.1 e.2.1 e.2.2 := by
  intro e he
  simp only [ta3, List.mem_append, List.mem_cons, List.not_mem_nil, or_false] at he
  rcases he with he | rfl | rfl | rfl | rfl | rfl | rfl | rfl | rfl
  · exact tb1_ok e he
  · exact cIF
  · exact cIZ
  · exact of_run tb1_ok _ rSh
  · exact of_run tb1_ok _ rWh
  · exact of_run tb1_ok _ rGs
  · exact of_run tb1_ok _ rT1
  · exact of_run tb1_ok _ rT2
  · exact of_run tb1_ok _ rT3
theorem rCj : callF Try.prog ti0 (KN ta3) (fun _ => false) 20 69 [dN] = some (rowL [0, 1]) := by kernel_rfl
def ta4 : List (Nat × List AV × AV) := ta3 ++ [
  ent 69 [dN] (rowL [0, 1])]
theorem ta4_ok : ∀ e, e ∈ ta4 → CallOK Try.prog e.1 e.2.1 e.2.2 := by
  intro e he
  simp only [ta4, List.mem_append, List.mem_cons, List.not_mem_nil, or_false] at he
  rcases he with he | rfl
  · exact ta3_ok e he
  · exact of_run ta3_ok _ rCj
theorem rNu : callF Try.prog ti0 (KN ta4) (fun _ => false) 20 72 [dN, immL [0, 1]] = some (tZr) := by kernel_rfl
def ta5 : List (Nat × List AV × AV) := ta4 ++ [
  ent 72 [dN, immL [0, 1]] (tZr)]
theorem ta5_ok : ∀ e, e ∈ ta5 → CallOK Try.prog e.1 e.2.1 e.2.2 := by
  intro e he
  simp only [ta5, List.mem_append, List.mem_cons, List.not_mem_nil, or_false] at he
  rcases he with he | rfl
  · exact ta4_ok e he
  · exact of_run ta4_ok _ rNu
theorem rFa : callF Try.prog ti0 (KN ta5) (fun _ => false) 20 58 [dN] = some (i64 (-1)) := by kernel_rfl
def ta6 : List (Nat × List AV × AV) := ta5 ++ [
  ent 58 [dN] (i64 (-1))]
theorem ta6_ok : ∀ e, e ∈ ta6 → CallOK Try.prog e.1 e.2.1 e.2.2 := by
  intro e he
  simp only [ta6, List.mem_append, List.mem_cons, List.not_mem_nil, or_false] at he
  rcases he with he | rfl
  · exact ta5_ok e he
  · exact of_run ta5_ok _ rFa
theorem rI12 : callF Try.prog ti0 (KN ta6) (fun _ => false) 20 42 [dN] = some (bo true) := by kernel_rfl
def ta7 : List (Nat × List AV × AV) := ta6 ++ [
  ent 42 [dN] (bo true)]
theorem ta7_ok : ∀ e, e ∈ ta7 → CallOK Try.prog e.1 e.2.1 e.2.2 := by
  intro e he
  simp only [ta7, List.mem_append, List.mem_cons, List.not_mem_nil, or_false] at he
  rcases he with he | rfl
  · exact ta6_ok e he
  · exact of_run ta6_ok _ rI12
end Go.Proofs.Ytgcnmlecihegcaa

/- The first desk: runs of the whole. -/
namespace Go.Proofs.Ytgcnmlecihegcaa
open Go.RowKit
set_option maxRecDepth 1000000

theorem rVal0 : callF Try.prog ti0 (KN tb1) (fun _ => false) 20 36 [strA [48]] = some (i64 0) := by kernel_rfl
theorem rVal1 : callF Try.prog ti0 (KN tb1) (fun _ => false) 20 36 [strA [49]] = some (i64 1) := by kernel_rfl
theorem rSp2 : callF Try.prog ti0 (KN tb1) (fun _ => false) 20 35 [strA [49, 32, 48, 32, 48, 32, 49], .sc (.int .u8 32)] = some (.row [strA [49], strA [48], strA [48], strA [49]]) := by kernel_rfl
theorem rSp3 : callF Try.prog ti0 (KN tb1) (fun _ => false) 20 35 [strA [48, 32, 49, 32, 49, 32, 49], .sc (.int .u8 32)] = some (.row [strA [48], strA [49], strA [49], strA [49]]) := by kernel_rfl
abbrev tN : AV := .row [.row [rowL [1, 0], rowL [0, 1]], .row [rowL [0, 1], rowL [1, 1]]]
def tb2 : List (Nat × List AV × AV) := tb1 ++ [
  ent 35 [strA [49, 32, 48, 32, 48, 32, 49, 47, 48, 32, 49, 32, 49, 32, 49], .sc (.int .u8 47)] (.row [strA [49, 32, 48, 32, 48, 32, 49], strA [48, 32, 49, 32, 49, 32, 49]]),
  ent 35 [strA [49, 32, 48, 32, 48, 32, 49], .sc (.int .u8 32)] (.row [strA [49], strA [48], strA [48], strA [49]]),
  ent 35 [strA [48, 32, 49, 32, 49, 32, 49], .sc (.int .u8 32)] (.row [strA [48], strA [49], strA [49], strA [49]]),
  ent 36 [strA [48]] (i64 0), ent 36 [strA [49]] (i64 1),
  ent 37 [.agg [.imm [.imm [immL [1, 0], immL [0, 1]], .imm [immL [0, 1], immL [1, 1]]]]] (bo true)]
theorem tb2_ok : ∀ e, e ∈ tb2 → CallOK Try.prog e.1 e.2.1 e.2.2 := by
  intro e he
  simp only [tb2, List.mem_append, List.mem_cons, List.not_mem_nil, or_false] at he
  rcases he with he | rfl | rfl | rfl | rfl | rfl | rfl
  · exact tb1_ok e he
  · exact of_run tb1_ok _ rParse
  · exact of_run tb1_ok _ rSp2
  · exact of_run tb1_ok _ rSp3
  · exact of_run tb1_ok _ rVal0
  · exact of_run tb1_ok _ rVal1
  · exact cIF
theorem rRing : callF Try.prog ti0 (KN tb2) (fun _ => false) 20 20 [strA [49, 32, 48, 32, 48, 32, 49, 47, 48, 32, 49, 32, 49, 32, 49]] = some (.tup [.agg [tN], i64 0]) := by kernel_rfl
theorem rIs10 : callF Try.prog ti0 (KN tb1) (fun _ => false) 20 38 [mN] = some (bo true) := by kernel_rfl
def tb3 : List (Nat × List AV × AV) := tb2 ++ [
  ent 20 [strA [49, 32, 48, 32, 48, 32, 49, 47, 48, 32, 49, 32, 49, 32, 49]] (.tup [.agg [tN], i64 0]),
  ent 21 [i64 2, i64 1] (.agg [rowL [2], i64 4, rowL [0, 1]]),
  ent 38 [mN] (bo true),
  ent 42 [.agg [immLL [[1, 1], [1, 55440]], immL [1, 14440]]] (bo true),
  ent 10 [mN] (.agg [rowLL [[1, 1], [1, 55440]], rowL [1, 14440]])]
theorem tb3_ok : ∀ e, e ∈ tb3 → CallOK Try.prog e.1 e.2.1 e.2.2 := by
  intro e he
  simp only [tb3, List.mem_append, List.mem_cons, List.not_mem_nil, or_false] at he
  rcases he with he | rfl | rfl | rfl | rfl | rfl
  · exact tb2_ok e he
  · exact of_run tb2_ok _ rRing
  · exact of_run tb1_ok _ rMet
  · exact of_run tb1_ok _ rIs10
  · exact of_run ta6_ok _ rI12
  · exact cDat
theorem rDoM : callF Try.prog ti0 (KN tb3) (fun _ => false) 20 22 [mN] = some (.tup [.agg [rowLL [[1, 1], [1, 55440]], rowL [1, 14440]], i64 0]) := by kernel_rfl
def tb4 : List (Nat × List AV × AV) := tb3 ++ [
  ent 22 [mN] (.tup [.agg [rowLL [[1, 1], [1, 55440]], rowL [1, 14440]], i64 0])]
theorem tb4_ok : ∀ e, e ∈ tb4 → CallOK Try.prog e.1 e.2.1 e.2.2 := by
  intro e he
  simp only [tb4, List.mem_append, List.mem_cons, List.not_mem_nil, or_false] at he
  rcases he with he | rfl
  · exact tb3_ok e he
  · exact of_run tb3_ok _ rDoM
abbrev kN : AV := .agg [tN, rowL [2], i64 4, rowL [0, 1], rowLL [[1, 1], [1, 55440]], rowL [1, 14440]]
theorem rSpec : callF Try.prog ti0 (KN tb4) (fun _ => false) 20 4 [] = some kN := by kernel_rfl
theorem rImpl : callF Try.prog ti0 (KN tb4) (fun _ => false) 20 5 [] = some kN := by kernel_rfl
def tb5 : List (Nat × List AV × AV) := [ent 4 [] kN, ent 5 [] kN]
theorem tb5_ok : ∀ e, e ∈ tb5 → CallOK Try.prog e.1 e.2.1 e.2.2 := by
  intro e he
  simp only [tb5, List.mem_cons, List.not_mem_nil, or_false] at he
  rcases he with rfl | rfl
  · exact of_run tb4_ok _ rSpec
  · exact of_run tb4_ok _ rImpl
def inN (f : Nat) : Bool := Nat.beq f 7 || Nat.beq f 14 || Nat.beq f 15 || Nat.beq f 16 || Nat.beq f 30 || Nat.beq f 31 || Nat.beq f 29
theorem rLaw : callF Try.prog ti0 (KN tb5) inN 20 3 [] = some (bo true) := by kernel_rfl
/-- The law of NewDesk answers true. -/
theorem cNew : CallOK Try.prog 3 [] (bo true) := of_run tb5_ok inN rLaw
end Go.Proofs.Ytgcnmlecihegcaa
