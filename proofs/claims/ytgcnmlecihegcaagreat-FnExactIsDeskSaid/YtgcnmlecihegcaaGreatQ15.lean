/- FnExactIsDesk: for all arguments the law answers true. No condition. (The row's step follows the guide's own shell, proof-skeleton.mjs.) -/
import Derived.Test.YtgcnmlecihegcaaGreatRows
import Derived.WalkKit
import Derived.ProofKit
import Derived.OpenShut
import Derived.ShutString
import Derived.ChangeOld
import Derived.Below
import Derived.Deep.Strs
import Derived.Test.YtgcnmlecihegcaaGreatMl
import Derived.Test.YtgcnmlecihegcaaGreatMz
set_option linter.all false
namespace Go.Proofs.YtgcnmlecihegcaaGreat.fnExactIsDesk
open Go.ChangeShapes Go.WideShapes Go.ChangeAt Go.RowKit Go.Joins Go.Deep
open Go.ChangeMaps (open_string shut_string)
set_option linter.unusedVariables false

theorem array6 {α : Type} {cs : Array α} (h : cs.size = 6) : ∃ c0 c1 c2 c3 c4 c5, cs = #[c0, c1, c2, c3, c4, c5] := by
  obtain ⟨l⟩ := cs
  match l, h with
  | [c0, c1, c2, c3, c4, c5], _ => exact ⟨c0, c1, c2, c3, c4, c5, rfl⟩

theorem own : ownKnob Tryz.prog.godebug = none := by kernel_rfl
theorem laidOut : laidOutB Tryz.prog = true := by kernel_rfl

set_option maxRecDepth 100000 in
theorem lifted (os : Os) (started : os.Started) (H : Type) (enc : TypeId × Value → H) :
    ReturnsInHanded {} Tryz.checked os 3 .any (Rows.fnExactIsDeskSpec.pre6 enc Tryz.prog Tryz.f3 Rows.fnExactIsDeskRow.domain false) (Rows.fnExactIsDeskSpec.post enc Tryz.prog Tryz.f3 false true false false) := by
  refine returnsInHanded_of_change (C := Tryz.checked) own started (by kernel_rfl) Tryz.func3
    (ChangeSpec.witness6 (enc := enc) (C := Tryz.checked) false ⟨#[], #[.agg #[.slice none 0 0, .slice none 0 0, .int .i64 0, .slice none 0 0, .slice none 0 0, .slice none 0 0]], []⟩ 8 (by kernel_rfl) (by kernel_rfl) (by kernel_rfl) (by kernel_rfl)) ?_
  intro W base args ds gs before hval0 hW hcnd _
  have hval : ∀ (j : Nat) t v, Tryz.f3.params[j]? = some t → args[j]? = some v → Value.okWide Tryz.prog W .any base t v := hval0
  have hW' := hW
  obtain ⟨p, q, hA0, hV, rfl, hfz, hnd⟩ := hW
  have hA : DataW.TrodAll enc Tryz.prog W 0 (fun _ => true) true Tryz.f3.params.toList args.toList ds p := hA0
  rw [Tryz.params3] at hA hval
  obtain ⟨v0, vs0, d0, ds0, p0, q0, hargs, rfl, rfl, h0, r0⟩ := trodAll_cons hA
  obtain ⟨rfl, rfl, rfl⟩ := trodAll_nil r0
  obtain rfl : args = #[v0] := by cases args; simp_all
  obtain ⟨rfl, rfl⟩ := trodVars_none hV
  have k0 := h0
  have lt0 : ∀ x ∈ p0, x.block < W.heap.size := by obtain ⟨m, hm⟩ := k0; exact DataW.trod_lt m _ _ _ hm
  obtain ⟨cs, rfl, hsz⟩ := okWide_struct Tryz.underlying32 (hval 0 32 v0 rfl rfl)
  obtain ⟨x0, x1, x2, x3, x4, x5, rfl⟩ := array6 (hsz.trans (show Tryz.prog.cellsOf 32 = 6 by kernel_rfl))
  obtain ⟨fuel, hf⟩ := h0
  obtain ⟨y0, y1, y2, n0, -, -, f0, f1, f2⟩ := trod_struct3 Tryz.underlying32 hf
  have cR : Tryz.prog.cellsOf 24 = 1 := by kernel_rfl
  have cM : Tryz.prog.cellsOf 27 = 3 := by kernel_rfl
  have cD : Tryz.prog.cellsOf 30 = 2 := by kernel_rfl
  have cT : Tryz.prog.cellsOf 22 = 1 := by kernel_rfl
  have cL : Tryz.prog.cellsOf 25 = 1 := by kernel_rfl
  have cLL : Tryz.prog.cellsOf 28 = 1 := by kernel_rfl
  have cI : Tryz.prog.cellsOf 2 = 1 := by kernel_rfl
  simp only [Value.cells, cR, cM, cD, List.drop_zero, List.drop_succ_cons, List.take_succ_cons, List.take_zero] at f0 f1 f2
  obtain ⟨z0, n1, -, -, f3⟩ := trod_struct1 Tryz.underlying24 f0
  obtain ⟨z1, z2, z3, n2, -, -, f4, f5, f6⟩ := trod_struct3 Tryz.underlying27 f1
  obtain ⟨z4, z5, n3, -, -, f7, f8⟩ := trod_struct2 Tryz.underlying30 f2
  simp only [cT, cL, cLL, cI, List.drop_zero, List.drop_succ_cons, List.take_succ_cons, List.take_zero] at f3 f4 f5 f6 f7 f8
  obtain ⟨a, T, ra, ia, la, lb, lc⟩ := open_w3 Tryz.underlying22 Tryz.underlying28 Tryz.underlying25 Tryz.underlying2 (by kernel_rfl) (by kernel_rfl) (by kernel_rfl) f3
  obtain ⟨o, O, ro, io, lo, -⟩ := open_w1 Tryz.underlying25 Tryz.underlying2 (by kernel_rfl) f4
  obtain ⟨M, eM, -, wM⟩ := DataW.trod_int Tryz.underlying2 f5
  obtain rfl : x2 = .int .i64 M := by simpa using eM
  obtain ⟨v, V, rv, iv', lv, -⟩ := open_w1 Tryz.underlying25 Tryz.underlying2 (by kernel_rfl) f6
  obtain ⟨s, S, rs, is', ls, ls2, -⟩ := open_w2 Tryz.underlying28 Tryz.underlying25 Tryz.underlying2 (by kernel_rfl) (by kernel_rfl) f7
  obtain ⟨u, U, ru, iu, lu, -⟩ := open_w1 Tryz.underlying25 Tryz.underlying2 (by kernel_rfl) f8
  have g0 : Rel (cx0 W (fun _ => False)) (.agg [a, o, i64 M, v, s, u]) (.agg #[x0, x1, .int .i64 M, x3, x4, x5]) [] :=
    RelL.agg (RelL.cons ra (RelL.cons ro (RelL.cons (.sc _ .nil) (RelL.cons rv (RelL.cons rs (RelL.cons ru .nil (by simp)) (by simp)) (by simp)) (by simp)) (by simp)) (by simp)) (by simp) .nil
  clear hA0 hval0
  refine (walk_below (cIsDesk ia io iv' is' iu la lb lc lo (wf64 wM) lv ls ls2 lu) (RelL.cons g0 .nil (by simp))).mono fun e W' ⟨he, bel⟩ => ?_
  subst he
  exact ⟨_, rfl, _, _, _, [], _, [], hW', trodAll_mk1 (shut_bool Tryz.underlying4 _), (trodAll_cons_mk (Below.trod laidOut (by kernel_rfl) (of_decide_eq_true (by kernel_rfl)) k0 bel lt0) trodAll_mk0), rfl, bel.frame _, fun h => by cases h⟩

theorem over : Rows.fnExactIsDeskRow.holds Tryz.pinned (OpenSpec.ofChange Rows.fnExactIsDeskSpec) :=
  OpenClaim.holds_of_wide 3 Tryz.f3 rfl rfl rfl rfl rfl rfl rfl ⟨rfl, rfl, rfl, rfl, rfl⟩ rfl rfl rfl rfl rfl (by kernel_rfl) Tryz.func3 (by kernel_rfl)
    (of_decide_eq_true (by kernel_rfl)) (by unfold Func.isWrapper; first | (rw [if_pos (by decide +kernel)]; kernel_rfl) | (rw [if_neg (by decide +kernel)]; exact ⟨rfl, rfl⟩))
    (fun os started H enc _ => lifted os started H enc)

/-- The statement. -/
theorem proved : Rows.FnExactIsDeskSaid := over
#print axioms proved
end Go.Proofs.YtgcnmlecihegcaaGreat.fnExactIsDesk
