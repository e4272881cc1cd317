/- FnExactCodegreesOf: for all arguments the law answers true. No condition. (The row's step follows the guide's own shell, proof-skeleton.mjs.) -/
import Derived.Test.YtiljdiaigoppbaaGreatRows
import Derived.WalkKit
import Derived.ProofKit
import Derived.OpenShut
import Derived.ShutString
import Derived.ChangeOld
import Derived.Below
import Derived.Test.YtiljdiaigoppbaaGreatMi
import Derived.Test.YtiljdiaigoppbaaGreatCr
set_option linter.all false
namespace Go.Proofs.YtiljdiaigoppbaaGreat.fnExactCodegreesOf
open Go.ChangeShapes Go.WideShapes Go.ChangeAt Go.RowKit Go.Joins Go.Deep
open Go.ChangeMaps (open_string shut_string)
set_option linter.unusedVariables false

theorem array1 {cs : Array Value} (h : cs.size = 1) : ∃ c0, cs = #[c0] := by
  obtain ⟨l⟩ := cs
  match l, h with
  | [c0], _ => exact ⟨c0, rfl⟩

theorem own : ownKnob Tryz.prog.godebug = none := by kernel_rfl
theorem laidOut : laidOutB Tryz.prog = true := by kernel_rfl

set_option maxRecDepth 100000 in
theorem lifted (os : Os) (started : os.Started) (H : Type) (enc : TypeId × Value → H) :
    ReturnsInHanded {} Tryz.checked os 5 .any (Rows.fnExactCodegreesOfSpec.pre6 enc Tryz.prog Tryz.f5 Rows.fnExactCodegreesOfRow.domain false) (Rows.fnExactCodegreesOfSpec.post enc Tryz.prog Tryz.f5 false true false false) := by
  refine returnsInHanded_of_change (C := Tryz.checked) own started (by kernel_rfl) Tryz.func5
    (ChangeSpec.witness6 (enc := enc) (C := Tryz.checked) false ⟨#[], #[.agg #[.slice none 0 0]], []⟩ 8 (by kernel_rfl) (by kernel_rfl) (by kernel_rfl) (by kernel_rfl)) ?_
  intro W base args ds gs before hval0 hW hcnd _
  have hval : ∀ (j : Nat) t v, Tryz.f5.params[j]? = some t → args[j]? = some v → Value.okWide Tryz.prog W .any base t v := hval0
  have hW' := hW
  obtain ⟨p, q, hA0, hV, rfl, hfz, hnd⟩ := hW
  have hA : DataW.TrodAll enc Tryz.prog W 0 (fun _ => true) true Tryz.f5.params.toList args.toList ds p := hA0
  rw [Tryz.params5] at hA hval
  obtain ⟨v0, vs0, d0, ds0, p0, q0, hargs, rfl, rfl, h0, r0⟩ := trodAll_cons hA
  obtain ⟨rfl, rfl, rfl⟩ := trodAll_nil r0
  obtain rfl : args = #[v0] := by cases args; simp_all
  obtain ⟨rfl, rfl⟩ := trodVars_none hV
  have k0 := h0
  have lt0 : ∀ x ∈ p0, x.block < W.heap.size := by obtain ⟨m, hm⟩ := k0; exact DataW.trod_lt m _ _ _ hm
  obtain ⟨cs, rfl, hsz⟩ := okWide_struct Tryz.underlying24 (hval 0 24 v0 rfl rfl)
  obtain ⟨x0, rfl⟩ := array1 (hsz.trans (show Tryz.prog.cellsOf 24 = 1 by kernel_rfl))
  obtain ⟨fuel, hf⟩ := h0
  have cT : Tryz.prog.cellsOf 22 = 1 := by kernel_rfl
  obtain ⟨z0, n1, -, -, f3⟩ := trod_struct1 Tryz.underlying24 hf
  simp only [Value.cells, cT, List.drop_zero, List.take_succ_cons, List.take_zero] at f3
  obtain ⟨a, T, ra, ia, la, lb, lc⟩ := open_w3 Tryz.underlying22 Tryz.underlying26 Tryz.underlying36 Tryz.underlying2 (by kernel_rfl) (by kernel_rfl) (by kernel_rfl) f3
  have g0 : Rel (cx0 W (fun _ => False)) (.agg [a]) (.agg #[x0]) [] := RelL.agg (RelL.cons ra .nil (by simp)) (by simp) .nil
  clear hA0 hval0
  refine (walk_below (cLaw16 ia la lb lc) (RelL.cons g0 .nil (by simp)) (Gd.start ⟨by decide⟩)).mono fun e W' ⟨he, bel⟩ => ?_
  subst he
  exact ⟨_, rfl, _, _, _, [], _, [], hW', trodAll_mk1 (shut_bool Tryz.underlying4 _), (trodAll_cons_mk (Below.trod laidOut (by kernel_rfl) (of_decide_eq_true (by kernel_rfl)) k0 bel lt0) trodAll_mk0), rfl, bel.frame _, fun h => by cases h⟩

theorem over : Rows.fnExactCodegreesOfRow.holds Tryz.pinned (OpenSpec.ofChange Rows.fnExactCodegreesOfSpec) :=
  OpenClaim.holds_of_wide 5 Tryz.f5 rfl rfl rfl rfl rfl rfl rfl ⟨rfl, rfl, rfl, rfl, rfl⟩ rfl rfl rfl rfl rfl (by kernel_rfl) Tryz.func5 (by kernel_rfl)
    (of_decide_eq_true (by kernel_rfl)) (by unfold Func.isWrapper; first | (rw [if_pos (by decide +kernel)]; kernel_rfl) | (rw [if_neg (by decide +kernel)]; exact ⟨rfl, rfl⟩))
    (fun os started H enc _ => lifted os started H enc)

/-- The statement. -/
theorem proved : Rows.FnExactCodegreesOfSaid := over
#print axioms proved
end Go.Proofs.YtiljdiaigoppbaaGreat.fnExactCodegreesOf
