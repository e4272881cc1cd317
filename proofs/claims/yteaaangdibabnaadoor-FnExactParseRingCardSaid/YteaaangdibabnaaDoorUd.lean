/- Texts joined: U9 UD. -/
import Derived.Stop.LaidErr
import Derived.Shelf.Vars
import Derived.Handed
import Derived.LaidSub
import Derived.MakeChecks
import Derived.Lib.LaidTab
import Derived.Test.YteaaangdibabnaaDoorUb
set_option linter.all false
/- Lists out of texts: the reference's and the program's. -/
namespace Go.Proofs.YteaaangdibabnaaDoor
open Go.RowKit
set_option maxRecDepth 1000000
def RV (r : List UInt8) : List Int := (spl 32 r).map val
def RP (r : List UInt8) : List Int := (spl 32 r).map piN
def okW (r : List UInt8) : Prop := ∀ w, w ∈ spl 32 r → (rdv w).isSome = true
theorem rdv_piN {w : List UInt8} {v : Int} (h : rdv w = some v) : piN w = v := by
 unfold rdv at h
 unfold piN
 split at h
 ·rename_i v' hv'
  split at h
  ·simp only [Option.some.injEq] at h; rw [hv']; exact h
  ·cases h
 ·cases h
theorem getD_mem {ws : List (List UInt8)} {k : Nat} (h : k < ws.length) : ws.getD k [] ∈ ws := by
 rw [List.getD_eq_getElem?_getD, List.getElem?_eq_getElem h]
 exact List.getElem_mem h
theorem map_rws (f : List UInt8 → Int) (ws : List (List UInt8)) : ws.map f = rws (fun i => f (ws.getD i [])) ws.length := by
 apply List.ext_getElem?
 intro k
 by_cases h : k < ws.length
 ·rw [rws_get _ _ _ h, List.getElem?_map, List.getD_eq_getElem?_getD, List.getElem?_eq_getElem h]
  rfl
 ·rw [List.getElem?_eq_none (by simpa using h), List.getElem?_eq_none (by rw [zfe]; omega)]
theorem atI_map {f : List UInt8 → Int} {ws : List (List UInt8)} {k : Nat} (h : k < ws.length) : atI (ws.map f) k = f (ws.getD k []) := by
 rw [map_rws, atI_rws _ h]
theorem RV_len (r : List UInt8) : (RV r).length = (spl 32 r).length := List.length_map _
theorem RP_len (r : List UInt8) : (RP r).length = (spl 32 r).length := List.length_map _
theorem nv_ok {r : List UInt8} (h : numL (RV r)) : okW r ∧ RP r = RV r := by
 have key : ∀ w, w ∈ spl 32 r → rdv w = some (val w) := by
  intro w hw
  obtain ⟨k, hk, e⟩ := List.mem_iff_getElem.1 hw
  have h1 := h k
  unfold RV at h1
  rw [atI_map hk] at h1
  have e2 : (spl 32 r).getD k [] = w := by rw [List.getD_eq_getElem?_getD, List.getElem?_eq_getElem hk, e]; rfl
  rw [e2] at h1
  exact rdv_of_val h1.1
 exact ⟨fun w hw => by rw [key w hw]; rfl, List.map_congr_left fun w hw => rdv_piN (key w hw)⟩
theorem np_ok {r : List UInt8} (ho : okW r) (h : numL (RP r)) : RV r = RP r := by
 refine List.map_congr_left fun w hw => ?_
 obtain ⟨v, hv⟩ := Option.isSome_iff_exists.1 (ho w hw)
 rw [rdv_piN hv]
 rcases val_of_rdv hv with e | ⟨e1, e2⟩
 ·exact e
 ·exfalso
  obtain ⟨k, hk, e⟩ := List.mem_iff_getElem.1 hw
  have h1 := h k
  unfold RP at h1
  rw [atI_map hk] at h1
  have e3 : (spl 32 r).getD k [] = w := by rw [List.getD_eq_getElem?_getD, List.getElem?_eq_getElem hk, e]; rfl
  rw [e3, rdv_piN hv] at h1
  unfold num at h1
  omega
theorem cReadI {l : List UInt8} (hl : l.length ≤ 4000000000) (ho : okW l) : CallOK Tryd.prog 13 [sB l] (.tup [rowL (RP l), bo true]) := by
 have cs := cSplit (l := l) (c := 32) hl
 have hlen := spl_len 32 l
 have e0 : rowL (RP l) = .row (rws (fun i => i64 (piN ((spl 32 l).getD i []))) (spl 32 l).length) := by unfold RP; rw [map_rws]; simp only [rowL, rws_map]
 refine call_of (fn := Tryd.f13) (code := bodyOf Tryd.f13) Tryd.func13 rfl (by kernel_rfl) (by simp only [noRef, noRefL, zhi, Bool.and_self, Bool.and_true]) ?_
 intro sl hs
 have s0 : sl 0 = sB l := hs 0
 rw [e0]
 dsimp only [Tryd.f13, bodyOf, Option.getD]
 simp (maxSteps := 10000000) (disch := first | assumption | omega) only [go_sem, ↓reduceIte, Nat.reduceEqDiff, reduceCtorEq, Nat.reduceAdd, Nat.reduceMul, Nat.reduceLeDiff, zc, Int.reduceToNat, s0, tiSt, tiBy, tiSS]
 refine CLL_pure _ cs rfl rfl rfl ?_
 simp (maxSteps := 10000000) (disch := first | assumption | omega) only [go_sem, ↓reduceIte, Nat.reduceEqDiff, reduceCtorEq, Nat.reduceAdd, Nat.reduceMul, Nat.reduceLeDiff, zc, Int.reduceToNat, s0, tiSS, impE_row, List.length_map]
 refine WK_for (fun k st => st.sl 0 = sB l ∧ st.sl 11 = .ref 12304 1 [] 0 (spl 32 l).length ∧ st.ro 12304 1 = some (rowS (spl 32 l)) ∧ st.sl 12 = i64 ((spl 32 l).length : Nat) ∧ st.sl 4 = .ref 8192 (st.gn 8192) [] 0 k ∧ st.ro 8192 (st.gn 8192) = some (.row (rws (fun i => i64 (piN ((spl 32 l).getD i []))) k)) ∧ st.sl 13 = i64 (k : Int)) ((spl 32 l).length) ?_ ?_ ?_
 ·simp only [↓za, ↓reduceIte, Nat.reduceEqDiff, zb, reduceCtorEq, rws_zero, s0]
  rfl
 ·rintro k sl ro gn hk ⟨s0, s11, r12304, s12, s4, r8192, s13⟩
  dsimp only at s0 s11 r12304 s12 s4 r8192 s13
  have hk' : (k : Int) < ((spl 32 l).length : Nat) := by omega
  have hw : ((spl 32 l).getD k []).length ≤ 4000000000 := by
   have := spl_mem_len _ l (Nat.le_refl _) _ (getD_mem hk)
   omega
  have hi2 : k + 1 ≤ 4294967296 := by omega
  have c := cRd hw
  rw [ho _ (getD_mem hk)] at c
  simp (maxSteps := 10000000) (disch := first | assumption | omega) only [go_sem, ↓reduceIte, Nat.reduceEqDiff, reduceCtorEq, Nat.reduceAdd, Nat.reduceMul, Nat.reduceLeDiff, zc, Int.reduceToNat, s0, s11, r12304, s12, s4, r8192, s13, hk', hk, tiSt, tiSS, rowS_get hk, zfn]
  refine CLL_pure _ c rfl rfl rfl ?_
  simp (maxSteps := 10000000) (disch := first | assumption | omega) only [go_sem, ↓reduceIte, Nat.reduceEqDiff, reduceCtorEq, Nat.reduceAdd, Nat.reduceMul, Nat.reduceLeDiff, zc, Int.reduceToNat, s0, s11, r12304, s12, s4, r8192, s13, hk', hk, hi2]
  exact i64c (by omega)
 ·rintro sl ro gn ⟨s0, s11, r12304, s12, s4, r8192, s13⟩
  dsimp only at s0 s11 r12304 s12 s4 r8192 s13
  have hk' : ¬ (((spl 32 l).length : Nat) : Int) < ((spl 32 l).length : Nat) := by omega
  simp (maxSteps := 10000000) (disch := first | assumption | omega) only [go_sem, ↓reduceIte, Nat.reduceEqDiff, reduceCtorEq, Nat.reduceAdd, Nat.reduceMul, Nat.reduceLeDiff, zc, Int.reduceToNat, s0, s11, r12304, s12, s4, r8192, s13, hk', tiSS]
  simp only [zr, zb, retR, resL, outT, outL, zes, zez, oneV, zcp, zed, zfi, Ro.dl, St.ev, zhk, ↓za, ↓reduceIte, Nat.reduceEqDiff, Nat.reduceAdd, Nat.reduceLeDiff, r8192]
theorem cReadN {l : List UInt8} (hl : l.length ≤ 4000000000) (ho : ¬ okW l) : CallOK Tryd.prog 13 [sB l] (.tup [nilA, bo false]) := by
 have cs := cSplit (l := l) (c := 32) hl
 have hlen := spl_len 32 l
 refine call_of (fn := Tryd.f13) (code := bodyOf Tryd.f13) Tryd.func13 rfl (by kernel_rfl) (rfl) ?_
 intro sl hs
 have s0 : sl 0 = sB l := hs 0
 dsimp only [Tryd.f13, bodyOf, Option.getD]
 simp (maxSteps := 10000000) (disch := first | assumption | omega) only [go_sem, ↓reduceIte, Nat.reduceEqDiff, reduceCtorEq, Nat.reduceAdd, Nat.reduceMul, Nat.reduceLeDiff, zc, Int.reduceToNat, s0, tiSt, tiBy, tiSS]
 refine CLL_pure _ cs rfl rfl rfl ?_
 simp (maxSteps := 10000000) (disch := first | assumption | omega) only [go_sem, ↓reduceIte, Nat.reduceEqDiff, reduceCtorEq, Nat.reduceAdd, Nat.reduceMul, Nat.reduceLeDiff, zc, Int.reduceToNat, s0, tiSS, impE_row, List.length_map]
 refine WK_for (fun k st => st.sl 0 = sB l ∧ st.sl 11 = .ref 12304 1 [] 0 (spl 32 l).length ∧ st.ro 12304 1 = some (rowS (spl 32 l)) ∧ st.sl 12 = i64 ((spl 32 l).length : Nat) ∧ st.sl 4 = .ref 8192 (st.gn 8192) [] 0 k ∧ st.ro 8192 (st.gn 8192) = some (.row (rws (fun i => i64 (piN ((spl 32 l).getD i []))) k)) ∧ st.sl 13 = i64 (k : Int) ∧ (∀ j, j < k → (rdv ((spl 32 l).getD j [])).isSome = true)) ((spl 32 l).length) ?_ ?_ ?_
 ·simp only [↓za, ↓reduceIte, Nat.reduceEqDiff, zb, reduceCtorEq, rws_zero, s0]
  exact ⟨rfl, fun j hj => absurd hj (Nat.not_lt_zero j)⟩
 ·rintro k sl ro gn hk ⟨s0, s11, r12304, s12, s4, r8192, s13, q⟩
  dsimp only at s0 s11 r12304 s12 s4 r8192 s13
  have hk' : (k : Int) < ((spl 32 l).length : Nat) := by omega
  have hw : ((spl 32 l).getD k []).length ≤ 4000000000 := by
   have := spl_mem_len _ l (Nat.le_refl _) _ (getD_mem hk)
   omega
  have hi2 : k + 1 ≤ 4294967296 := by omega
  have c := cRd hw
  cases hb : (rdv ((spl 32 l).getD k [])).isSome with
  | true =>
   rw [hb] at c
   simp (maxSteps := 10000000) (disch := first | assumption | omega) only [go_sem, ↓reduceIte, Nat.reduceEqDiff, reduceCtorEq, Nat.reduceAdd, Nat.reduceMul, Nat.reduceLeDiff, zc, Int.reduceToNat, s0, s11, r12304, s12, s4, r8192, s13, hk', hk, tiSt, tiSS, rowS_get hk, zfn]
   refine CLL_pure _ c rfl rfl rfl ?_
   simp (maxSteps := 10000000) (disch := first | assumption | omega) only [go_sem, ↓reduceIte, Nat.reduceEqDiff, reduceCtorEq, Nat.reduceAdd, Nat.reduceMul, Nat.reduceLeDiff, zc, Int.reduceToNat, s0, s11, r12304, s12, s4, r8192, s13, hk', hk, hi2]
   refine ⟨i64c (by omega), fun j hj => ?_⟩
   rcases Nat.lt_or_eq_of_le (Nat.le_of_lt_succ hj) with h | h
   ·exact q j h
   ·rw [h]; exact hb
  | false =>
   rw [hb] at c
   simp (maxSteps := 10000000) (disch := first | assumption | omega) only [go_sem, ↓reduceIte, Nat.reduceEqDiff, reduceCtorEq, Nat.reduceAdd, Nat.reduceMul, Nat.reduceLeDiff, zc, Int.reduceToNat, s0, s11, r12304, s12, s4, r8192, s13, hk', hk, tiSt, tiSS, rowS_get hk, zfn]
   refine CLL_pure _ c rfl rfl rfl ?_
   simp (maxSteps := 10000000) (disch := first | assumption | omega) only [go_sem, ↓reduceIte, Nat.reduceEqDiff, reduceCtorEq, Nat.reduceAdd, Nat.reduceMul, Nat.reduceLeDiff, zc, Int.reduceToNat, s0, s11, r12304, s12, s4, r8192, s13, hk', hk]
   simp only [zr, zb, retR, resL, outT, outL, zes, zez, oneV, zcp, zed, zfi, Ro.dl, St.ev, zhk, ↓za, ↓reduceIte, Nat.reduceEqDiff, Nat.reduceAdd, Nat.reduceLeDiff]
 ·rintro sl ro gn ⟨s0, s11, r12304, s12, s4, r8192, s13, q⟩
  dsimp only at s0 s11 r12304 s12 s4 r8192 s13
  have hk' : ¬ (((spl 32 l).length : Nat) : Int) < ((spl 32 l).length : Nat) := by omega
  exact absurd (fun w hw => by
   obtain ⟨k, hk, e⟩ := List.mem_iff_getElem.1 hw
   have h1 := q k hk
   rw [List.getD_eq_getElem?_getD, List.getElem?_eq_getElem hk, e] at h1
   exact h1) ho
end Go.Proofs.YteaaangdibabnaaDoor
/- What a row's list of variables and the world's shape give: the world at entry is known. And the plain wrap of a law with both, the list and the shape. -/
namespace Go.Proofs.YteaaangdibabnaaDoor
open Go.RowKit
set_option maxRecDepth 1000000
def esD : DataW Unit := .iface "*errors.errorString" (.ptr (.agg [.lit (.string [105, 110, 118, 97, 108, 105, 100, 32, 115, 121, 110, 116, 97, 120])]))
def erD : DataW Unit := .iface "*errors.errorString" (.ptr (.agg [.lit (.string [118, 97, 108, 117, 101, 32, 111, 117, 116, 32, 111, 102, 32, 114, 97, 110, 103, 101])]))
theorem starE : "*" ++ "errors.errorString" = "*errors.errorString" := by decide
theorem rowE (u : TypeId) (h : Tryd.prog.typeName? 3 u = some "*errors.errorString") : u = 110 :=
 typeName_ptr_named (nm := "errors.errorString") (by rw [starE]; kernel_rfl) (by kernel_rfl) (by decide) u (by rw [starE]; exact h)
theorem sen_of {W : World} {n : String} {text : List UInt8} {g : Nat} (hg : Tryd.prog.globalNamed n = some g) (ht : (Tryd.prog.globals[g]?).map (·.type) = some 59) (h : laidMet Tryd.prog [(n, .iface "*errors.errorString" (.ptr (.agg [.lit (.string text)])))] W) :
  ∃ v, W.cell? ⟨g, 0, none⟩ = some v ∧ (v = .nilIface ∨ ∃ t p, v = .iface t p) := by
 obtain ⟨a, s, hv, -, -, -⟩ := laid_sentinel h hg ht Tryd.underlying59 rowE Tryd.underlying110 Tryd.underlying112 rfl rfl Tryd.underlying9 (by kernel_rfl) (by kernel_rfl)
 exact ⟨_, by have h0 := World.var?_cell hg hv 0; simpa using h0, .inr ⟨_, _, rfl⟩⟩
theorem pow_of {w : World} (h : Lib.TabIs Tryd.prog w "internal/strconv.uint64pow10" .u64 Lib.pow10Tab) : ∃ t fr, w.heap[5]? = some (.cells (Lib.pow10Tab.map fun z => Value.int .u64 z).toArray t fr) := by
 have hg : Tryd.prog.globalNamed "internal/strconv.uint64pow10" = some 5 := laysFmt.m17
 unfold Lib.TabIs World.var? at h
 rw [hg] at h
 have h' : (match w.heap[5]? with | some (Obj.cells cs _ _) => some cs | _ => none) = some (Lib.pow10Tab.map fun z => Value.int .u64 z).toArray := h
 split at h'
 ·rename_i cs t fr hc
  simp only [Option.some.injEq] at h'
  subst h'
  exact ⟨t, fr, hc⟩
 ·cases h'
theorem gd_full {W : World} {l : List (String × DataW Unit)} (hsh : W.ShapedOpen Tryd.prog) (hL : laidMetH Tryd.prog l W)
  (h1 : (l.filter fun x => x.1 == "internal/strconv.uint64pow10") = [("internal/strconv.uint64pow10", Lib.tabData .u64 Lib.pow10Tab)])
  (h2 : (l.filter fun x => x.1 == "strconv.ErrSyntax") = [("strconv.ErrSyntax", esD)])
  (h3 : (l.filter fun x => x.1 == "strconv.ErrRange") = [("strconv.ErrRange", erD)]) : Gd W := by
 have k1 := hL.filter fun x => x.1 == "internal/strconv.uint64pow10"
 have k2 := hL.filter fun x => x.1 == "strconv.ErrSyntax"
 have k3 := hL.filter fun x => x.1 == "strconv.ErrRange"
 rw [h1, Go.MakeChecks.laidMetH_plain _ _ _ (by kernel_rfl)] at k1
 rw [h2, Go.MakeChecks.laidMetH_plain _ _ _ (by kernel_rfl)] at k2
 rw [h3, Go.MakeChecks.laidMetH_plain _ _ _ (by kernel_rfl)] at k3
 have kT := Lib.tabIs_of_head (g := 5) (t := 114) (e := 83) (n := 20) (by kernel_rfl) (by kernel_rfl) Tryd.underlying114 Tryd.underlying83 (by kernel_rfl) (by kernel_rfl) k1
 have kM : ∃ m, W.cell? ⟨0, 0, none⟩ = some (.int .i64 m) := cell_of_shapedOpen_int (t := 3) (zero := #[.int .i64 0]) hsh (of_decide_eq_true (by kernel_rfl)) (by kernel_rfl) rfl (by kernel_rfl) (by kernel_rfl) Tryd.underlying3
 exact Gd.start { size := by decide, pow := pow_of kT, maxl := kM, es := sen_of (by kernel_rfl) (by kernel_rfl) k2, er := sen_of (by kernel_rfl) (by kernel_rfl) k3 }
variable {H : Type} {enc : TypeId × Value → H}
theorem wrap_shaped {a : Assume} {C : Checked} {os : Os} {f : FuncId} {fn : Func} {s : ChangeSpec} {conds : List PathCond} {apart fresh handsOn again : Bool} {X : World → Array Value → Prop}
  (hX : ∀ (w w' : World) (args : Array Value), w.heap = w'.heap → X w args → X w' args)
  (own : ownKnob C.prog.godebug = none) (started : os.Started) (noInit : C.prog.inits.idxOf? f = none) (hfn : C.prog.funcs[f]? = some fn)
  (witness : ∃ (w : World) (tape : Tape) (i : Input), w.os = os ∧ (w.forCall tape i).Shaped C.prog ∧ i.vars = [] ∧ Input.okWide C.prog (w.forCall tape i) .any w.heap.size f i ∧
   ((s.pre enc C.prog fn conds apart (w.forCall tape i).memory i.args ∧ X (w.forCall tape i).memory i.args) ∧ sizedMet enc C.prog fn (OpenSpec.ofChange s) apart (w.forCall tape i).memory i.args) ∧ a.holds C.prog (lone (Frame.enter C.prog f i.args .normal) [] (w.forCall tape i)))
  (contract : ∀ (W : World) (base : Nat) (args : Array Value) (ds gs : List (DataW H)) (before : List MemPlace),
   (∀ (j : Nat) t v, fn.params[j]? = some t → args[j]? = some v → Value.okWide C.prog W .any base t v) →
   DataW.Whole enc C.prog fn.params.toList s.vars apart W args.toList ds gs before →
   conds.all (PathCond.test C.prog ⟨fn.params.toList, ds, s.plain.varTypes C.prog, gs⟩) = true →
   (DataW.weightsEach C.prog (fn.params.toList ++ s.plain.varTypes C.prog) (ds ++ gs)).all (· ≤ reachBytes) = true → X W args → W.ShapedOpen C.prog →
   a.holds C.prog (lone (Frame.enter C.prog f args .normal) [] W) →
   Calls C.prog f args W fun e W' => ∃ v, e = .returned v ∧ s.post enc C.prog fn apart fresh handsOn again W args v W') :
  ReturnsInHanded a C os f .any (fun w args => (s.pre enc C.prog fn conds apart w args ∧ X w args) ∧ sizedMet enc C.prog fn (OpenSpec.ofChange s) apart w args) (s.post enc C.prog fn apart fresh handsOn again) := by
 refine returnsInHanded_of_calls own started noInit witness ?_
 intro w tape i _ hsh _ hok hpre hholds
 obtain ⟨_, _, _, fn', hfn', _, _, _, _, hval⟩ := hok
 have e : fn' = fn := Option.some.inj (hfn'.symm.trans hfn)
 subst e
 obtain ⟨⟨⟨ds, gs, before, hw, hc⟩, hx⟩, hz⟩ := hpre
 have hw' := DataW.Whole.of_heap (w' := w.forCall tape i) (by rfl) hw
 refine (contract (w.forCall tape i) w.heap.size i.args ds gs before hval hw' hc (hz.weights hw) (hX _ _ _ (by rfl) hx) hsh hholds).mono fun e W' ⟨v, he, hp⟩ => ?_
 subst he
 exact ChangeSpec.post_blind hp
end Go.Proofs.YteaaangdibabnaaDoor
