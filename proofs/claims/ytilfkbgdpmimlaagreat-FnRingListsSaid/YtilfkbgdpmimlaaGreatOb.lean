/- Texts joined: Ea4 Eaz Ea5 Ea6. -/
import Derived.Test.YtilfkbgdpmimlaaGreatMi
import Derived.Test.YtilfkbgdpmimlaaGreatMh
import Derived.Test.YtilfkbgdpmimlaaGreatOa
set_option linter.all false
/- Enumeration of rings: frames of calls in the caller's memory. -/
namespace Go.Proofs.YtilfkbgdpmimlaaGreat
open Go.RowKit
set_option maxRecDepth 1000000
theorem tiV : ti0 79 = some ⟨1, false, [Value.nilFunc], none, [], none, false, false, none, none⟩ := by kernel_rfl
theorem tiX : ti0 1 = some ⟨1, false, [Value.nilFunc], none, [], none, false, false, none, none⟩ := by kernel_rfl
theorem tiR1 : ti0 51 = some ⟨1, false, [Value.nilFunc], none, [], none, false, false, none, none⟩ := by kernel_rfl
theorem tiF1 : ti0 107 = some ⟨1, false, [Value.nilFunc], none, [], none, false, false, none, none⟩ := by kernel_rfl
theorem tiRs : ti0 26 = some ⟨1, false, [Value.slice none 0 0], some 32, [], none, false, false, none, none⟩ := by kernel_rfl
theorem tiT : ti0 104 = some ⟨3, true, [Value.int .i64 0, Value.int .i64 0, Value.int .i64 0], none, [], none, false, false, none, some (3, 3)⟩ := by kernel_rfl
theorem tiTs : ti0 105 = some ⟨1, false, [Value.slice none 0 0], none, [], none, false, false, some (104, 3), none⟩ := by kernel_rfl
theorem tiTss : ti0 102 = some ⟨1, false, [Value.slice none 0 0], some 105, [], none, false, false, none, none⟩ := by kernel_rfl
theorem kSlice_hi {ro : Ro} {s g : Nat} {p : List Nat} {off n h : Nat} {a1 : Nat} {a2 : Bool} {a3 : List Value} {e : Nat} {a5 : List (Nat × Nat)} {a6 : Option IntKind} {a7 a8 : Bool} {a9 a10 : Option (Nat × Nat)} : kSlice (some ⟨a1, a2, a3, some e, a5, a6, a7, a8, a9, a10⟩) ro (.ref s g p off n) none (some (i64 (h : Int))) = if h ≤ n ∧ (ro.cells s g p).isSome = true then some ⟨.ref s g p off h, none, [], []⟩ else none := by
 simp only [kSlice, evInt, Option.isSome_some, if_true, Int.le_refl, Int.natCast_nonneg, true_and, Int.ofNat_le, Int.toNat_zero, Nat.add_zero, Int.sub_zero, Int.toNat_natCast]
theorem kSlice_lo {ro : Ro} {s g : Nat} {p : List Nat} {off n l : Nat} {a1 : Nat} {a2 : Bool} {a3 : List Value} {e : Nat} {a5 : List (Nat × Nat)} {a6 : Option IntKind} {a7 a8 : Bool} {a9 a10 : Option (Nat × Nat)} : kSlice (some ⟨a1, a2, a3, some e, a5, a6, a7, a8, a9, a10⟩) ro (.ref s g p off n) (some (i64 (l : Int))) none = if l ≤ n ∧ (ro.cells s g p).isSome = true then some ⟨.ref s g p (off + l) (n - l), none, [], []⟩ else none := by
 rw [zfx]
 simp only [Int.natCast_nonneg, true_and, Int.ofNat_le, Int.toNat_natCast]
 by_cases h : l ≤ n
 ·have : ((n : Int) - l).toNat = n - l := by omega
  rw [this]
 ·simp only [h, false_and, if_false]
theorem liftFn (s g : Nat) (p : List Nat) (f : Nat) (cs : List AV) : lift s g p (.fn f cs) = .fn f cs := nr _
theorem cellOkBFn (ro : Ro) (f : Nat) (cs : List AV) : cellOkB ro (.fn f cs) = true := nr _
theorem liftImk (s g : Nat) (p : List Nat) (k n : Nat) (cs : List AV) : lift s g p (.immk k n cs) = .immk k n cs := nr _
attribute [go_sem] cellOkBFn liftFn liftImk tiV tiX tiR1 tiF1 tiRs tiT tiTs tiTss kIdx_refk kIdx_immk kIdx_parr kLen_refk kLen_immk
theorem in_ofS {f : Nat} {fn : Func} {code : Code} {args : List AV} {ro : Ro} {gn : Nat → Nat} {Po : AV → Ro → (Nat → Nat) → Prop} (hf : Tryz.prog.funcs[f]? = some fn) (hb : fn.body = some code)
  (hok : (!(fn.name == "runtime.NumGoroutine") && dstOK fn.ntmps code && decide (args.length ≤ fn.ntmps)) = true)
  (h : ∀ sl : Nat → AV, (∀ k, sl k = args.getD k (.sc undef)) → WK XX code [] (RETS ti0 fn.results.toList Po) ⟨sl, ro, gn⟩) : InS Tryz.prog f args ro gn Po :=
 in_ofGS _ (tiG_ok _) mixed0 hf hb hok h
theorem InS.mono {P : Program} {f : Nat} {args : List AV} {ro : Ro} {gn : Nat → Nat} {Po Po' : AV → Ro → (Nat → Nat) → Prop} (h : InS P f args ro gn Po) (hp : ∀ a b c, Po a b c → Po' a b c) : InS P f args ro gn Po' := by
 refine ⟨h.1, fun w0 A0 F0 c Φ vs h1 h2 h3 h4 => (h.2 w0 A0 F0 c Φ vs h1 h2 h3 h4).mono ?_⟩
 rintro en w' ⟨v, c', Φ', r', k1, k2, k3, k4, k5, k6⟩
 exact ⟨v, c', Φ', r', k1, k2, hp _ _ _ k3, k4, k5, k6⟩
theorem RETS_1 {ti : Nat → Option TI} {k : Nat} {Po : AV → Ro → (Nat → Nat) → Prop} {sl : Nat → AV} {ro : Ro} {gn : Nat → Nat} (v : AV) (h : sl k = v) (hp : Po v ro gn) : RETS ti [.tmp k] Po .ret ⟨sl, ro, gn⟩ := ⟨.inr rfl, [sl k], rfl, by show Po (sl k) ro gn; rw [h]; exact hp⟩
theorem RETS_0 {ti : Nat → Option TI} {Po : AV → Ro → (Nat → Nat) → Prop} {sl : Nat → AV} {ro : Ro} {gn : Nat → Nat} {e : Exit} (he : e = .normal ∨ e = .ret) (hp : Po (.tup []) ro gn) : RETS ti [] Po e ⟨sl, ro, gn⟩ := ⟨he, [], rfl, hp⟩
abbrev e0 : FP := ⟨some [], []⟩
theorem upr_col {ro : Ro} {s g s' : Nat} {v : AV} (h : s' ≠ s) : upr ro s g v s' = ro s' := by
 funext y; rw [zdb, if_neg (fun e => h e.1)]
def aftB (ops : Array Oper) (i : Nat) : Bool := (List.range ops.size).all fun k => !(decide (i < k)) || befB ops ops.size i k
theorem aftB_ok {ops : Array Oper} {i : Nat} (h : aftB ops i = true) : ∀ k, i < k → k < ops.size → befB ops ops.size i k = true := by
 intro k h1 h2
 have := List.all_eq_true.1 h k (List.mem_range.2 h2)
 simpa [h1] using this
structure Frx (W : List Nat) (C : Nat → Nat → Prop) (ro : Ro) (gn : Nat → Nat) (ro' : Ro) (gn' : Nat → Nat) : Prop where
 off : ∀ s, s ∉ W → ro' s = ro s ∧ gn' s = gn s
 up : ∀ x, gn x ≤ gn' x
 kp : ∀ x y, y ≤ gn x → ¬ C x y → ro' x y = ro x y
section
variable {W : List Nat} {C : Nat → Nat → Prop} {ro ro' ro'' : Ro} {gn gn' gn'' : Nat → Nat}
theorem Frx.refl (W : List Nat) (C : Nat → Nat → Prop) (ro : Ro) (gn : Nat → Nat) : Frx W C ro gn ro gn := ⟨fun _ _ => ⟨rfl, rfl⟩, fun _ => Nat.le_refl _, fun _ _ _ _ => rfl⟩
theorem Frx.al (h : Frx W C ro gn ro' gn') (s g : Nat) (v : AV) (hW : s ∈ W) (hu : g = gn' s + 1) : Frx W C ro gn (upr ro' s g v) (upg gn' s g) := by
 subst hu
 refine ⟨fun z hz => ?_, fun x => ?_, fun x y h1 h2 => ?_⟩
 ·have hne : z ≠ s := fun e => hz (e ▸ hW)
  exact ⟨(upr_col hne).trans (h.off z hz).1, by rw [zda, if_neg hne]; exact (h.off z hz).2⟩
 ·have := h.up x
  rw [zda]
  split
  ·rename_i e; subst e; omega
  ·exact this
 ·rw [zdb, if_neg]
  ·exact h.kp x y h1 h2
  ·rintro ⟨rfl, rfl⟩
   have := h.up x
   omega
theorem Frx.wr (h : Frx W C ro gn ro' gn') (s g : Nat) (v : AV) (hW : s ∈ W) (hs : gn s < g ∨ C s g) : Frx W C ro gn (upr ro' s g v) gn' :=
 ⟨fun z hz => ⟨(upr_col (fun e => hz (by rw [e]; exact hW))).trans (h.off z hz).1, (h.off z hz).2⟩, h.up, fun x y h1 h2 => by
  rw [zdb, if_neg]
  ·exact h.kp x y h1 h2
  ·rintro ⟨rfl, rfl⟩
   rcases hs with hs | hs
   ·omega
   ·exact h2 hs⟩
theorem Frx.mono {W' : List Nat} (h : Frx W C ro gn ro' gn') (hw : ∀ s, s ∈ W → s ∈ W') : Frx W' C ro gn ro' gn' := ⟨fun s hs => h.off s fun e => hs (hw s e), h.up, h.kp⟩
theorem Frx.monoB {W' : List Nat} (h : Frx W C ro gn ro' gn') (hw : W.all (fun s => W'.contains s) = true) : Frx W' C ro gn ro' gn' := h.mono fun s hs => List.contains_iff_mem.1 (List.all_eq_true.1 hw s hs)
theorem Frx.trans {C' : Nat → Nat → Prop} (h : Frx W C ro gn ro' gn') (h' : Frx W C' ro' gn' ro'' gn'') (ht : ∀ x y, C' x y → gn x < y ∨ C x y) : Frx W C ro gn ro'' gn'' :=
 ⟨fun s hs => ⟨(h'.off s hs).1.trans (h.off s hs).1, (h'.off s hs).2.trans (h.off s hs).2⟩, fun x => Nat.le_trans (h.up x) (h'.up x), fun x y h1 h2 => (h'.kp x y (Nat.le_trans h1 (h.up x)) (fun hc => by
  rcases ht x y hc with ht | ht
  ·omega
  ·exact h2 ht)).trans (h.kp x y h1 h2)⟩
theorem inX_frx {X : WX} {ops : Array Oper} {i f : Nat} {args : List AV} {st : St} {R : List Nat} {Res : (Nat → Nat) → AV → Ro → (Nat → Nat) → Prop}
  (hc : ∀ ro1 gn1, (∀ s, s ∈ R ∨ s ∈ W → ro1 s = st.ro s) → (∀ s, s ∈ W → gn1 s = st.gn s) → InS X.P f args ro1 gn1 (fun r ro' gn' => Frx W C ro1 gn1 ro' gn' ∧ Res gn1 r ro' gn'))
  (hloc : ∀ gn r ro' gn' ro2 gn1 gn2, (∀ s, s ∈ W → ro2 s = ro' s ∧ gn1 s = gn s ∧ gn2 s = gn' s) → Res gn r ro' gn' → Res gn1 r ro2 gn2) (ha : callsAft ops i = true)
  (hn : ∀ k, i < k → k < ops.size → befB ops ops.size i k = true) :
  inX X ops i f args st (fun r ro' gn' => Frx W C st.ro st.gn ro' gn' ∧ Res st.gn r ro' gn') R W := by
 refine ⟨fun ro1 gn1 h1 h2 => (hc ro1 gn1 h1 h2).mono ?_, fun r ro' gn' h => h.1.off, ha, .inr hn⟩
 rintro r ro' gn' ⟨k1, k3⟩
 refine ⟨mixF W ro' st.ro, mixF W gn' st.gn, ⟨⟨fun s hs => ⟨mixF_out hs, mixF_out hs⟩, fun x => ?_, fun x y hy hxy => ?_⟩, hloc gn1 r ro' gn' _ _ _ (fun s hs => ⟨mixF_in hs, (h2 s hs).symm, mixF_in hs⟩) k3⟩, ?_, ?_⟩
 ·by_cases hx : x ∈ W
  ·rw [mixF_in hx, ← h2 x hx]; exact k1.up x
  ·rw [mixF_out hx]; exact Nat.le_refl _
 ·by_cases hx : x ∈ W
  ·rw [mixF_in hx, k1.kp x y (by rw [h2 x hx]; exact hy) hxy, h1 x (.inr hx)]
  ·rw [mixF_out hx]
 ·rw [mixF_mix]; exact (mixF_id fun s hs => (k1.off s hs).1).symm
 ·rw [mixF_mix]; exact (mixF_id fun s hs => (k1.off s hs).2).symm
end
theorem exq_refT {n : Nat} {ro : Ro} {s g m : Nat} {xs ys : List Int} (h : ro s g = some (rowL ys)) (hm : ys.take m = xs) (hl : m ≤ ys.length) (hn : 2 ≤ n) : exq n ro (.ref s g [] 0 m) (immL xs) := by
 refine ⟨fun k hk => ?_, fun hp => by simp [pureA] at hp⟩
 obtain ⟨j, rfl⟩ : ∃ j, k = j + 2 := ⟨k - 2, by omega⟩
 have e : (j + 2 : Nat) = (j + 1) + 1 := rfl
 rw [e, ex]
 simp only [Ro.cells, h, blk, rowL, List.drop_zero]
 rw [← hm, ← List.map_take, List.map_map]
 rfl
theorem KFt {p : Prop} (h : p := by (repeat' first | assumption | exact Frx.refl _ _ _ _ | refine Frx.al ?_ _ _ _ (by decide) rfl | refine Frx.wr ?_ _ _ _ (by decide) (by first | (left; omega) | (right; exact ⟨rfl, rfl⟩) | (right; exact .inl ⟨rfl, rfl⟩) | (right; exact .inr ⟨rfl, rfl⟩) | (right; exact .inr (.inl ⟨rfl, rfl⟩)) | (right; exact .inr (.inr ⟨rfl, rfl⟩))))) : p := h
theorem KEt {p : Prop} (h : p := by (intro x y hy h1 h2; simp only [zdb]; repeat' (first | rfl | rw [if_neg (by rintro ⟨rfl, rfl⟩; omega)]))) : p := h
abbrev zl (l : List Nat) : List Int := l.map fun (x : Nat) => (x : Int)
theorem zl_len (l : List Nat) : (zl l).length = l.length := List.length_map _
theorem Nat.find_ex {p : Nat → Prop} (h : ∃ k, p k) : ∃ k, p k ∧ ∀ j, j < k → ¬ p j := by
 obtain ⟨k, hk⟩ := h
 induction k using Nat.strongRecOn with
 | ind k ih =>
  by_cases h : ∃ j, j < k ∧ p j
  ·obtain ⟨j, hj, hp⟩ := h
   exact ih j hj hp
  ·exact ⟨k, hk, fun j hj hp => h ⟨j, hj, hp⟩⟩
def vis (n : Nat) : Nat → List Nat → List (List Nat)
 | 0, x => [x]
 | d + 1, x => (List.range n).flatMap fun i => if i ∈ x then [] else vis n d (x ++ [i])
def visK (n d : Nat) (x : List Nat) (k : Nat) : List (List Nat) := (List.range k).flatMap fun i => if i ∈ x then [] else vis n d (x ++ [i])
theorem visK_succ (n d : Nat) (x : List Nat) (k : Nat) : visK n d x (k + 1) = visK n d x k ++ (if k ∈ x then [] else vis n d (x ++ [k])) := by
 unfold visK
 rw [List.range_succ, List.flatMap_append]
 simp
abbrev C3 := Nat → Nat → Nat → Int
def nxB (F : C3) (n : Nat) (B : C3) (l : List Nat) : C3 := if cmp3 (cubeL (imgF (zl l) F) n) (cubeL B n) < 0 then imgF (zl l) F else B
def bstB (F : C3) (n : Nat) (Ls : List (List Nat)) (B : C3) : C3 := Ls.foldl (nxB F n) B
def leastF (F : C3) (n : Nat) : C3 := bstB F n (vis n (n - 1) [0]) F
theorem ix_zl {x : List Nat} {i : Nat} : 0 ≤ ix (zl x) (i : Int) 0 ↔ i ∈ x := by
 have at_zl : ∀ j, (hj : j < x.length) → atI (zl x) j = ((x[j] : Nat) : Int) := fun j hj => by
  unfold atI
  rw [List.getD_eq_getElem?_getD, List.getElem?_map, List.getElem?_eq_getElem hj]; rfl
 constructor
 ·intro h
  refine Classical.byContradiction fun hn => ?_
  rw [ix_none 0 fun j hj e => ?_] at h
  ·omega
  ·rw [zl_len] at hj
   rw [at_zl j hj] at e
   exact hn (by rw [← Int.ofNat_inj.1 e]; exact List.getElem_mem hj)
 ·intro h
  obtain ⟨j, hj, e⟩ := List.mem_iff_getElem.1 h
  have hex : ∃ k, k < (zl x).length ∧ atI (zl x) k = (i : Int) := ⟨j, by rw [zl_len]; exact hj, by rw [at_zl j hj, e]⟩
  obtain ⟨k, ⟨hk, e1⟩, hmin⟩ := Nat.find_ex hex
  rw [ix_some 0 hk e1 fun j hj e2 => hmin j hj ⟨by omega, e2⟩]
  omega
theorem Frx.mono' {W W' : List Nat} {C C' : Nat → Nat → Prop} {ro ro' : Ro} {gn gn' : Nat → Nat} (h : Frx W C ro gn ro' gn') (hw : W.all (fun s => W'.contains s) = true) (hC : ∀ x y, C x y → C' x y) : Frx W' C' ro gn ro' gn' :=
 ⟨fun s hs => h.off s fun e => hs (List.contains_iff_mem.1 (List.all_eq_true.1 hw s e)), h.up, fun x y h1 h2 => h.kp x y h1 fun e => h2 (hC x y e)⟩
inductive RdC (ro : Ro) (gn : Nat → Nat) (F : C3) (n : Nat) : AV → Prop
 | imm (a : AV) : (∃ cs, a = .imm cs) → isLLL a (cubeL F n) → RdC ro gn F n a
 | ref (s g : Nat) : s ≠ 8192 ∧ s ≠ 8208 → g ≤ gn s → ro s g = some (cubeA F n) → RdC ro gn F n (.ref s g [] 0 n)
section
variable {W : List Nat} {C : Nat → Nat → Prop} {ro ro' : Ro} {gn gn' : Nat → Nat} {F B : C3} {n : Nat} {a : AV}
theorem RdC.l (h : RdC ro gn F n a) : ∀ s g p, lift s g p a = a := by
 cases h with
 | imm _ h1 _ => obtain ⟨cs, rfl⟩ := h1; intro s g p; rfl
 | ref => intro s g p; rfl
theorem RdC.o (h : RdC ro gn F n a) : cellOkB ro a = true := by
 cases h with
 | imm _ h1 _ => obtain ⟨cs, rfl⟩ := h1; rfl
 | ref s g h1 h2 h3 => show (ro.cells s g []).isSome = true; simp [Ro.cells, h3, blk]
def rdV (F : C3) (n : Nat) : AV → AV
 | .ref .. => immC F n
 | a => a
theorem RdC.xk (h : RdC ro gn F n a) (hk : ∀ x y, y ≤ gn x → x ≠ 8192 → x ≠ 8208 → ro' x y = ro x y) : exq 4 ro' a (rdV F n a) := by
 cases h with
 | imm _ h1 h2 => obtain ⟨cs, rfl⟩ := h1; exact exq_LLL h2 (by decide)
 | ref s g h1 h2 h3 => exact exq_cube ((hk s g h2 h1.1 h1.2).trans h3) (by decide)
theorem RdC.v (h : RdC ro gn F n a) : isLLL (rdV F n a) (cubeL F n) := by
 cases h with
 | imm _ h1 h2 => obtain ⟨cs, rfl⟩ := h1; exact h2
 | ref s g h1 h2 h3 => exact isLLL_immC F n
theorem RdC.keep (h : RdC ro gn F n a) (fr : Frx W C ro gn ro' gn') (hC : ∀ x y, C x y → x = 8192 ∨ x = 8208) : RdC ro' gn' F n a := by
 cases h with
 | imm _ h1 h2 => exact .imm _ h1 h2
 | ref s g h1 h2 h3 => exact .ref s g h1 (Nat.le_trans h2 (fr.up s)) ((fr.kp s g h2 fun hc => by rcases hC s g hc with e | e <;> omega).trans h3)
theorem RdC.keepB (h : RdC ro gn F n a) (fr : Frx W C ro gn ro' gn') (hC : ∀ x y, C x y → ∃ cs, ro x y = some (.bx cs)) : RdC ro' gn' F n a := by
 cases h with
 | imm _ h1 h2 => exact .imm _ h1 h2
 | ref s g h1 h2 h3 => exact .ref s g h1 (Nat.le_trans h2 (fr.up s)) ((fr.kp s g h2 fun hc => by obtain ⟨cs, e⟩ := hC s g hc; rw [h3] at e; cases e).trans h3)
theorem exq_mono {k m : Nat} {ro : Ro} {a a' : AV} (h : exq k ro a a') (hkm : k ≤ m) : exq m ro a a' := ⟨fun j hj => h.1 j (by omega), h.2⟩
def W42 : List Nat := [4128, 4144, 8208]
set_option maxHeartbeats 2000000 in
theorem sVis {gp gr gb : Nat} {rv bv : AV} {x : List Nat} (P : PrmI (zl x) n) (h0 : 0 < n) (hn : n ≤ maxN) (rp : ro 8192 gp = some (rowL (zl x))) (rr : ro 4096 gr = some (.bx [rv])) (hr : RdC ro gn F n rv) (rb : ro 8208 gb = some (.bx [bv])) (hb : RdC ro gn B n bv) :
  InS Tryz.prog 52 [.ref 8192 gp [] 0 n, .ptr 4096 gr [] 0, .ptr 8208 gb [] 0] ro gn (fun r ro' gn' => r = .tup [] ∧ Frx W42 (fun x y => x = 8208 ∧ y = gb) ro gn ro' gn' ∧ ∃ bv', ro' 8208 gb = some (.bx [bv']) ∧ RdC ro' gn' (nxB F n B x) n bv') := by
 have hl1 := hr.l
 have hl2 := hb.l
 have hpl : n = (zl x).length := P.l.symm
 by_cases hc : cmp3 (cubeL (imgF (zl x) F) n) (cubeL B n) < 0
 ·refine in_ofS (fn := Tryz.f52) (code := bodyOf Tryz.f52) Tryz.func52 rfl (by kernel_rfl) ?_
  intro sl hs
  have s0 : sl 0 = .ref 8192 gp [] 0 n := hs 0
  have s1 : sl 1 = .ptr 4096 gr [] 0 := hs 1
  have s2 : sl 2 = .ptr 8208 gb [] 0 := hs 2
  dsimp only [Tryz.f52, bodyOf, Option.getD]
  simp (disch := first | assumption | omega) only [go_sem, ↓reduceIte, Nat.reduceEqDiff, Nat.reduceAdd, Nat.reduceMul, Nat.reduceLeDiff, zc, s0, s1, s2, ti33, rr, hl1]
  refine CLL_q _ (cRenum hr.v (isL_imm (zl x)) P h0 hn) (.cons (exq_mono (exq_agg (.cons (hr.xk (by intro x y hy h1 h2; simp only [zdb]; repeat' (first | rfl | rw [if_neg (by rintro ⟨rfl, rfl⟩; omega)]))) .nil)) (by decide)) (.cons (exq_refL rp hpl (by decide)) .nil)) rfl rfl (noI_aggC _ _) ?_
  refine Ydx ?_
  refine CLL_q _ (cCmpC (F := imgF (zl x) F) (G := B) (isLLL_immC _ _) hb.v hn) (.cons (exq_agg (.cons (exq_cube Ur (by decide)) .nil)) (.cons (exq_mono (exq_agg (.cons (hb.xk (by intro x y hy h1 h2; simp only [zdb]; repeat' (first | rfl | rw [if_neg (by rintro ⟨rfl, rfl⟩; omega)]))) .nil)) (by decide)) .nil)) rfl rfl rfl ?_
  simp (disch := first | assumption | omega) only [go_sem, ↓reduceIte, Nat.reduceEqDiff, Nat.reduceAdd, Nat.reduceMul, Nat.reduceLeDiff, zc, s0, s1, s2, ti33, rb, eq_true hc]
  refine RETS_0 (.inl rfl) ⟨rfl, KFt, .ref 4128 (gn 4128 + 1) [] 0 n, Ur, ?_⟩
  unfold nxB
  rw [if_pos hc]
  exact .ref _ _ (by decide) Ur Ur
 ·refine in_ofS (fn := Tryz.f52) (code := bodyOf Tryz.f52) Tryz.func52 rfl (by kernel_rfl) ?_
  intro sl hs
  have s0 : sl 0 = .ref 8192 gp [] 0 n := hs 0
  have s1 : sl 1 = .ptr 4096 gr [] 0 := hs 1
  have s2 : sl 2 = .ptr 8208 gb [] 0 := hs 2
  dsimp only [Tryz.f52, bodyOf, Option.getD]
  simp (disch := first | assumption | omega) only [go_sem, ↓reduceIte, Nat.reduceEqDiff, Nat.reduceAdd, Nat.reduceMul, Nat.reduceLeDiff, zc, s0, s1, s2, ti33, rr, hl1]
  refine CLL_q _ (cRenum hr.v (isL_imm (zl x)) P h0 hn) (.cons (exq_mono (exq_agg (.cons (hr.xk (by intro x y hy h1 h2; simp only [zdb]; repeat' (first | rfl | rw [if_neg (by rintro ⟨rfl, rfl⟩; omega)]))) .nil)) (by decide)) (.cons (exq_refL rp hpl (by decide)) .nil)) rfl rfl (noI_aggC _ _) ?_
  refine Ydx ?_
  refine CLL_q _ (cCmpC (F := imgF (zl x) F) (G := B) (isLLL_immC _ _) hb.v hn) (.cons (exq_agg (.cons (exq_cube Ur (by decide)) .nil)) (.cons (exq_mono (exq_agg (.cons (hb.xk (by intro x y hy h1 h2; simp only [zdb]; repeat' (first | rfl | rw [if_neg (by rintro ⟨rfl, rfl⟩; omega)]))) .nil)) (by decide)) .nil)) rfl rfl rfl ?_
  simp (disch := first | assumption | omega) only [go_sem, ↓reduceIte, Nat.reduceEqDiff, Nat.reduceAdd, Nat.reduceMul, Nat.reduceLeDiff, zc, s0, s1, s2, ti33, rb, eq_false hc]
  refine RETS_0 (.inl rfl) ⟨rfl, KFt, bv, Ue rb, ?_⟩
  unfold nxB
  rw [if_neg hc]
  exact hb.keep (W := W42) (C := fun x y => x = 8208 ∧ y = gb) KFt (fun x y h => .inr h.1)
def W59 : List Nat := [4128, 4144, 8208, 8192, 28704]
structure EnvE (ro : Ro) (gn : Nat → Nat) (n gN gV gE gc gr gb : Nat) (rv : AV) : Prop where
 n : ro 4096 gN = some (.bx [i64 (n : Int)])
 v : ro 4112 gV = some (.bx [.fn 52 [.ptr 4096 gr [] 0, .ptr 8208 gb [] 0]])
 e : ro 12288 gE = some (.bx [.fn 85 [.ptr 8208 gc [] 0, .ptr 4096 gN [] 0, .ptr 4112 gV [] 0, .ptr 12288 gE [] 0]])
 r : ro 4096 gr = some (.bx [rv])
 nl : gN ≤ gn 4096
 vl : gV ≤ gn 4112
 el : gE ≤ gn 12288
 rl : gr ≤ gn 4096
 bl : gb ≤ gn 8208
 cl : gc ≤ gn 8208
 ne : gb ≠ gc
theorem EnvE.keep {n gN gV gE gc gr gb : Nat} {rv : AV} (h : EnvE ro gn n gN gV gE gc gr gb rv) (fr : Frx W C ro gn ro' gn') (hC : ∀ x y, C x y → x = 8192 ∨ x = 8208) : EnvE ro' gn' n gN gV gE gc gr gb rv := by
 have k : ∀ x y, y ≤ gn x → x ≠ 8192 → x ≠ 8208 → ro' x y = ro x y := fun x y h1 h2 h3 => fr.kp x y h1 fun hc => by rcases hC x y hc with e | e <;> omega
 exact ⟨(k _ _ h.nl (by decide) (by decide)).trans h.n, (k _ _ h.vl (by decide) (by decide)).trans h.v, (k _ _ h.el (by decide) (by decide)).trans h.e, (k _ _ h.rl (by decide) (by decide)).trans h.r,
  Nat.le_trans h.nl (fr.up _), Nat.le_trans h.vl (fr.up _), Nat.le_trans h.el (fr.up _), Nat.le_trans h.rl (fr.up _), Nat.le_trans h.bl (fr.up _), Nat.le_trans h.cl (fr.up _), h.ne⟩
abbrev CxE (gb gc gp x y : Nat) : Prop := (x = 8208 ∧ y = gb) ∨ (x = 8208 ∧ y = gc) ∨ (x = 8192 ∧ y = gp)
theorem CxE.s {gb gc gp : Nat} : ∀ x y, CxE gb gc gp x y → x = 8192 ∨ x = 8208 := by
 rintro x y (h | h | h)
 ·exact .inr h.1
 ·exact .inr h.1
 ·exact .inl h.1
def PsE (n k gb gc gp0 l0 : Nat) (B : C3) (x : List Nat) (ro' : Ro) (gn' : Nat → Nat) : Prop :=
 ∃ gp ys bv, ro' 8208 gc = some (.bx [.ref 8192 gp [] 0 k]) ∧ ro' 8192 gp = some (rowL (zl (x ++ ys))) ∧ (gp ≤ gn' 8192 ∧ (gp = gp0 ∨ l0 < gp)) ∧ ro' 8208 gb = some (.bx [bv]) ∧ RdC ro' gn' B n bv
def ExtS (F : C3) (n d : Nat) : Prop := ∀ (ro : Ro) (gn : Nat → Nat) (x : List Nat) (B : C3) (gN gV gE gc gr gb gp : Nat) (rv bv : AV), x.length + d = n → (∀ l, l ∈ vis n d x → PrmI (zl l) n) → EnvE ro gn n gN gV gE gc gr gb rv → RdC ro gn F n rv → RdC ro gn B n bv →
 ro 8208 gc = some (.bx [.ref 8192 gp [] 0 x.length]) → ro 8192 gp = some (rowL (zl x)) → gp ≤ gn 8192 → ro 8208 gb = some (.bx [bv]) →
 InS Tryz.prog 85 [.ptr 8208 gc [] 0, .ptr 4096 gN [] 0, .ptr 4112 gV [] 0, .ptr 12288 gE [] 0] ro gn (fun r ro' gn' => r = .tup [] ∧ Frx W59 (CxE gb gc gp) ro gn ro' gn' ∧ PsE n x.length gb gc gp (gn 8192) (bstB F n (vis n d x) B) x ro' gn')
set_option maxHeartbeats 2000000 in
theorem extBase (h0 : 0 < n) (hn : n ≤ maxN) : ExtS F n 0 := by
 intro ro gn x B gN gV gE gc gr gb gp rv bv hl hP hE hr hb rc rp pl rb
 have hl' : x.length = n := by omega
 have hll : (x.length : Int) = n := by omega
 have eN := hE.n
 have eV := hE.v
 have P := hP x (by simp [vis])
 have sv := sVis (gr := gr) (gb := gb) P h0 hn rp hE.r hr rb hb
 rw [hl'] at rc ⊢
 refine in_ofS (fn := Tryz.f85) (code := bodyOf Tryz.f85) Tryz.func85 rfl (by kernel_rfl) ?_
 intro sl hs
 have s0 : sl 0 = .ptr 8208 gc [] 0 := hs 0
 have s1 : sl 1 = .ptr 4096 gN [] 0 := hs 1
 have s2 : sl 2 = .ptr 4112 gV [] 0 := hs 2
 have s3 : sl 3 = .ptr 12288 gE [] 0 := hs 3
 dsimp only [Tryz.f85, bodyOf, Option.getD]
 simp (disch := first | assumption | omega) only [go_sem, ↓reduceIte, Nat.reduceEqDiff, Nat.reduceAdd, Nat.reduceMul, Nat.reduceLeDiff, zc, s0, s1, s2, s3, rc, eN, eV, rp, List.length_map, eq_true (rfl : (n : Int) = n)]
 refine CLL_inS rfl sv ?_
 rintro _ ro' gn' ⟨rfl, fr, bv', rb', hb'⟩
 simp (disch := first | assumption | omega) only [go_sem, ↓reduceIte, Nat.reduceEqDiff, Nat.reduceAdd, Nat.reduceMul, Nat.reduceLeDiff, zc, s0, s1, s2, s3]
 refine RETS_0 (.inr rfl) ⟨rfl, fr.mono' (by decide) (fun x y h => .inl h), gp, [], bv', ?_, ?_, ⟨Nat.le_trans pl (fr.up _), .inl rfl⟩, rb', ?_⟩
 ·exact (fr.kp 8208 gc hE.cl (fun h => hE.ne h.2.symm)).trans rc
 ·rw [List.append_nil]
  exact (fr.kp 8192 gp pl (fun h => by omega)).trans rp
 ·exact hb'
theorem zl_app (x : List Nat) (i : Nat) : ((zl x).map i64) ++ [i64 (i : Int)] = (zl (x ++ [i])).map i64 := by
 unfold zl
 rw [List.map_append, List.map_append]
 rfl
theorem bst_app (F : C3) (n : Nat) (A L : List (List Nat)) (B : C3) : bstB F n (A ++ L) B = bstB F n L (bstB F n A B) := List.foldl_append
set_option maxHeartbeats 8000000 in
theorem extStep (h0 : 0 < n) (hn : n ≤ maxN) {d : Nat} (ih : ExtS F n d) : ExtS F n (d + 1) := by
 intro ro0 gn0 x B gN gV gE gc gr gb gp rv bv hl hP hE0 hr0 hb rc rp pl rb
 have hll : ¬ (x.length : Int) = n := by omega
 have eN := hE0.n
 have eV := hE0.v
 have hn2 : n ≤ 4294967296 := hn
 have hlm : x.length + 1 ≤ 4294967296 := by omega
 have hvx : vis n (d + 1) x = visK n d x n := rfl
 rw [hvx] at hP ⊢
 refine in_ofS (fn := Tryz.f85) (code := bodyOf Tryz.f85) Tryz.func85 rfl (by kernel_rfl) ?_
 intro sl hs
 have s0 : sl 0 = .ptr 8208 gc [] 0 := hs 0
 have s1 : sl 1 = .ptr 4096 gN [] 0 := hs 1
 have s2 : sl 2 = .ptr 4112 gV [] 0 := hs 2
 have s3 : sl 3 = .ptr 12288 gE [] 0 := hs 3
 dsimp only [Tryz.f85, bodyOf, Option.getD]
 simp (disch := first | assumption | omega) only [go_sem, ↓reduceIte, Nat.reduceEqDiff, Nat.reduceAdd, Nat.reduceMul, Nat.reduceLeDiff, zc, s0, s1, s2, s3, rc, eN, eV, rp, List.length_map, eq_false hll]
 refine WK_for (fun i st => st.sl 0 = .ptr 8208 gc [] 0 ∧ st.sl 1 = .ptr 4096 gN [] 0 ∧ st.sl 2 = .ptr 4112 gV [] 0 ∧ st.sl 3 = .ptr 12288 gE [] 0 ∧ st.sl 12 = i64 (n : Int) ∧ st.sl 13 = i64 (i : Int) ∧ (Frx W59 (CxE gb gc gp) ro0 gn0 st.ro st.gn) ∧ (PsE n x.length gb gc gp (gn0 8192) (bstB F n (visK n d x i) B) x st.ro st.gn)) n ?_ ?_ ?_
 ·simp only [↓za, ↓reduceIte, Nat.reduceEqDiff, zb, reduceCtorEq, rws_zero, s0, s1, s2, s3]
  refine ⟨rfl, Frx.refl _ _ _ _, gp, [], bv, rc, by rw [List.append_nil]; exact rp, ⟨pl, .inl rfl⟩, rb, hb⟩
 ·rintro i sl ro gn hi ⟨s0, s1, s2, s3, s12, s13, fr, ps⟩
  dsimp only at s0 s1 s2 s3 s12 s13
  have hi' : (i : Int) < (n : Nat) := by omega
  dsimp only at fr ps
  obtain ⟨g1, ys, b1, pc, pr, ⟨pl1, pl3⟩, pb, hb1⟩ := ps
  have hE := hE0.keep fr CxE.s
  have hr := hr0.keep fr CxE.s
  have eE := hE.e
  have hz : (zl (x ++ ys)).length = x.length + ys.length := by rw [zl_len, List.length_append]
  have ht : (zl (x ++ ys)).take x.length = zl x := by rw [← List.map_take, List.take_left]
  have hxl : ((zl (x ++ ys)).map i64).take x.length = (zl x).map i64 := by rw [← List.map_take, ht]
  have hmx : (zl x).length ≤ maxN := by rw [zl_len]; unfold maxN; omega
  have cc := c97 (a := immL (zl x)) (n := (i : Int)) (isL_imm (zl x)) hmx
  rw [visK_succ]
  by_cases hi : i ∈ x
  ·rw [if_pos hi, List.append_nil]
   rw [decide_eq_true (ix_zl.2 hi)] at cc
   refine Yeb ?_
   refine CLL_q _ cc (.cons (exq_refT pr ht (by omega) (by decide)) (.cons (exq_sc _ _ _ (by decide)) .nil)) rfl rfl rfl ?_
   simp (disch := first | assumption | omega) only [go_sem, ↓reduceIte, Nat.reduceEqDiff, Nat.reduceAdd, Nat.reduceMul, Nat.reduceLeDiff, zc, s0, s1, s2, s3, s12, s13, hi', hi]
   exact ⟨i64c (by omega), fr, g1, ys, b1, pc, pr, ⟨pl1, pl3⟩, pb, hb1⟩
  ·rw [if_neg hi]
   rw [decide_eq_false (fun h => hi (ix_zl.1 h))] at cc
   have hPi : ∀ l, l ∈ vis n d (x ++ [i]) → PrmI (zl l) n := fun l hl => hP l (by
    unfold visK
    refine List.mem_flatMap.2 ⟨i, List.mem_range.2 (by assumption), ?_⟩
    rw [if_neg hi]; exact hl)
   refine Yeb ?_
   refine CLL_q _ cc (.cons (exq_refT pr ht (by omega) (by decide)) (.cons (exq_sc _ _ _ (by decide)) .nil)) rfl rfl rfl ?_
   simp (disch := first | assumption | omega) only [go_sem, ↓reduceIte, Nat.reduceEqDiff, Nat.reduceAdd, Nat.reduceMul, Nat.reduceLeDiff, zc, s0, s1, s2, s3, s12, s13, hi', hi, pc, pr, hxl, zl_app, List.length_map, zl_len, hlm, eE]
   refine CLL_inS rfl (ih _ _ (x ++ [i]) (bstB F n (visK n d x i) B) gN gV gE gc gr gb (gn 8192 + 1) rv b1 (by rw [List.length_append, List.length_singleton]; omega) hPi (hE.keep (W := W59) (C := CxE gb gc g1) KFt CxE.s) (hr.keep (W := W59) (C := CxE gb gc g1) KFt CxE.s) (hb1.keep (W := W59) (C := CxE gb gc g1) KFt CxE.s)
    (by simp only [↓za, ↓reduceIte, Nat.reduceEqDiff, zb, reduceCtorEq, List.length_append, List.length_singleton]) Ur Ur (by simp only [↓za, ↓reduceIte, Nat.reduceEqDiff, zb, reduceCtorEq, eq_false hE.ne]; exact pb)) ?_
   rintro _ ro' gn' ⟨rfl, fr', g2, ys2, b2, pc2, pr2, ⟨pl2, pl4⟩, pb2, hb2⟩
   have hl2 : (x ++ [i]).length = x.length + 1 := by rw [List.length_append, List.length_singleton]
   rw [hl2] at pc2
   have hh : (((x.length + 1 : Nat) : Int) - 1) = ((x.length : Nat) : Int) := by omega
   have hle : x.length ≤ x.length + 1 := by omega
   simp (disch := first | assumption | omega) only [go_sem, ↓reduceIte, Nat.reduceEqDiff, Nat.reduceAdd, Nat.reduceMul, Nat.reduceLeDiff, zc, s0, s1, s2, s3, s12, s13, hi', hi, pc2, pr2, hh, kSlice_hi, Option.map_none, Option.map_some, hle]
   have u8 := fr.up 8192
   simp only [↓za, ↓reduceIte, Nat.reduceEqDiff, zb, reduceCtorEq] at pl4
   have frA : Frx W59 (CxE gb gc gp) ro0 gn0 ro' gn' := (fr.trans (C' := CxE gb gc g1) (show Frx W59 (CxE gb gc g1) ro gn _ _ from KFt) (by
    rintro a b (⟨e1, e2⟩ | ⟨e1, e2⟩ | ⟨e1, e2⟩)
    ·exact .inr (.inl ⟨e1, e2⟩)
    ·exact .inr (.inr (.inl ⟨e1, e2⟩))
    ·subst e1 e2
     rcases pl3 with e | e
     ·exact .inr (.inr (.inr ⟨rfl, e⟩))
     ·exact .inl e)).trans fr' (by
    rintro a b (⟨e1, e2⟩ | ⟨e1, e2⟩ | ⟨e1, e2⟩)
    ·exact .inr (.inl ⟨e1, e2⟩)
    ·exact .inr (.inr (.inl ⟨e1, e2⟩))
    ·subst e1 e2
     exact .inl (by omega))
   refine ⟨i64c (by omega), KFt, g2, i :: ys2, b2, Ur, ?_, ⟨pl2, .inr (by omega)⟩, ?_, ?_⟩
   ·refine Ybk ?_
    rw [pr2, List.append_assoc]
    rfl
   ·simp only [↓za, ↓reduceIte, Nat.reduceEqDiff, zb, reduceCtorEq, eq_false hE.ne]
    exact pb2
   ·rw [bst_app]
    exact hb2.keep (W := W59) (C := CxE gb gc gp) KFt CxE.s
 ·rintro sl ro gn ⟨s0, s1, s2, s3, s12, s13, fr, ps⟩
  dsimp only at s0 s1 s2 s3 s12 s13
  have hi' : ¬ ((n : Nat) : Int) < (n : Nat) := by omega
  dsimp only at fr ps
  simp (disch := first | assumption | omega) only [go_sem, ↓reduceIte, Nat.reduceEqDiff, Nat.reduceAdd, Nat.reduceMul, Nat.reduceLeDiff, zc, s0, s1, s2, s3, s12, s13, hi']
  exact RETS_0 (.inl rfl) ⟨rfl, fr, ps⟩
theorem extA (h0 : 0 < n) (hn : n ≤ maxN) : ∀ d, ExtS F n d
 | 0 => extBase h0 hn
 | d + 1 => extStep h0 hn (extA h0 hn d)
def W41 : List Nat := [4096, 4112, 12288, 4128, 4144, 8208, 8192, 28704]
set_option maxHeartbeats 4000000 in
theorem sEach (h1 : 1 ≤ n) (hn : n ≤ maxN) (hP : ∀ l, l ∈ vis n (n - 1) [0] → PrmI (zl l) n) {gr gb : Nat} {rv bv : AV} (er : ro 4096 gr = some (.bx [rv])) (hr : RdC ro gn F n rv) (rb : ro 8208 gb = some (.bx [bv])) (hb : RdC ro gn B n bv) (lr : gr ≤ gn 4096) (lb : gb ≤ gn 8208) :
  InS Tryz.prog 51 [i64 (n : Int), .fn 52 [.ptr 4096 gr [] 0, .ptr 8208 gb [] 0]] ro gn (fun r ro' gn' => r = .tup [] ∧ Frx W41 (fun x y => x = 8208 ∧ y = gb) ro gn ro' gn' ∧ ∃ bv', ro' 8208 gb = some (.bx [bv']) ∧ RdC ro' gn' (bstB F n (vis n (n - 1) [0]) B) n bv') := by
 have q1 : ¬ gb = gn 8208 + 1 := by omega
 have q2 : ¬ gr = gn 4096 + 1 := by omega
 refine in_ofS (fn := Tryz.f51) (code := bodyOf Tryz.f51) Tryz.func51 rfl (by kernel_rfl) ?_
 intro sl hs
 have s0 : sl 0 = i64 (n : Int) := hs 0
 have s1 : sl 1 = .fn 52 [.ptr 4096 gr [] 0, .ptr 8208 gb [] 0] := hs 1
 dsimp only [Tryz.f51, bodyOf, Option.getD]
 simp (disch := first | assumption | omega) only [go_sem, ↓reduceIte, Nat.reduceEqDiff, Nat.reduceAdd, Nat.reduceMul, Nat.reduceLeDiff, zc, s0, s1, ti3]
 refine CLL_inS rfl (extA (F := F) (by omega) hn (n - 1) _ _ [0] B (gn 4096 + 1) (gn 4112 + 1) (gn 12288 + 1) (gn 8208 + 1) gr gb (gn 8192 + 1) rv bv (by simp only [List.length_singleton]; omega) hP ⟨?_, ?_, ?_, ?_, ?_, ?_, ?_, ?_, ?_, ?_, ?_⟩ ?_ ?_ ?_ ?_ ?_ ?_) ?_
 ·exact Ycb
 ·exact Ycb
 ·exact Ycb
 ·simp only [↓za, ↓reduceIte, Nat.reduceEqDiff, zb, reduceCtorEq, eq_false q2]; exact er
 ·exact Ur
 ·exact Ur
 ·exact Ur
 ·simp only [↓za, ↓reduceIte, Nat.reduceEqDiff, zb, reduceCtorEq]; omega
 ·simp only [↓za, ↓reduceIte, Nat.reduceEqDiff, zb, reduceCtorEq]; omega
 ·exact Ur
 ·exact q1
 ·exact hr.keep (W := W41) (C := fun x y => x = 8208 ∧ y = gb) KFt (fun x y h => .inr h.1)
 ·exact hb.keep (W := W41) (C := fun x y => x = 8208 ∧ y = gb) KFt (fun x y h => .inr h.1)
 ·first | (simp only [↓za, ↓reduceIte, Nat.reduceEqDiff, zb, reduceCtorEq]; done) | (simp only [↓za, ↓reduceIte, Nat.reduceEqDiff, zb, reduceCtorEq]; rfl)
 ·first | (simp only [↓za, ↓reduceIte, Nat.reduceEqDiff, zb, reduceCtorEq]; done) | (simp only [↓za, ↓reduceIte, Nat.reduceEqDiff, zb, reduceCtorEq]; rfl)
 ·exact Ur
 ·simp only [↓za, ↓reduceIte, Nat.reduceEqDiff, zb, reduceCtorEq, eq_false q1]; exact rb
 rintro _ ro' gn' ⟨rfl, fr', g2, ys2, b2, pc2, pr2, pl2, pb2, hb2⟩
 simp (disch := first | assumption | omega) only [go_sem, ↓reduceIte, Nat.reduceEqDiff, Nat.reduceAdd, Nat.reduceMul, Nat.reduceLeDiff, zc, s0, s1]
 refine RETS_0 (.inl rfl) ⟨rfl, ?_, b2, pb2, hb2⟩
 exact (show Frx W41 (fun x y => x = 8208 ∧ y = gb) ro gn _ _ from KFt).trans (fr'.monoB (by decide)) (by
  rintro a b (⟨e1, e2⟩ | ⟨e1, e2⟩ | ⟨e1, e2⟩)
  ·exact .inr ⟨e1, e2⟩
  ·subst e1 e2; exact .inl (by omega)
  ·subst e1 e2; exact .inl (by omega))
def W24 : List Nat := W41
theorem RETS_cR {k : Nat} {Po : AV → Ro → (Nat → Nat) → Prop} {sl : Nat → AV} {ro : Ro} {gn : Nat → Nat} {s g : Nat} {v : AV} (h1 : sl k = .ptr s g [] 0) (h2 : ro s g = some (.bx [v])) (hl : lift s g [0] v = v) (hp : Po (.agg [v]) ro gn) : RETS ti0 [.cell k 32] Po .ret ⟨sl, ro, gn⟩ := by
 refine ⟨.inr rfl, [.agg [v]], ?_, hp⟩
 simp only [resL, opC, St.ev, h1, ti33, Ro.cells, h2, blk, List.length_singleton, List.drop_zero, List.take_succ_cons, List.take_zero, zfi, List.nil_append, hl]
 simp
set_option maxHeartbeats 4000000 in
theorem sLeast (h1 : 1 ≤ n) (hn : n ≤ maxN) (hP : ∀ l, l ∈ vis n (n - 1) [0] → PrmI (zl l) n) {rv : AV} (hr : RdC ro gn F n rv) :
  InS Tryz.prog 29 [.agg [rv]] ro gn (fun r ro' gn' => Frx W24 (fun _ _ => False) ro gn ro' gn' ∧ ∃ bv, r = .agg [bv] ∧ RdC ro' gn' (leastF F n) n bv) := by
 have hl1 := hr.l
 have hob : ∀ (ro' : Ro), (∀ x y, y ≤ gn x → x ≠ 8192 → x ≠ 8208 → ro' x y = ro x y) → cellOkB ro' rv = true := by
  intro ro' hk
  cases hr with
  | imm _ h2 h3 => obtain ⟨cs, rfl⟩ := h2; rfl
  | ref s g h2 h3 h4 => have := (hk s g h3 h2.1 h2.2).trans h4; show (ro'.cells s g []).isSome = true; simp [Ro.cells, this, blk]
 have hlen : ∀ (ro' : Ro), (∀ x y, y ≤ gn x → x ≠ 8192 → x ≠ 8208 → ro' x y = ro x y) → kLen1 (ti0 30) ro' rv = some ⟨i64 (n : Int), none, [], []⟩ := by
  intro ro' hk
  cases hr with
  | imm _ h2 h3 => obtain ⟨cs, rfl⟩ := h2; have := isLLL_len (ro := ro') h3 (a1 := 1) (a2 := false) (a3 := [Value.slice none 0 0]) (e := 59) (a5 := []) (a6 := none) (a7 := false) (a8 := false) (a9 := none) (a10 := none); rw [lenC] at this; rw [ti31]; exact this
  | ref s g h2 h3 h4 => rw [ti31]; have := (hk s g h3 h2.1 h2.2).trans h4; simp [kLen1, Ro.cells, this, blk]
 refine in_ofS (fn := Tryz.f29) (code := bodyOf Tryz.f29) Tryz.func29 rfl (by kernel_rfl) ?_
 intro sl hs
 have s0 : sl 0 = .agg [rv] := hs 0
 have ho := hob ro (fun _ _ _ _ _ => rfl)
 rw [ti31] at hlen
 dsimp only [Tryz.f29, bodyOf, Option.getD]
 simp (disch := first | assumption | omega) only [go_sem, ↓reduceIte, Nat.reduceEqDiff, Nat.reduceAdd, Nat.reduceMul, Nat.reduceLeDiff, zc, s0, ti33, hl1, ho]
 rw [if_pos (hob _ ?_)]
 rotate_left
 ·(intro x y hy h1 h2; simp only [zdb]; repeat' (first | rfl | rw [if_neg (by rintro ⟨rfl, rfl⟩; omega)]))
 simp (disch := first | assumption | omega) only [go_sem, ↓reduceIte, Nat.reduceEqDiff, Nat.reduceAdd, Nat.reduceMul, Nat.reduceLeDiff, zc, s0, ti33, hl1, ti31]
 rw [hlen _ ?_]
 rotate_left
 ·(intro x y hy h1 h2; simp only [zdb]; repeat' (first | rfl | rw [if_neg (by rintro ⟨rfl, rfl⟩; omega)]))
 simp (disch := first | assumption | omega) only [go_sem, ↓reduceIte, Nat.reduceEqDiff, Nat.reduceAdd, Nat.reduceMul, Nat.reduceLeDiff, zc, s0, ti33]
 refine CLL_inS rfl (sEach (F := F) (B := F) h1 hn hP (gr := gn 4096 + 1) (gb := gn 8208 + 1) (rv := rv) (bv := rv) ?_ ?_ ?_ ?_ ?_ ?_) ?_
 ·exact Ycb
 ·exact hr.keep (W := W24) (C := fun _ _ => False) KFt (fun x y h => h.elim)
 ·exact Ycb
 ·exact hr.keep (W := W24) (C := fun _ _ => False) KFt (fun x y h => h.elim)
 ·exact Ur
 ·exact Ur
 rintro _ ro' gn' ⟨rfl, fr', bv, rb', hb'⟩
 have hl3 := hb'.l
 have ho3 := hb'.o
 have rA : ro' 4112 (gn 4112 + 1) = some (.bx [nilA]) := (fr'.kp 4112 (gn 4112 + 1) Ur (by omega)).trans Ur
 have frA : Frx W24 (fun _ _ => False) ro gn ro' gn' := (show Frx W24 (fun _ _ => False) ro gn _ _ from KFt).trans fr' (by
  rintro a b ⟨e1, e2⟩
  subst e1 e2
  exact .inl (by omega))
 simp (disch := first | assumption | omega) only [go_sem, ↓reduceIte, Nat.reduceEqDiff, Nat.reduceAdd, Nat.reduceMul, Nat.reduceLeDiff, zc, s0, ti33, rb', hl3, ho3, rA]
 refine RETS_cR (s := 4112) (g := gn 4112 + 1) Ur Ur (hl3 _ _ _) ⟨KFt, bv, rfl, ?_⟩
 exact hb'.keepB (W := W24) (C := fun x y => x = 4112 ∧ y = gn 4112 + 1) KFt (by
  rintro x y ⟨e1, e2⟩
  subst e1 e2
  exact ⟨_, rA⟩)
end
theorem in_ofW {f : Nat} {fn : Func} {code : Code} {args : List AV} {ro : Ro} {gn : Nat → Nat} {Po : AV → Ro → (Nat → Nat) → Prop} (hf : Tryz.prog.funcs[f]? = some fn) (hb : fn.body = some code)
  (hok : (!(fn.name == "runtime.NumGoroutine") && dstOK fn.ntmps code && decide (args.length ≤ fn.ntmps)) = true)
  (h : ∀ sl : Nat → AV, (∀ k, sl k = args.getD k (.sc undef)) → codeW XX.cfg code (RETS ti0 fn.results.toList Po) ⟨sl, ro, gn⟩) : InS Tryz.prog f args ro gn Po := by
 simp only [Bool.and_eq_true, Bool.not_eq_true', decide_eq_true_eq] at hok
 obtain ⟨⟨h1, h2⟩, h3⟩ := hok
 exact in_soundS (C := XX.cfg) (tiG_ok _) (cfgOf_inl _ _) mixed0 hf hb h1 h2 h3 (h _ fun _ => rfl)
theorem wk_okK {X : WX} {c : Code} {Q : Exit → St → Prop} {st : St} (h : WK X c [] Q st) : codeW X.cfg c Q st := wk_ok c h
def listA (n : Nat) (Ls : List C3) : AV := .row (Ls.map fun F => cubeA F n)
def lstB (F : C3) (n : Nat) : Bool := decide (cmp3 (cubeL (leastF F n) n) (cubeL F n) = 0)
def W22 : List Nat := [4096, 4112, 12288, 4128, 4144, 8208, 8192, 28704, 12320, 12336]
abbrev CxR (gc gL gr x y : Nat) : Prop := (x = 8208 ∧ y = gc) ∨ (x = 8192 ∧ y = gL) ∨ (x = 12320 ∧ y = gr)
section
variable {ro : Ro} {gn : Nat → Nat} {F : C3} {n gc gL gr : Nat} {Ls : List C3}
set_option maxHeartbeats 4000000 in
theorem sVisR (h1 : 1 ≤ n) (hn : n ≤ maxN) (hP : ∀ l, l ∈ vis n (n - 1) [0] → PrmI (zl l) n) (rr : ro 12320 gr = some (cubeA F n)) (lr : gr ≤ gn 12320) (rc : ro 8208 gc = some (.bx [.ref 8192 gL [] 0 Ls.length])) (lc : gc ≤ gn 8208) (rL : ro 8192 gL = some (listA n Ls)) (lL : gL ≤ gn 8192) (hLs : Ls.length < maxN) :
  InS Tryz.prog 44 [.agg [.ref 12320 gr [] 0 n], .ptr 8208 gc [] 0] ro gn (fun r ro' gn' => r = .tup [] ∧ Frx W22 (CxR gc gL gr) ro gn ro' gn' ∧ ∃ gL', ro' 8208 gc = some (.bx [.ref 8192 gL' [] 0 (if lstB F n then Ls ++ [F] else Ls).length]) ∧ ro' 8192 gL' = some (listA n (if lstB F n then Ls ++ [F] else Ls)) ∧ (gL' = gL ∨ gn 8192 < gL') ∧ gL' ≤ gn' 8192) := by
 have hRd : RdC ro gn F n (.ref 12320 gr [] 0 n) := .ref _ _ (by decide) lr rr
 refine in_ofW (fn := Tryz.f44) (code := bodyOf Tryz.f44) Tryz.func44 rfl (by kernel_rfl) ?_
 intro sl hs
 have s0 : sl 0 = .agg [.ref 12320 gr [] 0 n] := hs 0
 have s1 : sl 1 = .ptr 8208 gc [] 0 := hs 1
 dsimp only [Tryz.f44, bodyOf, Option.getD]
 have hl1 : ∀ s g p, lift s g p (.ref 12320 gr [] 0 n) = .ref 12320 gr [] 0 n := fun _ _ _ => rfl
 have ho1 := hRd.o
 have hd : List.length [AV.ref 12320 gr [] 0 n] = 1 := rfl
 refine codeW_sq (P := fun st => st.sl 1 = .ptr 8208 gc [] 0 ∧ st.sl 2 = .ptr 4096 (gn 4096 + 1) [] 0 ∧ st.ro 4096 (gn 4096 + 1) = some (.bx [.ref 12320 gr [] 0 n]) ∧ gn 4096 + 1 ≤ st.gn 4096 ∧ Frx W22 (fun _ _ => False) ro gn st.ro st.gn) ?_ ?_
 ·simp (disch := first | assumption | omega) only [go_sem, ↓reduceIte, Nat.reduceEqDiff, Nat.reduceAdd, Nat.reduceMul, zc, ti33, s0, s1, ho1]
  refine ⟨Nat.le_refl _, KFt⟩
 rintro ⟨sl, ro1, gn1⟩ ⟨s1, s2, r4, l4, fr⟩
 dsimp only at s1 s2 r4 l4 fr
 let A : St → Prop := fun st => st.sl 1 = .ptr 8208 gc [] 0 ∧ st.sl 2 = .ptr 4096 (gn 4096 + 1) [] 0 ∧ st.ro 4096 (gn 4096 + 1) = some (.bx [.ref 12320 gr [] 0 n]) ∧ gn 4096 + 1 ≤ st.gn 4096 ∧ Frx W22 (fun _ _ => False) ro gn st.ro st.gn
 let B : St → Prop := fun st => ∃ bv, st.sl 4 = .agg [bv] ∧ RdC st.ro st.gn (leastF F n) n bv
 let R3 : St → Prop := fun st => st.sl 3 = .agg [.ref 12320 gr [] 0 n]
 let R5 : St → Prop := fun st => st.sl 5 = .agg [.ref 12320 gr [] 0 n]
 refine codeW_sqO (tiG_ok _) mixed0 (P := fun st => A st ∧ st.sl 7 = bo (lstB F n)) ?_ ?_
 ·rintro ⟨sl, ro1, gn1⟩ ⟨⟨s1, s2, r4, l4, fr⟩, s7⟩
  dsimp only at s1 s2 r4 l4 fr s7
  refine wk_okK ?_
  have hk := fr.kp
  have c1 : ro1 8208 gc = some (.bx [.ref 8192 gL [] 0 Ls.length]) := (hk _ _ lc (fun h => h)).trans rc
  have c2 : ro1 8192 gL = some (listA n Ls) := (hk _ _ lL (fun h => h)).trans rL
  have c3 : ro1 12320 gr = some (cubeA F n) := (hk _ _ lr (fun h => h)).trans rr
  have u1 := fr.up 8208
  have u2 := fr.up 8192
  have u3 := fr.up 12320
  cases hb : lstB F n
  ·rw [hb] at s7
   simp (disch := first | assumption | omega) only [go_sem, ↓reduceIte, Nat.reduceEqDiff, Nat.reduceAdd, Nat.reduceMul, zc, ti33, s1, s2, s7]
   refine RETS_0 (.inl rfl) ⟨rfl, ?_, gL, ?_, c2, .inl rfl, by omega⟩
   ·exact fr.mono' (by decide) (fun x y h => h.elim)
   ·exact c1
  ·rw [hb] at s7
   simp (disch := first | assumption | omega) only [go_sem, ↓reduceIte, Nat.reduceEqDiff, Nat.reduceAdd, Nat.reduceMul, zc, ti33, s1, s2, s7, r4, c1, c2, c3, listA, List.length_map]
   rw [if_pos (by unfold maxN at hLs; omega)]
   simp (disch := first | assumption | omega) only [go_sem, ↓reduceIte, Nat.reduceEqDiff, Nat.reduceAdd, Nat.reduceMul, zc, ti33, s1, s2, s7, r4, c1, c2, c3]
   have fr2 : Frx W22 (CxR gc gL gr) ro gn ro1 gn1 := fr.mono' (by decide) (fun x y h => h.elim)
   refine RETS_0 (.inl rfl) ⟨rfl, ?_, gn1 8192 + 1, ?_, ?_, .inr (by omega), ?_⟩
   ·(repeat' first | assumption | exact Frx.refl _ _ _ _ | refine Frx.al ?_ _ _ _ (by decide) rfl | refine Frx.wr ?_ _ _ _ (by decide) (by first | (left; omega) | (right; exact ⟨rfl, rfl⟩) | (right; exact .inl ⟨rfl, rfl⟩) | (right; exact .inr ⟨rfl, rfl⟩) | (right; exact .inr (.inl ⟨rfl, rfl⟩)) | (right; exact .inr (.inr ⟨rfl, rfl⟩))))
   ·exact Yei
   ·refine Yeg ?_
    rw [List.take_of_length_le (by rw [List.length_map]; exact Nat.le_refl _)]
   ·refine Ybk ?_
    exact Nat.le_refl _
 intro ops hops
 have cls : ∀ {sl sl' : Nat → AV} {ro1 : Ro} {gn1 : Nat → Nat}, A ⟨sl, ro1, gn1⟩ → sl' 1 = sl 1 → sl' 2 = sl 2 → A ⟨sl', ro1, gn1⟩ := fun h e1 e2 => ⟨e1.trans h.1, e2.trans h.2.1, h.2.2⟩
 have p012 : ∀ st, A st ∧ B st ∧ R5 st → woT XX 1 ops 2 #[true, true, true, false, false] (fun st => A st ∧ st.sl 7 = bo (lstB F n)) st := by
  subst hops
  rintro ⟨sl, ro1, gn1⟩ ⟨⟨s1, s2, r4, l4, fr⟩, ⟨bv, s4, hbv⟩, s5⟩
  dsimp only [R5] at s1 s2 r4 l4 fr s4 hbv s5
  have hr1 := hRd.keep fr (fun _ _ h => h.elim)
  refine woT_1 (i := 3) (P := fun st => A st ∧ st.sl 6 = i64 (cmp3 (cubeL (leastF F n) n) (cubeL F n))) (by kernel_rfl) rfl ?_ ?_
  ·simp (disch := first | assumption | omega) only [go_sem, ↓reduceIte, Nat.reduceEqDiff, Nat.reduceAdd, Nat.reduceMul, zc, ti33, s1, s2, s4, s5]
   refine CLL_q _ (cCmpC (F := leastF F n) (G := F) hbv.v hr1.v hn) (.cons (exq_mono (exq_agg (.cons (hbv.xk (by intro x y hy h1 h2; simp only [zdb]; repeat' (first | rfl | rw [if_neg (by rintro ⟨rfl, rfl⟩; omega)]))) .nil)) (by decide)) (.cons (exq_mono (exq_agg (.cons (hr1.xk (by intro x y hy h1 h2; simp only [zdb]; repeat' (first | rfl | rw [if_neg (by rintro ⟨rfl, rfl⟩; omega)]))) .nil)) (by decide)) .nil)) rfl rfl rfl ?_
   simp (disch := first | assumption | omega) only [go_sem, ↓reduceIte, Nat.reduceEqDiff, Nat.reduceAdd, Nat.reduceMul, zc, ti33, s1, s2, s4, s5]
   exact ⟨s1, s2, r4, l4, fr⟩
  rintro ⟨sl, ro1, gn1⟩ ⟨⟨s1, s2, r4, l4, fr⟩, s6⟩
  dsimp only at s1 s2 r4 l4 fr s6
  refine woT_1 (i := 4) (P := fun st => A st ∧ st.sl 7 = bo (lstB F n)) (by kernel_rfl) rfl ?_ ?_
  ·simp (disch := first | assumption | omega) only [go_sem, ↓reduceIte, Nat.reduceEqDiff, Nat.reduceAdd, Nat.reduceMul, zc, ti33, s1, s2, s6]
   exact ⟨⟨s1, s2, r4, l4, fr⟩, rfl⟩
  exact fun st h => ⟨by kernel_rfl, h⟩
 have p1 : ∀ o, ops.toList[1]? = some o → ∀ st, A st ∧ R3 st → WO XX 1 ops [o] 1 [] (fun _ st' => (A st' ∧ B st') ∧ st'.sl 5 = st.sl 5) st := by
  subst hops
  rintro o ho ⟨sl, ro1, gn1⟩ ⟨⟨s1, s2, r4, l4, fr⟩, s3⟩
  cases ho
  dsimp only [R3] at s1 s2 r4 l4 fr s3
  have hr1 := hRd.keep fr (fun _ _ h => h.elim)
  simp (disch := first | assumption | omega) only [go_sem, ↓reduceIte, Nat.reduceEqDiff, Nat.reduceAdd, Nat.reduceMul, zc, ti33, s1, s2, s3]
  refine CLL_inS rfl (sLeast h1 hn hP hr1) ?_
  rintro _ ro' gn' ⟨fr', bv, rfl, hb'⟩
  simp (disch := first | assumption | omega) only [go_sem, ↓reduceIte, Nat.reduceEqDiff, Nat.reduceAdd, Nat.reduceMul, zc, ti33, s1, s2, s3]
  have u := fr'.up 4096
  refine ⟨⟨s1, s2, ?_, Nat.le_trans l4 u, fr.trans (fr'.mono' (by decide) (fun x y h => h)) (fun x y h => h.elim)⟩, bv, rfl, hb'⟩
  exact (fr'.kp _ _ l4 (fun h => h)).trans r4
 have p02 : ∀ st, A st ∧ R3 st ∧ R5 st → woT XX 1 ops 3 #[true, false, true, false, false] (fun st => A st ∧ st.sl 7 = bo (lstB F n)) st := by
  intro st h
  refine woT_1 (i := 1) (by rw [hops]; kernel_rfl) (by rw [hops]; rfl) (p1 _ (by rw [hops]; rfl) st ⟨h.1, h.2.1⟩) ?_
  rintro st' ⟨⟨hA, hB⟩, h5⟩
  exact p012 st' ⟨hA, hB, h5.trans h.2.2⟩
 have p0 : ∀ o, ops.toList[0]? = some o → ∀ st, A st → WO XX 1 ops [o] 0 [] (fun _ st' => (A st' ∧ R3 st') ∧ st'.sl 5 = st.sl 5) st := by
  subst hops
  rintro o ho ⟨sl, ro1, gn1⟩ ⟨s1, s2, r4, l4, fr⟩
  cases ho
  dsimp only at s1 s2 r4 l4 fr
  simp (disch := first | assumption | omega) only [go_sem, ↓reduceIte, Nat.reduceEqDiff, Nat.reduceAdd, Nat.reduceMul, zc, ti33, s1, s2, r4]
  exact ⟨⟨s1, s2, r4, l4, fr⟩, rfl⟩
 have p2 : ∀ o, ops.toList[2]? = some o → ∀ st, A st → WO XX 1 ops [o] 2 [] (fun _ st' => A st' ∧ R5 st' ∧ st'.sl 3 = st.sl 3 ∧ st'.sl 4 = st.sl 4 ∧ st'.ro = st.ro ∧ st'.gn = st.gn) st := by
  subst hops
  rintro o ho ⟨sl, ro1, gn1⟩ ⟨s1, s2, r4, l4, fr⟩
  cases ho
  dsimp only at s1 s2 r4 l4 fr
  simp (disch := first | assumption | omega) only [go_sem, ↓reduceIte, Nat.reduceEqDiff, Nat.reduceAdd, Nat.reduceMul, zc, ti33, s1, s2, r4]
  exact ⟨⟨s1, s2, r4, l4, fr⟩, rfl⟩
 have hsz : ops.size = 5 := by rw [hops]; rfl
 rw [hsz]
 refine woT_2 (i := 0) (i' := 2) (by rw [hops]; kernel_rfl) (by rw [hops]; rfl) (by rw [hops]; rfl) (p0 _ (by rw [hops]; rfl) ⟨sl, ro1, gn1⟩ ⟨s1, s2, r4, l4, fr⟩) ?_ (p2 _ (by rw [hops]; rfl) ⟨sl, ro1, gn1⟩ ⟨s1, s2, r4, l4, fr⟩) ?_
 ·rintro st ⟨⟨hA, h3⟩, -⟩
  refine woT_2 (i := 1) (i' := 2) (by rw [hops]; kernel_rfl) (by rw [hops]; rfl) (by rw [hops]; rfl) (p1 _ (by rw [hops]; rfl) st ⟨hA, h3⟩) ?_ (p2 _ (by rw [hops]; rfl) st hA) ?_
  ·rintro st' ⟨⟨hA', bv, s4, hB'⟩, -⟩
   refine woT_1 (i := 2) (by rw [hops]; kernel_rfl) (by rw [hops]; rfl) (p2 _ (by rw [hops]; rfl) st' hA') ?_
   rintro st'' ⟨hA'', h5, e3, e4, e5, e6⟩
   exact p012 st'' ⟨hA'', ⟨bv, e4.trans s4, by rw [e5, e6]; exact hB'⟩, h5⟩
  ·rintro st' ⟨hA', h5, e3, -⟩
   exact p02 st' ⟨hA', e3.trans h3, h5⟩
 ·rintro st ⟨hA, h5, -⟩
  refine woT_1 (i := 0) (by rw [hops]; kernel_rfl) (by rw [hops]; rfl) (p0 _ (by rw [hops]; rfl) st hA) ?_
  rintro st' ⟨⟨hA', h3⟩, e5⟩
  exact p02 st' ⟨hA', h3, e5.trans h5⟩
end
end Go.Proofs.YtilfkbgdpmimlaaGreat
