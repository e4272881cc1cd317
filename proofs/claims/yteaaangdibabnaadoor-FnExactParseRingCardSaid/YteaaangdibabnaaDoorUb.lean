/- Texts joined: U1 U5 U6 U7 U8. -/
import Derived.Shelf.Strconv.Itoa4
import Derived.Lib.SplitLaws
import Derived.Lib.ParseIntBCases
import Derived.Shelf.Strings.Split
import Derived.Shelf.Strconv.ParseIntPublic10
import Derived.BigCall
import Derived.Test.YteaaangdibabnaaDoorMi
set_option linter.all false
/- Texts: what the library's contract says of FormatInt at this program; strings in the machine; decimal numerals. -/
namespace Go.Proofs.YteaaangdibabnaaDoor
open Go.RowKit
set_option maxRecDepth 1000000
def laysFmt_ren : Go.Shelf.Ren := ⟨fun | 173 => 53 | 246 => 71 | 283 => 80 | 284 => 81 | 285 => 82 | 286 => 83 | 129 => 86 | 317 => 85 | 318 => 87 | 319 => 88 | 320 => 89 | 337 => 90 | 338 => 91 | n => n, fun | 2 => 2 | 3 => 3 | 9 => 9 | 4 => 4 | 171 => 104 | 0 => 0 | 53 => 83 | 37 => 98 | 5 => 5 | 173 => 107 | 212 => 114 | 51 => 94 | 20 => 20 | 213 => 115 | 46 => 81 | 232 => 119 | 233 => 120 | n => n, fun | 17 => 5 | 18 => 6 | 19 => 7 | n => n⟩
theorem laysFmt : LaysM.n173 Tryd.prog laysFmt_ren where
 mixed := by kernel_rfl
 f129 := Tryd.func86.trans (congrArg some (by kernel_rfl))
 f173 := Tryd.func53.trans (congrArg some (by kernel_rfl))
 f246 := Tryd.func71.trans (congrArg some (by kernel_rfl))
 f283 := Tryd.func80.trans (congrArg some (by kernel_rfl))
 f284 := Tryd.func81.trans (congrArg some (by kernel_rfl))
 f285 := Tryd.func82.trans (congrArg some (by kernel_rfl))
 f286 := Tryd.func83.trans (congrArg some (by kernel_rfl))
 f317 := Tryd.func85.trans (congrArg some (by kernel_rfl))
 f318 := Tryd.func87.trans (congrArg some (by kernel_rfl))
 f319 := Tryd.func88.trans (congrArg some (by kernel_rfl))
 f320 := Tryd.func89.trans (congrArg some (by kernel_rfl))
 f337 := Tryd.func90.trans (congrArg some (by kernel_rfl))
 f338 := Tryd.func91.trans (congrArg some (by kernel_rfl))
 t0 := Tryd.underlying0
 a0 := Tryd.isAgg0
 z0 := Tryd.sizeOf0
 v0 := Tryd.zeroValue0
 t2 := Tryd.underlying2
 a2 := Tryd.isAgg2
 z2 := Tryd.sizeOf2
 v2 := Tryd.zeroValue2
 t3 := Tryd.underlying3
 a3 := Tryd.isAgg3
 z3 := Tryd.sizeOf3
 v3 := Tryd.zeroValue3
 t4 := Tryd.underlying4
 a4 := Tryd.isAgg4
 z4 := Tryd.sizeOf4
 v4 := Tryd.zeroValue4
 t5 := Tryd.underlying5
 a5 := Tryd.isAgg5
 z5 := Tryd.sizeOf5
 v5 := Tryd.zeroValue5
 t9 := Tryd.underlying9
 a9 := Tryd.isAgg9
 z9 := Tryd.sizeOf9
 v9 := Tryd.zeroValue9
 t20 := Tryd.underlying20
 a20 := Tryd.isAgg20
 z20 := Tryd.sizeOf20
 v20 := Tryd.zeroValue20
 t37 := Tryd.underlying98
 a37 := Tryd.isAgg98
 z37 := Tryd.sizeOf98
 v37 := Tryd.zeroValue98
 t46 := Tryd.underlying81
 a46 := Tryd.isAgg81
 z46 := Tryd.sizeOf81
 v46 := Tryd.zeroValue81
 t51 := Tryd.underlying94
 a51 := Tryd.isAgg94
 z51 := Tryd.sizeOf94
 v51 := Tryd.zeroValue94
 t53 := Tryd.underlying83
 a53 := Tryd.isAgg83
 z53 := Tryd.sizeOf83
 v53 := Tryd.zeroValue83
 t171 := Tryd.underlying104
 a171 := Tryd.isAgg104
 z171 := Tryd.sizeOf104
 v171 := Tryd.zeroValue104
 t173 := Tryd.underlying107
 a173 := Tryd.isAgg107
 z173 := Tryd.sizeOf107
 v173 := Tryd.zeroValue107
 t212 := Tryd.underlying114
 a212 := Tryd.isAgg114
 z212 := Tryd.sizeOf114
 v212 := Tryd.zeroValue114
 t213 := Tryd.underlying115
 a213 := Tryd.isAgg115
 z213 := Tryd.sizeOf115
 t232 := Tryd.underlying119
 a232 := Tryd.isAgg119
 z232 := Tryd.sizeOf119
 v232 := Tryd.zeroValue119
 t233 := Tryd.underlying120
 a233 := Tryd.isAgg120
 z233 := Tryd.sizeOf120
 v233 := Tryd.zeroValue120
 g17 := by kernel_rfl
 g18 := by kernel_rfl
 g19 := by kernel_rfl
 i0 := by kernel_rfl
 i2 := by kernel_rfl
 i3 := by kernel_rfl
 i4 := by kernel_rfl
 i5 := by kernel_rfl
 i9 := by kernel_rfl
 i20 := by kernel_rfl
 i37 := by kernel_rfl
 i46 := by kernel_rfl
 i51 := by kernel_rfl
 i53 := by kernel_rfl
 i171 := by kernel_rfl
 i173 := by kernel_rfl
 i212 := by kernel_rfl
 i232 := by kernel_rfl
 i233 := by kernel_rfl
 m17 := by kernel_rfl
 m18 := by kernel_rfl
 m19 := by kernel_rfl
abbrev sB (l : List UInt8) : AV := .sc (.string ⟨l.toArray⟩)
abbrev rowS (ws : List (List UInt8)) : AV := .row (ws.map sB)
abbrev immS (ws : List (List UInt8)) : AV := .imm (ws.map sB)
theorem nrL_S (ws : List (List UInt8)) : noRefL (ws.map sB) = true := by
 induction ws with
 | nil => rfl
 | cons w ws ih => simp only [List.map_cons, noRefL, noRef, ih, Bool.and_self]
theorem tiSt : ti0 9 = some ⟨1, false, [Value.string ⟨#[]⟩], none, [], none, true, false⟩ := by kernel_rfl
theorem tiBy : ti0 5 = some ⟨1, false, [Value.int .u8 0], none, [], some .u8, false, false⟩ := by kernel_rfl
theorem tiSS : ti0 30 = some ⟨1, false, [Value.slice none 0 0], some 9, [], none, false, false⟩ := by kernel_rfl
theorem tab_of {w : World} (h : Gd w) : Lib.TabIs Tryd.prog w "internal/strconv.uint64pow10" .u64 Lib.pow10Tab := by
 obtain ⟨wI, hI, hb⟩ := h
 obtain ⟨t, fr, ht⟩ := hI.pow
 have hlt : 5 < wI.heap.size := (Array.getElem?_eq_some_iff.1 ht).1
 have hg : Tryd.prog.globalNamed "internal/strconv.uint64pow10" = some 5 := laysFmt.m17
 unfold Lib.TabIs World.var?
 rw [hg]
 show (match w.heap[5]? with | some (.cells cs _ _) => some cs | _ => none) = _
 rw [hb.block _ hlt (by simp), ht]
theorem cFmt {n : Int} (h0 : -9223372036854775808 ≤ n) (h1 : n ≤ 9223372036854775807) : CallOK Tryd.prog 53 [i64 n, i64 10] (sB (Lib.itoa n)) := by
 refine ⟨⟨_, Tryd.func53, by kernel_rfl, by kernel_rfl⟩, rfl, fun w A vs hv hA hG => ?_⟩
 obtain ⟨v, vs', rfl, h2, h3⟩ := RelL.uncons0 hv
 obtain ⟨v', vs'', rfl, h4, h5⟩ := RelL.uncons0 h3
 obtain rfl := (RelL.nilF h5).1
 obtain ⟨rfl, -⟩ := Rel.sc_inv h2
 obtain ⟨rfl, -⟩ := Rel.sc_inv h4
 refine (Any.strconv_FormatInt_10 laysFmt n h0 h1 w (tab_of hG)).mono ?_
 rintro e w' ⟨rfl, k, os, rfl⟩
 refine ⟨_, A, [], rfl, .sc _ .nil, fun _ h => h, (fun _ h => by cases h), ⟨rfl, rfl, rfl, ?_, fun k hk _ => ?_⟩⟩
 ·simp
 ·rw [Sort.heap_grow_old _ _ (by simpa using hk)]; rfl
def okN (l : List UInt8) : Prop := l.length ≤ 1125899906842624
def k1B (x : Option AV) : Option Eff := match (match x with | some a => blk a | none => none) with
 | some cs => if 0 + 1 ≤ cs.length then match bytesA ((cs.drop 0).take 1) with
  | some l => some ⟨.sc (.string ⟨l.toArray⟩), none, [], []⟩
  | none => none
  else none
 | none => none
end Go.Proofs.YteaaangdibabnaaDoor
/- Parts of texts and numerals, in plain Lean. -/
namespace Go.Proofs.YteaaangdibabnaaDoor
open Go.RowKit
def spS (c : UInt8) (x : List (List UInt8) × List UInt8) (b : UInt8) : List (List UInt8) × List UInt8 := if b = c then (x.1 ++ [x.2], []) else (x.1, x.2 ++ [b])
def spF (c : UInt8) (l : List UInt8) : List (List UInt8) × List UInt8 := l.foldl (spS c) ([], [])
def spl (c : UInt8) (l : List UInt8) : List (List UInt8) := (spF c l).1 ++ [(spF c l).2]
theorem spF_snoc (c : UInt8) (l : List UInt8) (b : UInt8) : spF c (l ++ [b]) = spS c (spF c l) b := by unfold spF; rw [List.foldl_append]; rfl
theorem sp_pre (c : UInt8) (d : List (List UInt8)) : ∀ (l : List UInt8) (x : List (List UInt8) × List UInt8), l.foldl (spS c) (d ++ x.1, x.2) = (d ++ (l.foldl (spS c) x).1, (l.foldl (spS c) x).2)
 | [], x => rfl
 | b :: l, x => by
  rw [List.foldl_cons, List.foldl_cons]
  have e : spS c (d ++ x.1, x.2) b = (d ++ (spS c x b).1, (spS c x b).2) := by
   unfold spS
   split
   ·simp
   ·rfl
  rw [e]
  exact sp_pre c d l (spS c x b)
theorem sp_no (c : UInt8) : ∀ (l : List UInt8) (x : List (List UInt8) × List UInt8), c ∉ l → l.foldl (spS c) x = (x.1, x.2 ++ l)
 | [], x, _ => by simp
 | b :: l, x, h => by
  have hb : b ≠ c := fun e => h (by simp [e])
  rw [List.foldl_cons]
  have e : spS c x b = (x.1, x.2 ++ [b]) := by unfold spS; rw [if_neg hb]
  rw [e, sp_no c l _ (fun hm => h (by simp [hm]))]
  simp
theorem spl_miss {c : UInt8} {l : List UInt8} (h : c ∉ l) : spl c l = [l] := by
 unfold spl spF
 rw [sp_no c l _ h]
 rfl
theorem spl_hit {c : UInt8} {p q : List UInt8} (h : c ∉ p) : spl c (p ++ c :: q) = p :: spl c q := by
 unfold spl spF
 rw [List.foldl_append, List.foldl_cons, sp_no c p _ h]
 have e : spS c (([] : List (List UInt8)), ([] : List UInt8) ++ p) c = ([p] ++ [], []) := by unfold spS; rw [if_pos rfl]; simp
 have e2 := sp_pre c [p] q ([], [])
 show ((q.foldl (spS c) (spS c ([], [] ++ p) c)).1 ++ [(q.foldl (spS c) (spS c ([], [] ++ p) c)).2]) = _
 rw [e, e2]
 rfl
theorem spl_len (c : UInt8) (l : List UInt8) : (spl c l).length ≤ l.length + 1 := by
 have key : ∀ (l : List UInt8) (x : List (List UInt8) × List UInt8), (l.foldl (spS c) x).1.length ≤ x.1.length + l.length := by
  intro l
  induction l with
  | nil => intro x; simp
  | cons b l ih =>
   intro x
   have h1 := ih (spS c x b)
   have h2 : (spS c x b).1.length ≤ x.1.length + 1 := by unfold spS; split <;> simp
   rw [List.foldl_cons, List.length_cons]
   omega
 have := key l ([], [])
 unfold spl spF
 simp only [List.length_append, List.length_cons, List.length_nil] at this ⊢
 omega
theorem spl_pos (c : UInt8) (l : List UInt8) : 0 < (spl c l).length := by unfold spl; simp
theorem byte_cases (c : UInt8) : ∀ l : List UInt8, c ∉ l ∨ ∃ p q, l = p ++ c :: q ∧ c ∉ p
 | [] => .inl (by simp)
 | b :: l => by
  by_cases e : b = c
  ·exact .inr ⟨[], l, by simp [e], by simp⟩
  ·rcases byte_cases c l with h | ⟨p, q, h, hp⟩
   ·exact .inl (by simp only [List.mem_cons, not_or]; exact ⟨Ne.symm e, h⟩)
   ·exact .inr ⟨b :: p, q, by rw [h]; rfl, by simp only [List.mem_cons, not_or]; exact ⟨Ne.symm e, hp⟩⟩
theorem spl_mem_len {c : UInt8} : ∀ (n : Nat) (l : List UInt8), l.length ≤ n → ∀ x, x ∈ spl c l → x.length ≤ l.length
 | 0, l, h, x, hx => by
  have : l = [] := List.length_eq_zero_iff.1 (by omega)
  subst this
  rw [spl_miss (by simp)] at hx
  simp at hx; subst hx; simp
 | n + 1, l, h, x, hx => by
  rcases byte_cases c l with hc | ⟨p, q, rfl, hp⟩
  ·rw [spl_miss hc] at hx
   simp at hx; subst hx; exact Nat.le_refl _
  ·rw [spl_hit hp] at hx
   simp only [List.length_append, List.length_cons] at h ⊢
   rcases List.mem_cons.1 hx with rfl | hx
   ·omega
   ·have := spl_mem_len n q (by omega) x hx
    omega
theorem ix_miss {c : UInt8} : ∀ {l : List UInt8}, c ∉ l → Lib.index l [c] = -1
 | [], _ => rfl
 | b :: l, h => by
  have hb : ¬ ([c].isPrefixOf (b :: l) = true) := fun e => h (by simp at e; simp [e])
  unfold Lib.index
  rw [Bool.eq_false_iff.2 hb, ix_miss (l := l) (fun hm => h (by simp [hm]))]
  rfl
theorem ix_hit {c : UInt8} {q : List UInt8} : ∀ {p : List UInt8}, c ∉ p → Lib.index (p ++ c :: q) [c] = (p.length : Nat)
 | [], _ => by
  show Lib.index (c :: q) [c] = 0
  unfold Lib.index
  have : [c].isPrefixOf (c :: q) = true := by simp
  rw [if_pos this]
 | b :: p, h => by
  have hb : ¬ ([c].isPrefixOf (b :: (p ++ c :: q)) = true) := fun e => h (by simp at e; simp [e])
  show Lib.index (b :: (p ++ c :: q)) [c] = _
  unfold Lib.index
  rw [Bool.eq_false_iff.2 hb, ix_hit (p := p) (fun hm => h (by simp [hm]))]
  have : (((p.length : Nat) : Int) == -1) = false := by rw [beq_eq_false_iff_ne]; omega
  simp [this]
theorem split_spl (c : UInt8) : ∀ (n : Nat) (l : List UInt8), l.length ≤ n → Lib.splitK [c] 0 (Lib.count l [c]) l = spl c l := by
 intro n
 induction n with
 | zero =>
  intro l h
  have : l = [] := List.length_eq_zero_iff.1 (by omega)
  subst this
  rw [Lib.count_miss (ix_miss (by simp)), spl_miss (by simp)]
  rfl
 | succ n ih =>
  intro l h
  rcases byte_cases c l with hc | ⟨p, q, rfl, hp⟩
  ·rw [Lib.count_miss (ix_miss hc), spl_miss hc]
   rfl
  ·have hi := ix_hit (c := c) (q := q) hp
   simp only [List.length_append, List.length_cons] at h
   have hd : (p ++ c :: q).drop (p.length + 1) = q := by
    rw [← List.drop_drop]
    simp
   rw [Lib.count_hit (by simp) hi, Nat.add_comm 1]
   unfold Lib.splitK
   rw [hi, spl_hit hp]
   have : (((p.length : Nat) : Int) == -1) = false := by rw [beq_eq_false_iff_ne]; omega
   rw [this]
   simp only [Bool.false_eq_true, if_false, Int.toNat_natCast, List.length_cons, List.length_nil, Nat.zero_add, Nat.add_zero]
   rw [hd, ih q (by omega)]
   simp
end Go.Proofs.YteaaangdibabnaaDoor
/- Numerals: what the reference reads, what the program reads. -/
namespace Go.Proofs.YteaaangdibabnaaDoor
open Go.RowKit
def dgP (b : UInt8) : Prop := 48 ≤ b.toNat ∧ b.toNat ≤ 57
instance (b : UInt8) : Decidable (dgP b) := by unfold dgP; infer_instance
def fo1 (n : Nat) (b : UInt8) : Nat := n * 10 + (b.toNat - 48)
def fo (w : List UInt8) : Nat := w.foldl fo1 0
theorem fo_snoc (w : List UInt8) (b : UInt8) : fo (w ++ [b]) = fo w * 10 + (b.toNat - 48) := by unfold fo; rw [List.foldl_append]; rfl
def shP (w : List UInt8) : Prop := w ≠ [] ∧ w.length ≤ 9 ∧ ¬ (1 < w.length ∧ w.head? = some 48)
instance (w : List UInt8) : Decidable (shP w) := by unfold shP; infer_instance
def val (w : List UInt8) : Int := if shP w ∧ ∀ b, b ∈ w → dgP b then (fo w : Nat) else -1
def rdv (w : List UInt8) : Option Int := match Lib.parseIntB 64 w with
 | .ok v => if Lib.itoa v = w then some v else none
 | _ => none
theorem u8_of {n : Nat} (h : n < 256) : (UInt8.ofNat n).toNat = n := by
 rw [UInt8.toNat_ofNat']; exact Nat.mod_eq_of_lt (by omega)
theorem dec_dg (u : Nat) : ∀ b, b ∈ Lib.decDigits u → dgP b := by
 induction u using Nat.strongRecOn with
 | _ u ih =>
   intro b hb
   rw [Lib.decDigits] at hb
   split at hb
   · rename_i h
     simp only [List.mem_cons, List.not_mem_nil, or_false] at hb
     subst hb
     unfold dgP
     rw [u8_of (by omega)]
     omega
   · rename_i h
     rcases List.mem_append.1 hb with hb | hb
     · exact ih _ (by omega) b hb
     · simp only [List.mem_cons, List.not_mem_nil, or_false] at hb
       subst hb
       unfold dgP
       rw [u8_of (by omega)]
       omega
theorem dec_fo (u : Nat) : fo (Lib.decDigits u) = u := by
 induction u using Nat.strongRecOn with
 | _ u ih =>
   rw [Lib.decDigits]
   split
   · rename_i h
     show 0 * 10 + ((UInt8.ofNat (48 + u)).toNat - 48) = u
     rw [u8_of (by omega)]
     omega
   · rename_i h
     rw [fo_snoc, ih _ (by omega), u8_of (by omega)]
     omega
theorem dec_ne (u : Nat) : Lib.decDigits u ≠ [] := by
 rw [Lib.decDigits]
 split <;> simp
theorem dec_head (u : Nat) (h1 : 1 ≤ u) : (Lib.decDigits u).head? ≠ some 48 := by
 induction u using Nat.strongRecOn with
 | _ u ih =>
   rw [Lib.decDigits]
   split
   · rename_i h
     intro e
     have e2 : UInt8.ofNat (48 + u) = 48 := by simpa using e
     have := congrArg UInt8.toNat e2
     rw [u8_of (by omega)] at this
     have e3 : (48 : UInt8).toNat = 48 := rfl
     omega
   · rename_i h
     have h2 := ih (u / 10) (by omega) (by omega)
     intro e
     apply h2
     cases hd : Lib.decDigits (u / 10) with
     | nil => exact absurd hd (dec_ne _)
     | cons x r => rw [hd] at e; simpa using e
theorem dec_len2 (k : Nat) : ∀ u : Nat, ((Lib.decDigits u).length ≤ k + 1 ↔ u < 10 ^ (k + 1)) := by
 induction k with
 | zero =>
   intro u
   rw [Lib.decDigits]
   split
   · rename_i h; simp; omega
   · rename_i h
     have := List.length_pos_iff.2 (dec_ne (u / 10))
     simp only [List.length_append, List.length_cons, List.length_nil]
     omega
 | succ k ih =>
   intro u
   rw [Lib.decDigits]
   split
   · rename_i h
     have : 10 ^ (k + 1 + 1) = 10 ^ k * 10 * 10 := by rw [Nat.pow_succ, Nat.pow_succ]
     have hp : 0 < 10 ^ k := Nat.pow_pos (by decide)
     simp only [List.length_cons, List.length_nil]
     omega
   · rename_i h
     have h2 := ih (u / 10)
     have : 10 ^ (k + 1 + 1) = 10 ^ (k + 1) * 10 := by rw [Nat.pow_succ]
     simp only [List.length_append, List.length_cons, List.length_nil]
     omega
theorem dec_of : ∀ (n : Nat) (w : List UInt8), w.length = n → w ≠ [] → ¬ (1 < w.length ∧ w.head? = some 48) → (∀ b, b ∈ w → dgP b) → Lib.decDigits (fo w) = w ∧ (w.head? ≠ some 48 → 1 ≤ fo w) := by
 intro n
 induction n with
 | zero => intro w h hne; exact absurd (List.length_eq_zero_iff.1 h) hne
 | succ n ih =>
   intro w hn hne hz hd
   rcases List.eq_nil_or_concat w with e | ⟨w', b, e⟩
   · exact absurd e hne
   · rw [List.concat_eq_append] at e
     subst e
     have hb : dgP b := hd b (by simp)
     unfold dgP at hb
     rw [fo_snoc]
     have hbb : UInt8.ofNat (48 + (b.toNat - 48)) = b := by
       apply UInt8.toNat_inj.1
       rw [u8_of (by omega)]
       omega
     by_cases h0 : w' = []
     · subst h0
       have e0 : fo ([] : List UInt8) = 0 := rfl
       rw [e0]
       constructor
       · rw [Lib.decDigits, dif_pos (by omega), Nat.zero_mul, Nat.zero_add, hbb]
         rfl
       · intro h
         have : b.toNat ≠ 48 := fun e => h (by
           have : b = 48 := UInt8.toNat_inj.1 e
           simp [this])
         omega
     · obtain ⟨x, r, hx⟩ : ∃ x r, w' = x :: r := by
         cases w' with
         | nil => exact absurd rfl h0
         | cons x r => exact ⟨x, r, rfl⟩
       have hh : (w' ++ [b]).head? = w'.head? := by rw [hx]; rfl
       have hl : 1 < (w' ++ [b]).length := by rw [hx]; simp
       have hz' : w'.head? ≠ some 48 := fun e => hz ⟨hl, by rw [hh]; exact e⟩
       obtain ⟨i1, i2⟩ := ih w' (by simp at hn; exact hn) h0 (fun e => hz' e.2) (fun b hb => hd b (by simp [hb]))
       have i3 := i2 hz'
       constructor
       · rw [Lib.decDigits, dif_neg (by omega)]
         have q1 : (fo w' * 10 + (b.toNat - 48)) / 10 = fo w' := by omega
         have q2 : (fo w' * 10 + (b.toNat - 48)) % 10 = b.toNat - 48 := by omega
         rw [q1, q2, i1, hbb]
       · intro _; omega
theorem pm_ok (M : Nat) : ∀ (w : List UInt8) (acc : Nat), (∀ b, b ∈ w → dgP b) → w.foldl fo1 acc ≤ M → M < 18446744073709551616 → w.foldl fo1 acc < 18446744073709551616 → Lib.parseUintM M acc w = .ok (w.foldl fo1 acc)
 | [], acc, _, _, _, _ => rfl
 | b :: w, acc, hd, h, hM, h2 => by
   have hb : 48 ≤ b.toNat ∧ b.toNat ≤ 57 := hd b (by simp)
   have mono : ∀ (w : List UInt8) (a : Nat), a ≤ w.foldl fo1 a := by
     intro w
     induction w with
     | nil => intro a; exact Nat.le_refl _
     | cons c w ih => intro a; rw [List.foldl_cons]; exact Nat.le_trans (by unfold fo1; omega) (ih (fo1 a c))
   have h3 := mono w (fo1 acc b)
   rw [List.foldl_cons] at h h2 ⊢
   have h4 : fo1 acc b = acc * 10 + (b.toNat - 48) := rfl
   unfold Lib.parseUintM
   rw [if_pos hb, if_neg (by omega), if_neg (by omega)]
   exact pm_ok M w _ (fun c hc => hd c (by simp [hc])) h hM h2
theorem pi_ok {w : List UInt8} (hne : w ≠ []) (hd : ∀ b, b ∈ w → dgP b) (h : fo w < 9223372036854775808) : Lib.parseIntB 64 w = .ok (fo w : Nat) := by
 cases w with
 | nil => exact absurd rfl hne
 | cons c r =>
   have hc := hd c (by simp)
   unfold dgP at hc
   have h43 : ¬ (c.toNat = 43 ∨ c.toNat = 45) := by omega
   have e : Lib.parseUintB 64 (c :: r) = .ok (fo (c :: r)) := by
     unfold Lib.parseUintB
     rw [if_neg (by simp)]
     exact pm_ok _ _ 0 hd (by have : (2:Nat) ^ 64 - 1 = 18446744073709551615 := by decide
                              unfold fo at h; omega) (by decide) (by unfold fo at h; omega)
   unfold Lib.parseIntB
   simp only []
   rw [if_neg h43, e]
   simp only []
   have p63 : (2:Nat) ^ (64 - 1) = 9223372036854775808 := by decide
   rw [if_neg (by omega), if_neg (by omega), if_neg (by omega)]
theorem val_nonneg {w : List UInt8} (h : 0 ≤ val w) : shP w ∧ (∀ b, b ∈ w → dgP b) ∧ val w = (fo w : Nat) := by
 unfold val at h ⊢
 by_cases c : shP w ∧ ∀ b, b ∈ w → dgP b
 · rw [if_pos c]; exact ⟨c.1, c.2, rfl⟩
 · rw [if_neg c] at h; omega
theorem rdv_of_val {w : List UInt8} (h : 0 ≤ val w) : rdv w = some (val w) := by
 obtain ⟨h1, h2, h3⟩ := val_nonneg h
 obtain ⟨e1, -⟩ := dec_of _ w rfl h1.1 h1.2.2 h2
 have hl : fo w < 10 ^ 9 := (dec_len2 8 (fo w)).1 (by rw [e1]; exact h1.2.1)
 have hp : Lib.parseIntB 64 w = .ok (fo w : Nat) := pi_ok h1.1 h2 (Nat.lt_trans hl (by decide))
 unfold rdv
 rw [hp, h3]
 have hi : Lib.itoa ((fo w : Nat) : Int) = w := by
   unfold Lib.itoa
   rw [if_neg (by omega), Int.toNat_natCast, e1]
 simp only [hi, if_true]
theorem val_of_rdv {w : List UInt8} {v : Int} (h : rdv w = some v) : val w = v ∨ (val w = -1 ∧ (v < 0 ∨ 1000000000 ≤ v)) := by
 unfold rdv at h
 split at h
 · rename_i v' hv'
   split at h
   · rename_i hi
     simp only [Option.some.injEq] at h
     subst h
     unfold Lib.itoa at hi
     split at hi
     · rename_i hn
       right
       refine ⟨?_, .inl hn⟩
       unfold val
       rw [if_neg]
       intro hc
       have := hc.2 45 (by rw [← hi]; simp)
       unfold dgP at this
       have e : (45 : UInt8).toNat = 45 := rfl
       omega
     · rename_i hn
       have hf : fo w = v'.toNat := by rw [← hi]; exact dec_fo _
       by_cases hl : v'.toNat < 10 ^ 9
       · left
         have hv : shP w ∧ ∀ b, b ∈ w → dgP b := by
           refine ⟨⟨by rw [← hi]; exact dec_ne _, by rw [← hi]; exact (dec_len2 8 _).2 hl, ?_⟩, by rw [← hi]; exact dec_dg _⟩
           rintro ⟨q1, q2⟩
           by_cases h1 : 1 ≤ v'.toNat
           · exact dec_head _ h1 (by rw [hi]; exact q2)
           · have e0 : v'.toNat = 0 := by omega
             rw [e0] at hi
             have : Lib.decDigits 0 = [48] := by rw [Lib.decDigits]; rfl
             rw [this] at hi
             rw [← hi] at q1
             simp at q1
         unfold val
         rw [if_pos hv, hf]
         omega
       · right
         refine ⟨?_, .inr (by have : (10:Nat)^9 = 1000000000 := by decide
                              omega)⟩
         unfold val
         rw [if_neg]
         rintro ⟨q1, -⟩
         have := (dec_len2 8 v'.toNat).1 (by rw [hi]; exact q1.2.1)
         omega
   · cases h
 · cases h
end Go.Proofs.YteaaangdibabnaaDoor
/- The reference's reading of texts. -/
namespace Go.Proofs.YteaaangdibabnaaDoor
open Go.RowKit
set_option maxRecDepth 1000000
def byA (l : List UInt8) (k : Nat) : UInt8 := l.getD k 0
abbrev u8A (b : UInt8) : AV := .sc (.int .u8 (b.toNat : Nat))
theorem byA_get {l : List UInt8} {k : Nat} (h : k < l.length) : l[k]? = some (byA l k) := by
 unfold byA
 rw [List.getD_eq_getElem?_getD, List.getElem?_eq_getElem h]
 rfl
theorem byA_mem {l : List UInt8} {k : Nat} (h : k < l.length) : byA l k ∈ l := List.mem_of_getElem? (byA_get h)
theorem take_byA {l : List UInt8} {k : Nat} (h : k < l.length) : l.take (k + 1) = l.take k ++ [byA l k] := by
 rw [List.take_add_one, byA_get h]
 rfl
def kSt : Option TI → AV → AV → Option Eff
 | some inf, x, ix => match inf.str, x, ix with
  | true, .sc (.string s), .sc (.int _ i) => if 0 ≤ i then (match s[i.toNat]? with
    | some u => some ⟨.sc (.int .u8 u.toNat), none, [], []⟩
    | none => none) else none
  | _, _, _ => none
 | none, _, _ => none
theorem opK_index {ti : Nat → Option TI} {b : Nat} {ro : Ro} {gn : Nat → Nat} {ev : Operand → AV} (t : TypeId) (x ix : Operand) : opK ti b ro gn ev (.index t x ix) = kSt (ti t) (ev x) (ev ix) := by
 show opC ti b ro gn ev (.index t x ix) = _
 simp only [opC, kSt]
 cases ti t <;> rfl
section
variable {ro : Ro} {a1 : Nat} {a2 : Bool} {a3 : List Value} {a4 : Option Nat} {a5 : List (Nat × Nat)} {a6 : Option IntKind} {a8 : Bool}
theorem kSt_at {l : List UInt8} {k : Nat} (h : k < l.length) : kSt (some ⟨a1, a2, a3, a4, a5, a6, true, a8⟩) (sB l) (i64 (k : Int)) = some ⟨u8A (byA l k), none, [], []⟩ := by
 have hz : k < (⟨l.toArray⟩ : ByteArray).size := by simpa [ByteArray.size] using h
 have e1 : (⟨l.toArray⟩ : ByteArray)[k]? = some (⟨l.toArray⟩ : ByteArray)[k] := getElem?_pos _ k hz
 have e2 : (⟨l.toArray⟩ : ByteArray)[k] = byA l k := by
  have : l[k]? = some l[k] := List.getElem?_eq_getElem h
  rw [byA_get h] at this
  simp only [Option.some.injEq] at this
  rw [this]
  rfl
 simp only [kSt, Int.natCast_nonneg, if_true, Int.toNat_natCast, e1, e2]
theorem kLen_sB {l : List UInt8} : kLen1 (some ⟨a1, a2, a3, a4, a5, a6, true, a8⟩) ro (sB l) = some ⟨i64 (l.length : Nat), none, [], []⟩ := by
 have : (⟨l.toArray⟩ : ByteArray).size = l.length := by simp [ByteArray.size]
 rw [← this]
 exact nr _
theorem ext_sB (l : List UInt8) (a b : Nat) : (⟨l.toArray⟩ : ByteArray).extract a b = ⟨((l.take b).drop a).toArray⟩ := by
 apply ByteArray.ext
 rw [ByteArray.data_extract]
 simp [List.extract_eq_take_drop, List.drop_take]
theorem kSl_str {l : List UInt8} {a b : Nat} (h1 : a ≤ b) (h2 : b ≤ l.length) : kSlice (some ⟨a1, a2, a3, a4, a5, a6, true, a8⟩) ro (sB l) (some (i64 (a : Int))) (some (i64 (b : Int))) = some ⟨sB ((l.take b).drop a), none, [], []⟩ := by
 have e : (⟨l.toArray⟩ : ByteArray).size = l.length := by simp [ByteArray.size]
 simp only [kSlice, evInt, e, if_true, Int.natCast_nonneg, true_and, Int.toNat_natCast, ext_sB]
 rw [if_pos ⟨by omega, by omega⟩]
theorem kSl_str0 {l : List UInt8} {a : Nat} (h1 : a ≤ l.length) : kSlice (some ⟨a1, a2, a3, a4, a5, a6, true, a8⟩) ro (sB l) (some (i64 (a : Int))) none = some ⟨sB (l.drop a), none, [], []⟩ := by
 have e : (⟨l.toArray⟩ : ByteArray).size = l.length := by simp [ByteArray.size]
 simp only [kSlice, evInt, e, if_true, Int.natCast_nonneg, true_and, Int.toNat_natCast, ext_sB]
 rw [if_pos ⟨by omega, by omega⟩, List.take_of_length_le (Nat.le_refl _)]
end
section
variable {a b : Int} {ro : Ro} {inf : TI}
theorem kB_eq8 : kBin0 (some inf) ro .eql (.sc (.int .u8 a)) (.sc (.int .u8 b)) = some ⟨bo (decide (a = b)), none, [], []⟩ := by
 unfold kBin0
 simp only [zee, if_true, binA]
 have : semPure (binOp .eql 0 (.int .u8 a) (.int .u8 b)) = some (.bool (decide (a = b))) := by
  simp only [binOp, ne_eq, not_true_eq_false, if_false, Op.intArith, Op.intCmp]
  first | rfl | (simp [semPure, pure]; done)
 rw [this]
theorem kB_lt8 : kBin0 (some inf) ro .lss (.sc (.int .u8 a)) (.sc (.int .u8 b)) = some ⟨bo (decide (a < b)), none, [], []⟩ := by
 unfold kBin0
 simp only [zee, if_true, binA]
 have : semPure (binOp .lss 0 (.int .u8 a) (.int .u8 b)) = some (.bool (decide (a < b))) := by
  simp only [binOp, ne_eq, not_true_eq_false, if_false, Op.intArith, Op.intCmp]
  first | rfl | (simp [semPure, pure]; done)
 rw [this]
theorem kB_gt8 : kBin0 (some inf) ro .gtr (.sc (.int .u8 a)) (.sc (.int .u8 b)) = some ⟨bo (decide (b < a)), none, [], []⟩ := by
 unfold kBin0
 simp only [zee, if_true, binA]
 have : semPure (binOp .gtr 0 (.int .u8 a) (.int .u8 b)) = some (.bool (decide (b < a))) := by
  simp only [binOp, ne_eq, not_true_eq_false, if_false, Op.intArith, Op.intCmp]
  first | rfl | (simp [semPure, pure]; done)
 rw [this]
theorem kB_sub8 (h : b ≤ a) (h0 : 0 ≤ b) (h1 : a < 256) : kBin0 (some inf) ro .sub (.sc (.int .u8 a)) (.sc (.int .u8 b)) = some ⟨.sc (.int .u8 (a - b)), none, [], []⟩ := by
 unfold kBin0
 simp only [zee, if_true, binA]
 have w : IntKind.wrap .u8 (a - b) = a - b := by
  have e : IntKind.bits .u8 = 8 := rfl
  have s : IntKind.signed .u8 = false := rfl
  simp only [IntKind.wrap, e, s, Bool.false_and, Bool.false_eq_true, if_false]
  omega
 have : semPure (binOp .sub 0 (.int .u8 a) (.int .u8 b)) = some (.int .u8 (IntKind.wrap .u8 (a - b))) := by
  simp only [binOp, ne_eq, not_true_eq_false, if_false, Op.intArith, Op.intCmp]
  first | rfl | (simp [semPure, pure]; done)
 rw [this, w]
end
theorem kConv_8i {ti : Nat → Option TI} {ro : Ro} {a1 c1 : Nat} {a2 c2 : Bool} {a3 c3 : List Value} {a4 c4 : Option Nat} {a5 c5 : List (Nat × Nat)} {k1 : IntKind} {a7 a8 c7 c8 : Bool} {n : Int} : kConv ti ro (some ⟨a1, a2, a3, a4, a5, some k1, a7, a8⟩) (some ⟨c1, c2, c3, c4, c5, some .i64, c7, c8⟩) (.sc (.int .u8 n)) = some ⟨i64 (wrF n), none, [], []⟩ := by rw [wrF_eq]; rfl
theorem rowS_get {ws : List (List UInt8)} {k : Nat} (h : k < ws.length) : (ws.map sB)[k]? = some (sB (ws.getD k [])) := by simp [h]
theorem tkS (ws : List (List UInt8)) : (ws.map sB).take ws.length = ws.map sB := List.take_of_length_le (by simp)
theorem dec8 {a b : UInt8} : decide (((a.toNat : Nat) : Int) = ((b.toNat : Nat) : Int)) = decide (a = b) := by
 by_cases e : a = b
 ·rw [e]; simp
 ·rw [decide_eq_false e, decide_eq_false fun h => e (UInt8.toNat_inj.1 (by omega))]
theorem sp_suf (c : UInt8) (l : List UInt8) : ∀ k, k ≤ l.length → (spF c (l.take k)).2.length ≤ k ∧ (l.take k).drop (k - (spF c (l.take k)).2.length) = (spF c (l.take k)).2
 | 0, _ => ⟨Nat.le_refl _, by simp [spF]⟩
 | k + 1, h => by
  obtain ⟨h1, h2⟩ := sp_suf c l k (by omega)
  rw [take_byA (by omega), spF_snoc]
  unfold spS
  split
  ·exact ⟨Nat.zero_le _, by simp; omega⟩
  ·simp only [List.length_append, List.length_cons, List.length_nil]
   refine ⟨by omega, ?_⟩
   have e : k + 1 - ((spF c (l.take k)).2.length + (0 + 1)) = k - (spF c (l.take k)).2.length := by omega
   rw [e, List.drop_append_of_le_length (by rw [List.length_take]; omega), h2]
theorem sp_d1 (c : UInt8) (l : List UInt8) {k : Nat} (h : k < l.length) (e : byA l k = c) : spF c (l.take (k + 1)) = ((spF c (l.take k)).1 ++ [(spF c (l.take k)).2], []) := by
 rw [take_byA h, spF_snoc]; unfold spS; rw [if_pos e]
theorem sp_d2 (c : UInt8) (l : List UInt8) {k : Nat} (h : k < l.length) (e : byA l k ≠ c) : spF c (l.take (k + 1)) = ((spF c (l.take k)).1, (spF c (l.take k)).2 ++ [byA l k]) := by
 rw [take_byA h, spF_snoc]; unfold spS; rw [if_neg e]
theorem sp_dl (c : UInt8) (l : List UInt8) : ∀ k, k ≤ l.length → (spF c (l.take k)).1.length ≤ k
 | 0, _ => by simp [spF]
 | k + 1, h => by
  have := sp_dl c l k (by omega)
  rw [take_byA (by omega), spF_snoc]
  unfold spS
  split
  ·simp; omega
  ·exact Nat.le_succ_of_le this
theorem noRef_rowS (ws : List (List UInt8)) : noRef (rowS ws) = true := by simp only [noRef, nrL_S]
theorem cSplitS {l : List UInt8} {c : UInt8} (hl : l.length ≤ 4000000000) : CallOK Tryd.prog 9 [sB l, u8A c] (rowS (spl c l)) := by
 refine call_of (fn := Tryd.f9) (code := bodyOf Tryd.f9) Tryd.func9 rfl (by kernel_rfl) (noRef_rowS _) ?_
 intro sl hs
 have s0 : sl 0 = sB l := hs 0
 have s1 : sl 1 = u8A c := hs 1
 dsimp only [Tryd.f9, bodyOf, Option.getD]
 simp (maxSteps := 10000000) (disch := first | assumption | omega) only [go_sem, ↓reduceIte, Nat.reduceEqDiff, reduceCtorEq, Nat.reduceAdd, Nat.reduceMul, Nat.reduceLeDiff, zc, Int.reduceToNat, s0, s1, tiSt, tiSS]
 refine WK_for (fun k st => st.sl 0 = sB l ∧ st.sl 1 = u8A c ∧ st.sl 7 = i64 (k : Int) ∧ st.sl 6 = i64 ((k - (spF c (l.take k)).2.length : Nat) : Int) ∧ st.sl 5 = .ref 8192 (st.gn 8192) [] 0 (spF c (l.take k)).1.length ∧ st.ro 8192 (st.gn 8192) = some (rowS (spF c (l.take k)).1)) l.length ?_ ?_ ?_
 ·simp only [↓za, ↓reduceIte, Nat.reduceEqDiff, zb, reduceCtorEq, rws_zero, s0, s1]
  exact ⟨rfl, rfl, rfl, rfl⟩
 ·rintro k sl ro gn hk ⟨s0, s1, s7, s6, s5, r8192⟩
  dsimp only at s0 s1 s7 s6 s5 r8192
  have hk' : (k : Int) < (l.length : Nat) := by omega
  obtain ⟨u1, u2⟩ := sp_suf c l k (Nat.le_of_lt hk)
  have u3 := sp_dl c l k (Nat.le_of_lt hk)
  have hi2 : (spF c (l.take k)).1.length + 1 ≤ 4294967296 := by omega
  by_cases e : byA l k = c
  ·have e1 := sp_d1 c l hk e
   simp (maxSteps := 10000000) (disch := first | assumption | omega) only [go_sem, ↓reduceIte, Nat.reduceEqDiff, reduceCtorEq, Nat.reduceAdd, Nat.reduceMul, Nat.reduceLeDiff, zc, Int.reduceToNat, s0, s1, s7, s6, s5, r8192, hk', hk, tiSt, tiBy, tiSS, kLen_sB, opK_index, kSt_at hk, kB_eq8, dec8, eq_true e, hi2, tkS, List.length_map, Option.map_some, Option.map_none, kSl_str (l := l) (Nat.sub_le k (spF c (l.take k)).2.length) (Nat.le_of_lt hk), u2]
   rw [e1]
   exact ⟨i64c (by omega), i64c (by simp), by simp, by simp [rowS]⟩
  ·have e1 := sp_d2 c l hk e
   simp (maxSteps := 10000000) (disch := first | assumption | omega) only [go_sem, ↓reduceIte, Nat.reduceEqDiff, reduceCtorEq, Nat.reduceAdd, Nat.reduceMul, Nat.reduceLeDiff, zc, Int.reduceToNat, s0, s1, s7, s6, s5, r8192, hk', hk, tiSt, tiBy, tiSS, kLen_sB, opK_index, kSt_at hk, kB_eq8, dec8, eq_false e]
   rw [e1]
   exact ⟨i64c (by omega), i64c (by simp only [List.length_append, List.length_cons, List.length_nil]; omega), rfl, rfl⟩
 ·rintro sl ro gn ⟨s0, s1, s7, s6, s5, r8192⟩
  dsimp only at s0 s1 s7 s6 s5 r8192
  have hk' : ¬ ((l.length : Nat) : Int) < (l.length : Nat) := by omega
  obtain ⟨u1, u2⟩ := sp_suf c l l.length (Nat.le_refl _)
  have u3 := sp_dl c l l.length (Nat.le_refl _)
  rw [List.take_length] at u1 u2 u3 s6 s5 r8192
  have hi2 : (spF c l).1.length + 1 ≤ 4294967296 := by omega
  simp (maxSteps := 10000000) (disch := first | assumption | omega) only [go_sem, ↓reduceIte, Nat.reduceEqDiff, reduceCtorEq, Nat.reduceAdd, Nat.reduceMul, Nat.reduceLeDiff, zc, Int.reduceToNat, s0, s1, s7, s6, s5, r8192, hk', tiSt, tiBy, tiSS, kLen_sB, hi2, tkS, List.length_map, Option.map_some, Option.map_none, kSl_str0 (l := l) (Nat.sub_le l.length (spF c l).2.length), u2]
  have hz : (List.map sB (spF c l).1 ++ [sB (spF c l).2]).length = (spF c l).1.length + 1 := by simp
  simp only [zr, zb, retR, resL, outT, outL, zes, zez, oneV, zcp, zed, zfi, Ro.dl, St.ev, zhk, ↓za, ↓reduceIte, Nat.reduceEqDiff, Nat.reduceAdd, Nat.reduceLeDiff, tkS, hz]
  simp [rowS, spl]
theorem kSt_at0 {l : List UInt8} (h : 0 < l.length) {a1 : Nat} {a2 : Bool} {a3 : List Value} {a4 : Option Nat} {a5 : List (Nat × Nat)} {a6 : Option IntKind} {a8 : Bool} : kSt (some ⟨a1, a2, a3, a4, a5, a6, true, a8⟩) (sB l) (.sc (.int .i64 0)) = some ⟨u8A (byA l 0), none, [], []⟩ := kSt_at h
theorem fo_lt : ∀ (n : Nat) (w : List UInt8), w.length = n → (∀ b, b ∈ w → dgP b) → fo w < 10 ^ n := by
 intro n
 induction n with
 | zero =>
  intro w h _
  have : w = [] := List.length_eq_zero_iff.1 h
  subst this
  decide
 | succ n ih =>
  intro w h hd
  rcases List.eq_nil_or_concat w with e | ⟨w', b, e⟩
  ·subst e; simp at h
  ·rw [List.concat_eq_append] at e
   subst e
   have h1 := ih w' (by simp at h; exact h) (fun b hb => hd b (by simp [hb]))
   have h2 := hd b (by simp)
   unfold dgP at h2
   rw [fo_snoc, Nat.pow_succ]
   omega
theorem val_neg {w : List UInt8} (h : ¬ (shP w ∧ ∀ b, b ∈ w → dgP b)) : val w = -1 := by unfold val; rw [if_neg h]
theorem head_byA {w : List UInt8} : w.head? = some 48 ↔ 0 < w.length ∧ byA w 0 = 48 := by
 cases w with
 | nil => simp
 | cons b r => simp [byA]
theorem n48 {b : UInt8} : ((b.toNat : Nat) : Int) = 48 ↔ b = 48 := by
 have e : (48 : UInt8).toNat = 48 := rfl
 exact ⟨fun h => UInt8.toNat_inj.1 (by omega), fun h => by rw [h]; rfl⟩
theorem cValS {w : List UInt8} (hw : w.length < 2^62) : CallOK Tryd.prog 10 [sB w] (i64 (val w)) := by
 refine call_of (fn := Tryd.f10) (code := bodyOf Tryd.f10) Tryd.func10 rfl (by kernel_rfl) (rfl) ?_
 intro sl hs
 have s0 : sl 0 = sB w := hs 0
 by_cases h0 : (w.length : Int) = 0
 ·dsimp only [Tryd.f10, bodyOf, Option.getD]
  simp (maxSteps := 10000000) (disch := first | assumption | omega) only [go_sem, ↓reduceIte, Nat.reduceEqDiff, reduceCtorEq, Nat.reduceAdd, Nat.reduceMul, Nat.reduceLeDiff, zc, Int.reduceToNat, s0, tiSt, tiBy, kLen_sB, eq_true h0, undef]
  rw [val_neg (fun h => h.1.1 (List.length_eq_zero_iff.1 (by omega)))]
  simp only [zr, zb, retR, resL, outT, outL, zes, zez, oneV, zcp, zed, zfi, Ro.dl, St.ev, zhk, ↓za, ↓reduceIte, Nat.reduceEqDiff, Nat.reduceAdd, Nat.reduceLeDiff]
 by_cases h9 : (9 : Int) < w.length
 ·dsimp only [Tryd.f10, bodyOf, Option.getD]
  simp (maxSteps := 10000000) (disch := first | assumption | omega) only [go_sem, ↓reduceIte, Nat.reduceEqDiff, reduceCtorEq, Nat.reduceAdd, Nat.reduceMul, Nat.reduceLeDiff, zc, Int.reduceToNat, s0, tiSt, tiBy, kLen_sB, eq_false h0, eq_true h9, undef]
  rw [val_neg (fun h => by have := h.1.2.1; omega)]
  simp only [zr, zb, retR, resL, outT, outL, zes, zez, oneV, zcp, zed, zfi, Ro.dl, St.ev, zhk, ↓za, ↓reduceIte, Nat.reduceEqDiff, Nat.reduceAdd, Nat.reduceLeDiff]
 have hp : 0 < w.length := by omega
 by_cases hz : (1 : Int) < w.length ∧ ((byA w 0).toNat : Int) = 48
 ·dsimp only [Tryd.f10, bodyOf, Option.getD]
  simp (maxSteps := 10000000) (disch := first | assumption | omega) only [go_sem, ↓reduceIte, Nat.reduceEqDiff, reduceCtorEq, Nat.reduceAdd, Nat.reduceMul, Nat.reduceLeDiff, zc, Int.reduceToNat, s0, tiSt, tiBy, kLen_sB, eq_false h0, eq_false h9, eq_true hz.1, opK_index, kSt_at0 hp, kB_eq8, eq_true hz.2]
  rw [val_neg (fun h => h.1.2.2 ⟨by omega, head_byA.2 ⟨hp, n48.1 hz.2⟩⟩)]
  simp only [zr, zb, retR, resL, outT, outL, zes, zez, oneV, zcp, zed, zfi, Ro.dl, St.ev, zhk, ↓za, ↓reduceIte, Nat.reduceEqDiff, Nat.reduceAdd, Nat.reduceLeDiff]
 have hsh : shP w := ⟨fun e => by rw [e] at hp; exact absurd hp (by simp), by omega, fun h => hz ⟨by omega, n48.2 (head_byA.1 h.2).2⟩⟩
 by_cases h1 : (1 : Int) < w.length
 ·have h48 : ¬ ((byA w 0).toNat : Int) = 48 := fun h => hz ⟨h1, h⟩
  dsimp only [Tryd.f10, bodyOf, Option.getD]
  simp (maxSteps := 10000000) (disch := first | assumption | omega) only [go_sem, ↓reduceIte, Nat.reduceEqDiff, reduceCtorEq, Nat.reduceAdd, Nat.reduceMul, Nat.reduceLeDiff, zc, Int.reduceToNat, s0, tiSt, tiBy, kLen_sB, eq_false h0, eq_false h9, eq_true h1, opK_index, kSt_at0 hp, kB_eq8, eq_false h48]
  refine WK_for (fun k st => st.sl 0 = sB w ∧ st.sl 4 = i64 (k : Int) ∧ st.sl 3 = i64 ((fo (w.take k) : Nat) : Int) ∧ (∀ j, j < k → dgP (byA w j))) w.length ?_ ?_ ?_
  ·simp only [↓za, ↓reduceIte, Nat.reduceEqDiff, zb, reduceCtorEq, rws_zero, s0]
   exact ⟨rfl, rfl, fun j hj => absurd hj (Nat.not_lt_zero j)⟩
  ·rintro k sl ro gn hk ⟨s0, s4, s3, q⟩
   dsimp only at s0 s4 s3
   have hk' : (k : Int) < (w.length : Nat) := by omega
   have hall : ∀ b, b ∈ w.take k → dgP b := by
    intro b hb
    obtain ⟨j, hj, e⟩ := List.mem_iff_getElem.1 hb
    rw [List.length_take] at hj
    have := q j (by omega)
    have e2 : byA w j = b := by
     have h1 := byA_get (l := w) (k := j) (by omega)
     rw [List.getElem_take] at e
     rw [List.getElem?_eq_getElem (by omega), e] at h1
     simpa using h1.symm
    rwa [e2] at this
   have fb : fo (w.take k) < 100000000 := Nat.lt_of_lt_of_le (fo_lt k _ (by rw [List.length_take]; omega) hall) (Nat.le_trans (Nat.pow_le_pow_right (by decide) (show k ≤ 8 by omega)) (by decide))
   have hb8 : (byA w k).toNat < 256 := (byA w k).toNat_lt
   by_cases hd : dgP (byA w k)
   ·unfold dgP at hd
    have f1 : ¬ ((byA w k).toNat : Int) < 48 := by omega
    have f2 : ¬ (57 : Int) < (byA w k).toNat := by omega
    have f3 : (48 : Int) ≤ (byA w k).toNat := by omega
    have f4 : ((byA w k).toNat : Int) < 256 := by omega
    have f5 : wrF (((byA w k).toNat : Int) - 48) = ((byA w k).toNat : Int) - 48 := zfu (by omega) (by omega)
    have f6 : wrF (((fo (w.take k) : Nat) : Int) * 10) = ((fo (w.take k) : Nat) : Int) * 10 := zfu (by omega) (by omega)
    simp (maxSteps := 10000000) (disch := first | assumption | omega) only [go_sem, ↓reduceIte, Nat.reduceEqDiff, reduceCtorEq, Nat.reduceAdd, Nat.reduceMul, Nat.reduceLeDiff, zc, Int.reduceToNat, s0, s4, s3, hk', hk, tiSt, tiBy, kLen_sB, opK_index, kSt_at hk, kB_lt8, kB_gt8, eq_false f1, eq_false f2, kB_sub8 f3 (by decide) f4, kConv_8i, f5, f6]
    refine ⟨i64c (by omega), i64c ?_, fun j hj => ?_⟩
    ·rw [take_byA hk, fo_snoc]
     omega
    ·rcases Nat.lt_or_eq_of_le (Nat.le_of_lt_succ hj) with h | h
     ·exact q j h
     ·rw [h]; exact hd
   ·have hv := val_neg (w := w) fun h => hd (h.2 _ (byA_mem hk))
    unfold dgP at hd
    by_cases f1 : ((byA w k).toNat : Int) < 48
    ·simp (maxSteps := 10000000) (disch := first | assumption | omega) only [go_sem, ↓reduceIte, Nat.reduceEqDiff, reduceCtorEq, Nat.reduceAdd, Nat.reduceMul, Nat.reduceLeDiff, zc, Int.reduceToNat, s0, s4, s3, hk', hk, tiSt, tiBy, kLen_sB, opK_index, kSt_at hk, kB_lt8, kB_gt8, eq_true f1]
     rw [hv]
     simp only [zr, zb, retR, resL, outT, outL, zes, zez, oneV, zcp, zed, zfi, Ro.dl, St.ev, zhk, ↓za, ↓reduceIte, Nat.reduceEqDiff, Nat.reduceAdd, Nat.reduceLeDiff]
    ·have f2 : (57 : Int) < (byA w k).toNat := by omega
     simp (maxSteps := 10000000) (disch := first | assumption | omega) only [go_sem, ↓reduceIte, Nat.reduceEqDiff, reduceCtorEq, Nat.reduceAdd, Nat.reduceMul, Nat.reduceLeDiff, zc, Int.reduceToNat, s0, s4, s3, hk', hk, tiSt, tiBy, kLen_sB, opK_index, kSt_at hk, kB_lt8, kB_gt8, eq_false f1, eq_true f2]
     rw [hv]
     simp only [zr, zb, retR, resL, outT, outL, zes, zez, oneV, zcp, zed, zfi, Ro.dl, St.ev, zhk, ↓za, ↓reduceIte, Nat.reduceEqDiff, Nat.reduceAdd, Nat.reduceLeDiff]
  ·rintro sl ro gn ⟨s0, s4, s3, q⟩
   dsimp only at s0 s4 s3
   have hk' : ¬ ((w.length : Nat) : Int) < (w.length : Nat) := by omega
   have hall : ∀ b, b ∈ w → dgP b := by
    intro b hb
    obtain ⟨j, hj, e⟩ := List.mem_iff_getElem.1 hb
    have := q j hj
    have e2 : byA w j = b := by
     have h1 := byA_get (l := w) (k := j) hj
     rw [List.getElem?_eq_getElem hj, e] at h1
     simpa using h1.symm
    rwa [e2] at this
   have hv : val w = (fo w : Nat) := by unfold val; rw [if_pos ⟨hsh, hall⟩]
   rw [List.take_length] at s3
   simp (maxSteps := 10000000) (disch := first | assumption | omega) only [go_sem, ↓reduceIte, Nat.reduceEqDiff, reduceCtorEq, Nat.reduceAdd, Nat.reduceMul, Nat.reduceLeDiff, zc, Int.reduceToNat, s0, s4, s3, hk', tiSt, tiBy, kLen_sB]
   rw [hv]
   simp only [zr, zb, retR, resL, outT, outL, zes, zez, oneV, zcp, zed, zfi, Ro.dl, St.ev, zhk, ↓za, ↓reduceIte, Nat.reduceEqDiff, Nat.reduceAdd, Nat.reduceLeDiff]
 ·dsimp only [Tryd.f10, bodyOf, Option.getD]
  simp (maxSteps := 10000000) (disch := first | assumption | omega) only [go_sem, ↓reduceIte, Nat.reduceEqDiff, reduceCtorEq, Nat.reduceAdd, Nat.reduceMul, Nat.reduceLeDiff, zc, Int.reduceToNat, s0, tiSt, tiBy, kLen_sB, eq_false h0, eq_false h9, eq_false h1]
  refine WK_for (fun k st => st.sl 0 = sB w ∧ st.sl 4 = i64 (k : Int) ∧ st.sl 3 = i64 ((fo (w.take k) : Nat) : Int) ∧ (∀ j, j < k → dgP (byA w j))) w.length ?_ ?_ ?_
  ·simp only [↓za, ↓reduceIte, Nat.reduceEqDiff, zb, reduceCtorEq, rws_zero, s0]
   exact ⟨rfl, rfl, fun j hj => absurd hj (Nat.not_lt_zero j)⟩
  ·rintro k sl ro gn hk ⟨s0, s4, s3, q⟩
   dsimp only at s0 s4 s3
   have hk' : (k : Int) < (w.length : Nat) := by omega
   have hall : ∀ b, b ∈ w.take k → dgP b := by
    intro b hb
    obtain ⟨j, hj, e⟩ := List.mem_iff_getElem.1 hb
    rw [List.length_take] at hj
    have := q j (by omega)
    have e2 : byA w j = b := by
     have h1 := byA_get (l := w) (k := j) (by omega)
     rw [List.getElem_take] at e
     rw [List.getElem?_eq_getElem (by omega), e] at h1
     simpa using h1.symm
    rwa [e2] at this
   have fb : fo (w.take k) < 100000000 := Nat.lt_of_lt_of_le (fo_lt k _ (by rw [List.length_take]; omega) hall) (Nat.le_trans (Nat.pow_le_pow_right (by decide) (show k ≤ 8 by omega)) (by decide))
   have hb8 : (byA w k).toNat < 256 := (byA w k).toNat_lt
   by_cases hd : dgP (byA w k)
   ·unfold dgP at hd
    have f1 : ¬ ((byA w k).toNat : Int) < 48 := by omega
    have f2 : ¬ (57 : Int) < (byA w k).toNat := by omega
    have f3 : (48 : Int) ≤ (byA w k).toNat := by omega
    have f4 : ((byA w k).toNat : Int) < 256 := by omega
    have f5 : wrF (((byA w k).toNat : Int) - 48) = ((byA w k).toNat : Int) - 48 := zfu (by omega) (by omega)
    have f6 : wrF (((fo (w.take k) : Nat) : Int) * 10) = ((fo (w.take k) : Nat) : Int) * 10 := zfu (by omega) (by omega)
    simp (maxSteps := 10000000) (disch := first | assumption | omega) only [go_sem, ↓reduceIte, Nat.reduceEqDiff, reduceCtorEq, Nat.reduceAdd, Nat.reduceMul, Nat.reduceLeDiff, zc, Int.reduceToNat, s0, s4, s3, hk', hk, tiSt, tiBy, kLen_sB, opK_index, kSt_at hk, kB_lt8, kB_gt8, eq_false f1, eq_false f2, kB_sub8 f3 (by decide) f4, kConv_8i, f5, f6]
    refine ⟨i64c (by omega), i64c ?_, fun j hj => ?_⟩
    ·rw [take_byA hk, fo_snoc]
     omega
    ·rcases Nat.lt_or_eq_of_le (Nat.le_of_lt_succ hj) with h | h
     ·exact q j h
     ·rw [h]; exact hd
   ·have hv := val_neg (w := w) fun h => hd (h.2 _ (byA_mem hk))
    unfold dgP at hd
    by_cases f1 : ((byA w k).toNat : Int) < 48
    ·simp (maxSteps := 10000000) (disch := first | assumption | omega) only [go_sem, ↓reduceIte, Nat.reduceEqDiff, reduceCtorEq, Nat.reduceAdd, Nat.reduceMul, Nat.reduceLeDiff, zc, Int.reduceToNat, s0, s4, s3, hk', hk, tiSt, tiBy, kLen_sB, opK_index, kSt_at hk, kB_lt8, kB_gt8, eq_true f1]
     rw [hv]
     simp only [zr, zb, retR, resL, outT, outL, zes, zez, oneV, zcp, zed, zfi, Ro.dl, St.ev, zhk, ↓za, ↓reduceIte, Nat.reduceEqDiff, Nat.reduceAdd, Nat.reduceLeDiff]
    ·have f2 : (57 : Int) < (byA w k).toNat := by omega
     simp (maxSteps := 10000000) (disch := first | assumption | omega) only [go_sem, ↓reduceIte, Nat.reduceEqDiff, reduceCtorEq, Nat.reduceAdd, Nat.reduceMul, Nat.reduceLeDiff, zc, Int.reduceToNat, s0, s4, s3, hk', hk, tiSt, tiBy, kLen_sB, opK_index, kSt_at hk, kB_lt8, kB_gt8, eq_false f1, eq_true f2]
     rw [hv]
     simp only [zr, zb, retR, resL, outT, outL, zes, zez, oneV, zcp, zed, zfi, Ro.dl, St.ev, zhk, ↓za, ↓reduceIte, Nat.reduceEqDiff, Nat.reduceAdd, Nat.reduceLeDiff]
  ·rintro sl ro gn ⟨s0, s4, s3, q⟩
   dsimp only at s0 s4 s3
   have hk' : ¬ ((w.length : Nat) : Int) < (w.length : Nat) := by omega
   have hall : ∀ b, b ∈ w → dgP b := by
    intro b hb
    obtain ⟨j, hj, e⟩ := List.mem_iff_getElem.1 hb
    have := q j hj
    have e2 : byA w j = b := by
     have h1 := byA_get (l := w) (k := j) hj
     rw [List.getElem?_eq_getElem hj, e] at h1
     simpa using h1.symm
    rwa [e2] at this
   have hv : val w = (fo w : Nat) := by unfold val; rw [if_pos ⟨hsh, hall⟩]
   rw [List.take_length] at s3
   simp (maxSteps := 10000000) (disch := first | assumption | omega) only [go_sem, ↓reduceIte, Nat.reduceEqDiff, reduceCtorEq, Nat.reduceAdd, Nat.reduceMul, Nat.reduceLeDiff, zc, Int.reduceToNat, s0, s4, s3, hk', tiSt, tiBy, kLen_sB]
   rw [hv]
   simp only [zr, zb, retR, resL, outT, outL, zes, zez, oneV, zcp, zed, zfi, Ro.dl, St.ev, zhk, ↓za, ↓reduceIte, Nat.reduceEqDiff, Nat.reduceAdd, Nat.reduceLeDiff]
end Go.Proofs.YteaaangdibabnaaDoor
/- Texts: the library's Split and ParseInt at this program; the program's reading of numerals. -/
namespace Go.Proofs.YteaaangdibabnaaDoor
open Go.RowKit
set_option maxRecDepth 1000000
def laysSplit_ren : Go.Shelf.Ren := ⟨fun | 146 => 12 | 221 => 22 | 268 => 32 | 138 => 33 | 143 => 34 | 195 => 47 | 197 => 48 | 218 => 49 | 219 => 50 | 260 => 61 | 217 => 62 | 225 => 63 | 224 => 64 | 267 => 65 | 266 => 73 | 314 => 74 | n => n, fun | 9 => 9 | 31 => 30 | 3 => 3 | 4 => 4 | 0 => 0 | 105 => 69 | 21 => 21 | 5 => 5 | 46 => 81 | 119 => 90 | 139 => 93 | 138 => 92 | 146 => 95 | 51 => 94 | n => n, fun | 1 => 0 | 3 => 1 | 4 => 2 | n => n⟩
theorem laysSplit : Lays.n146 Tryd.prog laysSplit_ren where
 mixed := by kernel_rfl
 f138 := Tryd.func33.trans (congrArg some (by kernel_rfl))
 f143 := Tryd.func34.trans (congrArg some (by kernel_rfl))
 f146 := Tryd.func12.trans (congrArg some (by kernel_rfl))
 f195 := Tryd.func47.trans (congrArg some (by kernel_rfl))
 f197 := Tryd.func48.trans (congrArg some (by kernel_rfl))
 f217 := Tryd.func62.trans (congrArg some (by kernel_rfl))
 f218 := Tryd.func49.trans (congrArg some (by kernel_rfl))
 f219 := Tryd.func50.trans (congrArg some (by kernel_rfl))
 f221 := Tryd.func22.trans (congrArg some (by kernel_rfl))
 f224 := Tryd.func64.trans (congrArg some (by kernel_rfl))
 f225 := Tryd.func63.trans (congrArg some (by kernel_rfl))
 f260 := Tryd.func61.trans (congrArg some (by kernel_rfl))
 f266 := Tryd.func73.trans (congrArg some (by kernel_rfl))
 f267 := Tryd.func65.trans (congrArg some (by kernel_rfl))
 f268 := Tryd.func32.trans (congrArg some (by kernel_rfl))
 f314 := Tryd.func74.trans (congrArg some (by kernel_rfl))
 t0 := Tryd.underlying0
 a0 := Tryd.isAgg0
 z0 := Tryd.sizeOf0
 v0 := Tryd.zeroValue0
 t3 := Tryd.underlying3
 a3 := Tryd.isAgg3
 z3 := Tryd.sizeOf3
 v3 := Tryd.zeroValue3
 t4 := Tryd.underlying4
 a4 := Tryd.isAgg4
 z4 := Tryd.sizeOf4
 v4 := Tryd.zeroValue4
 t5 := Tryd.underlying5
 a5 := Tryd.isAgg5
 z5 := Tryd.sizeOf5
 v5 := Tryd.zeroValue5
 t9 := Tryd.underlying9
 a9 := Tryd.isAgg9
 z9 := Tryd.sizeOf9
 v9 := Tryd.zeroValue9
 t21 := Tryd.underlying21
 a21 := Tryd.isAgg21
 z21 := Tryd.sizeOf21
 v21 := Tryd.zeroValue21
 t31 := Tryd.underlying30
 a31 := Tryd.isAgg30
 z31 := Tryd.sizeOf30
 v31 := Tryd.zeroValue30
 t46 := Tryd.underlying81
 a46 := Tryd.isAgg81
 z46 := Tryd.sizeOf81
 v46 := Tryd.zeroValue81
 t51 := Tryd.underlying94
 a51 := Tryd.isAgg94
 z51 := Tryd.sizeOf94
 v51 := Tryd.zeroValue94
 t105 := Tryd.underlying69
 a105 := Tryd.isAgg69
 z105 := Tryd.sizeOf69
 v105 := Tryd.zeroValue69
 t119 := Tryd.underlying90
 a119 := Tryd.isAgg90
 z119 := Tryd.sizeOf90
 t138 := Tryd.underlying92
 a138 := Tryd.isAgg92
 z138 := Tryd.sizeOf92
 v138 := Tryd.zeroValue92
 t139 := Tryd.underlying93
 a139 := Tryd.isAgg93
 z139 := Tryd.sizeOf93
 v139 := Tryd.zeroValue93
 t146 := Tryd.underlying95
 a146 := Tryd.isAgg95
 z146 := Tryd.sizeOf95
 v146 := Tryd.zeroValue95
 g1 := by kernel_rfl
 g3 := by kernel_rfl
 g4 := by kernel_rfl
def laysPI_ren : Go.Shelf.Ren := ⟨fun | 174 => 35 | 247 => 51 | 245 => 52 | 287 => 66 | 279 => 67 | 280 => 68 | 281 => 69 | 282 => 70 | 321 => 75 | 322 => 76 | 316 => 77 | 171 => 79 | 205 => 78 | 243 => 84 | 246 => 71 | 283 => 80 | 284 => 81 | 285 => 82 | 286 => 83 | 129 => 86 | 317 => 85 | 318 => 87 | 319 => 88 | 320 => 89 | 337 => 90 | 338 => 91 | n => n, fun | 9 => 9 | 3 => 3 | 2 => 2 | 75 => 59 | 85 => 60 | 4 => 4 | 167 => 82 | 5 => 5 | 53 => 83 | 175 => 84 | 46 => 81 | 168 => 86 | 37 => 98 | 0 => 0 | 210 => 101 | 21 => 21 | 127 => 109 | 145 => 112 | 143 => 110 | 171 => 104 | 173 => 107 | 212 => 114 | 51 => 94 | 20 => 20 | 213 => 115 | 232 => 119 | 233 => 120 | 80 => 123 | n => n, fun | 15 => 3 | 16 => 4 | 17 => 5 | 18 => 6 | 19 => 7 | n => n⟩
theorem laysPI : LaysC.n174 Tryd.prog laysPI_ren where
 mixed := by kernel_rfl
 f129 := Tryd.func86.trans (congrArg some (by kernel_rfl))
 f171 := Tryd.func79.trans (congrArg some (by kernel_rfl))
 f174 := Tryd.func35.trans (congrArg some (by kernel_rfl))
 f205 := Tryd.func78.trans (congrArg some (by kernel_rfl))
 f243 := Tryd.func84.trans (congrArg some (by kernel_rfl))
 f245 := Tryd.func52.trans (congrArg some (by kernel_rfl))
 f246 := Tryd.func71.trans (congrArg some (by kernel_rfl))
 f247 := Tryd.func51.trans (congrArg some (by kernel_rfl))
 f279 := Tryd.func67.trans (congrArg some (by kernel_rfl))
 f280 := Tryd.func68.trans (congrArg some (by kernel_rfl))
 f281 := Tryd.func69.trans (congrArg some (by kernel_rfl))
 f282 := Tryd.func70.trans (congrArg some (by kernel_rfl))
 f283 := Tryd.func80.trans (congrArg some (by kernel_rfl))
 f284 := Tryd.func81.trans (congrArg some (by kernel_rfl))
 f285 := Tryd.func82.trans (congrArg some (by kernel_rfl))
 f286 := Tryd.func83.trans (congrArg some (by kernel_rfl))
 f287 := Tryd.func66.trans (congrArg some (by kernel_rfl))
 f316 := Tryd.func77.trans (congrArg some (by kernel_rfl))
 f317 := Tryd.func85.trans (congrArg some (by kernel_rfl))
 f318 := Tryd.func87.trans (congrArg some (by kernel_rfl))
 f319 := Tryd.func88.trans (congrArg some (by kernel_rfl))
 f320 := Tryd.func89.trans (congrArg some (by kernel_rfl))
 f321 := Tryd.func75.trans (congrArg some (by kernel_rfl))
 f322 := Tryd.func76.trans (congrArg some (by kernel_rfl))
 f337 := Tryd.func90.trans (congrArg some (by kernel_rfl))
 f338 := Tryd.func91.trans (congrArg some (by kernel_rfl))
 t0 := Tryd.underlying0
 a0 := Tryd.isAgg0
 z0 := Tryd.sizeOf0
 v0 := Tryd.zeroValue0
 t2 := Tryd.underlying2
 a2 := Tryd.isAgg2
 z2 := Tryd.sizeOf2
 v2 := Tryd.zeroValue2
 t3 := Tryd.underlying3
 a3 := Tryd.isAgg3
 z3 := Tryd.sizeOf3
 v3 := Tryd.zeroValue3
 t4 := Tryd.underlying4
 a4 := Tryd.isAgg4
 z4 := Tryd.sizeOf4
 v4 := Tryd.zeroValue4
 t5 := Tryd.underlying5
 a5 := Tryd.isAgg5
 z5 := Tryd.sizeOf5
 v5 := Tryd.zeroValue5
 t9 := Tryd.underlying9
 a9 := Tryd.isAgg9
 z9 := Tryd.sizeOf9
 v9 := Tryd.zeroValue9
 t20 := Tryd.underlying20
 a20 := Tryd.isAgg20
 z20 := Tryd.sizeOf20
 v20 := Tryd.zeroValue20
 t21 := Tryd.underlying21
 a21 := Tryd.isAgg21
 z21 := Tryd.sizeOf21
 v21 := Tryd.zeroValue21
 t37 := Tryd.underlying98
 a37 := Tryd.isAgg98
 z37 := Tryd.sizeOf98
 v37 := Tryd.zeroValue98
 t46 := Tryd.underlying81
 a46 := Tryd.isAgg81
 z46 := Tryd.sizeOf81
 v46 := Tryd.zeroValue81
 t51 := Tryd.underlying94
 a51 := Tryd.isAgg94
 z51 := Tryd.sizeOf94
 v51 := Tryd.zeroValue94
 t53 := Tryd.underlying83
 a53 := Tryd.isAgg83
 z53 := Tryd.sizeOf83
 v53 := Tryd.zeroValue83
 t75 := Tryd.underlying59
 a75 := Tryd.isAgg59
 z75 := Tryd.sizeOf59
 v75 := Tryd.zeroValue59
 t85 := Tryd.underlying60
 a85 := Tryd.isAgg60
 z85 := Tryd.sizeOf60
 v85 := Tryd.zeroValue60
 t127 := Tryd.underlying109
 a127 := Tryd.isAgg109
 z127 := Tryd.sizeOf109
 v127 := Tryd.zeroValue109
 t143 := Tryd.underlying110
 a143 := Tryd.isAgg110
 z143 := Tryd.sizeOf110
 v143 := Tryd.zeroValue110
 t145 := Tryd.underlying112
 a145 := Tryd.isAgg112
 z145 := Tryd.sizeOf112
 v145 := Tryd.zeroValue112
 t167 := Tryd.underlying82
 a167 := Tryd.isAgg82
 z167 := Tryd.sizeOf82
 v167 := Tryd.zeroValue82
 t168 := Tryd.underlying86
 a168 := Tryd.isAgg86
 z168 := Tryd.sizeOf86
 v168 := Tryd.zeroValue86
 t171 := Tryd.underlying104
 a171 := Tryd.isAgg104
 z171 := Tryd.sizeOf104
 v171 := Tryd.zeroValue104
 t173 := Tryd.underlying107
 a173 := Tryd.isAgg107
 z173 := Tryd.sizeOf107
 v173 := Tryd.zeroValue107
 t175 := Tryd.underlying84
 a175 := Tryd.isAgg84
 z175 := Tryd.sizeOf84
 v175 := Tryd.zeroValue84
 t210 := Tryd.underlying101
 a210 := Tryd.isAgg101
 z210 := Tryd.sizeOf101
 v210 := Tryd.zeroValue101
 t212 := Tryd.underlying114
 a212 := Tryd.isAgg114
 z212 := Tryd.sizeOf114
 v212 := Tryd.zeroValue114
 t213 := Tryd.underlying115
 a213 := Tryd.isAgg115
 z213 := Tryd.sizeOf115
 t232 := Tryd.underlying119
 a232 := Tryd.isAgg119
 z232 := Tryd.sizeOf119
 v232 := Tryd.zeroValue119
 t233 := Tryd.underlying120
 a233 := Tryd.isAgg120
 z233 := Tryd.sizeOf120
 v233 := Tryd.zeroValue120
 g15 := by kernel_rfl
 g16 := by kernel_rfl
 g17 := by kernel_rfl
 g18 := by kernel_rfl
 g19 := by kernel_rfl
 t80 := Tryd.underlying123
 a80 := Tryd.isAgg123
 z80 := Tryd.sizeOf123
 v80 := Tryd.zeroValue123
 i0 := by kernel_rfl
 i2 := by kernel_rfl
 i3 := by kernel_rfl
 i4 := by kernel_rfl
 i5 := by kernel_rfl
 i9 := by kernel_rfl
 i20 := by kernel_rfl
 i21 := by kernel_rfl
 i37 := by kernel_rfl
 i46 := by kernel_rfl
 i51 := by kernel_rfl
 i53 := by kernel_rfl
 i75 := by kernel_rfl
 i80 := by kernel_rfl
 i85 := by kernel_rfl
 i127 := by kernel_rfl
 i143 := by kernel_rfl
 i145 := by kernel_rfl
 i167 := by kernel_rfl
 i168 := by kernel_rfl
 i171 := by kernel_rfl
 i173 := by kernel_rfl
 i175 := by kernel_rfl
 i210 := by kernel_rfl
 i212 := by kernel_rfl
 i232 := by kernel_rfl
 i233 := by kernel_rfl
 m15 := by kernel_rfl
 m16 := by kernel_rfl
 m17 := by kernel_rfl
 m18 := by kernel_rfl
 m19 := by kernel_rfl
 c0 := by kernel_rfl
 c2 := by kernel_rfl
 c3 := by kernel_rfl
 c4 := by kernel_rfl
 c5 := by kernel_rfl
 c9 := by kernel_rfl
 c20 := by kernel_rfl
 c21 := by kernel_rfl
 c37 := by kernel_rfl
 c46 := by kernel_rfl
 c51 := by kernel_rfl
 c53 := by kernel_rfl
 c75 := by kernel_rfl
 c80 := by kernel_rfl
 c85 := by kernel_rfl
 c127 := by kernel_rfl
 c143 := by kernel_rfl
 c145 := by kernel_rfl
 c167 := by kernel_rfl
 c168 := by kernel_rfl
 c171 := by kernel_rfl
 c173 := by kernel_rfl
 c175 := by kernel_rfl
 c210 := by kernel_rfl
 c212 := by kernel_rfl
 c213 := by kernel_rfl
 c232 := by kernel_rfl
 c233 := by kernel_rfl
theorem Gd.cell {w : World} (h : Gd w) {g : Nat} {v : Value} {wI : World} (hb : Blw wI w []) (hc : wI.cell? ⟨g, 0, none⟩ = some v) : w.cell? ⟨g, 0, none⟩ = some v := by
 have hl : g < wI.heap.size := World.block_lt_of_cell? _ _ hc
 rw [← hc]
 unfold World.cell?
 rw [hb.block g hl (by simp)]
theorem maxl_of {w : World} (h : Gd w) : ∃ m, w.cell? ⟨0, 0, none⟩ = some (.int .i64 m) := by
 have h0 := h
 obtain ⟨wI, hI, hb⟩ := h
 obtain ⟨m, hm⟩ := hI.maxl
 exact ⟨m, h0.cell hb hm⟩
theorem es_of {w : World} (h : Gd w) : ∃ v, w.cell? ⟨3, 0, none⟩ = some v ∧ (v = .nilIface ∨ ∃ t p, v = .iface t p) := by
 have h0 := h
 obtain ⟨wI, hI, hb⟩ := h
 obtain ⟨m, hm, he⟩ := hI.es
 exact ⟨m, h0.cell hb hm, he⟩
theorem er_of {w : World} (h : Gd w) : ∃ v, w.cell? ⟨4, 0, none⟩ = some v ∧ (v = .nilIface ∨ ∃ t p, v = .iface t p) := by
 have h0 := h
 obtain ⟨wI, hI, hb⟩ := h
 obtain ⟨m, hm, he⟩ := hI.er
 exact ⟨m, h0.cell hb hm, he⟩
theorem relS (c : Cx) : ∀ ws : List (List UInt8), RelL c (ws.map sB) (ws.map fun l => Value.string ⟨l.toArray⟩) []
 | [] => .nil
 | l :: ws => .sc _ (relS c ws)
theorem cSplit {l : List UInt8} {c : UInt8} (hl : l.length ≤ 4000000000) : CallOK Tryd.prog 12 [sB l, sB [c]] (rowS (spl c l)) := by
 refine ⟨⟨_, Tryd.func12, by kernel_rfl, by kernel_rfl⟩, noRef_rowS _, fun w A vs hv hA hG => ?_⟩
 obtain ⟨v, vs', rfl, h2, h3⟩ := RelL.uncons0 hv
 obtain ⟨v', vs'', rfl, h4, h5⟩ := RelL.uncons0 h3
 obtain rfl := (RelL.nilF h5).1
 obtain ⟨rfl, -⟩ := Rel.sc_inv h2
 obtain ⟨rfl, -⟩ := Rel.sc_inv h4
 obtain ⟨m, hm⟩ := maxl_of hG
 have e1 : (⟨l.toArray⟩ : ByteArray).size = l.length := by simp [ByteArray.size]
 have e2 : (⟨[c].toArray⟩ : ByteArray).size = 1 := rfl
 have hS : Lib.splitB ⟨[c].toArray⟩ 0 (Lib.countB ⟨l.toArray⟩ ⟨[c].toArray⟩) ⟨l.toArray⟩ = (spl c l).map fun x => (⟨x.toArray⟩ : ByteArray) := by
  have h := Lib.splitB_data ⟨[c].toArray⟩ 0 (Lib.countB ⟨l.toArray⟩ ⟨[c].toArray⟩) ⟨l.toArray⟩
  have h' : (Lib.splitB ⟨[c].toArray⟩ 0 (Lib.countB ⟨l.toArray⟩ ⟨[c].toArray⟩) ⟨l.toArray⟩).map (·.data.toList) = spl c l := by
   rw [h]
   exact split_spl c _ l (Nat.le_refl _)
  rw [← h', List.map_map]
  conv => lhs; rw [← List.map_id (Lib.splitB ⟨[c].toArray⟩ 0 (Lib.countB ⟨l.toArray⟩ ⟨[c].toArray⟩) ⟨l.toArray⟩)]
  exact List.map_congr_left fun x _ => by cases x; simp
 have hn : Lib.countB ⟨l.toArray⟩ ⟨[c].toArray⟩ + 1 = (spl c l).length := by
  have := Lib.splitB_all ⟨[c].toArray⟩ (by rw [e2]; exact Nat.le_refl _) 0 _ ⟨l.toArray⟩ rfl
  rw [hS, List.length_map] at this
  exact this.symm
 refine (Any.strings_Split laysSplit (by kernel_rfl) ⟨l.toArray⟩ ⟨[c].toArray⟩ m w (by rw [e1]; omega) hm (by rw [e2]; exact Nat.le_refl _)).mono ?_
 rintro e w' ⟨rfl, rfl⟩
 rw [hS, hn, List.map_map]
 have hlen := spl_len c l
 refine ⟨_, fun b => A b ∨ b = w.heap.size, [w.heap.size], rfl, ?_, fun _ h => .inl h, fun x hx => ?_, ?_⟩
 ·have hmk := Rel.mk_row (c := cx0 (w.alloc (.cells ((spl c l).map (Value.string ∘ fun x => (⟨x.toArray⟩ : ByteArray))).toArray (laysSplit_ren.t 9))) (fun b => A b ∨ b = w.heap.size)) w.heap.size 0 (spl c l).length (us := (spl c l).map fun l => Value.string ⟨l.toArray⟩) (relS _ _)
   ⟨_, _, heap_alloc_new w _, by rw [List.size_toArray, List.length_map]; omega, by rw [List.length_map]; exact Nat.le_refl _, by unfold maxLen; omega, fun i u hu => by rw [Nat.zero_add, List.getElem?_toArray]; exact hu⟩ (by simp)
  rw [List.length_map] at hmk
  exact hmk
 ·simp only [List.mem_singleton] at hx
  subst hx
  exact ⟨.inr rfl, Nat.le_refl _⟩
 ·exact ⟨rfl, rfl, rfl, by simp, fun k hk _ => heap_alloc_old w _ hk⟩
theorem cDcA {n : Int} (h0 : -9223372036854775808 ≤ n) (h1 : n ≤ 9223372036854775807) : CallOK Tryd.prog 36 [i64 n] (sB (Lib.itoa n)) := by
 have c := cFmt h0 h1
 refine call_of (fn := Tryd.f36) (code := bodyOf Tryd.f36) Tryd.func36 rfl (by kernel_rfl) (rfl) ?_
 intro sl hs
 have s0 : sl 0 = i64 n := hs 0
 dsimp only [Tryd.f36, bodyOf, Option.getD]
 simp (maxSteps := 10000000) (disch := first | assumption | omega) only [go_sem, ↓reduceIte, Nat.reduceEqDiff, reduceCtorEq, Nat.reduceAdd, Nat.reduceMul, Nat.reduceLeDiff, zc, Int.reduceToNat, s0]
 refine CLL_pure _ c rfl rfl rfl ?_
 simp (maxSteps := 10000000) (disch := first | assumption | omega) only [go_sem, ↓reduceIte, Nat.reduceEqDiff, reduceCtorEq, Nat.reduceAdd, Nat.reduceMul, Nat.reduceLeDiff, zc, Int.reduceToNat, s0]
 simp only [zr, zb, retR, resL, outT, outL, zes, zez, oneV, zcp, zed, zfi, Ro.dl, St.ev, zhk, ↓za, ↓reduceIte, Nat.reduceEqDiff, Nat.reduceAdd, Nat.reduceLeDiff]
theorem calls_dec {n : Int} (h0 : -9223372036854775808 ≤ n) (h1 : n ≤ 9223372036854775807) {w : World} (hG : Gd w) : Calls Tryd.prog 36 #[.int .i64 n] w fun e w' => e = .returned (.string ⟨(Lib.itoa n).toArray⟩) ∧ Below w.heap.size w w' := by
 refine ((cDcA h0 h1).2.2 w (fun _ => False) [.int .i64 n] (.sc _ .nil) (fun _ h => h.elim) hG).mono ?_
 rintro e w' ⟨v, A', F', rfl, k1, _, _, k4⟩
 obtain ⟨k2, _⟩ := Rel.sc_inv k1
 exact ⟨by rw [k2], ⟨k4.os, k4.tape, k4.output, k4.size, fun k hk => k4.block k hk (by simp)⟩⟩
theorem blw_of {w w' : World} (h : Below w.heap.size w w') : Blw w w' [] := ⟨h.os, h.tape, h.output, h.size, fun k hk _ => h.block k hk⟩
def piN (w : List UInt8) : Int := match Lib.parseIntB 64 w with
 | .ok v => v
 | .range => Lib.intSat 64 w
 | _ => 0
theorem calls_rd {l : List UInt8} (hl : l.length ≤ 4000000000) {w : World} (hG : Gd w) : Calls Tryd.prog 23 #[.string ⟨l.toArray⟩] w fun e w' => e = .returned (.tuple #[.int .i64 (piN l), .bool (rdv l).isSome]) ∧ Below w.heap.size w w' := by
 have e1 : (⟨l.toArray⟩ : ByteArray).size = l.length := by simp [ByteArray.size]
 have e2 : (⟨l.toArray⟩ : ByteArray).data.toList = l := by simp
 cases h : Lib.parseIntB 64 l with
 | ok v =>
  have hb0 := Lib.parseIntB_bounds h
  have hr : piN l = v := by unfold piN; rw [h]
  have hr2 : (rdv l).isSome = decide (Lib.itoa v = l) := by
   unfold rdv; rw [h]
   by_cases e : Lib.itoa v = l
   ·simp only [e, if_true, decide_true, Option.isSome_some]
   ·simp only [e, if_false, decide_false, Option.isSome_none]
  rw [hr, hr2]
  have hc : Calls Tryd.prog 35 #[.string ⟨l.toArray⟩, .int .i64 10, .int .i64 64] w fun e w' => e = .returned (.tuple #[.int .i64 v, .nilIface]) ∧ Below w.heap.size w w' :=
   (Any.strconv_ParseInt_10_at64_ok laysPI ⟨l.toArray⟩ (by rw [e1]; omega) v (by rw [e2]; exact h) w).mono fun e w' ⟨he, hw⟩ => ⟨he, by
    rcases hw with rfl | ⟨t, rfl⟩
    ·exact Below.refl _ _
    ·exact Lib.bytesWorld_below _ _ _⟩
  have hd : ∀ W, Below w.heap.size w W → Calls Tryd.prog 36 #[.int .i64 v] W fun e W' => e = .returned (.string ⟨(Lib.itoa v).toArray⟩) ∧ Below W.heap.size W W' := fun W hb => calls_dec (by omega) (by omega) (hG.next (blw_of hb))
  clear e1 e2 h hr hr2 hG hb0
  go_enter Tryd.func23, Tryd.ntmps23
  go_wp2_with (first | (go_at_call 35; refine hc.mono ?_; rintro e W1 ⟨rfl, hb⟩) | (go_at_call 36; refine (hd _ hb).mono ?_; rintro e W2 ⟨rfl, hb2⟩))
  go_ret2
  have eb : (Lib.itoa v == l) = decide (Lib.itoa v = l) := by
   by_cases e : Lib.itoa v = l
   ·rw [decide_eq_true e, e]; simp
   ·rw [decide_eq_false e]; exact beq_eq_false_iff_ne.2 e
  rw [← eb]
  exact ⟨rfl, hb.trans (hb2.mono hb.size)⟩
 | range =>
  obtain ⟨ev, hv, hev⟩ := er_of hG
  have hr : piN l = Lib.intSat 64 l := by unfold piN; rw [h]
  have hr2 : rdv l = none := by unfold rdv; rw [h]
  rw [hr, hr2]
  have hc := Any.strconv_ParseInt_10_at64_range laysPI ⟨l.toArray⟩ (by rw [e1]; omega) (by rw [e2]; exact h) ev w hv hev
  rw [e2] at hc
  clear e1 e2 h hr hr2 hv hev hG
  go_enter Tryd.func23, Tryd.ntmps23
  go_wp2_with (go_at_call 35; refine hc.mono ?_; rintro e W1 ⟨N, rfl, -, -, hb⟩)
  go_ret2
  exact ⟨rfl, hb⟩
 | _ =>
  obtain ⟨ev, hv, hev⟩ := es_of hG
  have hr : piN l = 0 := by unfold piN; rw [h]
  have hr2 : rdv l = none := by unfold rdv; rw [h]
  rw [hr, hr2]
  have hc := Any.strconv_ParseInt_10_at64_syntax laysPI ⟨l.toArray⟩ (by rw [e1]; omega) (by rw [e2]; exact h) ev w hv hev
  clear e1 e2 h hr hr2 hv hev hG
  go_enter Tryd.func23, Tryd.ntmps23
  go_wp2_with (go_at_call 35; refine hc.mono ?_; rintro e W1 ⟨N, rfl, -, -, hb⟩)
  go_ret2
  exact ⟨rfl, hb⟩
theorem cRd {l : List UInt8} (hl : l.length ≤ 4000000000) : CallOK Tryd.prog 23 [sB l] (.tup [i64 (piN l), bo (rdv l).isSome]) := by
 refine ⟨⟨_, Tryd.func23, by kernel_rfl, by kernel_rfl⟩, rfl, fun w A vs hv hA hG => ?_⟩
 obtain ⟨v, vs', rfl, h2, h3⟩ := RelL.uncons0 hv
 obtain rfl := (RelL.nilF h3).1
 obtain ⟨rfl, -⟩ := Rel.sc_inv h2
 refine (calls_rd hl hG).mono ?_
 rintro e w' ⟨rfl, hb⟩
 exact ⟨_, A, [], rfl, .tup (.sc _ (.sc _ .nil)) (by simp) .nil, fun _ h => h, (fun _ h => by cases h), blw_of hb⟩
end Go.Proofs.YteaaangdibabnaaDoor
