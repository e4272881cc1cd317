/- Texts joined: U1 U2 U3 U4. -/
import Derived.Shelf.Strconv.Itoa4
import Derived.Shelf.Strings.OnBuilder
import Derived.Test.YteaaangdibabnaaGreatDoorMi
set_option linter.all false
/- Texts: what the library's contracts say of FormatInt and Join at this program; strings in the machine; decimal numerals. -/
namespace Go.Proofs.YteaaangdibabnaaGreatDoor
open Go.RowKit
set_option maxRecDepth 1000000
def laysFmt_ren : Go.Shelf.Ren := ⟨fun | 173 => 99 | 246 => 130 | 283 => 145 | 284 => 146 | 285 => 147 | 286 => 148 | 129 => 155 | 317 => 154 | 318 => 156 | 319 => 157 | 320 => 158 | 337 => 160 | 338 => 161 | n => n, fun | 2 => 2 | 3 => 3 | 9 => 9 | 4 => 4 | 171 => 146 | 0 => 0 | 53 => 137 | 37 => 80 | 5 => 5 | 173 => 149 | 212 => 161 | 51 => 133 | 20 => 20 | 213 => 162 | 46 => 116 | 232 => 169 | 233 => 170 | n => n, fun | 17 => 5 | 18 => 6 | 19 => 7 | n => n⟩
theorem laysFmt : LaysM.n173 Tryz.prog laysFmt_ren where
 mixed := by kernel_rfl
 f129 := Tryz.func155.trans (congrArg some (by kernel_rfl))
 f173 := Tryz.func99.trans (congrArg some (by kernel_rfl))
 f246 := Tryz.func130.trans (congrArg some (by kernel_rfl))
 f283 := Tryz.func145.trans (congrArg some (by kernel_rfl))
 f284 := Tryz.func146.trans (congrArg some (by kernel_rfl))
 f285 := Tryz.func147.trans (congrArg some (by kernel_rfl))
 f286 := Tryz.func148.trans (congrArg some (by kernel_rfl))
 f317 := Tryz.func154.trans (congrArg some (by kernel_rfl))
 f318 := Tryz.func156.trans (congrArg some (by kernel_rfl))
 f319 := Tryz.func157.trans (congrArg some (by kernel_rfl))
 f320 := Tryz.func158.trans (congrArg some (by kernel_rfl))
 f337 := Tryz.func160.trans (congrArg some (by kernel_rfl))
 f338 := Tryz.func161.trans (congrArg some (by kernel_rfl))
 t0 := Tryz.underlying0
 a0 := Tryz.isAgg0
 z0 := Tryz.sizeOf0
 v0 := Tryz.zeroValue0
 t2 := Tryz.underlying2
 a2 := Tryz.isAgg2
 z2 := Tryz.sizeOf2
 v2 := Tryz.zeroValue2
 t3 := Tryz.underlying3
 a3 := Tryz.isAgg3
 z3 := Tryz.sizeOf3
 v3 := Tryz.zeroValue3
 t4 := Tryz.underlying4
 a4 := Tryz.isAgg4
 z4 := Tryz.sizeOf4
 v4 := Tryz.zeroValue4
 t5 := Tryz.underlying5
 a5 := Tryz.isAgg5
 z5 := Tryz.sizeOf5
 v5 := Tryz.zeroValue5
 t9 := Tryz.underlying9
 a9 := Tryz.isAgg9
 z9 := Tryz.sizeOf9
 v9 := Tryz.zeroValue9
 t20 := Tryz.underlying20
 a20 := Tryz.isAgg20
 z20 := Tryz.sizeOf20
 v20 := Tryz.zeroValue20
 t37 := Tryz.underlying80
 a37 := Tryz.isAgg80
 z37 := Tryz.sizeOf80
 v37 := Tryz.zeroValue80
 t46 := Tryz.underlying116
 a46 := Tryz.isAgg116
 z46 := Tryz.sizeOf116
 v46 := Tryz.zeroValue116
 t51 := Tryz.underlying133
 a51 := Tryz.isAgg133
 z51 := Tryz.sizeOf133
 v51 := Tryz.zeroValue133
 t53 := Tryz.underlying137
 a53 := Tryz.isAgg137
 z53 := Tryz.sizeOf137
 v53 := Tryz.zeroValue137
 t171 := Tryz.underlying146
 a171 := Tryz.isAgg146
 z171 := Tryz.sizeOf146
 v171 := Tryz.zeroValue146
 t173 := Tryz.underlying149
 a173 := Tryz.isAgg149
 z173 := Tryz.sizeOf149
 v173 := Tryz.zeroValue149
 t212 := Tryz.underlying161
 a212 := Tryz.isAgg161
 z212 := Tryz.sizeOf161
 v212 := Tryz.zeroValue161
 t213 := Tryz.underlying162
 a213 := Tryz.isAgg162
 z213 := Tryz.sizeOf162
 t232 := Tryz.underlying169
 a232 := Tryz.isAgg169
 z232 := Tryz.sizeOf169
 v232 := Tryz.zeroValue169
 t233 := Tryz.underlying170
 a233 := Tryz.isAgg170
 z233 := Tryz.sizeOf170
 v233 := Tryz.zeroValue170
 g17 := by kernel_rfl
 g18 := by kernel_rfl
 g19 := by kernel_rfl
 i0 := by kernel_rfl
 i2 := by kernel_rfl
 i3 := by kernel_rfl
 i4 := by kernel_rfl
 i5 := by kernel_rfl
 i9 := by kernel_rfl
 i20 := by kernel_rfl
 i37 := by kernel_rfl
 i46 := by kernel_rfl
 i51 := by kernel_rfl
 i53 := by kernel_rfl
 i171 := by kernel_rfl
 i173 := by kernel_rfl
 i212 := by kernel_rfl
 i232 := by kernel_rfl
 i233 := by kernel_rfl
 m17 := by kernel_rfl
 m18 := by kernel_rfl
 m19 := by kernel_rfl
def laysJoin_ren : Go.Shelf.Ren := ⟨fun | 156 => 39 | 165 => 62 | 166 => 63 | 169 => 64 | 240 => 100 | 241 => 101 | 276 => 131 | 277 => 132 | n => n, fun | 31 => 45 | 9 => 9 | 3 => 3 | 4 => 4 | 0 => 0 | 20 => 20 | 72 => 82 | 76 => 86 | 70 => 79 | 37 => 80 | 75 => 85 | 127 => 113 | 164 => 130 | 5 => 5 | 80 => 88 | n => n, fun n => n⟩
theorem laysJoin : Lays.n156 Tryz.prog laysJoin_ren where
 mixed := by kernel_rfl
 f156 := Tryz.func39.trans (congrArg some (by kernel_rfl))
 f165 := Tryz.func62.trans (congrArg some (by kernel_rfl))
 f166 := Tryz.func63.trans (congrArg some (by kernel_rfl))
 f169 := Tryz.func64.trans (congrArg some (by kernel_rfl))
 f240 := Tryz.func100.trans (congrArg some (by kernel_rfl))
 f241 := Tryz.func101.trans (congrArg some (by kernel_rfl))
 f276 := Tryz.func131.trans (congrArg some (by kernel_rfl))
 f277 := Tryz.func132.trans (congrArg some (by kernel_rfl))
 t0 := Tryz.underlying0
 a0 := Tryz.isAgg0
 z0 := Tryz.sizeOf0
 v0 := Tryz.zeroValue0
 t3 := Tryz.underlying3
 a3 := Tryz.isAgg3
 z3 := Tryz.sizeOf3
 v3 := Tryz.zeroValue3
 t4 := Tryz.underlying4
 a4 := Tryz.isAgg4
 z4 := Tryz.sizeOf4
 v4 := Tryz.zeroValue4
 t9 := Tryz.underlying9
 a9 := Tryz.isAgg9
 z9 := Tryz.sizeOf9
 v9 := Tryz.zeroValue9
 t20 := Tryz.underlying20
 a20 := Tryz.isAgg20
 z20 := Tryz.sizeOf20
 v20 := Tryz.zeroValue20
 t31 := Tryz.underlying45
 a31 := Tryz.isAgg45
 z31 := Tryz.sizeOf45
 v31 := Tryz.zeroValue45
 t37 := Tryz.underlying80
 a37 := Tryz.isAgg80
 z37 := Tryz.sizeOf80
 v37 := Tryz.zeroValue80
 t70 := Tryz.underlying79
 a70 := Tryz.isAgg79
 z70 := Tryz.sizeOf79
 v70 := Tryz.zeroValue79
 t72 := Tryz.underlying82
 a72 := Tryz.isAgg82
 z72 := Tryz.sizeOf82
 v72 := Tryz.zeroValue82
 t75 := Tryz.underlying85
 a75 := Tryz.isAgg85
 z75 := Tryz.sizeOf85
 v75 := Tryz.zeroValue85
 t76 := Tryz.underlying86
 a76 := Tryz.isAgg86
 z76 := Tryz.sizeOf86
 v76 := Tryz.zeroValue86
 t127 := Tryz.underlying113
 a127 := Tryz.isAgg113
 z127 := Tryz.sizeOf113
 v127 := Tryz.zeroValue113
 t164 := Tryz.underlying130
 a164 := Tryz.isAgg130
 z164 := Tryz.sizeOf130
 v164 := Tryz.zeroValue130
abbrev sB (l : List UInt8) : AV := .sc (.string ⟨l.toArray⟩)
abbrev rowS (ws : List (List UInt8)) : AV := .row (ws.map sB)
abbrev immS (ws : List (List UInt8)) : AV := .imm (ws.map sB)
theorem tiSt : ti0 9 = some ⟨1, false, [Value.string ⟨#[]⟩], none, [], none, true, false⟩ := by kernel_rfl
theorem tiBy : ti0 5 = some ⟨1, false, [Value.int .u8 0], none, [], some .u8, false, false⟩ := by kernel_rfl
theorem tiSS : ti0 45 = some ⟨1, false, [Value.slice none 0 0], some 9, [], none, false, false⟩ := by kernel_rfl
theorem tiBS : ti0 80 = some ⟨1, false, [Value.slice none 0 0], some 5, [], none, false, false⟩ := by kernel_rfl
theorem tab_of {w : World} (h : Gd w) : Lib.TabIs Tryz.prog w "internal/strconv.uint64pow10" .u64 Lib.pow10Tab := by
 obtain ⟨wI, hI, hb⟩ := h
 obtain ⟨t, fr, ht⟩ := hI.pow
 have hlt : 5 < wI.heap.size := (Array.getElem?_eq_some_iff.1 ht).1
 have hg : Tryz.prog.globalNamed "internal/strconv.uint64pow10" = some 5 := laysFmt.m17
 unfold Lib.TabIs World.var?
 rw [hg]
 show (match w.heap[5]? with | some (.cells cs _ _) => some cs | _ => none) = _
 rw [hb.block _ hlt (by simp), ht]
theorem cFmt {n : Int} (h0 : -9223372036854775808 ≤ n) (h1 : n ≤ 9223372036854775807) : CallOK Tryz.prog 99 [i64 n, i64 10] (sB (Lib.itoa n)) := by
 refine ⟨⟨_, Tryz.func99, by kernel_rfl, by kernel_rfl⟩, rfl, fun w A vs hv hA hG => ?_⟩
 obtain ⟨v, vs', rfl, h2, h3⟩ := RelL.uncons0 hv
 obtain ⟨v', vs'', rfl, h4, h5⟩ := RelL.uncons0 h3
 obtain rfl := (RelL.nilF h5).1
 obtain ⟨rfl, -⟩ := Rel.sc_inv h2
 obtain ⟨rfl, -⟩ := Rel.sc_inv h4
 refine (Any.strconv_FormatInt_10 laysFmt n h0 h1 w (tab_of hG)).mono ?_
 rintro e w' ⟨rfl, k, os, rfl⟩
 refine ⟨_, A, [], rfl, .sc _ .nil, fun _ h => h, (fun _ h => by cases h), ⟨rfl, rfl, rfl, ?_, fun k hk _ => ?_⟩⟩
 ·simp
 ·rw [Sort.heap_grow_old _ _ (by simpa using hk)]; rfl
theorem Rel.cells_imm {c : Cx} : ∀ {ws : List (List UInt8)} {us : List Value} {G : List Nat}, RelL c (ws.map sB) us G → us = ws.map fun l => Value.string ⟨l.toArray⟩
 | [], us, G, h => (RelL.nilF h).1
 | l :: ws, us, G, h => by
  cases h with
  | sc v h => rw [Rel.cells_imm h]; rfl
theorem cJoin {ws : List (List UInt8)} {sep : List UInt8} (hw : ws.length ≤ 140737488355328) (hl : (Lib.join ws sep).length ≤ 140737488355328) : CallOK Tryz.prog 39 [immS ws, sB sep] (sB (Lib.join ws sep)) := by
 refine ⟨⟨_, Tryz.func39, by kernel_rfl, by kernel_rfl⟩, rfl, fun w A vs hv hA hG => ?_⟩
 obtain ⟨v, vs', rfl, h2, h3⟩ := RelL.uncons0 hv
 obtain ⟨v', vs'', rfl, h4, h5⟩ := RelL.uncons0 h3
 obtain rfl := (RelL.nilF h5).1
 obtain ⟨rfl, -⟩ := Rel.sc_inv h4
 obtain ⟨g, b, cap, us, rfl, k1, k2, k3⟩ := Rel.imm_inv h2
 have hus := Rel.cells_imm k1
 subst hus
 have hX : Builder.Extra Tryz.prog laysJoin_ren := {
  sizeBuilder := by kernel_rfl
  liesBuilder := by kernel_rfl
  t5 := Tryz.underlying5
  a5 := Tryz.isAgg5
  z5 := Tryz.sizeOf5
  v5 := Tryz.zeroValue5
  infoByte := by kernel_rfl
  cellsByte := by kernel_rfl
  sizeByte := by kernel_rfl
  neB5 := by decide }
 have hm : (ws.map fun l => (⟨l.toArray⟩ : ByteArray)).map (·.data.toList) = ws := by
  rw [List.map_map]
  exact (List.map_congr_left fun l _ => by simp).trans (List.map_id ws)
 have h := Any.strings_Join laysJoin hX g b cap (ws.map fun l => (⟨l.toArray⟩ : ByteArray)) ⟨sep.toArray⟩ w (fun j x hx => ?_) k2.2.1 (by simpa using hw) (by simpa using k3) (by rw [hm]; simpa using hl)
 ·rw [hm] at h
  have e1 : (ws.map fun l => (⟨l.toArray⟩ : ByteArray)).length = (ws.map fun l => Value.string ⟨l.toArray⟩).length := by simp
  rw [e1] at h
  refine h.mono ?_
  rintro e w' ⟨rfl, hb⟩
  exact ⟨_, A, [], rfl, .sc _ .nil, fun _ h => h, (fun _ h => by cases h), ⟨hb.os, hb.tape, hb.output, hb.size, fun k hk _ => hb.block k hk⟩⟩
 ·refine k2.2.2 j _ ?_
  rw [List.getElem?_map] at hx ⊢
  cases hj : ws[j]? with
  | none => rw [hj] at hx; cases hx
  | some l => rw [hj] at hx; simp only [Option.map_some, Option.some.injEq] at hx ⊢; rw [hx]
def okN (l : List UInt8) : Prop := l.length ≤ 1125899906842624
theorem kAdd_str {a b : List UInt8} (ha : okN a) (hb : okN b) {inf : TI} {ro : Ro} : kBin0 (some inf) ro .add (sB a) (sB b) = some ⟨sB (a ++ b), none, [], []⟩ := by
 unfold kBin0
 simp only [zee, if_true, binA]
 have : semPure (binOp .add 0 (.string ⟨a.toArray⟩) (.string ⟨b.toArray⟩)) = some (.string ⟨(a ++ b).toArray⟩) := by
  have e : (⟨a.toArray⟩ : ByteArray) ++ ⟨b.toArray⟩ = ⟨(a ++ b).toArray⟩ := by
   apply ByteArray.ext
   simp [ByteArray.data_append]
  have hs : ¬ ((((⟨a.toArray⟩ : ByteArray).size + (⟨b.toArray⟩ : ByteArray).size : Nat)) : Int) > IntKind.i64.max := by
   have e1 : (⟨a.toArray⟩ : ByteArray).size = a.length := by simp [ByteArray.size]
   have e2 : (⟨b.toArray⟩ : ByteArray).size = b.length := by simp [ByteArray.size]
   have e3 : IntKind.i64.max = 9223372036854775807 := rfl
   rw [e1, e2, e3]
   unfold okN at ha hb
   omega
  simp only [binOp, ne_eq, not_true_eq_false, if_false, Op.stringOp]
  rw [if_neg hs, e]
  rfl
 rw [this]
def k1B (x : Option AV) : Option Eff := match (match x with | some a => blk a | none => none) with
 | some cs => if 0 + 1 ≤ cs.length then match bytesA ((cs.drop 0).take 1) with
  | some l => some ⟨.sc (.string ⟨l.toArray⟩), none, [], []⟩
  | none => none
  else none
 | none => none
theorem k1B_row {k : Int} : k1B (some (.row [.sc (.int .u8 k)])) = some ⟨sB [UInt8.ofNat k.toNat], none, [], []⟩ := nr _
theorem kConv_bs {ro : Ro} {s g : Nat} {a1 c1 : Nat} {a2 c2 : Bool} {a3 c3 : List Value} {c4 : Option Nat} {a5 c5 : List (Nat × Nat)} {a6 c6 : Option IntKind} {a7 a8 c8 : Bool} :
  kConv ti0 ro (some ⟨a1, a2, a3, some 5, a5, a6, a7, a8⟩) (some ⟨c1, c2, c3, c4, c5, c6, true, c8⟩) (.ref s g [] 0 1) = k1B (ro s g) := by
 simp only [kConv, convB, tiBy, and_self, if_true, Ro.cells]
 rfl
theorem kConv_i8 {ro : Ro} {a1 c1 : Nat} {a2 c2 : Bool} {a3 c3 : List Value} {a4 c4 : Option Nat} {a5 c5 : List (Nat × Nat)} {k1 : IntKind} {a7 a8 c7 c8 : Bool} {n : Int} (h0 : 0 ≤ n) (h1 : n < 256) :
  kConv ti0 ro (some ⟨a1, a2, a3, a4, a5, some k1, a7, a8⟩) (some ⟨c1, c2, c3, c4, c5, some .u8, c7, c8⟩) (i64 n) = some ⟨.sc (.int .u8 n), none, [], []⟩ := by
 have : semPure (Conv.intToInt .u8 n) = some (.int .u8 (IntKind.wrap .u8 n)) := by first | rfl | simp [Conv.intToInt, semPure]
 have w : IntKind.wrap .u8 n = n := by
  have e : IntKind.bits .u8 = 8 := rfl
  have s : IntKind.signed .u8 = false := rfl
  simp only [IntKind.wrap, e, s, Bool.false_and, Bool.false_eq_true, if_false]
  omega
 simp only [kConv, this, w]
theorem dec_len (u : Nat) : u < 2^63 → (Lib.decDigits u).length ≤ 20 := by
 have key : ∀ (k u : Nat), u < 10^k → 1 ≤ k → (Lib.decDigits u).length ≤ k := by
  intro k
  induction k with
  | zero => intro u h h1; omega
  | succ k ih =>
   intro u h _
   rw [Lib.decDigits]
   split
   ·simp
   ·rename_i h10
    have hk : 1 ≤ k := by
     rcases Nat.eq_zero_or_pos k with e | e
     ·subst e; omega
     ·exact e
    have := ih (u / 10) (by rw [Nat.pow_succ] at h; omega) hk
    simp only [List.length_append, List.length_cons, List.length_nil]
    omega
 intro h
 exact key 20 u (Nat.lt_of_lt_of_le h (by decide)) (by decide)
theorem cDec (u : Nat) : u < 2^63 → CallOK Tryz.prog 51 [i64 (u : Int)] (sB (Lib.decDigits u)) := by
 induction u using Nat.strongRecOn with
 | _ u ih =>
  intro hu
  refine call_of (fn := Tryz.f51) (code := bodyOf Tryz.f51) Tryz.func51 rfl (by kernel_rfl) (rfl) ?_
  intro sl hs
  have s0 : sl 0 = i64 (u : Int) := hs 0
  by_cases h : u < 10
  ·have h' : (u : Int) < 10 := by omega
   have e : Lib.decDigits u = [UInt8.ofNat (48 + u)] := by rw [Lib.decDigits, dif_pos h]
   rw [e]
   have z0 : (0 : Int) ≤ 48 + u := by omega
   have z1 : (48 : Int) + u < 256 := by omega
   have z2 : ((48 : Int) + u).toNat = 48 + u := by omega
   dsimp only [Tryz.f51, bodyOf, Option.getD]
   simp (maxSteps := 10000000) (disch := first | assumption | omega) only [go_sem, ↓reduceIte, Nat.reduceEqDiff, reduceCtorEq, Nat.reduceAdd, Nat.reduceMul, Nat.reduceLeDiff, zc, Int.reduceToNat, s0, h', tiSt, tiBy, tiBS, kConv_i8 z0 z1, kConv_bs, k1B_row, z2]
   simp only [zr, zb, retR, resL, outT, outL, zes, zez, oneV, zcp, zed, zfi, Ro.dl, St.ev, zhk, ↓za, ↓reduceIte, Nat.reduceEqDiff, Nat.reduceAdd, Nat.reduceLeDiff]
  ·have h' : ¬ (u : Int) < 10 := by omega
   have e : Lib.decDigits u = Lib.decDigits (u / 10) ++ [UInt8.ofNat (48 + u % 10)] := by conv => lhs; rw [Lib.decDigits, dif_neg h]
   rw [e]
   have tq : Int.tdiv (u : Int) 10 = ((u / 10 : Nat) : Int) := by rw [Int.tdiv_eq_ediv_of_nonneg (Int.natCast_nonneg _)]; rfl
   have tr : Int.tmod (u : Int) 10 = ((u % 10 : Nat) : Int) := by rw [Int.tmod_eq_emod_of_nonneg (Int.natCast_nonneg _)]; rfl
   have hq : u / 10 < u := by omega
   have hq2 : u / 10 < 2^63 := by omega
   have z0 : (0 : Int) ≤ 48 + (u % 10 : Nat) := by omega
   have z1 : (48 : Int) + (u % 10 : Nat) < 256 := by omega
   have z2 : ((48 : Int) + (u % 10 : Nat)).toNat = 48 + u % 10 := by omega
   have w1 : wrF ((u / 10 : Nat) : Int) = ((u / 10 : Nat) : Int) := zfu (by omega) (by omega)
   have w2 : wrF ((u % 10 : Nat) : Int) = ((u % 10 : Nat) : Int) := zfu (by omega) (by omega)
   have ok1 : okN (Lib.decDigits (u / 10)) := Nat.le_trans (dec_len _ (by omega)) (by decide)
   have ok2 : okN [UInt8.ofNat (48 + u % 10)] := by unfold okN; simp
   dsimp only [Tryz.f51, bodyOf, Option.getD]
   simp (maxSteps := 10000000) (disch := first | assumption | omega) only [go_sem, ↓reduceIte, Nat.reduceEqDiff, reduceCtorEq, Nat.reduceAdd, Nat.reduceMul, Nat.reduceLeDiff, zc, Int.reduceToNat, s0, h', tiSt, tiBy, tiBS, tq, tr, w1, w2]
   refine CLLD_pure _ (ih _ hq hq2) rfl rfl ?_
   simp (maxSteps := 10000000) (disch := first | assumption | omega) only [go_sem, ↓reduceIte, Nat.reduceEqDiff, reduceCtorEq, Nat.reduceAdd, Nat.reduceMul, Nat.reduceLeDiff, zc, Int.reduceToNat, s0, h', tiSt, tiBy, tiBS, tq, tr, w1, w2, kConv_i8 z0 z1, kConv_bs, k1B_row, z2, kAdd_str ok1 ok2]
   refine FIN_of (by kernel_rfl) ?_
   simp (maxSteps := 10000000) (disch := first | assumption | omega) only [go_sem, ↓reduceIte, Nat.reduceEqDiff, reduceCtorEq, Nat.reduceAdd, Nat.reduceMul, Nat.reduceLeDiff, zc, Int.reduceToNat, s0]
   simp only [zr, zb, retR, resL, outT, outL, zes, zez, oneV, zcp, zed, zfi, Ro.dl, St.ev, zhk, ↓za, ↓reduceIte, Nat.reduceEqDiff, Nat.reduceAdd, Nat.reduceLeDiff]
end Go.Proofs.YteaaangdibabnaaGreatDoor
/- The texts of lists and of data. -/
namespace Go.Proofs.YteaaangdibabnaaGreatDoor
open Go.RowKit
set_option maxRecDepth 1000000
def jn (sep : List UInt8) (f : Nat → List UInt8) : Nat → List UInt8
 | 0 => []
 | n + 1 => if n = 0 then f 0 else jn sep f n ++ sep ++ f n
theorem jn_one (sep : List UInt8) (f : Nat → List UInt8) : jn sep f (0 + 1) = f 0 := rfl
theorem jn_succ (sep : List UInt8) (f : Nat → List UInt8) {n : Nat} (h : n ≠ 0) : jn sep f (n + 1) = jn sep f n ++ sep ++ f n := by
 show (if n = 0 then f 0 else jn sep f n ++ sep ++ f n) = _
 rw [if_neg h]
theorem jn_len {sep : List UInt8} {f : Nat → List UInt8} {c : Nat} : ∀ (n : Nat), (∀ i, i < n → (f i).length ≤ c) → (jn sep f n).length ≤ n * (c + sep.length)
 | 0, _ => by simp [jn]
 | n + 1, h => by
  have h1 := jn_len (sep := sep) n fun i hi => h i (by omega)
  have h2 := h n (by omega)
  rw [Nat.add_mul, Nat.one_mul]
  by_cases e : n = 0
  ·subst e; rw [jn_one]; omega
  ·rw [jn_succ _ _ e, List.length_append, List.length_append]; omega
theorem join_snoc (sep : List UInt8) (xs : List (List UInt8)) (y : List UInt8) (h : xs ≠ []) : Lib.join (xs ++ [y]) sep = Lib.join xs sep ++ sep ++ y := by
 cases xs with
 | nil => exact absurd rfl h
 | cons x r =>
  rw [List.cons_append, Lib.join_cons, Lib.join_cons]
  unfold Lib.joinTail
  simp
theorem join_jn (sep : List UInt8) (f : Nat → List UInt8) : ∀ n : Nat, Lib.join (rws f n) sep = jn sep f n
 | 0 => rfl
 | n + 1 => by
  rw [rws_succ]
  by_cases e : n = 0
  ·subst e; rw [rws_zero, List.nil_append, Lib.join_one, jn_one]
  ·rw [join_snoc _ _ _ (fun h => e (by simpa [rws] using h)), join_jn sep f n, jn_succ _ _ e]
def dg (x : Int) : List UInt8 := Lib.decDigits x.toNat
theorem dg_len {x : Int} (h : x < 2^63) : (dg x).length ≤ 20 := dec_len _ (by omega)
theorem dg_ok {x : Int} (h : x < 2^63) : okN (dg x) := Nat.le_trans (dg_len h) (by decide)
theorem cDg {x : Int} (h0 : 0 ≤ x) (h : x < 2^63) : CallOK Tryz.prog 51 [i64 x] (sB (dg x)) := by
 have := cDec x.toNat (by omega)
 rwa [Int.toNat_of_nonneg h0] at this
theorem cDcI {x : Int} (h0 : 0 ≤ x) (h : x < 2^63) : CallOK Tryz.prog 61 [i64 x] (sB (dg x)) := by
 have c := cFmt (n := x) (by omega) (by omega)
 have e : Lib.itoa x = dg x := by unfold Lib.itoa; rw [if_neg (by omega)]; rfl
 rw [e] at c
 refine call_of (fn := Tryz.f61) (code := bodyOf Tryz.f61) Tryz.func61 rfl (by kernel_rfl) (rfl) ?_
 intro sl hs
 have s0 : sl 0 = i64 x := hs 0
 dsimp only [Tryz.f61, bodyOf, Option.getD]
 simp (maxSteps := 10000000) (disch := first | assumption | omega) only [go_sem, ↓reduceIte, Nat.reduceEqDiff, reduceCtorEq, Nat.reduceAdd, Nat.reduceMul, Nat.reduceLeDiff, zc, Int.reduceToNat, s0]
 refine CLL_pure _ c rfl rfl rfl ?_
 simp (maxSteps := 10000000) (disch := first | assumption | omega) only [go_sem, ↓reduceIte, Nat.reduceEqDiff, reduceCtorEq, Nat.reduceAdd, Nat.reduceMul, Nat.reduceLeDiff, zc, Int.reduceToNat, s0]
 simp only [zr, zb, retR, resL, outT, outL, zes, zez, oneV, zcp, zed, zfi, Ro.dl, St.ev, zhk, ↓za, ↓reduceIte, Nat.reduceEqDiff, Nat.reduceAdd, Nat.reduceLeDiff]
def lnT (xs : List Int) : List UInt8 := jn [32] (fun i => dg (atI xs i)) xs.length
theorem ok32 : okN [32] := by unfold okN; decide
theorem ok47 : okN [47] := by unfold okN; decide
theorem ok124 : okN [124] := by unfold okN; decide
theorem okNil : okN [] := by unfold okN; decide
theorem ln_len {xs : List Int} (hn : numL xs) (k : Nat) : (jn [32] (fun i => dg (atI xs i)) k).length ≤ k * 21 := by
 refine Nat.le_trans (jn_len (c := 20) k fun i hi => dg_len ?_) (by simp)
 have := hn i
 unfold num at this
 omega
theorem cLine {a : AV} {xs : List Int} (ha : isL a xs) (hn : numL xs) (hx : xs.length ≤ 1000) : CallOK Tryz.prog 35 [a] (sB (lnT xs)) := by
 unfold lnT
 refine call_of (fn := Tryz.f35) (code := bodyOf Tryz.f35) Tryz.func35 rfl (by kernel_rfl) (rfl) ?_
 intro sl hs
 have s0 : sl 0 = a := hs 0
 dsimp only [Tryz.f35, bodyOf, Option.getD]
 simp (maxSteps := 10000000) (disch := first | assumption | omega) only [go_sem, ↓reduceIte, Nat.reduceEqDiff, reduceCtorEq, Nat.reduceAdd, Nat.reduceMul, Nat.reduceLeDiff, zc, Int.reduceToNat, s0, tiSt]
 refine WK_for (fun k st => st.sl 0 = a ∧ st.sl 4 = i64 (k : Int) ∧ st.sl 3 = sB (jn [32] (fun i => dg (atI xs i)) k)) xs.length ?_ ?_ ?_
 ·simp only [↓za, ↓reduceIte, Nat.reduceEqDiff, zb, reduceCtorEq, rws_zero, s0]
  exact ⟨rfl, rfl⟩
 ·rintro k sl ro gn hk ⟨s0, s4, s3⟩
  dsimp only at s0 s4 s3
  have hk' : (k : Int) < (xs.length : Nat) := by omega
  have n1 := hn k
  have c := cDg (x := atI xs k) (by unfold num at n1; omega) (by unfold num at n1; omega)
  have okd : okN (dg (atI xs k)) := dg_ok (by unfold num at n1; omega)
  have okj : okN (jn [32] (fun i => dg (atI xs i)) k) := Nat.le_trans (ln_len hn k) (by omega)
  by_cases e : k = 0
  ·subst e
   simp (maxSteps := 10000000) (disch := first | assumption | omega) only [go_sem, ↓reduceIte, Nat.reduceEqDiff, reduceCtorEq, Nat.reduceAdd, Nat.reduceMul, Nat.reduceLeDiff, zc, Int.reduceToNat, s0, s4, s3, hk', hk, tiSt, isL_len ha, isL_idx ha hk]
   refine CLL_pure _ c rfl rfl rfl ?_
   have okj0 : okN (jn [32] (fun i => dg (atI xs i)) 0) := okNil
   simp (maxSteps := 10000000) (disch := first | assumption | omega) only [go_sem, ↓reduceIte, Nat.reduceEqDiff, reduceCtorEq, Nat.reduceAdd, Nat.reduceMul, Nat.reduceLeDiff, zc, Int.reduceToNat, s0, s4, s3, hk', hk, tiSt, kAdd_str okj0 okd]
   exact ⟨rfl, rfl⟩
  ·have e' : (0 : Int) < k := by omega
   have ok2 : okN (jn [32] (fun i => dg (atI xs i)) k ++ [32]) := by
    have := ln_len hn k
    unfold okN
    rw [List.length_append]
    simp only [List.length_cons, List.length_nil]
    omega
   simp (maxSteps := 10000000) (disch := first | assumption | omega) only [go_sem, ↓reduceIte, Nat.reduceEqDiff, reduceCtorEq, Nat.reduceAdd, Nat.reduceMul, Nat.reduceLeDiff, zc, Int.reduceToNat, s0, s4, s3, hk', hk, e', tiSt, isL_len ha, isL_idx ha hk, kAdd_str okj ok32]
   refine CLL_pure _ c rfl rfl rfl ?_
   simp (maxSteps := 10000000) (disch := first | assumption | omega) only [go_sem, ↓reduceIte, Nat.reduceEqDiff, reduceCtorEq, Nat.reduceAdd, Nat.reduceMul, Nat.reduceLeDiff, zc, Int.reduceToNat, s0, s4, s3, hk', hk, tiSt, kAdd_str ok2 okd]
   rw [jn_succ _ _ e]
   exact ⟨i64c (by omega), rfl⟩
 ·rintro sl ro gn ⟨s0, s4, s3⟩
  dsimp only at s0 s4 s3
  have hk' : ¬ ((xs.length : Nat) : Int) < (xs.length : Nat) := by omega
  simp (maxSteps := 10000000) (disch := first | assumption | omega) only [go_sem, ↓reduceIte, Nat.reduceEqDiff, reduceCtorEq, Nat.reduceAdd, Nat.reduceMul, Nat.reduceLeDiff, zc, Int.reduceToNat, s0, s4, s3, hk', isL_len ha]
  simp only [zr, zb, retR, resL, outT, outL, zes, zez, oneV, zcp, zed, zfi, Ro.dl, St.ev, zhk, ↓za, ↓reduceIte, Nat.reduceEqDiff, Nat.reduceAdd, Nat.reduceLeDiff]
theorem rowS_rws (f : Nat → List UInt8) (n : Nat) : rowS (rws f n) = .row (rws (fun i => sB (f i)) n) := by simp only [rowS, rws_map]
theorem nrL_S (ws : List (List UInt8)) : noRefL (ws.map sB) = true := by
 induction ws with
 | nil => rfl
 | cons w ws ih => simp only [List.map_cons, noRefL, noRef, ih, Bool.and_self]
theorem ex_refS {ro : Ro} {s g : Nat} {ws : List (List UInt8)} (h : ro s g = some (rowS ws)) (k : Nat) : ex ro (k + 2) (.ref s g [] 0 ws.length) = immS ws := by
 show (match ro.cells s g [] with | some cs => AV.imm (((cs.drop 0).take ws.length).map (ex ro (k + 1))) | none => .dead) = _
 rw [zef, h]
 simp only [zeh, List.drop_zero]
 rw [List.take_of_length_le (by simp), List.map_map]
 exact congrArg AV.imm (List.map_congr_left fun x _ => rfl)
theorem exq_refS {n : Nat} {ro : Ro} {s g m : Nat} {ws : List (List UInt8)} (h : ro s g = some (rowS ws)) (hm : m = ws.length) (hn : 2 ≤ n) : exq n ro (.ref s g [] 0 m) (immS ws) := by
 refine ⟨fun k hk => ?_, fun hp => by simp [pureA] at hp⟩
 subst hm
 obtain ⟨j, rfl⟩ : ∃ j, k = j + 2 := ⟨k - 2, by omega⟩
 exact ex_refS h j
theorem cJoined {a : AV} {xs : List Int} (ha : isL a xs) (hn : numL xs) (hx : xs.length ≤ 1000) : CallOK Tryz.prog 38 [a, sB [32]] (sB (lnT xs)) := by
 have cJ := cJoin (ws := rws (fun i => dg (atI xs i)) xs.length) (sep := [32]) (by rw [zfe]; omega) (by rw [join_jn]; exact Nat.le_trans (ln_len hn _) (by omega))
 rw [join_jn] at cJ
 refine call_of (fn := Tryz.f38) (code := bodyOf Tryz.f38) Tryz.func38 rfl (by kernel_rfl) (rfl) ?_
 intro sl hs
 have s0 : sl 0 = a := hs 0
 have s1 : sl 1 = sB [32] := hs 1
 dsimp only [Tryz.f38, bodyOf, Option.getD]
 simp (maxSteps := 10000000) (disch := first | assumption | omega) only [go_sem, ↓reduceIte, Nat.reduceEqDiff, reduceCtorEq, Nat.reduceAdd, Nat.reduceMul, Nat.reduceLeDiff, zc, Int.reduceToNat, s0, s1, tiSt, tiSS, isL_len ha]
 refine WK_for (fun k st => st.sl 0 = a ∧ st.sl 1 = sB [32] ∧ st.sl 9 = a ∧ st.sl 10 = i64 (xs.length : Nat) ∧ st.sl 11 = i64 (k : Int) ∧ st.sl 5 = .ref 8192 (st.gn 8192) [] 0 k ∧ st.ro 8192 (st.gn 8192) = some (.row (rws (fun i => sB (dg (atI xs i))) k))) xs.length ?_ ?_ ?_
 ·simp only [↓za, ↓reduceIte, Nat.reduceEqDiff, zb, reduceCtorEq, rws_zero, s0, s1]
  rfl
 ·rintro k sl ro gn hk ⟨s0, s1, s9, s10, s11, s5, r8192⟩
  dsimp only at s0 s1 s9 s10 s11 s5 r8192
  have hk' : (k : Int) < (xs.length : Nat) := by omega
  have n1 := hn k
  have c := cDcI (x := atI xs k) (by unfold num at n1; omega) (by unfold num at n1; omega)
  have hi2 : k + 1 ≤ 4294967296 := by omega
  simp (maxSteps := 10000000) (disch := first | assumption | omega) only [go_sem, ↓reduceIte, Nat.reduceEqDiff, reduceCtorEq, Nat.reduceAdd, Nat.reduceMul, Nat.reduceLeDiff, zc, Int.reduceToNat, s0, s1, s9, s10, s11, s5, r8192, hk', hk, tiSt, tiSS, isL_idx ha hk]
  refine CLL_pure _ c rfl rfl rfl ?_
  simp (maxSteps := 10000000) (disch := first | assumption | omega) only [go_sem, ↓reduceIte, Nat.reduceEqDiff, reduceCtorEq, Nat.reduceAdd, Nat.reduceMul, Nat.reduceLeDiff, zc, Int.reduceToNat, s0, s1, s9, s10, s11, s5, r8192, hk', hk, tiSt, tiSS, hi2]
  exact i64c (by omega)
 ·rintro sl ro gn ⟨s0, s1, s9, s10, s11, s5, r8192⟩
  dsimp only at s0 s1 s9 s10 s11 s5 r8192
  have hk' : ¬ ((xs.length : Nat) : Int) < (xs.length : Nat) := by omega
  rw [← rowS_rws] at r8192
  simp (maxSteps := 10000000) (disch := first | assumption | omega) only [go_sem, ↓reduceIte, Nat.reduceEqDiff, reduceCtorEq, Nat.reduceAdd, Nat.reduceMul, Nat.reduceLeDiff, zc, Int.reduceToNat, s0, s1, s9, s10, s11, s5, r8192, hk', tiSt, tiSS]
  refine CLL_q _ cJ (.cons (exq_refS r8192 (by rw [zfe]) (by decide)) (.cons (exq_sc _ _ _ (by decide)) .nil)) rfl rfl rfl ?_
  simp (maxSteps := 10000000) (disch := first | assumption | omega) only [go_sem, ↓reduceIte, Nat.reduceEqDiff, reduceCtorEq, Nat.reduceAdd, Nat.reduceMul, Nat.reduceLeDiff, zc, Int.reduceToNat, s0, s1, s9, s10, s11, s5, r8192, hk']
  simp only [zr, zb, retR, resL, outT, outL, zes, zez, oneV, zcp, zed, zfi, Ro.dl, St.ev, zhk, ↓za, ↓reduceIte, Nat.reduceEqDiff, Nat.reduceAdd, Nat.reduceLeDiff]
  rfl
end Go.Proofs.YteaaangdibabnaaGreatDoor
/- The texts of data; the contracts of DataText. -/
namespace Go.Proofs.YteaaangdibabnaaGreatDoor
open Go.RowKit
set_option maxRecDepth 1000000
def txT (S : List (List Int)) (T : List Int) : List UInt8 := jn [47] (fun i => lnT (row S i)) S.length ++ [124] ++ lnT T
theorem lnT_len {xs : List Int} (hn : numL xs) (hx : xs.length ≤ 1000) : (lnT xs).length ≤ 21000 := Nat.le_trans (ln_len hn _) (by omega)
theorem lnT_ok {xs : List Int} (hn : numL xs) (hx : xs.length ≤ 1000) : okN (lnT xs) := Nat.le_trans (lnT_len hn hx) (by decide)
theorem jr_len {S : List (List Int)} (hn : numLL S) (hx : ∀ i, i < S.length → (row S i).length ≤ 1000) {k : Nat} (hk : k ≤ S.length) : (jn [47] (fun i => lnT (row S i)) k).length ≤ k * 21001 :=
 Nat.le_trans (jn_len (c := 21000) k fun i hi => lnT_len (hn i) (hx i (by omega))) (by simp)
theorem cText {a b : AV} {S : List (List Int)} {T : List Int} (ha : isLL a S) (hb : isL b T) (nS : numLL S) (nT : numL T) (hS : S.length ≤ 1000) (hT : T.length ≤ 1000) (hR : ∀ i, i < S.length → (row S i).length ≤ 1000) : CallOK Tryz.prog 17 [.agg [a, b]] (sB (txT S T)) := by
 have cT := cLine hb nT hT
 refine call_of (fn := Tryz.f17) (code := bodyOf Tryz.f17) Tryz.func17 rfl (by kernel_rfl) (rfl) ?_
 intro sl hs
 have s0 : sl 0 = .agg [a, b] := hs 0
 dsimp only [Tryz.f17, bodyOf, Option.getD]
 simp (maxSteps := 10000000) (disch := first | assumption | omega) only [go_sem, ↓reduceIte, Nat.reduceEqDiff, reduceCtorEq, Nat.reduceAdd, Nat.reduceMul, Nat.reduceLeDiff, zc, Int.reduceToNat, s0, tiSt]
 refine WK_for (fun k st => st.sl 0 = .agg [a, b] ∧ st.sl 1 = .ptr 4096 1 [] 0 ∧ st.ro 4096 1 = some (.bx [a, b]) ∧ st.sl 4 = i64 (k : Int) ∧ st.sl 3 = sB (jn [47] (fun i => lnT (row S i)) k)) S.length ?_ ?_ ?_
 ·simp only [↓za, ↓reduceIte, Nat.reduceEqDiff, zb, reduceCtorEq, rws_zero, s0]
  exact ⟨rfl, rfl⟩
 ·rintro k sl ro gn hk ⟨s0, s1, r4096, s4, s3⟩
  dsimp only at s0 s1 r4096 s4 s3
  have hk' : (k : Int) < (S.length : Nat) := by omega
  have h1 := isLL_row ha hk
  have c := cLine h1 (nS k) (hR k hk)
  have okd : okN (lnT (row S k)) := lnT_ok (nS k) (hR k hk)
  have okj : okN (jn [47] (fun i => lnT (row S i)) k) := Nat.le_trans (jr_len nS hR (Nat.le_of_lt hk)) (by omega)
  by_cases e : k = 0
  ·subst e
   simp (maxSteps := 10000000) (disch := first | assumption | omega) only [go_sem, ↓reduceIte, Nat.reduceEqDiff, reduceCtorEq, Nat.reduceAdd, Nat.reduceMul, Nat.reduceLeDiff, zc, Int.reduceToNat, s0, s1, r4096, s4, s3, hk', hk, tiSt, isLL_len ha, isLL_idx ha hk]
   refine CLL_pure _ c PUt rfl rfl ?_
   have okj0 : okN (jn [47] (fun i => lnT (row S i)) 0) := okNil
   simp (maxSteps := 10000000) (disch := first | assumption | omega) only [go_sem, ↓reduceIte, Nat.reduceEqDiff, reduceCtorEq, Nat.reduceAdd, Nat.reduceMul, Nat.reduceLeDiff, zc, Int.reduceToNat, s0, s1, r4096, s4, s3, hk', hk, tiSt, kAdd_str okj0 okd]
   exact ⟨rfl, rfl⟩
  ·have e' : (0 : Int) < k := by omega
   have ok2 : okN (jn [47] (fun i => lnT (row S i)) k ++ [47]) := by
    have := jr_len nS hR (Nat.le_of_lt hk)
    unfold okN
    rw [List.length_append]
    simp only [List.length_cons, List.length_nil]
    omega
   simp (maxSteps := 10000000) (disch := first | assumption | omega) only [go_sem, ↓reduceIte, Nat.reduceEqDiff, reduceCtorEq, Nat.reduceAdd, Nat.reduceMul, Nat.reduceLeDiff, zc, Int.reduceToNat, s0, s1, r4096, s4, s3, hk', hk, e', tiSt, isLL_len ha, isLL_idx ha hk, kAdd_str okj ok47]
   refine CLL_pure _ c PUt rfl rfl ?_
   simp (maxSteps := 10000000) (disch := first | assumption | omega) only [go_sem, ↓reduceIte, Nat.reduceEqDiff, reduceCtorEq, Nat.reduceAdd, Nat.reduceMul, Nat.reduceLeDiff, zc, Int.reduceToNat, s0, s1, r4096, s4, s3, hk', hk, tiSt, kAdd_str ok2 okd]
   rw [jn_succ _ _ e]
   exact ⟨i64c (by omega), rfl⟩
 ·rintro sl ro gn ⟨s0, s1, r4096, s4, s3⟩
  dsimp only at s0 s1 r4096 s4 s3
  have hk' : ¬ ((S.length : Nat) : Int) < (S.length : Nat) := by omega
  have okj : okN (jn [47] (fun i => lnT (row S i)) S.length) := Nat.le_trans (jr_len nS hR (Nat.le_refl _)) (by omega)
  have ok2 : okN (jn [47] (fun i => lnT (row S i)) S.length ++ [124]) := by
   have := jr_len nS hR (Nat.le_refl _)
   unfold okN
   rw [List.length_append]
   simp only [List.length_cons, List.length_nil]
   omega
  simp (maxSteps := 10000000) (disch := first | assumption | omega) only [go_sem, ↓reduceIte, Nat.reduceEqDiff, reduceCtorEq, Nat.reduceAdd, Nat.reduceMul, Nat.reduceLeDiff, zc, Int.reduceToNat, s0, s1, r4096, s4, s3, hk', tiSt, isLL_len ha, kAdd_str okj ok124]
  refine CLL_pure _ cT PUt rfl rfl ?_
  simp (maxSteps := 10000000) (disch := first | assumption | omega) only [go_sem, ↓reduceIte, Nat.reduceEqDiff, reduceCtorEq, Nat.reduceAdd, Nat.reduceMul, Nat.reduceLeDiff, zc, Int.reduceToNat, s0, s1, r4096, s4, s3, hk', tiSt, kAdd_str ok2 (lnT_ok nT hT)]
  simp only [zr, zb, retR, resL, outT, outL, zes, zez, oneV, zcp, zed, zfi, Ro.dl, St.ev, zhk, ↓za, ↓reduceIte, Nat.reduceEqDiff, Nat.reduceAdd, Nat.reduceLeDiff]
  rfl
theorem cTextI {a b : AV} {S : List (List Int)} {T : List Int} (ha : isLL a S) (hb : isL b T) (nS : numLL S) (nT : numL T) (hS : S.length ≤ 1000) (hT : T.length ≤ 1000) (hR : ∀ i, i < S.length → (row S i).length ≤ 1000) : CallOK Tryz.prog 21 [.agg [a, b]] (sB (txT S T)) := by
 have cT := cJoined hb nT hT
 have cJ := cJoin (ws := rws (fun i => lnT (row S i)) S.length) (sep := [47]) (by rw [zfe]; omega) (by rw [join_jn]; exact Nat.le_trans (jr_len nS hR (Nat.le_refl _)) (by omega))
 rw [join_jn] at cJ
 refine call_of (fn := Tryz.f21) (code := bodyOf Tryz.f21) Tryz.func21 rfl (by kernel_rfl) (rfl) ?_
 intro sl hs
 have s0 : sl 0 = .agg [a, b] := hs 0
 dsimp only [Tryz.f21, bodyOf, Option.getD]
 simp (maxSteps := 10000000) (disch := first | assumption | omega) only [go_sem, ↓reduceIte, Nat.reduceEqDiff, reduceCtorEq, Nat.reduceAdd, Nat.reduceMul, Nat.reduceLeDiff, zc, Int.reduceToNat, s0, tiSt, tiSS, isLL_len ha]
 refine WK_for (fun k st => st.sl 0 = .agg [a, b] ∧ st.sl 1 = .ptr 4096 1 [] 0 ∧ st.ro 4096 1 = some (.bx [a, b]) ∧ st.sl 8 = a ∧ st.sl 9 = i64 (S.length : Nat) ∧ st.sl 10 = i64 (k : Int) ∧ st.sl 3 = .ref 8192 (st.gn 8192) [] 0 k ∧ st.ro 8192 (st.gn 8192) = some (.row (rws (fun i => sB (lnT (row S i))) k))) S.length ?_ ?_ ?_
 ·simp only [↓za, ↓reduceIte, Nat.reduceEqDiff, zb, reduceCtorEq, rws_zero, s0]
  rfl
 ·rintro k sl ro gn hk ⟨s0, s1, r4096, s8, s9, s10, s3, r8192⟩
  dsimp only at s0 s1 r4096 s8 s9 s10 s3 r8192
  have hk' : (k : Int) < (S.length : Nat) := by omega
  have h1 := isLL_row ha hk
  have c := cJoined h1 (nS k) (hR k hk)
  have hi2 : k + 1 ≤ 4294967296 := by omega
  simp (maxSteps := 10000000) (disch := first | assumption | omega) only [go_sem, ↓reduceIte, Nat.reduceEqDiff, reduceCtorEq, Nat.reduceAdd, Nat.reduceMul, Nat.reduceLeDiff, zc, Int.reduceToNat, s0, s1, r4096, s8, s9, s10, s3, r8192, hk', hk, tiSt, tiSS, isLL_idx ha hk]
  refine CLL_pure _ c PUt rfl rfl ?_
  simp (maxSteps := 10000000) (disch := first | assumption | omega) only [go_sem, ↓reduceIte, Nat.reduceEqDiff, reduceCtorEq, Nat.reduceAdd, Nat.reduceMul, Nat.reduceLeDiff, zc, Int.reduceToNat, s0, s1, r4096, s8, s9, s10, s3, r8192, hk', hk, tiSt, tiSS, hi2]
  exact i64c (by omega)
 ·rintro sl ro gn ⟨s0, s1, r4096, s8, s9, s10, s3, r8192⟩
  dsimp only at s0 s1 r4096 s8 s9 s10 s3 r8192
  have hk' : ¬ ((S.length : Nat) : Int) < (S.length : Nat) := by omega
  have okj : okN (jn [47] (fun i => lnT (row S i)) S.length) := Nat.le_trans (jr_len nS hR (Nat.le_refl _)) (by omega)
  have ok2 : okN (jn [47] (fun i => lnT (row S i)) S.length ++ [124]) := by
   have := jr_len nS hR (Nat.le_refl _)
   unfold okN
   rw [List.length_append]
   simp only [List.length_cons, List.length_nil]
   omega
  rw [← rowS_rws] at r8192
  simp (maxSteps := 10000000) (disch := first | assumption | omega) only [go_sem, ↓reduceIte, Nat.reduceEqDiff, reduceCtorEq, Nat.reduceAdd, Nat.reduceMul, Nat.reduceLeDiff, zc, Int.reduceToNat, s0, s1, r4096, s8, s9, s10, s3, r8192, hk', tiSt, tiSS]
  refine CLLD_q _ cJ (.cons (exq_refS r8192 (by rw [zfe]) (by decide)) (.cons (exq_sc _ _ _ (by decide)) .nil)) rfl rfl ?_
  simp (maxSteps := 10000000) (disch := first | assumption | omega) only [go_sem, ↓reduceIte, Nat.reduceEqDiff, reduceCtorEq, Nat.reduceAdd, Nat.reduceMul, Nat.reduceLeDiff, zc, Int.reduceToNat, s0, s1, r4096, s8, s9, s10, s3, r8192, hk', tiSt, tiSS, kAdd_str okj ok124, nrL_S]
  refine CLLD_pure _ cT PUt rfl ?_
  simp (maxSteps := 10000000) (disch := first | assumption | omega) only [go_sem, ↓reduceIte, Nat.reduceEqDiff, reduceCtorEq, Nat.reduceAdd, Nat.reduceMul, Nat.reduceLeDiff, zc, Int.reduceToNat, s0, s1, r4096, s8, s9, s10, s3, r8192, hk', tiSt, kAdd_str ok2 (lnT_ok nT hT)]
  refine FIN_of (by kernel_rfl) ?_
  simp (maxSteps := 10000000) (disch := first | assumption | omega) only [go_sem, ↓reduceIte, Nat.reduceEqDiff, reduceCtorEq, Nat.reduceAdd, Nat.reduceMul, Nat.reduceLeDiff, zc, Int.reduceToNat, s0, s1, r4096, s8, s9, s10, s3, r8192, hk']
  simp only [zr, zb, retR, resL, outT, outL, zes, zez, oneV, zcp, zed, zfi, Ro.dl, St.ev, zhk, ↓za, ↓reduceIte, Nat.reduceEqDiff, Nat.reduceAdd, Nat.reduceLeDiff]
  rfl
end Go.Proofs.YteaaangdibabnaaGreatDoor
/- The law of DataText. -/
namespace Go.Proofs.YteaaangdibabnaaGreatDoor
open Go.RowKit
set_option maxRecDepth 1000000
section
variable {a b : AV} {S : List (List Int)} {T : List Int}
theorem cDTs1 (ha : isLL a S) (hb : isL b T) (hS : S.length ≤ maxN) (hT : T.length ≤ maxN) (hR : ∀ i, i < S.length → (row S i).length ≤ maxN) (hd : ¬ DataP S T) : CallOK Tryz.prog 6 [.agg [a, b]] (.tup [sB [], i64 1]) := by
 have c := c66 ha hb hS hT hR (t := false) ⟨fun h => (by cases h), fun h => absurd h hd⟩
 refine call_of (fn := Tryz.f6) (code := bodyOf Tryz.f6) Tryz.func6 rfl (by kernel_rfl) (rfl) ?_
 intro sl hs
 have s0 : sl 0 = .agg [a, b] := hs 0
 dsimp only [Tryz.f6, bodyOf, Option.getD]
 simp (maxSteps := 10000000) (disch := first | assumption | omega) only [go_sem, ↓reduceIte, Nat.reduceEqDiff, reduceCtorEq, Nat.reduceAdd, Nat.reduceMul, Nat.reduceLeDiff, zc, Int.reduceToNat, s0, tiSt]
 refine CLL_pure _ c PUt rfl rfl ?_
 simp (maxSteps := 10000000) (disch := first | assumption | omega) only [go_sem, ↓reduceIte, Nat.reduceEqDiff, reduceCtorEq, Nat.reduceAdd, Nat.reduceMul, Nat.reduceLeDiff, zc, Int.reduceToNat, s0, tiSt]
 simp only [zr, zb, retR, resL, outT, outL, zes, zez, oneV, zcp, zed, zfi, Ro.dl, St.ev, zhk, ↓za, ↓reduceIte, Nat.reduceEqDiff, Nat.reduceAdd, Nat.reduceLeDiff]
theorem cDTi1 (ha : isLL a S) (hb : isL b T) (hS : S.length ≤ maxN) (hT : T.length ≤ maxN) (hR : ∀ i, i < S.length → (row S i).length ≤ maxN) (hd : ¬ DataP S T) : CallOK Tryz.prog 8 [.agg [a, b]] (.tup [sB [], i64 1]) := by
 have c := c62 ha hb hS hT hR (t := false) ⟨fun h => (by cases h), fun h => absurd h hd⟩
 refine call_of (fn := Tryz.f8) (code := bodyOf Tryz.f8) Tryz.func8 rfl (by kernel_rfl) (rfl) ?_
 intro sl hs
 have s0 : sl 0 = .agg [a, b] := hs 0
 dsimp only [Tryz.f8, bodyOf, Option.getD]
 simp (maxSteps := 10000000) (disch := first | assumption | omega) only [go_sem, ↓reduceIte, Nat.reduceEqDiff, reduceCtorEq, Nat.reduceAdd, Nat.reduceMul, Nat.reduceLeDiff, zc, Int.reduceToNat, s0, tiSt]
 refine CLL_pure _ c PUt rfl rfl ?_
 simp (maxSteps := 10000000) (disch := first | assumption | omega) only [go_sem, ↓reduceIte, Nat.reduceEqDiff, reduceCtorEq, Nat.reduceAdd, Nat.reduceMul, Nat.reduceLeDiff, zc, Int.reduceToNat, s0, tiSt]
 simp only [zr, zb, retR, resL, outT, outL, zes, zez, oneV, zcp, zed, zfi, Ro.dl, St.ev, zhk, ↓za, ↓reduceIte, Nat.reduceEqDiff, Nat.reduceAdd, Nat.reduceLeDiff]
theorem cDTs (ha : isLL a S) (hb : isL b T) (hS : S.length ≤ maxN) (hT : T.length ≤ maxN) (hR : ∀ i, i < S.length → (row S i).length ≤ maxN) (hd : DataP S T) : CallOK Tryz.prog 6 [.agg [a, b]] (.tup [sB (txT S T), i64 0]) := by
 have c := c66 ha hb hS hT hR (t := true) ⟨fun _ => hd, fun _ => rfl⟩
 have D := hd.dat
 have h16 := D.m16
 have l := D.shp.lS
 have cT := cText ha hb D.shp.nS D.shp.nT (by omega) (by omega) (fun i hi => by rw [D.shp.lR i (by omega)]; omega)
 refine call_of (fn := Tryz.f6) (code := bodyOf Tryz.f6) Tryz.func6 rfl (by kernel_rfl) (rfl) ?_
 intro sl hs
 have s0 : sl 0 = .agg [a, b] := hs 0
 dsimp only [Tryz.f6, bodyOf, Option.getD]
 simp (maxSteps := 10000000) (disch := first | assumption | omega) only [go_sem, ↓reduceIte, Nat.reduceEqDiff, reduceCtorEq, Nat.reduceAdd, Nat.reduceMul, Nat.reduceLeDiff, zc, Int.reduceToNat, s0, tiSt]
 refine CLL_pure _ c PUt rfl rfl ?_
 simp (maxSteps := 10000000) (disch := first | assumption | omega) only [go_sem, ↓reduceIte, Nat.reduceEqDiff, reduceCtorEq, Nat.reduceAdd, Nat.reduceMul, Nat.reduceLeDiff, zc, Int.reduceToNat, s0, tiSt]
 refine CLL_pure _ cT PUt rfl rfl ?_
 simp (maxSteps := 10000000) (disch := first | assumption | omega) only [go_sem, ↓reduceIte, Nat.reduceEqDiff, reduceCtorEq, Nat.reduceAdd, Nat.reduceMul, Nat.reduceLeDiff, zc, Int.reduceToNat, s0, tiSt]
 simp only [zr, zb, retR, resL, outT, outL, zes, zez, oneV, zcp, zed, zfi, Ro.dl, St.ev, zhk, ↓za, ↓reduceIte, Nat.reduceEqDiff, Nat.reduceAdd, Nat.reduceLeDiff]
theorem cDTi (ha : isLL a S) (hb : isL b T) (hS : S.length ≤ maxN) (hT : T.length ≤ maxN) (hR : ∀ i, i < S.length → (row S i).length ≤ maxN) (hd : DataP S T) : CallOK Tryz.prog 8 [.agg [a, b]] (.tup [sB (txT S T), i64 0]) := by
 have c := c62 ha hb hS hT hR (t := true) ⟨fun _ => hd, fun _ => rfl⟩
 have D := hd.dat
 have h16 := D.m16
 have l := D.shp.lS
 have cT := cTextI ha hb D.shp.nS D.shp.nT (by omega) (by omega) (fun i hi => by rw [D.shp.lR i (by omega)]; omega)
 refine call_of (fn := Tryz.f8) (code := bodyOf Tryz.f8) Tryz.func8 rfl (by kernel_rfl) (rfl) ?_
 intro sl hs
 have s0 : sl 0 = .agg [a, b] := hs 0
 dsimp only [Tryz.f8, bodyOf, Option.getD]
 simp (maxSteps := 10000000) (disch := first | assumption | omega) only [go_sem, ↓reduceIte, Nat.reduceEqDiff, reduceCtorEq, Nat.reduceAdd, Nat.reduceMul, Nat.reduceLeDiff, zc, Int.reduceToNat, s0, tiSt]
 refine CLL_pure _ c PUt rfl rfl ?_
 simp (maxSteps := 10000000) (disch := first | assumption | omega) only [go_sem, ↓reduceIte, Nat.reduceEqDiff, reduceCtorEq, Nat.reduceAdd, Nat.reduceMul, Nat.reduceLeDiff, zc, Int.reduceToNat, s0, tiSt]
 refine CLL_pure _ cT PUt rfl rfl ?_
 simp (maxSteps := 10000000) (disch := first | assumption | omega) only [go_sem, ↓reduceIte, Nat.reduceEqDiff, reduceCtorEq, Nat.reduceAdd, Nat.reduceMul, Nat.reduceLeDiff, zc, Int.reduceToNat, s0, tiSt]
 simp only [zr, zb, retR, resL, outT, outL, zes, zez, oneV, zcp, zed, zfi, Ro.dl, St.ev, zhk, ↓za, ↓reduceIte, Nat.reduceEqDiff, Nat.reduceAdd, Nat.reduceLeDiff]
end
theorem kNe_str {a : List UInt8} {inf : TI} {ro : Ro} : kBin0 (some inf) ro .neq (sB a) (sB a) = some ⟨bo false, none, [], []⟩ := by
 unfold kBin0
 simp only [zee, if_true, binA]
 have : semPure (binOp .neq 0 (.string ⟨a.toArray⟩) (.string ⟨a.toArray⟩)) = some (.bool false) := by
  simp only [binOp, ne_eq, not_true_eq_false, if_false, Op.stringOp, beq_self_eq_true, Bool.not_true]
  rfl
 rw [this]
theorem cLDT {a b : AV} {S : List (List Int)} {T : List Int} (ha : isLLw a S) (hb : isLw b T) (l1 : S.length < 2^63) (l2 : ∀ i, (row S i).length < 2^63) (l3 : T.length < 2^63) : CallOK Tryz.prog 3 [.agg [a, b]] (bo true) := by
 have cZ := c25 (left := 1048576) ha hb l1 (fun i _ => l2 i) l3 (by decide) (by decide)
 refine call_of (fn := Tryz.f3) (code := bodyOf Tryz.f3) Tryz.func3 rfl (by kernel_rfl) (rfl) ?_
 intro sl hs
 have s0 : sl 0 = .agg [a, b] := hs 0
 by_cases hz : szD S T 1048576 < 0
 ·dsimp only [Tryz.f3, bodyOf, Option.getD]
  simp (maxSteps := 10000000) (disch := first | assumption | omega) only [go_sem, ↓reduceIte, Nat.reduceEqDiff, reduceCtorEq, Nat.reduceAdd, Nat.reduceMul, Nat.reduceLeDiff, zc, Int.reduceToNat, s0, tiSt]
  refine CLL_pure _ cZ (by simp (disch := assumption) only [pureL, pureA, isLw_pure, isLLw_pure, pureL_map, Bool.and_self, Bool.and_true]) rfl rfl ?_
  simp (maxSteps := 10000000) (disch := first | assumption | omega) only [go_sem, ↓reduceIte, Nat.reduceEqDiff, reduceCtorEq, Nat.reduceAdd, Nat.reduceMul, Nat.reduceLeDiff, zc, Int.reduceToNat, s0, hz]
  simp only [zr, zb, retR, resL, outT, outL, zes, zez, oneV, zcp, zed, zfi, Ro.dl, St.ev, zhk, ↓za, ↓reduceIte, Nat.reduceEqDiff, Nat.reduceAdd, Nat.reduceLeDiff]
 ·obtain ⟨z1, z2, z3⟩ := szD_ok hz
  have hS := maxN_of z1
  have hT := maxN_of z2
  have hR : ∀ i, i < S.length → (row S i).length ≤ maxN := fun i hi => maxN_of (z3 i hi)
  have cT := c27 ha hb hS hT hR
  have cE := c12 (isLL_imm S) (isLL_imm S) (isL_imm T) (isL_imm T) hS (row_max hR) hT
  rw [decide_eq_true ⟨rfl, rfl⟩] at cE
  obtain ⟨x, y, hL, hI⟩ : ∃ (x : List UInt8) (y : Int), CallOK Tryz.prog 6 [.agg [immLL S, immL T]] (.tup [sB x, i64 y]) ∧ CallOK Tryz.prog 8 [.agg [immLL S, immL T]] (.tup [sB x, i64 y]) := by
   by_cases h0 : DataP S T
   ·exact ⟨_, _, cDTs (isLL_imm S) (isL_imm T) hS hT hR h0, cDTi (isLL_imm S) (isL_imm T) hS hT hR h0⟩
   ·exact ⟨_, _, cDTs1 (isLL_imm S) (isL_imm T) hS hT hR h0, cDTi1 (isLL_imm S) (isL_imm T) hS hT hR h0⟩
  dsimp only [Tryz.f3, bodyOf, Option.getD]
  simp (maxSteps := 10000000) (disch := first | assumption | omega) only [go_sem, ↓reduceIte, Nat.reduceEqDiff, reduceCtorEq, Nat.reduceAdd, Nat.reduceMul, Nat.reduceLeDiff, zc, Int.reduceToNat, s0, tiSt]
  refine CLL_pure _ cZ (by simp (disch := assumption) only [pureL, pureA, isLw_pure, isLLw_pure, pureL_map, Bool.and_self, Bool.and_true]) rfl rfl ?_
  simp (maxSteps := 10000000) (disch := first | assumption | omega) only [go_sem, ↓reduceIte, Nat.reduceEqDiff, reduceCtorEq, Nat.reduceAdd, Nat.reduceMul, Nat.reduceLeDiff, zc, Int.reduceToNat, s0, hz, tiSt]
  refine CLL_pure _ cT (by simp (disch := assumption) only [pureL, pureA, isLw_pure, isLLw_pure, pureL_map, Bool.and_self, Bool.and_true]) rfl rfl ?_
  simp (maxSteps := 10000000) (disch := first | assumption | omega) only [go_sem, ↓reduceIte, Nat.reduceEqDiff, reduceCtorEq, Nat.reduceAdd, Nat.reduceMul, Nat.reduceLeDiff, zc, Int.reduceToNat, s0, tiSt]
  refine CLL_q _ hL (by repeat' first | exact exqL.nil | refine exqL.cons ?_ ?_ | exact exq_sc _ _ _ (by decide) | exact exq_L (by first | assumption | exact isL_imm _) (by decide) | exact exq_LL (by assumption) (by decide) | exact exq_LLL (by assumption) (by decide) | exact exq_refL (by first | assumption | (simp only [↓za, ↓reduceIte, Nat.reduceEqDiff, zb, reduceCtorEq]; done) | (simp only [↓za, ↓reduceIte, Nat.reduceEqDiff, zb, reduceCtorEq]; first | rfl | assumption)) (by first | rfl | (simp only [zfe, List.length_map, tms_len]; done)) (by decide) | exact exq_refLL (by first | assumption | (simp only [↓za, ↓reduceIte, Nat.reduceEqDiff, zb, reduceCtorEq]; done) | (simp only [↓za, ↓reduceIte, Nat.reduceEqDiff, zb, reduceCtorEq]; first | rfl | assumption)) (by first | rfl | (simp only [zfe, List.length_map, tms_len]; done)) (by decide) | exact exq_cube (by first | assumption | (simp only [↓za, ↓reduceIte, Nat.reduceEqDiff, zb, reduceCtorEq]; done) | (simp only [↓za, ↓reduceIte, Nat.reduceEqDiff, zb, reduceCtorEq]; first | rfl | assumption)) (by decide) | exact exq_mat (by first | assumption | (simp only [↓za, ↓reduceIte, Nat.reduceEqDiff, zb, reduceCtorEq]; done) | (simp only [↓za, ↓reduceIte, Nat.reduceEqDiff, zb, reduceCtorEq]; first | rfl | assumption)) (by decide) | refine exq_agg ?_) rfl rfl rfl ?_
  simp (maxSteps := 10000000) (disch := first | assumption | omega) only [go_sem, ↓reduceIte, Nat.reduceEqDiff, reduceCtorEq, Nat.reduceAdd, Nat.reduceMul, Nat.reduceLeDiff, zc, Int.reduceToNat, s0, tiSt]
  refine CLL_pure _ cT (by simp (disch := assumption) only [pureL, pureA, isLw_pure, isLLw_pure, pureL_map, Bool.and_self, Bool.and_true]) rfl rfl ?_
  simp (maxSteps := 10000000) (disch := first | assumption | omega) only [go_sem, ↓reduceIte, Nat.reduceEqDiff, reduceCtorEq, Nat.reduceAdd, Nat.reduceMul, Nat.reduceLeDiff, zc, Int.reduceToNat, s0, tiSt]
  refine CLL_q _ hI (by repeat' first | exact exqL.nil | refine exqL.cons ?_ ?_ | exact exq_sc _ _ _ (by decide) | exact exq_L (by first | assumption | exact isL_imm _) (by decide) | exact exq_LL (by assumption) (by decide) | exact exq_LLL (by assumption) (by decide) | exact exq_refL (by first | assumption | (simp only [↓za, ↓reduceIte, Nat.reduceEqDiff, zb, reduceCtorEq]; done) | (simp only [↓za, ↓reduceIte, Nat.reduceEqDiff, zb, reduceCtorEq]; first | rfl | assumption)) (by first | rfl | (simp only [zfe, List.length_map, tms_len]; done)) (by decide) | exact exq_refLL (by first | assumption | (simp only [↓za, ↓reduceIte, Nat.reduceEqDiff, zb, reduceCtorEq]; done) | (simp only [↓za, ↓reduceIte, Nat.reduceEqDiff, zb, reduceCtorEq]; first | rfl | assumption)) (by first | rfl | (simp only [zfe, List.length_map, tms_len]; done)) (by decide) | exact exq_cube (by first | assumption | (simp only [↓za, ↓reduceIte, Nat.reduceEqDiff, zb, reduceCtorEq]; done) | (simp only [↓za, ↓reduceIte, Nat.reduceEqDiff, zb, reduceCtorEq]; first | rfl | assumption)) (by decide) | exact exq_mat (by first | assumption | (simp only [↓za, ↓reduceIte, Nat.reduceEqDiff, zb, reduceCtorEq]; done) | (simp only [↓za, ↓reduceIte, Nat.reduceEqDiff, zb, reduceCtorEq]; first | rfl | assumption)) (by decide) | refine exq_agg ?_) rfl rfl rfl ?_
  simp (maxSteps := 10000000) (disch := first | assumption | omega) only [go_sem, ↓reduceIte, Nat.reduceEqDiff, reduceCtorEq, Nat.reduceAdd, Nat.reduceMul, Nat.reduceLeDiff, zc, Int.reduceToNat, s0, tiSt, kNe_str]
  refine CLLD_pure _ cT (by simp (disch := assumption) only [pureL, pureA, isLw_pure, isLLw_pure, pureL_map, Bool.and_self, Bool.and_true]) rfl ?_
  simp (maxSteps := 10000000) (disch := first | assumption | omega) only [go_sem, ↓reduceIte, Nat.reduceEqDiff, reduceCtorEq, Nat.reduceAdd, Nat.reduceMul, Nat.reduceLeDiff, zc, Int.reduceToNat, s0, tiSt]
  refine CLLD_q _ cE (by repeat' first | exact exqL.nil | refine exqL.cons ?_ ?_ | exact exq_sc _ _ _ (by decide) | exact exq_L (by first | assumption | exact isL_imm _) (by decide) | exact exq_LL (by assumption) (by decide) | exact exq_LLL (by assumption) (by decide) | exact exq_refL (by first | assumption | (simp only [↓za, ↓reduceIte, Nat.reduceEqDiff, zb, reduceCtorEq]; done) | (simp only [↓za, ↓reduceIte, Nat.reduceEqDiff, zb, reduceCtorEq]; first | rfl | assumption)) (by first | rfl | (simp only [zfe, List.length_map, tms_len]; done)) (by decide) | exact exq_refLL (by first | assumption | (simp only [↓za, ↓reduceIte, Nat.reduceEqDiff, zb, reduceCtorEq]; done) | (simp only [↓za, ↓reduceIte, Nat.reduceEqDiff, zb, reduceCtorEq]; first | rfl | assumption)) (by first | rfl | (simp only [zfe, List.length_map, tms_len]; done)) (by decide) | exact exq_cube (by first | assumption | (simp only [↓za, ↓reduceIte, Nat.reduceEqDiff, zb, reduceCtorEq]; done) | (simp only [↓za, ↓reduceIte, Nat.reduceEqDiff, zb, reduceCtorEq]; first | rfl | assumption)) (by decide) | exact exq_mat (by first | assumption | (simp only [↓za, ↓reduceIte, Nat.reduceEqDiff, zb, reduceCtorEq]; done) | (simp only [↓za, ↓reduceIte, Nat.reduceEqDiff, zb, reduceCtorEq]; first | rfl | assumption)) (by decide) | refine exq_agg ?_) rfl rfl ?_
  simp (maxSteps := 10000000) (disch := first | assumption | omega) only [go_sem, ↓reduceIte, Nat.reduceEqDiff, reduceCtorEq, Nat.reduceAdd, Nat.reduceMul, Nat.reduceLeDiff, zc, Int.reduceToNat, s0]
  refine FIN_of (by kernel_rfl) ?_
  simp (maxSteps := 10000000) (disch := first | assumption | omega) only [go_sem, ↓reduceIte, Nat.reduceEqDiff, reduceCtorEq, Nat.reduceAdd, Nat.reduceMul, Nat.reduceLeDiff, zc, Int.reduceToNat, s0]
  simp only [zr, zb, retR, resL, outT, outL, zes, zez, oneV, zcp, zed, zfi, Ro.dl, St.ev, zhk, ↓za, ↓reduceIte, Nat.reduceEqDiff, Nat.reduceAdd, Nat.reduceLeDiff]
theorem gd_of {w : World} (h : Lib.TabIs Tryz.prog w "internal/strconv.uint64pow10" .u64 Lib.pow10Tab) : Gd w := by
 refine Gd.start ⟨by decide, ?_⟩
 have hg : Tryz.prog.globalNamed "internal/strconv.uint64pow10" = some 5 := laysFmt.m17
 unfold Lib.TabIs World.var? at h
 rw [hg] at h
 have h' : (match w.heap[5]? with | some (Obj.cells cs _ _) => some cs | _ => none) = some (Lib.pow10Tab.map fun z => Value.int .u64 z).toArray := h
 split at h'
 ·rename_i cs t fr hc
  simp only [Option.some.injEq] at h'
  subst h'
  exact ⟨t, fr, hc⟩
 ·cases h'
end Go.Proofs.YteaaangdibabnaaGreatDoor
