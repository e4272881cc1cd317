/- Texts joined: TC TD. -/
import Derived.Test.YtkimbjcaoolfpaaGreatDoorTc
set_option linter.all false
/- The matrices of words by the program. -/
namespace Go.Proofs.YtkimbjcaoolfpaaGreatDoor
open Go.RowKit
set_option maxRecDepth 1000000
theorem qt1_dg {a : AV} {xs : List Int} (ha : isL a xs) (hx : xs.length ≤ maxN) : CallOK Tryz.prog 56 [a] (matA (dgM (atI xs)) xs.length xs.length) := by
 have c := c143 ha hx
 have e : matA (dgE xs xs.length) xs.length xs.length = matA (dgM (atI xs)) xs.length xs.length := mat_congr fun i j hi _ => by
  unfold dgE dgM
  by_cases h : i = j
  ·rw [if_pos ⟨h, hi⟩, if_pos h.symm]
  ·rw [if_neg fun x => h x.1, if_neg fun x => h x.symm]
 rw [e] at c; exact c
def tbl (a : AV) (n g6 g13 : Nat) : List (Nat × Int × AV) := [(3, 115, a), (7, 116, .ref 12384 g6 [] 0 n), (9, 83, .ref 8288 1 [] 0 n), (14, 84, .ref 12496 g13 [] 0 n)]
structure MpO (a : AV) (n : Nat) (w0 : World) (L : Nat → Prop) (cS : Cx) (g6 g13 r : Nat) : Prop where
 own : ¬ cS.A r
 fresh : w0.heap.size ≤ r
 mp : ∃ es clock, cS.w.heap[r]? = some (.map es clock) ∧ (∀ e, e ∈ es.toList → ∃ q k av, (q, k, av) ∈ tbl a n g6 g13 ∧ L q ∧ e.key = .int .u8 k ∧ Rel cS av e.val []) ∧
  (∀ q k av, (q, k, av) ∈ tbl a n g6 g13 → L q → ∃ e, e ∈ es.toList ∧ e.key = .int .u8 k) ∧ ∀ e e', e ∈ es.toList → e' ∈ es.toList → e.key = e'.key → e = e'
theorem tbl3 {a : AV} {n g6 g13 : Nat} : (3, 115, a) ∈ tbl a n g6 g13 := by simp [tbl]
theorem tbl7 {a : AV} {n g6 g13 : Nat} : (7, 116, .ref 12384 g6 [] 0 n) ∈ tbl a n g6 g13 := by simp [tbl]
theorem tbl9 {a : AV} {n g6 g13 : Nat} : (9, 83, .ref 8288 1 [] 0 n) ∈ tbl a n g6 g13 := by simp [tbl]
theorem tbl14 {a : AV} {n g6 g13 : Nat} : (14, 84, .ref 12496 g13 [] 0 n) ∈ tbl a n g6 g13 := by simp [tbl]
theorem tbl_mem {a : AV} {n g6 g13 q : Nat} {k : Int} {av : AV} (h : (q, k, av) ∈ tbl a n g6 g13) : (q = 3 ∧ k = 115 ∧ av = a) ∨ (q = 7 ∧ k = 116 ∧ av = .ref 12384 g6 [] 0 n) ∨ (q = 9 ∧ k = 83 ∧ av = .ref 8288 1 [] 0 n) ∨ (q = 14 ∧ k = 84 ∧ av = .ref 12496 g13 [] 0 n) := by
 simpa [tbl] using h
theorem tbl_key {a : AV} {n g6 g13 q q' : Nat} {k : Int} {av av' : AV} (h : (q, k, av) ∈ tbl a n g6 g13) (h' : (q', k, av') ∈ tbl a n g6 g13) : q = q' ∧ av = av' := by
 rcases tbl_mem h with ⟨rfl, rfl, rfl⟩ | ⟨rfl, rfl, rfl⟩ | ⟨rfl, rfl, rfl⟩ | ⟨rfl, rfl, rfl⟩ <;> rcases tbl_mem h' with ⟨rfl, e, rfl⟩ | ⟨rfl, e, rfl⟩ | ⟨rfl, e, rfl⟩ | ⟨rfl, e, rfl⟩ <;> first | exact ⟨rfl, rfl⟩ | (exfalso; omega)
theorem MpO.cong {a : AV} {n : Nat} {w0 : World} {L L' : Nat → Prop} {cS : Cx} {g6 g13 r : Nat} (m : MpO a n w0 L cS g6 g13 r) (h : ∀ q, (q = 3 ∨ q = 7 ∨ q = 9 ∨ q = 14) → (L' q ↔ L q)) : MpO a n w0 L' cS g6 g13 r := by
 obtain ⟨es, clock, h1, h2, h3, h4⟩ := m.mp
 have hq : ∀ q k av, (q, k, av) ∈ tbl a n g6 g13 → (L' q ↔ L q) := fun q k av ht => h q (by rcases tbl_mem ht with ⟨rfl, -⟩ | ⟨rfl, -⟩ | ⟨rfl, -⟩ | ⟨rfl, -⟩ <;> simp)
 exact ⟨m.own, m.fresh, es, clock, h1, fun e he => by obtain ⟨q, k, av, g1, g2, g3⟩ := h2 e he; exact ⟨q, k, av, g1, (hq q k av g1).2 g2, g3⟩, fun q k av ht hL => h3 q k av ht ((hq q k av ht).1 hL), h4⟩
theorem MpO.turn6 {a : AV} {n : Nat} {w0 : World} {L : Nat → Prop} {cS : Cx} {g6 g6' g13 r : Nat} (m : MpO a n w0 L cS g6 g13 r) (h7 : ¬ L 7) : MpO a n w0 L cS g6' g13 r := by
 obtain ⟨es, clock, h1, h2, h3, h4⟩ := m.mp
 refine ⟨m.own, m.fresh, es, clock, h1, fun e he => ?_, fun q k av ht hL => ?_, h4⟩
 ·obtain ⟨q, k, av, g1, g2, g3⟩ := h2 e he
  rcases tbl_mem g1 with ⟨rfl, rfl, rfl⟩ | ⟨rfl, rfl, rfl⟩ | ⟨rfl, rfl, rfl⟩ | ⟨rfl, rfl, rfl⟩
  ·exact ⟨3, 115, _, tbl3, g2, g3⟩
  ·exact absurd g2 h7
  ·exact ⟨9, 83, _, tbl9, g2, g3⟩
  ·exact ⟨14, 84, _, tbl14, g2, g3⟩
 ·rcases tbl_mem ht with ⟨rfl, rfl, rfl⟩ | ⟨rfl, rfl, rfl⟩ | ⟨rfl, rfl, rfl⟩ | ⟨rfl, rfl, rfl⟩
  ·exact h3 3 115 _ tbl3 hL
  ·exact absurd hL h7
  ·exact h3 9 83 _ tbl9 hL
  ·exact h3 14 84 _ tbl14 hL
theorem MpO.turn13 {a : AV} {n : Nat} {w0 : World} {L : Nat → Prop} {cS : Cx} {g6 g13 g13' r : Nat} (m : MpO a n w0 L cS g6 g13 r) (h7 : ¬ L 14) : MpO a n w0 L cS g6 g13' r := by
 obtain ⟨es, clock, h1, h2, h3, h4⟩ := m.mp
 refine ⟨m.own, m.fresh, es, clock, h1, fun e he => ?_, fun q k av ht hL => ?_, h4⟩
 ·obtain ⟨q, k, av, g1, g2, g3⟩ := h2 e he
  rcases tbl_mem g1 with ⟨rfl, rfl, rfl⟩ | ⟨rfl, rfl, rfl⟩ | ⟨rfl, rfl, rfl⟩ | ⟨rfl, rfl, rfl⟩
  ·exact ⟨3, 115, _, tbl3, g2, g3⟩
  ·exact ⟨7, 116, _, tbl7, g2, g3⟩
  ·exact ⟨9, 83, _, tbl9, g2, g3⟩
  ·exact absurd g2 h7
 ·rcases tbl_mem ht with ⟨rfl, rfl, rfl⟩ | ⟨rfl, rfl, rfl⟩ | ⟨rfl, rfl, rfl⟩ | ⟨rfl, rfl, rfl⟩
  ·exact h3 3 115 _ tbl3 hL
  ·exact h3 7 116 _ tbl7 hL
  ·exact h3 9 83 _ tbl9 hL
  ·exact absurd hL h7
theorem mapTy : Tryz.prog.underlying 63 = some (.map 5 22) := by kernel_rfl
theorem u8Ty : Tryz.prog.underlying 5 = some (.int .u8) := by kernel_rfl
theorem MpO.insert {a : AV} {n : Nat} {w0 : World} {A0 : Nat → Prop} {F0 : List Nat} {N : Nat} {L L' : Nat → Prop} {cS c : Cx} {Φ : Nat → Nat → List Nat} {st : St} {act : Act} {g6 g13 r q : Nat} {k : Int} {av : AV} {u : Value} (m : MpO a n w0 L cS g6 g13 r) (hS : SR w0 A0 F0 cS N st act c Φ)
  (ht : (q, k, av) ∈ tbl a n g6 g13) (hq : ¬ L q) (hu : Rel c av u []) (hL : ∀ j, j ≠ q → (L' j ↔ L j)) (hLq : L' q) :
  ∃ w', (Instr.mapUpdate 63 (.map (some r)) (.int .u8 k) u).run Tryz.prog c.w = .ok () w' ∧ SR w0 A0 F0 { c with w := w' } N st act { c with w := w' } Φ ∧ MpO a n w0 L' { c with w := w' } g6 g13 r := by
 obtain ⟨es, clock, h1, h2, h3, h4⟩ := m.mp
 have hlt : r < cS.w.heap.size := (Array.getElem?_eq_some_iff.1 h1).1
 have hb : c.w.heap[r]? = some (.map es clock) := (hS.kp.hI r hlt m.own).trans h1
 have hn : ∀ e, e ∈ es.toList → ∃ k', e.key = .int .u8 k' ∧ k' ≠ k := fun e he => by
  obtain ⟨q', k', av', g1, g2, g3, g4⟩ := h2 e he
  exact ⟨k', g3, fun e2 => by subst e2; exact hq ((tbl_key g1 ht).1 ▸ g2)⟩
 have hset := MapKept.heap_set (o' := .map (es.push { key := .int .u8 k, val := u, born := clock }) (clock + 1)) hb
 have mw : MapW c.w { c.w with heap := c.w.heap.setIfInBounds r (.map (es.push { key := .int .u8 k, val := u, born := clock }) (clock + 1)) } r := ⟨hset.2, ⟨es, clock, hb⟩, ⟨_, _, hset.1⟩, by simp⟩
 refine ⟨_, run_insert mapTy u8Ty hb hn, hS.mapw mw m.fresh rfl rfl rfl, ⟨fun h => m.own (hS.kp.hA r hlt h), m.fresh, _, _, hset.1, fun e he => ?_, fun q' k' av' ht' hL' => ?_, fun e e' he he' hk => ?_⟩⟩
 ·rw [Array.toList_push] at he
  rcases List.mem_append.1 he with he | he
  ·obtain ⟨q', k', av', g1, g2, g3, g4⟩ := h2 e he
   have hne : q' ≠ q := fun e2 => by subst e2; exact hq g2
   exact ⟨q', k', av', g1, (hL q' hne).2 g2, g3, RelL.mapw mw (RelL.mono g4 hS.kp (by simp))⟩
  ·simp only [List.mem_singleton] at he
   subst he
   exact ⟨q, k, av, ht, hLq, rfl, RelL.mapw mw hu⟩
 ·by_cases e : q' = q
  ·subst e
   have : k' = k := by
    rcases tbl_mem ht with ⟨rfl, rfl, rfl⟩ | ⟨rfl, rfl, rfl⟩ | ⟨rfl, rfl, rfl⟩ | ⟨rfl, rfl, rfl⟩ <;> rcases tbl_mem ht' with ⟨e, rfl, rfl⟩ | ⟨e, rfl, rfl⟩ | ⟨e, rfl, rfl⟩ | ⟨e, rfl, rfl⟩ <;> first | rfl | (exfalso; omega)
   subst this
   exact ⟨_, by rw [Array.toList_push]; exact List.mem_append.2 (.inr (List.mem_singleton.2 rfl)), rfl⟩
  ·obtain ⟨e0, g1, g2⟩ := h3 q' k' av' ht' ((hL q' e).1 hL')
   exact ⟨e0, by rw [Array.toList_push]; exact List.mem_append.2 (.inl g1), g2⟩
 ·rw [Array.toList_push] at he he'
  rcases List.mem_append.1 he with he | he <;> rcases List.mem_append.1 he' with he' | he'
  ·exact h4 e e' he he' hk
  ·simp only [List.mem_singleton] at he'
   subst he'
   obtain ⟨k', g1, g2⟩ := hn e he
   rw [g1] at hk
   simp only [Value.int.injEq, true_and] at hk
   exact absurd hk g2
  ·simp only [List.mem_singleton] at he
   subst he
   obtain ⟨k', g1, g2⟩ := hn e' he'
   rw [g1] at hk
   simp only [Value.int.injEq, true_and] at hk
   exact absurd hk.symm g2
  ·simp only [List.mem_singleton] at he he'
   rw [he, he']
theorem MpO.look {a : AV} {n : Nat} {w0 : World} {A0 : Nat → Prop} {F0 : List Nat} {N : Nat} {L : Nat → Prop} {cS c : Cx} {Φ : Nat → Nat → List Nat} {st : St} {act : Act} {g6 g13 r q : Nat} {k : Int} {av : AV} (m : MpO a n w0 L cS g6 g13 r) (hS : SR w0 A0 F0 cS N st act c Φ)
  (ht : (q, k, av) ∈ tbl a n g6 g13) (hq : L q) : ∃ u, (Instr.lookup 63 (.map (some r)) (.int .u8 k) false).run Tryz.prog c.w = .ok u c.w ∧ Rel c av u [] := by
 obtain ⟨es, clock, h1, h2, h3, h4⟩ := m.mp
 have hlt : r < cS.w.heap.size := (Array.getElem?_eq_some_iff.1 h1).1
 have hb : c.w.heap[r]? = some (.map es clock) := (hS.kp.hI r hlt m.own).trans h1
 obtain ⟨e0, g1, g2⟩ := h3 q k av ht hq
 refine ⟨e0.val, run_look mapTy u8Ty hb (fun e he => ?_) ⟨e0, g1, g2⟩, ?_⟩
 ·obtain ⟨q', k', av', f1, f2, f3, f4⟩ := h2 e he
  exact ⟨k', f3, fun e2 => by subst e2; rw [h4 e e0 he g1 (f3.trans g2.symm)]⟩
 ·obtain ⟨q', k', av', f1, f2, f3, f4⟩ := h2 e0 g1
  rw [g2] at f3
  simp only [Value.int.injEq, true_and] at f3
  subst f3
  rw [(tbl_key ht f1).2]
  exact RelL.mono f4 hS.kp (by simp)
theorem wp_region_split {P : Program} {id : Nat} {ops : Array Oper} {Q : Exit → Act → World → Prop} {a : Act} {w : World} (k : Nat) (h : wpList P ops Q (ops.toList.take k ++ ops.toList.drop k) a w) : (Code.region id ops false).wp P Q a w :=
 wp_region_list (by rw [List.take_append_drop] at h; exact h)
theorem look_list {ops : Array Oper} {o : Oper} {rest : List Oper} {K : Exit → Act → World → Prop} {act : Act} {w : World} {u : Value} {r : Nat} {k : Int} {m x : Operand} (hw : Region.wanted o (yielded ops act.tmps) = true) (ho : o.op = .lookup 63 m x false) (hm : act.eval m = .map (some r)) (hx : act.eval x = .int .u8 k)
  (h : (Instr.lookup 63 (.map (some r)) (.int .u8 k) false).run Tryz.prog w = .ok u w) (hK : wpList Tryz.prog ops K rest (act.put o.dst u) w) : wpList Tryz.prog ops K (o :: rest) act w := by
 unfold wpList
 rw [if_pos hw]
 refine .inl ?_
 unfold Oper.wp
 have e : (execOp act.eval o).run Tryz.prog w = .ok (.value u) w := by
  unfold execOp
  rw [ho]
  simp [hm, hx, h, Result.andThen]
 rw [e, Oper.upon_value]
 exact hK
structure LI (n : Nat) (S : Nat → Nat → Int) (T : List Int) (s : ByteArray) (g6 g13 r k : Nat) (st : St) : Prop where
 s1 : st.sl 1 = stA s
 s5 : ∃ u v, st.sl 5 = .ref u v [] 0 n ∧ st.ro u v = some (matA (wdG n S (atI T) (ivM S n) s k) n n)
 s7 : st.sl 7 = .sc (.map (some r))
 s28 : st.sl 28 = stA s
 s29 : st.sl 29 = i64 (s.size : Int)
 s30 : st.sl 30 = i64 (k : Int)
 r6 : st.ro 8288 1 = some (matA (ivM S n) n n)
 rT : st.ro 12384 g6 = some (matA (dgM (atI T)) n n)
 rE : st.ro 12496 g13 = some (matA (dgM fun i => pw (atI T i) 55439) n n)
noncomputable def MRest : Code := cAt [1, 1, 1] (bodyOf Tryz.f34)
theorem matI_loop {a : AV} {n : Nat} {S : Nat → Nat → Int} {T : List Int} {s : ByteArray} (ha : isLL a (matL S n n)) (h0 : 0 < n) (hn : n ≤ 4096) (hS : numM S) (hTn : numL T) (hE : numM (ivM S n)) (hs : s.size ≤ 60) (hw : WordP s)
  {w : World} {A : Nat → Prop} {cS c : Cx} {Φ : Nat → Nat → List Nat} {st : St} {act : Act} {g6 g13 r : Nat} (hsr : SR w A [] cS 42 st act c Φ) (f1 : st.sl 1 = stA s) (f5 : st.sl 5 = .ref 8240 1 [] 0 n) (f7 : st.sl 7 = .sc (.map (some r)))
  (r5 : st.ro 8240 1 = some (matA unM n n)) (r6 : st.ro 8288 1 = some (matA (ivM S n) n n)) (rT : st.ro 12384 g6 = some (matA (dgM (atI T)) n n)) (rE : st.ro 12496 g13 = some (matA (dgM fun i => pw (atI T i) 55439) n n))
  {L : Nat → Prop} (hL : ∀ q, q < 17 → L q) (mp : MpO a n w L cS g6 g13 r) :
  MRest.wp Tryz.prog (fun e a' w' => e = .ret ∧ ∃ c Φ st, c.w = w' ∧ SR w A [] cS 42 st a' c Φ ∧ retR (tiG Tryz.prog) [.tmp 4] st = some (matA (wdG n S (atI T) (ivM S n) s s.size) n n)) act c.w := by
 have T0 := tiG_ok Tryz.prog
 have I0 := cfgOf_inl Tryz.prog ti0
 dsimp only [MRest, Tryz.f34, bodyOf, Option.getD, cAt]
 refine wp_seq (wp_seq (wp_mono (codeW_ok (C := XX.cfg) T0 I0 mixed0 _ hsr (by kernel_rfl) (wk_ok _ (?_ : WK XX _ [] (fun e st => e = .normal ∧ LI n S T s g6 g13 r 0 st) _))) ?_))
 ·obtain ⟨sl, ro, gn⟩ := st
  dsimp only at f1 f5 f7 r5 r6 rT rE
  simp (maxSteps := 10000000) (disch := first | assumption | omega) only [go_sem, ↓reduceIte, Nat.reduceEqDiff, reduceCtorEq, Nat.reduceAdd, Nat.reduceMul, Nat.reduceLeDiff, zc, Int.reduceToNat, f1, kLen_str, ti9, ti5w]
  refine ⟨?_, ⟨8240, 1, ?_, r5⟩, ?_, ?_, ?_, ?_, r6, rT, rE⟩ <;> simp only [go_sem, ↓reduceIte, Nat.reduceEqDiff, reduceCtorEq, Nat.reduceAdd, Nat.reduceMul, Nat.reduceLeDiff, f1, f5, f7, Int.reduceToNat]
  rfl
 rintro e a1 w1 ⟨st1, c1, Φ1, rfl, hs1, rfl, hI1⟩
 refine wp_block (wp_loop_ghost (fun m a' w' => ∃ k c Φ st, k + m = s.size ∧ c.w = w' ∧ SR w A [] cS 42 st a' c Φ ∧ LI n S T s g6 g13 r k st) s.size ⟨0, c1, Φ1, st1, Nat.zero_add _, rfl, hs1, hI1⟩ ?_)
 rintro m a2 w2 ⟨k, c2, Φ2, ⟨sl, ro, gn⟩, hkm, rfl, hs2, hI⟩
 obtain ⟨s1, ⟨u, v, s5, r5⟩, s7, s28, s29, s30, r8288, rT, rE⟩ := hI
 dsimp only at s1 s5 r5 s7 s28 s29 s30 r8288 rT rE
 refine wp_seq (wp_mono (codeW_ok (C := XX.cfg) T0 I0 mixed0 _ hs2 (by kernel_rfl) (wk_ok _ (?_ : WK XX _ [] (fun e st => e = .normal ∧ st = ⟨upd sl 31 (.sc (.bool (decide ((k : Int) < (s.size : Int))))), ro, gn⟩) _))) ?_)
 ·simp (maxSteps := 10000000) (disch := first | assumption | omega) only [go_sem, ↓reduceIte, Nat.reduceEqDiff, reduceCtorEq, Nat.reduceAdd, Nat.reduceMul, Nat.reduceLeDiff, zc, Int.reduceToNat, s29, s30]
 rintro e a3 w3 ⟨st3, c3, Φ3, rfl, hs3, rfl, rfl⟩
 have hc : a3.eval (.tmp 31) = .bool (decide ((k : Int) < (s.size : Int))) := by
  have := hs3.ev (.tmp 31)
  rw [show (⟨upd sl 31 (.sc (.bool (decide ((k : Int) < (s.size : Int))))), ro, gn⟩ : St).ev (.tmp 31) = .sc (.bool (decide ((k : Int) < (s.size : Int)))) from upd_same sl 31 (.sc (.bool (decide ((k : Int) < (s.size : Int)))))] at this
  exact (Rel.sc_inv this).1
 show Code.wp _ _ _ _ _
 by_cases hk : k < s.size
 ·have hk' : (k : Int) < (s.size : Int) := by omega
  rw [decide_eq_true hk'] at hc
  refine wp_seq (wp_cond_true hc (wp_skip ?_))
  refine wp_seq (wp_block (wp_seq (wp_mono (codeW_ok (C := XX.cfg) T0 I0 mixed0 _ hs3 (by kernel_rfl) (wk_ok _ (?_ : WK XX _ [] (fun e st => e = .normal ∧ st = ⟨upd (upd (upd sl 31 (.sc (.bool (decide ((k : Int) < (s.size : Int)))))) 32 (i64 (k : Int))) 8 (i64 (k : Int)), ro, gn⟩) _))) ?_)))
  ·simp (maxSteps := 10000000) (disch := first | assumption | omega) only [go_sem, ↓reduceIte, Nat.reduceEqDiff, reduceCtorEq, Nat.reduceAdd, Nat.reduceMul, Nat.reduceLeDiff, zc, Int.reduceToNat, s30]
  rintro e a4 w4 ⟨st4, c4, Φ4, rfl, hs4, rfl, rfl⟩
  refine wp_region_split 5 ?_
  refine opsW_chunk (C := XX.cfg) T0 I0 6 _ _ 0 hs4 (by decide) (wo_ok 6 _ _ 0 (?_ : WO XX 6 _ [_, _, _, _, _] 0 [] (fun _ st => ∃ f, st = ⟨f, ro, gn⟩ ∧ f 33 = .ref u v [] 0 n ∧ f 34 = .sc (.map (some r)) ∧ f 37 = .sc (.int .u8 ((byAt s k).toNat : Int)) ∧ f 1 = stA s ∧ f 5 = .ref u v [] 0 n ∧ f 7 = .sc (.map (some r)) ∧ f 28 = stA s ∧ f 29 = i64 (s.size : Int) ∧ f 30 = i64 (k : Int)) _)) ?_
  ·simp (maxSteps := 10000000) (disch := first | assumption | omega) only [go_sem, ↓reduceIte, Nat.reduceEqDiff, reduceCtorEq, Nat.reduceAdd, Nat.reduceMul, Nat.reduceLeDiff, zc, Int.reduceToNat, s1, s5, s7, ti9, ti5w, kLen_str, opK_index, kSt_at]
   refine ⟨_, rfl, ?_⟩
   simp only [go_sem, ↓reduceIte, Nat.reduceEqDiff, reduceCtorEq, Nat.reduceAdd, Nat.reduceMul, Nat.reduceLeDiff, s1, s5, s7, s28, s29, s30, and_self, Int.reduceToNat]
  rintro st5 a5 c5 Φ5 hs5 ⟨f, rfl, e33, e34, e37, e1, e5, e7, e28, e29, e30⟩
  obtain ⟨q, av, b', ht, hq, hx, hll, hnum⟩ : ∃ q av b', (q, ((byAt s k).toNat : Int), av) ∈ tbl a n g6 g13 ∧ q < 17 ∧ exq 8 ro av b' ∧ isLL b' (matL (letM S (atI T) (ivM S n) (byAt s k)) n n) ∧ numM (letM S (atI T) (ivM S n) (byAt s k)) := by
   rcases hw.2 _ (byAt_mem hk) with h | h | h | h
   ·have e : letM S (atI T) (ivM S n) (byAt s k) = S := if_pos h
    rw [e, h]
    exact ⟨3, a, a, tbl3, by decide, exq_LL ha (by decide), ha, hS⟩
   ·have e : letM S (atI T) (ivM S n) (byAt s k) = dgM (atI T) := by unfold letM; rw [if_neg (by omega), if_pos h]
    rw [e, h]
    exact ⟨7, _, _, tbl7, by decide, exq_mat rT (by decide), isLL_mat _ n n, num_dgM hTn⟩
   ·have e : letM S (atI T) (ivM S n) (byAt s k) = ivM S n := by unfold letM; rw [if_neg (by omega), if_neg (by omega), if_pos h]
    rw [e, h]
    exact ⟨9, _, _, tbl9, by decide, exq_mat r8288 (by decide), isLL_mat _ n n, hE⟩
   ·have e : letM S (atI T) (ivM S n) (byAt s k) = dgM fun i => pw (atI T i) 55439 := by unfold letM; rw [if_neg (by omega), if_neg (by omega), if_neg (by omega)]
    rw [e, h]
    exact ⟨14, _, _, tbl14, by decide, exq_mat rE (by decide), isLL_mat _ n n, num_dgM fun i => num_pw _ _⟩
  obtain ⟨x, hrun, hrel⟩ := mp.look hs5 ht (hL q hq)
  have hm5 : a5.eval (.tmp 34) = .map (some r) := by
   have := hs5.ev (.tmp 34)
   rw [show (⟨f, ro, gn⟩ : St).ev (.tmp 34) = .sc (.map (some r)) from e34] at this
   exact (Rel.sc_inv this).1
  have hx5 : a5.eval (.tmp 37) = .int .u8 ((byAt s k).toNat : Int) := by
   have := hs5.ev (.tmp 37)
   rw [show (⟨f, ro, gn⟩ : St).ev (.tmp 37) = .sc (.int .u8 ((byAt s k).toNat : Int)) from e37] at this
   exact (Rel.sc_inv this).1
  refine look_list (o := _) (rest := [_, _]) (want_ok (t := true) hs5 (by rfl)) rfl hm5 hx5 hrun ?_
  have hs6 := hs5.put (Keep.refl _) hs5.sim hs5.ro hs5.gn (rfl : (⟨f, ro, gn⟩ : St).sl = (⟨f, ro, gn⟩ : St).sl) (d := some 38) (by intro t ht; cases ht; decide) hrel
  have c := cMulM (isLL_mat (wdG n S (atI T) (ivM S n) s k) n n) hll h0 (by omega) (num_wdG _ _) hnum
  refine opsW_ok (C := XX.cfg) T0 I0 6 _ [_, _] 6 hs6 (by decide) (wo_ok 6 _ _ 6 (?_ : WO XX 6 _ [_, _] 6 [] (fun _ st => ∃ f, st.sl = f ∧ f 1 = stA s ∧ f 5 = .ref 28768 (gn 28768 + 1) [] 0 n ∧ f 7 = .sc (.map (some r)) ∧ f 28 = stA s ∧ f 29 = i64 (s.size : Int) ∧ f 30 = i64 (k : Int) ∧ st.ro 28768 (gn 28768 + 1) = some (matA (mulM n (wdG n S (atI T) (ivM S n) s k) (letM S (atI T) (ivM S n) (byAt s k))) n n) ∧ st.ro 8288 1 = some (matA (ivM S n) n n) ∧ st.ro 12384 g6 = some (matA (dgM (atI T)) n n) ∧ st.ro 12496 g13 = some (matA (dgM fun i => pw (atI T i) 55439) n n)) ⟨upd f 38 av, ro, gn⟩)) ?_
  ·simp (maxSteps := 10000000) (disch := first | assumption | omega) only [go_sem, ↓reduceIte, Nat.reduceEqDiff, reduceCtorEq, Nat.reduceAdd, Nat.reduceMul, Nat.reduceLeDiff, zc, Int.reduceToNat, e33]
   refine CLL_q _ c (.cons (exq_mat r5 (by decide)) (.cons hx .nil)) rfl rfl (noI_mat _ _ _) ?_
   simp (maxSteps := 10000000) (disch := first | assumption | omega) only [go_sem, ↓reduceIte, Nat.reduceEqDiff, reduceCtorEq, Nat.reduceAdd, Nat.reduceMul, Nat.reduceLeDiff, zc, Int.reduceToNat, impE_row]
   refine ⟨_, rfl, ?_⟩
   simp only [go_sem, ↓reduceIte, Nat.reduceEqDiff, reduceCtorEq, Nat.reduceAdd, Nat.reduceMul, Nat.reduceLeDiff, e1, e7, e28, e29, e30, and_self, true_and, Int.reduceToNat]
   exact ⟨r8288, rT, rE⟩
  rintro ⟨sl7, ro7, gn7⟩ a7 c7 Φ7 hs7 ⟨f7, hf7, k1, k5, k7, k28, k29, k30, kr, kr6, krT, krE⟩
  dsimp only at hf7 kr kr6 krT krE
  subst hf7
  show Code.wp _ _ _ _ _
  refine wp_mono (codeW_ok (C := XX.cfg) T0 I0 mixed0 _ hs7 (by kernel_rfl) (wk_ok _ (?_ : WK XX _ [] (fun e st => e = .normal ∧ st = ⟨upd (upd sl7 40 (i64 ((k : Int) + 1))) 30 (i64 ((k : Int) + 1)), ro7, gn7⟩) _))) ?_
  ·simp (maxSteps := 10000000) (disch := first | assumption | omega) only [go_sem, ↓reduceIte, Nat.reduceEqDiff, reduceCtorEq, Nat.reduceAdd, Nat.reduceMul, Nat.reduceLeDiff, zc, Int.reduceToNat, k30]
  rintro e a8 w8 ⟨st8, c8, Φ8, rfl, hs8, rfl, rfl⟩
  refine ⟨m - 1, by omega, k + 1, c8, Φ8, _, by omega, rfl, hs8, ?_⟩
  refine ⟨?_, ⟨28768, gn 28768 + 1, ?_, kr⟩, ?_, ?_, ?_, ?_, kr6, krT, krE⟩ <;> simp only [go_sem, ↓reduceIte, Nat.reduceEqDiff, reduceCtorEq, Nat.reduceAdd, Nat.reduceMul, Nat.reduceLeDiff, k1, k5, k7, k28, k29, Int.reduceToNat]
  rfl
 ·have hk' : ¬ (k : Int) < (s.size : Int) := by omega
  have hke : k = s.size := by omega
  subst hke
  rw [decide_eq_false hk'] at hc
  refine wp_seq (wp_cond_false hc (wp_exit ?_))
  show Code.wp _ _ _ _ _
  refine wp_mono (codeW_ok (C := XX.cfg) T0 I0 mixed0 _ hs3 (by kernel_rfl) (wk_ok _ (?_ : WK XX _ [] (fun e st => e = .ret ∧ retR (tiG Tryz.prog) [.tmp 4] st = some (matA (wdG n S (atI T) (ivM S n) s s.size) n n)) _))) ?_
  ·simp (maxSteps := 10000000) (disch := first | assumption | omega) only [go_sem, ↓reduceIte, Nat.reduceEqDiff, reduceCtorEq, Nat.reduceAdd, Nat.reduceMul, Nat.reduceLeDiff, zc, Int.reduceToNat, s5]
   simp only [zr, zb, retR, resL, outT, outL, zes, zez, oneV, zcp, zed, zfi, Ro.dl, St.ev, zhk, ↓za, ↓reduceIte, Nat.reduceEqDiff, Nat.reduceAdd, Nat.reduceLeDiff, r5]
  ·rintro e a6 w6 ⟨st6, c6, Φ6, rfl, hs6, rfl, hr6⟩
   exact ⟨rfl, c6, Φ6, st6, rfl, hs6, hr6⟩
end Go.Proofs.YtkimbjcaoolfpaaGreatDoor
/- The matrices of words by the program. -/
namespace Go.Proofs.YtkimbjcaoolfpaaGreatDoor
open Go.RowKit
set_option maxRecDepth 1000000
structure JS (a b : AV) (n : Nat) (S : Nat → Nat → Int) (T : List Int) (s : ByteArray) (w0 : World) (L : Nat → Prop) (cS : Cx) (sl : Nat → AV) (ro : Ro) (g6 g12 g13 : Nat) : Prop where
 s1 : sl 1 = stA s
 s2 : sl 2 = .ptr 4096 1 [] 0
 r2 : ro 4096 1 = some (.bx [a, b])
 s5 : sl 5 = .ref 8240 1 [] 0 n
 r5 : ro 8240 1 = some (matA unM n n)
 s6 : sl 6 = .ref 8288 1 [] 0 n
 r6 : ro 8288 1 = some (matA (ivM S n) n n)
 k1 : L 1 → sl 17 = .ptr 4096 1 [] 0
 k2 : L 2 → sl 18 = a
 k4 : L 4 → sl 19 = .ptr 4096 1 [] 1
 k5 : L 5 → sl 20 = b
 k6 : L 6 → sl 21 = .ref 12384 g6 [] 0 n ∧ ro 12384 g6 = some (matA (dgM (atI T)) n n)
 k8 : L 8 → sl 22 = .ref 8288 1 [] 0 n
 k10 : L 10 → sl 23 = .ptr 4096 1 [] 1
 k11 : L 11 → sl 24 = b
 k12 : L 12 → sl 25 = .ref 12480 g12 [] 0 n ∧ ro 12480 g12 = some (.row (rws (fun i => i64 (pw (atI T i) 55439)) n))
 k13 : L 13 → sl 26 = .ref 12496 g13 [] 0 n ∧ ro 12496 g13 = some (matA (dgM fun i => pw (atI T i) 55439) n n)
 c7 : L 7 → L 6
 c14 : L 14 → L 13
 c0 : ∀ q, (q = 3 ∨ q = 7 ∨ q = 9 ∨ q = 14 ∨ q = 15 ∨ q = 16) → L q → L 0
 mp : L 0 → ∃ r, sl 16 = .sc (.map (some r)) ∧ (L 15 → sl 27 = .sc (.map (some r))) ∧ (L 16 → sl 7 = .sc (.map (some r))) ∧ MpO a n w0 L cS g6 g13 r
theorem ret_fin {fn : Func} {w : World} {A : Nat → Prop} {cS c : Cx} {Φ : Nat → Nat → List Nat} {n : Nat} {st : St} {a' : Act} {r : AV} (T : TOK Tryz.prog (tiG Tryz.prog)) (hn : noRef r = true) (h' : SR w A [] cS n st a' c Φ) (hr : retR (tiG Tryz.prog) fn.results.toList st = some r) :
  a'.defers = [] ∧ ∃ v, (results fn a'.tmps).run Tryz.prog c.w = .ok v c.w ∧ ∃ u A' F', Ending.returned v = .returned u ∧ Rel (cx0 c.w A') r u F' ∧ (∀ x, A x → A' x) ∧ (∀ x, x ∈ F' → A' x ∧ w.heap.size ≤ x) ∧ Blw w c.w [] := by
 refine ⟨h'.df, ?_⟩
 unfold retR at hr
 cases hl : resL (tiG Tryz.prog) st fn.results.toList with
 | none => simp [hl] at hr
 | some xs =>
  simp only [hl] at hr
  obtain ⟨us, h1, h2⟩ := results_run T h' hl
  cases ho : outT st.ro xs with
  | none => simp [ho] at hr
  | some q =>
   obtain ⟨xs', dl⟩ := q
   obtain ⟨c2, Φ2, F2, f1, f2, f3, f4, f5, f6, f7⟩ := outT_ok xs h'.sim h1 (by rw [h'.ro]; exact ho)
   have hrel : Rel c2 r (oneOr us) F2 := by
    simp only [ho] at hr
    have hl2 := f6.len
    match xs', us, hl2, f6, hr with
    | [a], [u], _, f6, hr => simp only [Option.some.injEq] at hr; subst hr; exact f6
    | [], [], _, f6, hr => simp only [Option.some.injEq] at hr; subst hr; simpa [oneOr] using RelL.tup f6 (by simp) RelL.nil
    | a :: b :: l, u :: v :: l', _, f6, hr => simp only [Option.some.injEq] at hr; subst hr; simpa [oneOr] using RelL.tup f6 (by simp) RelL.nil
   refine ⟨_, h2, _, c.A, F2, rfl, ?_, h'.sim.a0, ?_, h'.sim.bw⟩
   ·exact hrel.ctx (c' := cx0 c.w c.A) f1.symm (fun x hx => by rw [f3]; exact hx) (by simp [noRefL, hn])
   ·intro x hx
    have := f5.rown x (by simp [hx])
    refine ⟨by rw [← f3]; exact this.1, ?_⟩
    rcases this.2.2 with h | h
    ·exact h
    ·cases h
theorem ex_insert {act : Act} {o : Oper} {r : Nat} {w w' : World} {k : Int} {x m : Operand} (ho : o.op = .insert 63 m (.const (.int .u8 k)) x) (hr : act.eval m = .map (some r)) (h : (Instr.mapUpdate 63 (.map (some r)) (.int .u8 k) (act.eval x)).run Tryz.prog w = .ok () w') :
  (execOp act.eval o).run Tryz.prog w = .ok .skip w' := by
 have h2 : act.eval (.const (.int .u8 k)) = .int .u8 k := rfl
 unfold execOp
 rw [ho]
 simp [hr, h2, h, Result.andThen]
theorem cMatI {a b : AV} {n : Nat} {S : Nat → Nat → Int} {T : List Int} {s : ByteArray} (ha : isLL a (matL S n n)) (hb : isL b T) (hT : T.length = n) (h0 : 0 < n) (hn : n ≤ 4096) (hS : numM S) (hTn : numL T) (hI : Ivt S n) (hE : numM (ivM S n)) (hs : s.size ≤ 60) (hw : WordP s) :
  CallOK Tryz.prog 34 [.agg [a, b], stA s] (matA (wdG n S (atI T) (ivM S n) s s.size) n n) := by
 have cI := cInvI ha h0 hn hS hI
 have cU := cUnitI (n := n) (Nat.le_trans hn (by decide))
 refine ⟨⟨_, Tryz.func34, by kernel_rfl, by kernel_rfl⟩, noRef_mat _ _ _, fun w A vs hv hA => ?_⟩
 have hlen := hv.len
 refine calls_of_wp (c := bodyOf Tryz.f34) Tryz.func34 rfl ?_
 have hs0 := SR.start (n := 42) w A hA hv (by rw [← hlen]; show 2 ≤ 42; decide)
 rw [List.size_toArray]
 dsimp only [Tryz.f34, bodyOf, Option.getD]
 have T0 := tiG_ok Tryz.prog
 have I0 := cfgOf_inl Tryz.prog ti0
 refine wp_seq (wp_mono (codeW_ok (C := XX.cfg) T0 I0 mixed0 _ hs0 (by kernel_rfl) (wk_ok _ (?_ : WK XX _ [] (fun e st => e = .normal ∧ st.sl 1 = stA s ∧ st.sl 2 = .ptr 4096 1 [] 0 ∧ st.ro 4096 1 = some (.bx [a, b]) ∧ st.gn 8240 = 0 ∧ st.gn 8288 = 0) _))) ?_)
 ·obtain ⟨sl, hsl⟩ : ∃ sl, sl = fun k => ([.agg [a, b], stA s] : List AV).getD k (.sc undef) := ⟨_, rfl⟩
  have s0 : sl 0 = .agg [a, b] := by rw [hsl]; rfl
  have s1 : sl 1 = stA s := by rw [hsl]; rfl
  unfold st0
  rw [← hsl]
  simp (maxSteps := 10000000) (disch := first | assumption | omega) only [go_sem, ↓reduceIte, Nat.reduceEqDiff, reduceCtorEq, Nat.reduceAdd, Nat.reduceMul, Nat.reduceLeDiff, zc, Int.reduceToNat, s0, s1, ti25]
 rintro e a1 w1 ⟨st1, c1, Φ1, rfl, hs1, rfl, f1, f2, f3, f4, f5⟩
 refine wp_seq (wp_mono (codeW_ok (C := XX.cfg) T0 I0 mixed0 _ hs1 (by kernel_rfl) (wk_ok _ (?_ : WK XX _ [] (fun e st => e = .normal ∧ st.sl 1 = stA s ∧ st.sl 2 = .ptr 4096 1 [] 0 ∧ st.ro 4096 1 = some (.bx [a, b]) ∧ st.sl 5 = .ref 8240 1 [] 0 n ∧ st.ro 8240 1 = some (matA unM n n) ∧ st.sl 6 = .ref 8288 1 [] 0 n ∧ st.ro 8288 1 = some (matA (ivM S n) n n)) _))) ?_)
 ·obtain ⟨sl, ro, gn⟩ := st1
  dsimp only at f1 f2 f3 f4 f5
  simp (maxSteps := 10000000) (disch := first | assumption | omega) only [go_sem, ↓reduceIte, Nat.reduceEqDiff, reduceCtorEq, Nat.reduceAdd, Nat.reduceMul, Nat.reduceLeDiff, zc, Int.reduceToNat, f1, f2, f3, ti25, isL_len hb, hT]
  refine CLLD_pure _ cU PUt rfl ?_
  simp (maxSteps := 10000000) (disch := first | assumption | omega) only [go_sem, ↓reduceIte, Nat.reduceEqDiff, reduceCtorEq, Nat.reduceAdd, Nat.reduceMul, Nat.reduceLeDiff, zc, Int.reduceToNat, impE_row, f4, f2, f3]
  refine CLLD_pure _ cI PUt rfl ?_
  simp (maxSteps := 10000000) (disch := first | assumption | omega) only [go_sem, ↓reduceIte, Nat.reduceEqDiff, reduceCtorEq, Nat.reduceAdd, Nat.reduceMul, Nat.reduceLeDiff, zc, Int.reduceToNat, impE_row, f5, f2, f3]
  refine FIN_of (by kernel_rfl) ?_
  simp (maxSteps := 10000000) (disch := first | assumption | omega) only [go_sem, ↓reduceIte, Nat.reduceEqDiff, reduceCtorEq, Nat.reduceAdd, Nat.reduceMul, Nat.reduceLeDiff, zc, Int.reduceToNat, f1, f2, f3]
 rintro e a2 w2 ⟨st2, c2, Φ2, rfl, hs2, rfl, f1, f2, f3, f4, f5, f6, f7⟩
 have cD := qt1_dg hb (by rw [hT]; exact Nat.le_trans hn (by decide))
 rw [hT] at cD
 have cV := c104 hb (by rw [hT]; exact Nat.le_trans hn (by decide)) hTn
 rw [hT, show rowL (rws (fun i => qt 1 (atI T i)) n) = .row (rws (fun i => i64 (pw (atI T i) 55439)) n) by rw [rowL, rws_map]; simp only [qt_1]] at cV
 have cD2 := qt1_dg (isL_imm (rws (fun i => pw (atI T i) 55439) n)) (by rw [zfe]; exact Nat.le_trans hn (by decide))
 rw [zfe, show matA (dgM (atI (rws (fun i => pw (atI T i) 55439) n))) n n = matA (dgM fun i => pw (atI T i) 55439) n n from mat_congr fun i j hi _ => by unfold dgM; rw [atI_rws _ hi]] at cD2
 obtain ⟨c3, Φ3, e3, hs3⟩ := hs2.drawn (c2.w.drawn + 1)
 refine wp_seq (wp_region_any mixed0 (wpAny_inv (fun listed a' w' => ∃ cS c Φ st g6 g12 g13, c.w = w' ∧ SR w A [] cS 42 st a' c Φ ∧ JS a b n S T s w (fun k => listed.getD k false = true) cS st.sl st.ro g6 g12 g13) ?_ ?_ _ _ _ _ (by rfl) (by decide) ⟨_, c3, Φ3, st2, 0, 0, 0, e3, hs3, ?_⟩))
 ·intro listed act w' i hsz hJJ hi
  obtain ⟨cS, c, Φ, ⟨sl, ro, gn⟩, g6, g12, g13, rfl, hS, hJ⟩ := hJJ
  dsimp only at hJ
  obtain ⟨hilt, hnot⟩ := ready_not hi
  have hnot' := hnot hsz
  have hsz' : listed.size = 17 := hsz
  have hilt' : i < 17 := hilt
  have hL : ∀ k, k ≠ i → ((listed.setIfInBounds i true).getD k false = true ↔ listed.getD k false = true) := fun k hk => by
   simp only [Array.getD_eq_getD_getElem?, Array.getElem?_setIfInBounds_ne (fun h => hk h.symm)]
  have hLi : (listed.setIfInBounds i true).getD i false = true := by
   simp [Array.getD_eq_getD_getElem?, hsz', hilt']
  have hcases : i = 0 ∨ i = 1 ∨ i = 2 ∨ i = 3 ∨ i = 4 ∨ i = 5 ∨ i = 6 ∨ i = 7 ∨ i = 8 ∨ i = 9 ∨ i = 10 ∨ i = 11 ∨ i = 12 ∨ i = 13 ∨ i = 14 ∨ i = 15 ∨ i = 16 := by omega
  rcases hcases with rfl | rfl | rfl | rfl | rfl | rfl | rfl | rfl | rfl | rfl | rfl | rfl | rfl | rfl | rfl | rfl | rfl
  ·-- operation 0
   have U : ∀ k, k ≠ 16 → ∀ v, upd sl 16 v k = sl k := fun k h v => upd_ne _ _ _ _ h
   obtain ⟨c2, e1, e2, e3, e4, e5, e6, e7⟩ := hS.sim.wchg (c.w.alloc (.map #[] 0)) [] rfl rfl rfl (by rw [World.alloc]; simp) (fun b hb _ => (MapKept.heap_alloc c.w (.map #[] 0)).2 b hb) (by simp)
   have hp := (hS.put e6 e7 (e2.trans hS.ro) (e3.trans hS.gn) (rfl : (⟨sl, ro, gn⟩ : St).sl = (⟨sl, ro, gn⟩ : St).sl) (d := some 16) (by intro t ht; cases ht; decide) (va := .sc (.map (some c.w.heap.size))) (v := .map (some c.w.heap.size)) (.sc _ .nil)).reroot
   refine .inl ?_
   unfold Oper.wp
   rw [show (execOp act.eval _).run Tryz.prog c.w = .ok (.value (.map (some c.w.heap.size))) (c.w.alloc (.map #[] 0)) from rfl, Oper.upon_value]
   have hno : ∀ q, (q = 3 ∨ q = 7 ∨ q = 9 ∨ q = 14 ∨ q = 15 ∨ q = 16) → ¬ (listed.setIfInBounds 0 true).getD q false = true := fun q hq h => by have := hJ.c0 q hq ((hL q (by rcases hq with rfl | rfl | rfl | rfl | rfl | rfl <;> decide)).1 h); rw [hnot'] at this; cases this
   exact ⟨c2, c2, Φ, ⟨upd sl 16 (.sc (.map (some c.w.heap.size))), ro, gn⟩, g6, g12, g13, e1, hp, ⟨(U 1 (by decide) (.sc (.map (some c.w.heap.size)))).trans hJ.s1, (U 2 (by decide) (.sc (.map (some c.w.heap.size)))).trans hJ.s2, hJ.r2, (U 5 (by decide) (.sc (.map (some c.w.heap.size)))).trans hJ.s5, hJ.r5, (U 6 (by decide) (.sc (.map (some c.w.heap.size)))).trans hJ.s6, hJ.r6, fun h => (U 17 (by decide) (.sc (.map (some c.w.heap.size)))).trans (hJ.k1 ((hL 1 (by decide)).1 h)), fun h => (U 18 (by decide) (.sc (.map (some c.w.heap.size)))).trans (hJ.k2 ((hL 2 (by decide)).1 h)), fun h => (U 19 (by decide) (.sc (.map (some c.w.heap.size)))).trans (hJ.k4 ((hL 4 (by decide)).1 h)), fun h => (U 20 (by decide) (.sc (.map (some c.w.heap.size)))).trans (hJ.k5 ((hL 5 (by decide)).1 h)), fun h => ⟨(U 21 (by decide) (.sc (.map (some c.w.heap.size)))).trans (hJ.k6 ((hL 6 (by decide)).1 h)).1, (hJ.k6 ((hL 6 (by decide)).1 h)).2⟩, fun h => (U 22 (by decide) (.sc (.map (some c.w.heap.size)))).trans (hJ.k8 ((hL 8 (by decide)).1 h)), fun h => (U 23 (by decide) (.sc (.map (some c.w.heap.size)))).trans (hJ.k10 ((hL 10 (by decide)).1 h)), fun h => (U 24 (by decide) (.sc (.map (some c.w.heap.size)))).trans (hJ.k11 ((hL 11 (by decide)).1 h)), fun h => ⟨(U 25 (by decide) (.sc (.map (some c.w.heap.size)))).trans (hJ.k12 ((hL 12 (by decide)).1 h)).1, (hJ.k12 ((hL 12 (by decide)).1 h)).2⟩, fun h => ⟨(U 26 (by decide) (.sc (.map (some c.w.heap.size)))).trans (hJ.k13 ((hL 13 (by decide)).1 h)).1, (hJ.k13 ((hL 13 (by decide)).1 h)).2⟩, fun h => (hL 6 (by decide)).2 (hJ.c7 ((hL 7 (by decide)).1 h)), fun h => (hL 13 (by decide)).2 (hJ.c14 ((hL 14 (by decide)).1 h)), fun _ _ _ => hLi, fun _ => ⟨c.w.heap.size, upd_same sl 16 _, fun h => absurd h (hno 15 (by simp)), fun h => absurd h (hno 16 (by simp)), ⟨(fun h => by rcases (e5 _).1 h with h | h; exact absurd (hS.sim.al _ h) (Nat.lt_irrefl _); cases h), hS.sim.bw.size, #[], 0, (by rw [e1]; exact (MapKept.heap_alloc c.w (.map #[] 0)).1), (fun e h => by simp at h), fun q k av ht h => absurd h (hno q (by simp [tbl] at ht; rcases ht with ⟨rfl, -⟩ | ⟨rfl, -⟩ | ⟨rfl, -⟩ | ⟨rfl, -⟩ <;> simp)), fun e e' h => (by simp at h)⟩⟩⟩⟩
  ·-- operation 1
   refine op_any (C := XX.cfg) T0 I0 (o := _) rfl hS (fun t ht => by cases ht; decide) (Q := fun st' => ∃ g6 g12 g13, JS a b n S T s w (fun k => (listed.setIfInBounds 1 true).getD k false = true) cS st'.sl st'.ro g6 g12 g13) (wo_ok 2 _ [_] 1 (?_ : WO XX 2 _ [_] 1 [] (fun _ st' => ∃ g6 g12 g13, JS a b n S T s w (fun k => (listed.setIfInBounds 1 true).getD k false = true) cS st'.sl st'.ro g6 g12 g13) ⟨sl, ro, gn⟩)) (fun st' a2 c2 Φ2 h2 ⟨g6, g12, g13, hq⟩ => ⟨cS, c2, Φ2, st', g6, g12, g13, rfl, h2, hq⟩)
   have U : ∀ k, k ≠ 17 → ∀ v, upd sl 17 v k = sl k := fun k h v => upd_ne _ _ _ _ h
   simp (maxSteps := 10000000) (disch := first | assumption | omega) only [go_sem, ↓reduceIte, Nat.reduceEqDiff, reduceCtorEq, Nat.reduceAdd, Nat.reduceMul, Nat.reduceLeDiff, zc, Int.reduceToNat, ti25, List.getElem_toArray, List.getElem_cons_succ, List.getElem_cons_zero, hJ.s2, hJ.r2]
   exact ⟨g6, g12, g13, ⟨(U 1 (by decide) _).trans hJ.s1, (U 2 (by decide) _).trans hJ.s2, hJ.r2, (U 5 (by decide) _).trans hJ.s5, hJ.r5, (U 6 (by decide) _).trans hJ.s6, hJ.r6, fun _ => upd_same sl _ _, fun h => (U 18 (by decide) _).trans (hJ.k2 ((hL 2 (by decide)).1 h)), fun h => (U 19 (by decide) _).trans (hJ.k4 ((hL 4 (by decide)).1 h)), fun h => (U 20 (by decide) _).trans (hJ.k5 ((hL 5 (by decide)).1 h)), fun h => ⟨(U 21 (by decide) _).trans (hJ.k6 ((hL 6 (by decide)).1 h)).1, (hJ.k6 ((hL 6 (by decide)).1 h)).2⟩, fun h => (U 22 (by decide) _).trans (hJ.k8 ((hL 8 (by decide)).1 h)), fun h => (U 23 (by decide) _).trans (hJ.k10 ((hL 10 (by decide)).1 h)), fun h => (U 24 (by decide) _).trans (hJ.k11 ((hL 11 (by decide)).1 h)), fun h => ⟨(U 25 (by decide) _).trans (hJ.k12 ((hL 12 (by decide)).1 h)).1, (hJ.k12 ((hL 12 (by decide)).1 h)).2⟩, fun h => ⟨(U 26 (by decide) _).trans (hJ.k13 ((hL 13 (by decide)).1 h)).1, (hJ.k13 ((hL 13 (by decide)).1 h)).2⟩, fun h => (hL 6 (by decide)).2 (hJ.c7 ((hL 7 (by decide)).1 h)), fun h => (hL 13 (by decide)).2 (hJ.c14 ((hL 14 (by decide)).1 h)), fun q hq h => (hL 0 (by decide)).2 (hJ.c0 q hq ((hL q (by rcases hq with rfl | rfl | rfl | rfl | rfl | rfl <;> decide)).1 h)), fun h0 => by obtain ⟨r, m1, m2, m3, m4⟩ := hJ.mp ((hL 0 (by decide)).1 h0); exact ⟨r, (U 16 (by decide) _).trans m1, fun h => (U 27 (by decide) _).trans (m2 ((hL 15 (by decide)).1 h)), fun h => (U 7 (by decide) _).trans (m3 ((hL 16 (by decide)).1 h)), m4.cong (fun q hq => hL q (by rcases hq with rfl | rfl | rfl | rfl <;> decide))⟩⟩⟩
  ·-- operation 2
   have d1 := hJ.k1 (ready_dep hi 1 (by kernel_rfl))
   refine op_any (C := XX.cfg) T0 I0 (o := _) rfl hS (fun t ht => by cases ht; decide) (Q := fun st' => ∃ g6 g12 g13, JS a b n S T s w (fun k => (listed.setIfInBounds 2 true).getD k false = true) cS st'.sl st'.ro g6 g12 g13) (wo_ok 2 _ [_] 2 (?_ : WO XX 2 _ [_] 2 [] (fun _ st' => ∃ g6 g12 g13, JS a b n S T s w (fun k => (listed.setIfInBounds 2 true).getD k false = true) cS st'.sl st'.ro g6 g12 g13) ⟨sl, ro, gn⟩)) (fun st' a2 c2 Φ2 h2 ⟨g6, g12, g13, hq⟩ => ⟨cS, c2, Φ2, st', g6, g12, g13, rfl, h2, hq⟩)
   have U : ∀ k, k ≠ 18 → ∀ v, upd sl 18 v k = sl k := fun k h v => upd_ne _ _ _ _ h
   simp (maxSteps := 10000000) (disch := first | assumption | omega) only [go_sem, ↓reduceIte, Nat.reduceEqDiff, reduceCtorEq, Nat.reduceAdd, Nat.reduceMul, Nat.reduceLeDiff, zc, Int.reduceToNat, ti25, List.getElem_toArray, List.getElem_cons_succ, List.getElem_cons_zero, d1, hJ.r2]
   exact ⟨g6, g12, g13, ⟨(U 1 (by decide) _).trans hJ.s1, (U 2 (by decide) _).trans hJ.s2, hJ.r2, (U 5 (by decide) _).trans hJ.s5, hJ.r5, (U 6 (by decide) _).trans hJ.s6, hJ.r6, fun h => (U 17 (by decide) _).trans (hJ.k1 ((hL 1 (by decide)).1 h)), fun _ => upd_same sl _ _, fun h => (U 19 (by decide) _).trans (hJ.k4 ((hL 4 (by decide)).1 h)), fun h => (U 20 (by decide) _).trans (hJ.k5 ((hL 5 (by decide)).1 h)), fun h => ⟨(U 21 (by decide) _).trans (hJ.k6 ((hL 6 (by decide)).1 h)).1, (hJ.k6 ((hL 6 (by decide)).1 h)).2⟩, fun h => (U 22 (by decide) _).trans (hJ.k8 ((hL 8 (by decide)).1 h)), fun h => (U 23 (by decide) _).trans (hJ.k10 ((hL 10 (by decide)).1 h)), fun h => (U 24 (by decide) _).trans (hJ.k11 ((hL 11 (by decide)).1 h)), fun h => ⟨(U 25 (by decide) _).trans (hJ.k12 ((hL 12 (by decide)).1 h)).1, (hJ.k12 ((hL 12 (by decide)).1 h)).2⟩, fun h => ⟨(U 26 (by decide) _).trans (hJ.k13 ((hL 13 (by decide)).1 h)).1, (hJ.k13 ((hL 13 (by decide)).1 h)).2⟩, fun h => (hL 6 (by decide)).2 (hJ.c7 ((hL 7 (by decide)).1 h)), fun h => (hL 13 (by decide)).2 (hJ.c14 ((hL 14 (by decide)).1 h)), fun q hq h => (hL 0 (by decide)).2 (hJ.c0 q hq ((hL q (by rcases hq with rfl | rfl | rfl | rfl | rfl | rfl <;> decide)).1 h)), fun h0 => by obtain ⟨r, m1, m2, m3, m4⟩ := hJ.mp ((hL 0 (by decide)).1 h0); exact ⟨r, (U 16 (by decide) _).trans m1, fun h => (U 27 (by decide) _).trans (m2 ((hL 15 (by decide)).1 h)), fun h => (U 7 (by decide) _).trans (m3 ((hL 16 (by decide)).1 h)), m4.cong (fun q hq => hL q (by rcases hq with rfl | rfl | rfl | rfl <;> decide))⟩⟩⟩
  ·-- operation 3
   have d2 := hJ.k2 (ready_dep hi 2 (by kernel_rfl))
   obtain ⟨r, m1, m2, m3, m4⟩ := hJ.mp (ready_dep hi 0 (by kernel_rfl))
   have hu := hS.ev (.tmp 18)
   have hav : (⟨sl, ro, gn⟩ : St).ev (.tmp 18) = a := d2
   rw [hav] at hu
   obtain ⟨w2, e2, hS2, m5⟩ := m4.insert (q := 3) (k := 115) (av := a) hS tbl3 (by rw [hnot']; decide) hu hL hLi
   have hr : act.eval (.tmp 16) = .map (some r) := by have := hS.ev (.tmp 16); rw [show (⟨sl, ro, gn⟩ : St).ev (.tmp 16) = .sc (.map (some r)) from m1] at this; exact (Rel.sc_inv this).1
   refine .inl ?_
   unfold Oper.wp
   rw [show (execOp act.eval _).run Tryz.prog c.w = .ok .skip w2 from ex_insert rfl hr e2, Oper.upon_skip]
   exact ⟨{ c with w := w2 }, { c with w := w2 }, Φ, ⟨sl, ro, gn⟩, g6, g12, g13, rfl, hS2, ⟨hJ.s1, hJ.s2, hJ.r2, hJ.s5, hJ.r5, hJ.s6, hJ.r6, fun h => hJ.k1 ((hL 1 (by decide)).1 h), fun h => hJ.k2 ((hL 2 (by decide)).1 h), fun h => hJ.k4 ((hL 4 (by decide)).1 h), fun h => hJ.k5 ((hL 5 (by decide)).1 h), fun h => ⟨(hJ.k6 ((hL 6 (by decide)).1 h)).1, (hJ.k6 ((hL 6 (by decide)).1 h)).2⟩, fun h => hJ.k8 ((hL 8 (by decide)).1 h), fun h => hJ.k10 ((hL 10 (by decide)).1 h), fun h => hJ.k11 ((hL 11 (by decide)).1 h), fun h => ⟨(hJ.k12 ((hL 12 (by decide)).1 h)).1, (hJ.k12 ((hL 12 (by decide)).1 h)).2⟩, fun h => ⟨(hJ.k13 ((hL 13 (by decide)).1 h)).1, (hJ.k13 ((hL 13 (by decide)).1 h)).2⟩, fun h => (hL 6 (by decide)).2 (hJ.c7 ((hL 7 (by decide)).1 h)), fun h => (hL 13 (by decide)).2 (hJ.c14 ((hL 14 (by decide)).1 h)), fun q _ _ => (hL 0 (by decide)).2 (ready_dep hi 0 (by kernel_rfl)), fun _ => ⟨r, m1, fun h => m2 ((hL 15 (by decide)).1 h), fun h => m3 ((hL 16 (by decide)).1 h), m5⟩⟩⟩
  ·-- operation 4
   refine op_any (C := XX.cfg) T0 I0 (o := _) rfl hS (fun t ht => by cases ht; decide) (Q := fun st' => ∃ g6 g12 g13, JS a b n S T s w (fun k => (listed.setIfInBounds 4 true).getD k false = true) cS st'.sl st'.ro g6 g12 g13) (wo_ok 2 _ [_] 4 (?_ : WO XX 2 _ [_] 4 [] (fun _ st' => ∃ g6 g12 g13, JS a b n S T s w (fun k => (listed.setIfInBounds 4 true).getD k false = true) cS st'.sl st'.ro g6 g12 g13) ⟨sl, ro, gn⟩)) (fun st' a2 c2 Φ2 h2 ⟨g6, g12, g13, hq⟩ => ⟨cS, c2, Φ2, st', g6, g12, g13, rfl, h2, hq⟩)
   have U : ∀ k, k ≠ 19 → ∀ v, upd sl 19 v k = sl k := fun k h v => upd_ne _ _ _ _ h
   simp (maxSteps := 10000000) (disch := first | assumption | omega) only [go_sem, ↓reduceIte, Nat.reduceEqDiff, reduceCtorEq, Nat.reduceAdd, Nat.reduceMul, Nat.reduceLeDiff, zc, Int.reduceToNat, ti25, List.getElem_toArray, List.getElem_cons_succ, List.getElem_cons_zero, hJ.s2, hJ.r2]
   exact ⟨g6, g12, g13, ⟨(U 1 (by decide) _).trans hJ.s1, (U 2 (by decide) _).trans hJ.s2, hJ.r2, (U 5 (by decide) _).trans hJ.s5, hJ.r5, (U 6 (by decide) _).trans hJ.s6, hJ.r6, fun h => (U 17 (by decide) _).trans (hJ.k1 ((hL 1 (by decide)).1 h)), fun h => (U 18 (by decide) _).trans (hJ.k2 ((hL 2 (by decide)).1 h)), fun _ => upd_same sl _ _, fun h => (U 20 (by decide) _).trans (hJ.k5 ((hL 5 (by decide)).1 h)), fun h => ⟨(U 21 (by decide) _).trans (hJ.k6 ((hL 6 (by decide)).1 h)).1, (hJ.k6 ((hL 6 (by decide)).1 h)).2⟩, fun h => (U 22 (by decide) _).trans (hJ.k8 ((hL 8 (by decide)).1 h)), fun h => (U 23 (by decide) _).trans (hJ.k10 ((hL 10 (by decide)).1 h)), fun h => (U 24 (by decide) _).trans (hJ.k11 ((hL 11 (by decide)).1 h)), fun h => ⟨(U 25 (by decide) _).trans (hJ.k12 ((hL 12 (by decide)).1 h)).1, (hJ.k12 ((hL 12 (by decide)).1 h)).2⟩, fun h => ⟨(U 26 (by decide) _).trans (hJ.k13 ((hL 13 (by decide)).1 h)).1, (hJ.k13 ((hL 13 (by decide)).1 h)).2⟩, fun h => (hL 6 (by decide)).2 (hJ.c7 ((hL 7 (by decide)).1 h)), fun h => (hL 13 (by decide)).2 (hJ.c14 ((hL 14 (by decide)).1 h)), fun q hq h => (hL 0 (by decide)).2 (hJ.c0 q hq ((hL q (by rcases hq with rfl | rfl | rfl | rfl | rfl | rfl <;> decide)).1 h)), fun h0 => by obtain ⟨r, m1, m2, m3, m4⟩ := hJ.mp ((hL 0 (by decide)).1 h0); exact ⟨r, (U 16 (by decide) _).trans m1, fun h => (U 27 (by decide) _).trans (m2 ((hL 15 (by decide)).1 h)), fun h => (U 7 (by decide) _).trans (m3 ((hL 16 (by decide)).1 h)), m4.cong (fun q hq => hL q (by rcases hq with rfl | rfl | rfl | rfl <;> decide))⟩⟩⟩
  ·-- operation 5
   have d4 := hJ.k4 (ready_dep hi 4 (by kernel_rfl))
   refine op_any (C := XX.cfg) T0 I0 (o := _) rfl hS (fun t ht => by cases ht; decide) (Q := fun st' => ∃ g6 g12 g13, JS a b n S T s w (fun k => (listed.setIfInBounds 5 true).getD k false = true) cS st'.sl st'.ro g6 g12 g13) (wo_ok 2 _ [_] 5 (?_ : WO XX 2 _ [_] 5 [] (fun _ st' => ∃ g6 g12 g13, JS a b n S T s w (fun k => (listed.setIfInBounds 5 true).getD k false = true) cS st'.sl st'.ro g6 g12 g13) ⟨sl, ro, gn⟩)) (fun st' a2 c2 Φ2 h2 ⟨g6, g12, g13, hq⟩ => ⟨cS, c2, Φ2, st', g6, g12, g13, rfl, h2, hq⟩)
   have U : ∀ k, k ≠ 20 → ∀ v, upd sl 20 v k = sl k := fun k h v => upd_ne _ _ _ _ h
   simp (maxSteps := 10000000) (disch := first | assumption | omega) only [go_sem, ↓reduceIte, Nat.reduceEqDiff, reduceCtorEq, Nat.reduceAdd, Nat.reduceMul, Nat.reduceLeDiff, zc, Int.reduceToNat, ti25, List.getElem_toArray, List.getElem_cons_succ, List.getElem_cons_zero, d4, hJ.r2]
   exact ⟨g6, g12, g13, ⟨(U 1 (by decide) _).trans hJ.s1, (U 2 (by decide) _).trans hJ.s2, hJ.r2, (U 5 (by decide) _).trans hJ.s5, hJ.r5, (U 6 (by decide) _).trans hJ.s6, hJ.r6, fun h => (U 17 (by decide) _).trans (hJ.k1 ((hL 1 (by decide)).1 h)), fun h => (U 18 (by decide) _).trans (hJ.k2 ((hL 2 (by decide)).1 h)), fun h => (U 19 (by decide) _).trans (hJ.k4 ((hL 4 (by decide)).1 h)), fun _ => upd_same sl _ _, fun h => ⟨(U 21 (by decide) _).trans (hJ.k6 ((hL 6 (by decide)).1 h)).1, (hJ.k6 ((hL 6 (by decide)).1 h)).2⟩, fun h => (U 22 (by decide) _).trans (hJ.k8 ((hL 8 (by decide)).1 h)), fun h => (U 23 (by decide) _).trans (hJ.k10 ((hL 10 (by decide)).1 h)), fun h => (U 24 (by decide) _).trans (hJ.k11 ((hL 11 (by decide)).1 h)), fun h => ⟨(U 25 (by decide) _).trans (hJ.k12 ((hL 12 (by decide)).1 h)).1, (hJ.k12 ((hL 12 (by decide)).1 h)).2⟩, fun h => ⟨(U 26 (by decide) _).trans (hJ.k13 ((hL 13 (by decide)).1 h)).1, (hJ.k13 ((hL 13 (by decide)).1 h)).2⟩, fun h => (hL 6 (by decide)).2 (hJ.c7 ((hL 7 (by decide)).1 h)), fun h => (hL 13 (by decide)).2 (hJ.c14 ((hL 14 (by decide)).1 h)), fun q hq h => (hL 0 (by decide)).2 (hJ.c0 q hq ((hL q (by rcases hq with rfl | rfl | rfl | rfl | rfl | rfl <;> decide)).1 h)), fun h0 => by obtain ⟨r, m1, m2, m3, m4⟩ := hJ.mp ((hL 0 (by decide)).1 h0); exact ⟨r, (U 16 (by decide) _).trans m1, fun h => (U 27 (by decide) _).trans (m2 ((hL 15 (by decide)).1 h)), fun h => (U 7 (by decide) _).trans (m3 ((hL 16 (by decide)).1 h)), m4.cong (fun q hq => hL q (by rcases hq with rfl | rfl | rfl | rfl <;> decide))⟩⟩⟩
  ·-- operation 6
   have d5 := hJ.k5 (ready_dep hi 5 (by kernel_rfl))
   refine op_any (C := XX.cfg) T0 I0 (o := _) rfl hS (fun t ht => by cases ht; decide) (Q := fun st' => ∃ g6 g12 g13, JS a b n S T s w (fun k => (listed.setIfInBounds 6 true).getD k false = true) cS st'.sl st'.ro g6 g12 g13) (wo_ok 2 _ [_] 6 (?_ : WO XX 2 _ [_] 6 [] (fun _ st' => ∃ g6 g12 g13, JS a b n S T s w (fun k => (listed.setIfInBounds 6 true).getD k false = true) cS st'.sl st'.ro g6 g12 g13) ⟨sl, ro, gn⟩)) (fun st' a2 c2 Φ2 h2 ⟨g6, g12, g13, hq⟩ => ⟨cS, c2, Φ2, st', g6, g12, g13, rfl, h2, hq⟩)
   have U : ∀ k, k ≠ 21 → ∀ v, upd sl 21 v k = sl k := fun k h v => upd_ne _ _ _ _ h
   simp (maxSteps := 10000000) (disch := first | assumption | omega) only [go_sem, ↓reduceIte, Nat.reduceEqDiff, reduceCtorEq, Nat.reduceAdd, Nat.reduceMul, Nat.reduceLeDiff, zc, Int.reduceToNat, ti25, List.getElem_toArray, List.getElem_cons_succ, List.getElem_cons_zero, d5]
   refine CLL_pure _ cD PUt rfl rfl ?_
   simp (maxSteps := 10000000) (disch := first | assumption | omega) only [go_sem, ↓reduceIte, Nat.reduceEqDiff, reduceCtorEq, Nat.reduceAdd, Nat.reduceMul, Nat.reduceLeDiff, zc, Int.reduceToNat, impE_row]
   exact ⟨gn 12384 + 1, g12, g13, ⟨(U 1 (by decide) _).trans hJ.s1, (U 2 (by decide) _).trans hJ.s2, (upr_ne (show (4096 : Nat) ≠ 12384 by decide)).trans hJ.r2, (U 5 (by decide) _).trans hJ.s5, (upr_ne (show (8240 : Nat) ≠ 12384 by decide)).trans hJ.r5, (U 6 (by decide) _).trans hJ.s6, (upr_ne (show (8288 : Nat) ≠ 12384 by decide)).trans hJ.r6, fun h => (U 17 (by decide) _).trans (hJ.k1 ((hL 1 (by decide)).1 h)), fun h => (U 18 (by decide) _).trans (hJ.k2 ((hL 2 (by decide)).1 h)), fun h => (U 19 (by decide) _).trans (hJ.k4 ((hL 4 (by decide)).1 h)), fun h => (U 20 (by decide) _).trans (hJ.k5 ((hL 5 (by decide)).1 h)), fun _ => ⟨upd_same sl _ _, upr_eq⟩, fun h => (U 22 (by decide) _).trans (hJ.k8 ((hL 8 (by decide)).1 h)), fun h => (U 23 (by decide) _).trans (hJ.k10 ((hL 10 (by decide)).1 h)), fun h => (U 24 (by decide) _).trans (hJ.k11 ((hL 11 (by decide)).1 h)), fun h => ⟨(U 25 (by decide) _).trans (hJ.k12 ((hL 12 (by decide)).1 h)).1, (upr_ne (show (12480 : Nat) ≠ 12384 by decide)).trans (hJ.k12 ((hL 12 (by decide)).1 h)).2⟩, fun h => ⟨(U 26 (by decide) _).trans (hJ.k13 ((hL 13 (by decide)).1 h)).1, (upr_ne (show (12496 : Nat) ≠ 12384 by decide)).trans (hJ.k13 ((hL 13 (by decide)).1 h)).2⟩, fun _ => hLi, fun h => (hL 13 (by decide)).2 (hJ.c14 ((hL 14 (by decide)).1 h)), fun q hq h => (hL 0 (by decide)).2 (hJ.c0 q hq ((hL q (by rcases hq with rfl | rfl | rfl | rfl | rfl | rfl <;> decide)).1 h)), fun h0 => by obtain ⟨r, m1, m2, m3, m4⟩ := hJ.mp ((hL 0 (by decide)).1 h0); exact ⟨r, (U 16 (by decide) _).trans m1, fun h => (U 27 (by decide) _).trans (m2 ((hL 15 (by decide)).1 h)), fun h => (U 7 (by decide) _).trans (m3 ((hL 16 (by decide)).1 h)), (m4.cong (fun q hq => hL q (by rcases hq with rfl | rfl | rfl | rfl <;> decide))).turn6 (fun h => by have := hJ.c7 ((hL 7 (by decide)).1 h); rw [hnot'] at this; cases this)⟩⟩⟩
  ·-- operation 7
   have d6 := (hJ.k6 (ready_dep hi 6 (by kernel_rfl))).1
   obtain ⟨r, m1, m2, m3, m4⟩ := hJ.mp (ready_dep hi 0 (by kernel_rfl))
   have hu := hS.ev (.tmp 21)
   have hav : (⟨sl, ro, gn⟩ : St).ev (.tmp 21) = .ref 12384 g6 [] 0 n := d6
   rw [hav] at hu
   obtain ⟨w2, e2, hS2, m5⟩ := m4.insert (q := 7) (k := 116) (av := .ref 12384 g6 [] 0 n) hS tbl7 (by rw [hnot']; decide) hu hL hLi
   have hr : act.eval (.tmp 16) = .map (some r) := by have := hS.ev (.tmp 16); rw [show (⟨sl, ro, gn⟩ : St).ev (.tmp 16) = .sc (.map (some r)) from m1] at this; exact (Rel.sc_inv this).1
   refine .inl ?_
   unfold Oper.wp
   rw [show (execOp act.eval _).run Tryz.prog c.w = .ok .skip w2 from ex_insert rfl hr e2, Oper.upon_skip]
   exact ⟨{ c with w := w2 }, { c with w := w2 }, Φ, ⟨sl, ro, gn⟩, g6, g12, g13, rfl, hS2, ⟨hJ.s1, hJ.s2, hJ.r2, hJ.s5, hJ.r5, hJ.s6, hJ.r6, fun h => hJ.k1 ((hL 1 (by decide)).1 h), fun h => hJ.k2 ((hL 2 (by decide)).1 h), fun h => hJ.k4 ((hL 4 (by decide)).1 h), fun h => hJ.k5 ((hL 5 (by decide)).1 h), fun h => ⟨(hJ.k6 ((hL 6 (by decide)).1 h)).1, (hJ.k6 ((hL 6 (by decide)).1 h)).2⟩, fun h => hJ.k8 ((hL 8 (by decide)).1 h), fun h => hJ.k10 ((hL 10 (by decide)).1 h), fun h => hJ.k11 ((hL 11 (by decide)).1 h), fun h => ⟨(hJ.k12 ((hL 12 (by decide)).1 h)).1, (hJ.k12 ((hL 12 (by decide)).1 h)).2⟩, fun h => ⟨(hJ.k13 ((hL 13 (by decide)).1 h)).1, (hJ.k13 ((hL 13 (by decide)).1 h)).2⟩, fun h => (hL 6 (by decide)).2 (ready_dep hi 6 (by kernel_rfl)), fun h => (hL 13 (by decide)).2 (hJ.c14 ((hL 14 (by decide)).1 h)), fun q _ _ => (hL 0 (by decide)).2 (ready_dep hi 0 (by kernel_rfl)), fun _ => ⟨r, m1, fun h => m2 ((hL 15 (by decide)).1 h), fun h => m3 ((hL 16 (by decide)).1 h), m5⟩⟩⟩
  ·-- operation 8
   refine op_any (C := XX.cfg) T0 I0 (o := _) rfl hS (fun t ht => by cases ht; decide) (Q := fun st' => ∃ g6 g12 g13, JS a b n S T s w (fun k => (listed.setIfInBounds 8 true).getD k false = true) cS st'.sl st'.ro g6 g12 g13) (wo_ok 2 _ [_] 8 (?_ : WO XX 2 _ [_] 8 [] (fun _ st' => ∃ g6 g12 g13, JS a b n S T s w (fun k => (listed.setIfInBounds 8 true).getD k false = true) cS st'.sl st'.ro g6 g12 g13) ⟨sl, ro, gn⟩)) (fun st' a2 c2 Φ2 h2 ⟨g6, g12, g13, hq⟩ => ⟨cS, c2, Φ2, st', g6, g12, g13, rfl, h2, hq⟩)
   have U : ∀ k, k ≠ 22 → ∀ v, upd sl 22 v k = sl k := fun k h v => upd_ne _ _ _ _ h
   simp (maxSteps := 10000000) (disch := first | assumption | omega) only [go_sem, ↓reduceIte, Nat.reduceEqDiff, reduceCtorEq, Nat.reduceAdd, Nat.reduceMul, Nat.reduceLeDiff, zc, Int.reduceToNat, ti25, List.getElem_toArray, List.getElem_cons_succ, List.getElem_cons_zero, hJ.s6]
   exact ⟨g6, g12, g13, ⟨(U 1 (by decide) _).trans hJ.s1, (U 2 (by decide) _).trans hJ.s2, hJ.r2, (U 5 (by decide) _).trans hJ.s5, hJ.r5, (U 6 (by decide) _).trans hJ.s6, hJ.r6, fun h => (U 17 (by decide) _).trans (hJ.k1 ((hL 1 (by decide)).1 h)), fun h => (U 18 (by decide) _).trans (hJ.k2 ((hL 2 (by decide)).1 h)), fun h => (U 19 (by decide) _).trans (hJ.k4 ((hL 4 (by decide)).1 h)), fun h => (U 20 (by decide) _).trans (hJ.k5 ((hL 5 (by decide)).1 h)), fun h => ⟨(U 21 (by decide) _).trans (hJ.k6 ((hL 6 (by decide)).1 h)).1, (hJ.k6 ((hL 6 (by decide)).1 h)).2⟩, fun _ => upd_same sl _ _, fun h => (U 23 (by decide) _).trans (hJ.k10 ((hL 10 (by decide)).1 h)), fun h => (U 24 (by decide) _).trans (hJ.k11 ((hL 11 (by decide)).1 h)), fun h => ⟨(U 25 (by decide) _).trans (hJ.k12 ((hL 12 (by decide)).1 h)).1, (hJ.k12 ((hL 12 (by decide)).1 h)).2⟩, fun h => ⟨(U 26 (by decide) _).trans (hJ.k13 ((hL 13 (by decide)).1 h)).1, (hJ.k13 ((hL 13 (by decide)).1 h)).2⟩, fun h => (hL 6 (by decide)).2 (hJ.c7 ((hL 7 (by decide)).1 h)), fun h => (hL 13 (by decide)).2 (hJ.c14 ((hL 14 (by decide)).1 h)), fun q hq h => (hL 0 (by decide)).2 (hJ.c0 q hq ((hL q (by rcases hq with rfl | rfl | rfl | rfl | rfl | rfl <;> decide)).1 h)), fun h0 => by obtain ⟨r, m1, m2, m3, m4⟩ := hJ.mp ((hL 0 (by decide)).1 h0); exact ⟨r, (U 16 (by decide) _).trans m1, fun h => (U 27 (by decide) _).trans (m2 ((hL 15 (by decide)).1 h)), fun h => (U 7 (by decide) _).trans (m3 ((hL 16 (by decide)).1 h)), m4.cong (fun q hq => hL q (by rcases hq with rfl | rfl | rfl | rfl <;> decide))⟩⟩⟩
  ·-- operation 9
   have d8 := hJ.k8 (ready_dep hi 8 (by kernel_rfl))
   obtain ⟨r, m1, m2, m3, m4⟩ := hJ.mp (ready_dep hi 0 (by kernel_rfl))
   have hu := hS.ev (.tmp 22)
   have hav : (⟨sl, ro, gn⟩ : St).ev (.tmp 22) = .ref 8288 1 [] 0 n := d8
   rw [hav] at hu
   obtain ⟨w2, e2, hS2, m5⟩ := m4.insert (q := 9) (k := 83) (av := .ref 8288 1 [] 0 n) hS tbl9 (by rw [hnot']; decide) hu hL hLi
   have hr : act.eval (.tmp 16) = .map (some r) := by have := hS.ev (.tmp 16); rw [show (⟨sl, ro, gn⟩ : St).ev (.tmp 16) = .sc (.map (some r)) from m1] at this; exact (Rel.sc_inv this).1
   refine .inl ?_
   unfold Oper.wp
   rw [show (execOp act.eval _).run Tryz.prog c.w = .ok .skip w2 from ex_insert rfl hr e2, Oper.upon_skip]
   exact ⟨{ c with w := w2 }, { c with w := w2 }, Φ, ⟨sl, ro, gn⟩, g6, g12, g13, rfl, hS2, ⟨hJ.s1, hJ.s2, hJ.r2, hJ.s5, hJ.r5, hJ.s6, hJ.r6, fun h => hJ.k1 ((hL 1 (by decide)).1 h), fun h => hJ.k2 ((hL 2 (by decide)).1 h), fun h => hJ.k4 ((hL 4 (by decide)).1 h), fun h => hJ.k5 ((hL 5 (by decide)).1 h), fun h => ⟨(hJ.k6 ((hL 6 (by decide)).1 h)).1, (hJ.k6 ((hL 6 (by decide)).1 h)).2⟩, fun h => hJ.k8 ((hL 8 (by decide)).1 h), fun h => hJ.k10 ((hL 10 (by decide)).1 h), fun h => hJ.k11 ((hL 11 (by decide)).1 h), fun h => ⟨(hJ.k12 ((hL 12 (by decide)).1 h)).1, (hJ.k12 ((hL 12 (by decide)).1 h)).2⟩, fun h => ⟨(hJ.k13 ((hL 13 (by decide)).1 h)).1, (hJ.k13 ((hL 13 (by decide)).1 h)).2⟩, fun h => (hL 6 (by decide)).2 (hJ.c7 ((hL 7 (by decide)).1 h)), fun h => (hL 13 (by decide)).2 (hJ.c14 ((hL 14 (by decide)).1 h)), fun q _ _ => (hL 0 (by decide)).2 (ready_dep hi 0 (by kernel_rfl)), fun _ => ⟨r, m1, fun h => m2 ((hL 15 (by decide)).1 h), fun h => m3 ((hL 16 (by decide)).1 h), m5⟩⟩⟩
  ·-- operation 10
   refine op_any (C := XX.cfg) T0 I0 (o := _) rfl hS (fun t ht => by cases ht; decide) (Q := fun st' => ∃ g6 g12 g13, JS a b n S T s w (fun k => (listed.setIfInBounds 10 true).getD k false = true) cS st'.sl st'.ro g6 g12 g13) (wo_ok 2 _ [_] 10 (?_ : WO XX 2 _ [_] 10 [] (fun _ st' => ∃ g6 g12 g13, JS a b n S T s w (fun k => (listed.setIfInBounds 10 true).getD k false = true) cS st'.sl st'.ro g6 g12 g13) ⟨sl, ro, gn⟩)) (fun st' a2 c2 Φ2 h2 ⟨g6, g12, g13, hq⟩ => ⟨cS, c2, Φ2, st', g6, g12, g13, rfl, h2, hq⟩)
   have U : ∀ k, k ≠ 23 → ∀ v, upd sl 23 v k = sl k := fun k h v => upd_ne _ _ _ _ h
   simp (maxSteps := 10000000) (disch := first | assumption | omega) only [go_sem, ↓reduceIte, Nat.reduceEqDiff, reduceCtorEq, Nat.reduceAdd, Nat.reduceMul, Nat.reduceLeDiff, zc, Int.reduceToNat, ti25, List.getElem_toArray, List.getElem_cons_succ, List.getElem_cons_zero, hJ.s2, hJ.r2]
   exact ⟨g6, g12, g13, ⟨(U 1 (by decide) _).trans hJ.s1, (U 2 (by decide) _).trans hJ.s2, hJ.r2, (U 5 (by decide) _).trans hJ.s5, hJ.r5, (U 6 (by decide) _).trans hJ.s6, hJ.r6, fun h => (U 17 (by decide) _).trans (hJ.k1 ((hL 1 (by decide)).1 h)), fun h => (U 18 (by decide) _).trans (hJ.k2 ((hL 2 (by decide)).1 h)), fun h => (U 19 (by decide) _).trans (hJ.k4 ((hL 4 (by decide)).1 h)), fun h => (U 20 (by decide) _).trans (hJ.k5 ((hL 5 (by decide)).1 h)), fun h => ⟨(U 21 (by decide) _).trans (hJ.k6 ((hL 6 (by decide)).1 h)).1, (hJ.k6 ((hL 6 (by decide)).1 h)).2⟩, fun h => (U 22 (by decide) _).trans (hJ.k8 ((hL 8 (by decide)).1 h)), fun _ => upd_same sl _ _, fun h => (U 24 (by decide) _).trans (hJ.k11 ((hL 11 (by decide)).1 h)), fun h => ⟨(U 25 (by decide) _).trans (hJ.k12 ((hL 12 (by decide)).1 h)).1, (hJ.k12 ((hL 12 (by decide)).1 h)).2⟩, fun h => ⟨(U 26 (by decide) _).trans (hJ.k13 ((hL 13 (by decide)).1 h)).1, (hJ.k13 ((hL 13 (by decide)).1 h)).2⟩, fun h => (hL 6 (by decide)).2 (hJ.c7 ((hL 7 (by decide)).1 h)), fun h => (hL 13 (by decide)).2 (hJ.c14 ((hL 14 (by decide)).1 h)), fun q hq h => (hL 0 (by decide)).2 (hJ.c0 q hq ((hL q (by rcases hq with rfl | rfl | rfl | rfl | rfl | rfl <;> decide)).1 h)), fun h0 => by obtain ⟨r, m1, m2, m3, m4⟩ := hJ.mp ((hL 0 (by decide)).1 h0); exact ⟨r, (U 16 (by decide) _).trans m1, fun h => (U 27 (by decide) _).trans (m2 ((hL 15 (by decide)).1 h)), fun h => (U 7 (by decide) _).trans (m3 ((hL 16 (by decide)).1 h)), m4.cong (fun q hq => hL q (by rcases hq with rfl | rfl | rfl | rfl <;> decide))⟩⟩⟩
  ·-- operation 11
   have d10 := hJ.k10 (ready_dep hi 10 (by kernel_rfl))
   refine op_any (C := XX.cfg) T0 I0 (o := _) rfl hS (fun t ht => by cases ht; decide) (Q := fun st' => ∃ g6 g12 g13, JS a b n S T s w (fun k => (listed.setIfInBounds 11 true).getD k false = true) cS st'.sl st'.ro g6 g12 g13) (wo_ok 2 _ [_] 11 (?_ : WO XX 2 _ [_] 11 [] (fun _ st' => ∃ g6 g12 g13, JS a b n S T s w (fun k => (listed.setIfInBounds 11 true).getD k false = true) cS st'.sl st'.ro g6 g12 g13) ⟨sl, ro, gn⟩)) (fun st' a2 c2 Φ2 h2 ⟨g6, g12, g13, hq⟩ => ⟨cS, c2, Φ2, st', g6, g12, g13, rfl, h2, hq⟩)
   have U : ∀ k, k ≠ 24 → ∀ v, upd sl 24 v k = sl k := fun k h v => upd_ne _ _ _ _ h
   simp (maxSteps := 10000000) (disch := first | assumption | omega) only [go_sem, ↓reduceIte, Nat.reduceEqDiff, reduceCtorEq, Nat.reduceAdd, Nat.reduceMul, Nat.reduceLeDiff, zc, Int.reduceToNat, ti25, List.getElem_toArray, List.getElem_cons_succ, List.getElem_cons_zero, d10, hJ.r2]
   exact ⟨g6, g12, g13, ⟨(U 1 (by decide) _).trans hJ.s1, (U 2 (by decide) _).trans hJ.s2, hJ.r2, (U 5 (by decide) _).trans hJ.s5, hJ.r5, (U 6 (by decide) _).trans hJ.s6, hJ.r6, fun h => (U 17 (by decide) _).trans (hJ.k1 ((hL 1 (by decide)).1 h)), fun h => (U 18 (by decide) _).trans (hJ.k2 ((hL 2 (by decide)).1 h)), fun h => (U 19 (by decide) _).trans (hJ.k4 ((hL 4 (by decide)).1 h)), fun h => (U 20 (by decide) _).trans (hJ.k5 ((hL 5 (by decide)).1 h)), fun h => ⟨(U 21 (by decide) _).trans (hJ.k6 ((hL 6 (by decide)).1 h)).1, (hJ.k6 ((hL 6 (by decide)).1 h)).2⟩, fun h => (U 22 (by decide) _).trans (hJ.k8 ((hL 8 (by decide)).1 h)), fun h => (U 23 (by decide) _).trans (hJ.k10 ((hL 10 (by decide)).1 h)), fun _ => upd_same sl _ _, fun h => ⟨(U 25 (by decide) _).trans (hJ.k12 ((hL 12 (by decide)).1 h)).1, (hJ.k12 ((hL 12 (by decide)).1 h)).2⟩, fun h => ⟨(U 26 (by decide) _).trans (hJ.k13 ((hL 13 (by decide)).1 h)).1, (hJ.k13 ((hL 13 (by decide)).1 h)).2⟩, fun h => (hL 6 (by decide)).2 (hJ.c7 ((hL 7 (by decide)).1 h)), fun h => (hL 13 (by decide)).2 (hJ.c14 ((hL 14 (by decide)).1 h)), fun q hq h => (hL 0 (by decide)).2 (hJ.c0 q hq ((hL q (by rcases hq with rfl | rfl | rfl | rfl | rfl | rfl <;> decide)).1 h)), fun h0 => by obtain ⟨r, m1, m2, m3, m4⟩ := hJ.mp ((hL 0 (by decide)).1 h0); exact ⟨r, (U 16 (by decide) _).trans m1, fun h => (U 27 (by decide) _).trans (m2 ((hL 15 (by decide)).1 h)), fun h => (U 7 (by decide) _).trans (m3 ((hL 16 (by decide)).1 h)), m4.cong (fun q hq => hL q (by rcases hq with rfl | rfl | rfl | rfl <;> decide))⟩⟩⟩
  ·-- operation 12
   have d11 := hJ.k11 (ready_dep hi 11 (by kernel_rfl))
   refine op_any (C := XX.cfg) T0 I0 (o := _) rfl hS (fun t ht => by cases ht; decide) (Q := fun st' => ∃ g6 g12 g13, JS a b n S T s w (fun k => (listed.setIfInBounds 12 true).getD k false = true) cS st'.sl st'.ro g6 g12 g13) (wo_ok 2 _ [_] 12 (?_ : WO XX 2 _ [_] 12 [] (fun _ st' => ∃ g6 g12 g13, JS a b n S T s w (fun k => (listed.setIfInBounds 12 true).getD k false = true) cS st'.sl st'.ro g6 g12 g13) ⟨sl, ro, gn⟩)) (fun st' a2 c2 Φ2 h2 ⟨g6, g12, g13, hq⟩ => ⟨cS, c2, Φ2, st', g6, g12, g13, rfl, h2, hq⟩)
   have U : ∀ k, k ≠ 25 → ∀ v, upd sl 25 v k = sl k := fun k h v => upd_ne _ _ _ _ h
   simp (maxSteps := 10000000) (disch := first | assumption | omega) only [go_sem, ↓reduceIte, Nat.reduceEqDiff, reduceCtorEq, Nat.reduceAdd, Nat.reduceMul, Nat.reduceLeDiff, zc, Int.reduceToNat, ti25, List.getElem_toArray, List.getElem_cons_succ, List.getElem_cons_zero, d11]
   refine CLL_pure _ cV PUt rfl rfl ?_
   simp (maxSteps := 10000000) (disch := first | assumption | omega) only [go_sem, ↓reduceIte, Nat.reduceEqDiff, reduceCtorEq, Nat.reduceAdd, Nat.reduceMul, Nat.reduceLeDiff, zc, Int.reduceToNat, impE_row]
   exact ⟨g6, gn 12480 + 1, g13, ⟨(U 1 (by decide) _).trans hJ.s1, (U 2 (by decide) _).trans hJ.s2, (upr_ne (show (4096 : Nat) ≠ 12480 by decide)).trans hJ.r2, (U 5 (by decide) _).trans hJ.s5, (upr_ne (show (8240 : Nat) ≠ 12480 by decide)).trans hJ.r5, (U 6 (by decide) _).trans hJ.s6, (upr_ne (show (8288 : Nat) ≠ 12480 by decide)).trans hJ.r6, fun h => (U 17 (by decide) _).trans (hJ.k1 ((hL 1 (by decide)).1 h)), fun h => (U 18 (by decide) _).trans (hJ.k2 ((hL 2 (by decide)).1 h)), fun h => (U 19 (by decide) _).trans (hJ.k4 ((hL 4 (by decide)).1 h)), fun h => (U 20 (by decide) _).trans (hJ.k5 ((hL 5 (by decide)).1 h)), fun h => ⟨(U 21 (by decide) _).trans (hJ.k6 ((hL 6 (by decide)).1 h)).1, (upr_ne (show (12384 : Nat) ≠ 12480 by decide)).trans (hJ.k6 ((hL 6 (by decide)).1 h)).2⟩, fun h => (U 22 (by decide) _).trans (hJ.k8 ((hL 8 (by decide)).1 h)), fun h => (U 23 (by decide) _).trans (hJ.k10 ((hL 10 (by decide)).1 h)), fun h => (U 24 (by decide) _).trans (hJ.k11 ((hL 11 (by decide)).1 h)), fun _ => ⟨upd_same sl _ _, upr_eq⟩, fun h => ⟨(U 26 (by decide) _).trans (hJ.k13 ((hL 13 (by decide)).1 h)).1, (upr_ne (show (12496 : Nat) ≠ 12480 by decide)).trans (hJ.k13 ((hL 13 (by decide)).1 h)).2⟩, fun h => (hL 6 (by decide)).2 (hJ.c7 ((hL 7 (by decide)).1 h)), fun h => (hL 13 (by decide)).2 (hJ.c14 ((hL 14 (by decide)).1 h)), fun q hq h => (hL 0 (by decide)).2 (hJ.c0 q hq ((hL q (by rcases hq with rfl | rfl | rfl | rfl | rfl | rfl <;> decide)).1 h)), fun h0 => by obtain ⟨r, m1, m2, m3, m4⟩ := hJ.mp ((hL 0 (by decide)).1 h0); exact ⟨r, (U 16 (by decide) _).trans m1, fun h => (U 27 (by decide) _).trans (m2 ((hL 15 (by decide)).1 h)), fun h => (U 7 (by decide) _).trans (m3 ((hL 16 (by decide)).1 h)), m4.cong (fun q hq => hL q (by rcases hq with rfl | rfl | rfl | rfl <;> decide))⟩⟩⟩
  ·-- operation 13
   obtain ⟨d12, r12⟩ := hJ.k12 (ready_dep hi 12 (by kernel_rfl))
   refine op_any (C := XX.cfg) T0 I0 (o := _) rfl hS (fun t ht => by cases ht; decide) (Q := fun st' => ∃ g6 g12 g13, JS a b n S T s w (fun k => (listed.setIfInBounds 13 true).getD k false = true) cS st'.sl st'.ro g6 g12 g13) (wo_ok 2 _ [_] 13 (?_ : WO XX 2 _ [_] 13 [] (fun _ st' => ∃ g6 g12 g13, JS a b n S T s w (fun k => (listed.setIfInBounds 13 true).getD k false = true) cS st'.sl st'.ro g6 g12 g13) ⟨sl, ro, gn⟩)) (fun st' a2 c2 Φ2 h2 ⟨g6, g12, g13, hq⟩ => ⟨cS, c2, Φ2, st', g6, g12, g13, rfl, h2, hq⟩)
   have U : ∀ k, k ≠ 26 → ∀ v, upd sl 26 v k = sl k := fun k h v => upd_ne _ _ _ _ h
   simp (maxSteps := 10000000) (disch := first | assumption | omega) only [go_sem, ↓reduceIte, Nat.reduceEqDiff, reduceCtorEq, Nat.reduceAdd, Nat.reduceMul, Nat.reduceLeDiff, zc, Int.reduceToNat, ti25, List.getElem_toArray, List.getElem_cons_succ, List.getElem_cons_zero, d12]
   refine CLL_q _ cD2 (.cons (exq_refL (by rw [r12, rowL, rws_map]) (zfe _ _).symm (by decide)) .nil) rfl rfl (noI_mat _ _ _) ?_
   simp (maxSteps := 10000000) (disch := first | assumption | omega) only [go_sem, ↓reduceIte, Nat.reduceEqDiff, reduceCtorEq, Nat.reduceAdd, Nat.reduceMul, Nat.reduceLeDiff, zc, Int.reduceToNat, impE_row]
   exact ⟨g6, g12, gn 12496 + 1, ⟨(U 1 (by decide) _).trans hJ.s1, (U 2 (by decide) _).trans hJ.s2, (upr_ne (show (4096 : Nat) ≠ 12496 by decide)).trans hJ.r2, (U 5 (by decide) _).trans hJ.s5, (upr_ne (show (8240 : Nat) ≠ 12496 by decide)).trans hJ.r5, (U 6 (by decide) _).trans hJ.s6, (upr_ne (show (8288 : Nat) ≠ 12496 by decide)).trans hJ.r6, fun h => (U 17 (by decide) _).trans (hJ.k1 ((hL 1 (by decide)).1 h)), fun h => (U 18 (by decide) _).trans (hJ.k2 ((hL 2 (by decide)).1 h)), fun h => (U 19 (by decide) _).trans (hJ.k4 ((hL 4 (by decide)).1 h)), fun h => (U 20 (by decide) _).trans (hJ.k5 ((hL 5 (by decide)).1 h)), fun h => ⟨(U 21 (by decide) _).trans (hJ.k6 ((hL 6 (by decide)).1 h)).1, (upr_ne (show (12384 : Nat) ≠ 12496 by decide)).trans (hJ.k6 ((hL 6 (by decide)).1 h)).2⟩, fun h => (U 22 (by decide) _).trans (hJ.k8 ((hL 8 (by decide)).1 h)), fun h => (U 23 (by decide) _).trans (hJ.k10 ((hL 10 (by decide)).1 h)), fun h => (U 24 (by decide) _).trans (hJ.k11 ((hL 11 (by decide)).1 h)), fun h => ⟨(U 25 (by decide) _).trans (hJ.k12 ((hL 12 (by decide)).1 h)).1, (upr_ne (show (12480 : Nat) ≠ 12496 by decide)).trans (hJ.k12 ((hL 12 (by decide)).1 h)).2⟩, fun _ => ⟨upd_same sl _ _, upr_eq⟩, fun h => (hL 6 (by decide)).2 (hJ.c7 ((hL 7 (by decide)).1 h)), fun _ => hLi, fun q hq h => (hL 0 (by decide)).2 (hJ.c0 q hq ((hL q (by rcases hq with rfl | rfl | rfl | rfl | rfl | rfl <;> decide)).1 h)), fun h0 => by obtain ⟨r, m1, m2, m3, m4⟩ := hJ.mp ((hL 0 (by decide)).1 h0); exact ⟨r, (U 16 (by decide) _).trans m1, fun h => (U 27 (by decide) _).trans (m2 ((hL 15 (by decide)).1 h)), fun h => (U 7 (by decide) _).trans (m3 ((hL 16 (by decide)).1 h)), (m4.cong (fun q hq => hL q (by rcases hq with rfl | rfl | rfl | rfl <;> decide))).turn13 (fun h => by have := hJ.c14 ((hL 14 (by decide)).1 h); rw [hnot'] at this; cases this)⟩⟩⟩
  ·-- operation 14
   have d13 := (hJ.k13 (ready_dep hi 13 (by kernel_rfl))).1
   obtain ⟨r, m1, m2, m3, m4⟩ := hJ.mp (ready_dep hi 0 (by kernel_rfl))
   have hu := hS.ev (.tmp 26)
   have hav : (⟨sl, ro, gn⟩ : St).ev (.tmp 26) = .ref 12496 g13 [] 0 n := d13
   rw [hav] at hu
   obtain ⟨w2, e2, hS2, m5⟩ := m4.insert (q := 14) (k := 84) (av := .ref 12496 g13 [] 0 n) hS tbl14 (by rw [hnot']; decide) hu hL hLi
   have hr : act.eval (.tmp 16) = .map (some r) := by have := hS.ev (.tmp 16); rw [show (⟨sl, ro, gn⟩ : St).ev (.tmp 16) = .sc (.map (some r)) from m1] at this; exact (Rel.sc_inv this).1
   refine .inl ?_
   unfold Oper.wp
   rw [show (execOp act.eval _).run Tryz.prog c.w = .ok .skip w2 from ex_insert rfl hr e2, Oper.upon_skip]
   exact ⟨{ c with w := w2 }, { c with w := w2 }, Φ, ⟨sl, ro, gn⟩, g6, g12, g13, rfl, hS2, ⟨hJ.s1, hJ.s2, hJ.r2, hJ.s5, hJ.r5, hJ.s6, hJ.r6, fun h => hJ.k1 ((hL 1 (by decide)).1 h), fun h => hJ.k2 ((hL 2 (by decide)).1 h), fun h => hJ.k4 ((hL 4 (by decide)).1 h), fun h => hJ.k5 ((hL 5 (by decide)).1 h), fun h => ⟨(hJ.k6 ((hL 6 (by decide)).1 h)).1, (hJ.k6 ((hL 6 (by decide)).1 h)).2⟩, fun h => hJ.k8 ((hL 8 (by decide)).1 h), fun h => hJ.k10 ((hL 10 (by decide)).1 h), fun h => hJ.k11 ((hL 11 (by decide)).1 h), fun h => ⟨(hJ.k12 ((hL 12 (by decide)).1 h)).1, (hJ.k12 ((hL 12 (by decide)).1 h)).2⟩, fun h => ⟨(hJ.k13 ((hL 13 (by decide)).1 h)).1, (hJ.k13 ((hL 13 (by decide)).1 h)).2⟩, fun h => (hL 6 (by decide)).2 (hJ.c7 ((hL 7 (by decide)).1 h)), fun h => (hL 13 (by decide)).2 (ready_dep hi 13 (by kernel_rfl)), fun q _ _ => (hL 0 (by decide)).2 (ready_dep hi 0 (by kernel_rfl)), fun _ => ⟨r, m1, fun h => m2 ((hL 15 (by decide)).1 h), fun h => m3 ((hL 16 (by decide)).1 h), m5⟩⟩⟩
  ·-- operation 15
   have d0 := ready_dep hi 0 (by kernel_rfl)
   obtain ⟨r0, d16, -⟩ := hJ.mp d0
   refine op_any (C := XX.cfg) T0 I0 (o := _) rfl hS (fun t ht => by cases ht; decide) (Q := fun st' => ∃ g6 g12 g13, JS a b n S T s w (fun k => (listed.setIfInBounds 15 true).getD k false = true) cS st'.sl st'.ro g6 g12 g13) (wo_ok 2 _ [_] 15 (?_ : WO XX 2 _ [_] 15 [] (fun _ st' => ∃ g6 g12 g13, JS a b n S T s w (fun k => (listed.setIfInBounds 15 true).getD k false = true) cS st'.sl st'.ro g6 g12 g13) ⟨sl, ro, gn⟩)) (fun st' a2 c2 Φ2 h2 ⟨g6, g12, g13, hq⟩ => ⟨cS, c2, Φ2, st', g6, g12, g13, rfl, h2, hq⟩)
   have U : ∀ k, k ≠ 27 → ∀ v, upd sl 27 v k = sl k := fun k h v => upd_ne _ _ _ _ h
   simp (maxSteps := 10000000) (disch := first | assumption | omega) only [go_sem, ↓reduceIte, Nat.reduceEqDiff, reduceCtorEq, Nat.reduceAdd, Nat.reduceMul, Nat.reduceLeDiff, zc, Int.reduceToNat, ti25, List.getElem_toArray, List.getElem_cons_succ, List.getElem_cons_zero, d16]
   exact ⟨g6, g12, g13, ⟨(U 1 (by decide) _).trans hJ.s1, (U 2 (by decide) _).trans hJ.s2, hJ.r2, (U 5 (by decide) _).trans hJ.s5, hJ.r5, (U 6 (by decide) _).trans hJ.s6, hJ.r6, fun h => (U 17 (by decide) _).trans (hJ.k1 ((hL 1 (by decide)).1 h)), fun h => (U 18 (by decide) _).trans (hJ.k2 ((hL 2 (by decide)).1 h)), fun h => (U 19 (by decide) _).trans (hJ.k4 ((hL 4 (by decide)).1 h)), fun h => (U 20 (by decide) _).trans (hJ.k5 ((hL 5 (by decide)).1 h)), fun h => ⟨(U 21 (by decide) _).trans (hJ.k6 ((hL 6 (by decide)).1 h)).1, (hJ.k6 ((hL 6 (by decide)).1 h)).2⟩, fun h => (U 22 (by decide) _).trans (hJ.k8 ((hL 8 (by decide)).1 h)), fun h => (U 23 (by decide) _).trans (hJ.k10 ((hL 10 (by decide)).1 h)), fun h => (U 24 (by decide) _).trans (hJ.k11 ((hL 11 (by decide)).1 h)), fun h => ⟨(U 25 (by decide) _).trans (hJ.k12 ((hL 12 (by decide)).1 h)).1, (hJ.k12 ((hL 12 (by decide)).1 h)).2⟩, fun h => ⟨(U 26 (by decide) _).trans (hJ.k13 ((hL 13 (by decide)).1 h)).1, (hJ.k13 ((hL 13 (by decide)).1 h)).2⟩, fun h => (hL 6 (by decide)).2 (hJ.c7 ((hL 7 (by decide)).1 h)), fun h => (hL 13 (by decide)).2 (hJ.c14 ((hL 14 (by decide)).1 h)), fun q _ _ => (hL 0 (by decide)).2 (ready_dep hi 0 (by kernel_rfl)), fun h0 => by obtain ⟨r, m1, m2, m3, m4⟩ := hJ.mp d0; exact ⟨r, (U 16 (by decide) _).trans m1, fun _ => (upd_same sl _ _).trans (d16.symm.trans m1), fun h => (U 7 (by decide) _).trans (m3 ((hL 16 (by decide)).1 h)), m4.cong (fun q hq => hL q (by rcases hq with rfl | rfl | rfl | rfl <;> decide))⟩⟩⟩
  ·-- operation 16
   have d0 := ready_dep hi 0 (by kernel_rfl)
   have d15 := ready_dep hi 15 (by kernel_rfl)
   obtain ⟨r0, -, d27, -⟩ := hJ.mp d0
   replace d27 := d27 d15
   refine op_any (C := XX.cfg) T0 I0 (o := _) rfl hS (fun t ht => by cases ht; decide) (Q := fun st' => ∃ g6 g12 g13, JS a b n S T s w (fun k => (listed.setIfInBounds 16 true).getD k false = true) cS st'.sl st'.ro g6 g12 g13) (wo_ok 2 _ [_] 16 (?_ : WO XX 2 _ [_] 16 [] (fun _ st' => ∃ g6 g12 g13, JS a b n S T s w (fun k => (listed.setIfInBounds 16 true).getD k false = true) cS st'.sl st'.ro g6 g12 g13) ⟨sl, ro, gn⟩)) (fun st' a2 c2 Φ2 h2 ⟨g6, g12, g13, hq⟩ => ⟨cS, c2, Φ2, st', g6, g12, g13, rfl, h2, hq⟩)
   have U : ∀ k, k ≠ 7 → ∀ v, upd sl 7 v k = sl k := fun k h v => upd_ne _ _ _ _ h
   simp (maxSteps := 10000000) (disch := first | assumption | omega) only [go_sem, ↓reduceIte, Nat.reduceEqDiff, reduceCtorEq, Nat.reduceAdd, Nat.reduceMul, Nat.reduceLeDiff, zc, Int.reduceToNat, ti25, List.getElem_toArray, List.getElem_cons_succ, List.getElem_cons_zero, d27]
   exact ⟨g6, g12, g13, ⟨(U 1 (by decide) _).trans hJ.s1, (U 2 (by decide) _).trans hJ.s2, hJ.r2, (U 5 (by decide) _).trans hJ.s5, hJ.r5, (U 6 (by decide) _).trans hJ.s6, hJ.r6, fun h => (U 17 (by decide) _).trans (hJ.k1 ((hL 1 (by decide)).1 h)), fun h => (U 18 (by decide) _).trans (hJ.k2 ((hL 2 (by decide)).1 h)), fun h => (U 19 (by decide) _).trans (hJ.k4 ((hL 4 (by decide)).1 h)), fun h => (U 20 (by decide) _).trans (hJ.k5 ((hL 5 (by decide)).1 h)), fun h => ⟨(U 21 (by decide) _).trans (hJ.k6 ((hL 6 (by decide)).1 h)).1, (hJ.k6 ((hL 6 (by decide)).1 h)).2⟩, fun h => (U 22 (by decide) _).trans (hJ.k8 ((hL 8 (by decide)).1 h)), fun h => (U 23 (by decide) _).trans (hJ.k10 ((hL 10 (by decide)).1 h)), fun h => (U 24 (by decide) _).trans (hJ.k11 ((hL 11 (by decide)).1 h)), fun h => ⟨(U 25 (by decide) _).trans (hJ.k12 ((hL 12 (by decide)).1 h)).1, (hJ.k12 ((hL 12 (by decide)).1 h)).2⟩, fun h => ⟨(U 26 (by decide) _).trans (hJ.k13 ((hL 13 (by decide)).1 h)).1, (hJ.k13 ((hL 13 (by decide)).1 h)).2⟩, fun h => (hL 6 (by decide)).2 (hJ.c7 ((hL 7 (by decide)).1 h)), fun h => (hL 13 (by decide)).2 (hJ.c14 ((hL 14 (by decide)).1 h)), fun q _ _ => (hL 0 (by decide)).2 (ready_dep hi 0 (by kernel_rfl)), fun h0 => by obtain ⟨r, m1, m2, m3, m4⟩ := hJ.mp d0; exact ⟨r, (U 16 (by decide) _).trans m1, fun h => (U 27 (by decide) _).trans (m2 ((hL 15 (by decide)).1 h)), fun _ => (upd_same sl _ _).trans (d27.symm.trans (m2 d15)), m4.cong (fun q hq => hL q (by rcases hq with rfl | rfl | rfl | rfl <;> decide))⟩⟩⟩
 ·intro listed act w' hsz hJJ hr
  obtain ⟨cS, c, Φ, ⟨sl, ro, gn⟩, g6, g12, g13, rfl, hS', hJ⟩ := hJJ
  dsimp only at hJ
  have hall := ready_nil hr hsz (by kernel_rfl)
  have hj0 := hall 0 (by decide)
  obtain ⟨r, m1, m2, m3, m4⟩ := hJ.mp hj0
  have m7 := m3 (hall 16 (by decide))
  have hT6 := hJ.k6 (hall 6 (by decide))
  have hT13 := hJ.k13 (hall 13 (by decide))
  have K := matI_loop (s := s) ha h0 hn hS hTn hE hs hw hS' hJ.s1 hJ.s5 m7 hJ.r5 hJ.r6 hT6.2 hT13.2 (fun q hq => hall q hq) m4
  refine wp_mono (show MRest.wp Tryz.prog _ act c.w from K) ?_
  rintro e a9 w9 ⟨rfl, c9, Φ9, st9, rfl, hs9, hr9⟩
  exact ret_fin T0 (noRef_mat _ _ _) hs9 hr9
 ·have hno : ∀ k, (Array.replicate 17 false).getD k false = true → False := fun k h => by
   rw [Array.getD_eq_getD_getElem?, Array.getElem?_replicate] at h
   split at h <;> cases h
  exact ⟨f1, f2, f3, f4, f5, f6, f7, fun h => (hno _ h).elim, fun h => (hno _ h).elim, fun h => (hno _ h).elim, fun h => (hno _ h).elim, fun h => (hno _ h).elim, fun h => (hno _ h).elim, fun h => (hno _ h).elim, fun h => (hno _ h).elim, fun h => (hno _ h).elim, fun h => (hno _ h).elim, fun h => (hno _ h).elim, fun h => (hno _ h).elim, fun q _ h => (hno _ h).elim, fun h => (hno _ h).elim⟩
end Go.Proofs.YtkimbjcaoolfpaaGreatDoor
