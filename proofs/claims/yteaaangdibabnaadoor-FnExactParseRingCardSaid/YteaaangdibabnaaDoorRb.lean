/- Texts joined: Rg2. -/
import Derived.RangeFuncBox
import Derived.RangeFuncLeaves
import Derived.Shelf.Abstract
import Derived.WalkKit
import Derived.OwnWalkIn
import Derived.TacticsInMore
import Derived.LoopNIn
import Derived.LoopIn
import Derived.Lib.Hide
import Derived.RegionIn
import Derived.Test.YteaaangdibabnaaDoorProg
set_option linter.all false
/- The library's slices.Chunk over numbers, as an iterator: by the kit's own walk. -/
namespace Go.Proofs.YteaaangdibabnaaDoor
open Go.RowKit Go.Shelf
attribute [local go_sem] Oper.semAt_some
def uptoF (n k : Nat) : List (Fin n) := (List.finRange n).take k
theorem uptoF_succ {n k : Nat} (h : k < n) : uptoF n (k + 1) = uptoF n k ++ [⟨k, h⟩] := by
 unfold uptoF
 rw [List.take_succ, List.getElem?_eq_getElem (by simpa using h), List.getElem_finRange]
 rfl
theorem uptoF_length {n k : Nat} (h : k ≤ n) : (uptoF n k).length = k := by simp [uptoF]; omega
def ChB (B1 o1 B2 o2 G bo M n : Nat) (W : World) : Prop :=
 (∃ cap, W.cell? ⟨B1, o1, none⟩ = some (.slice (some ⟨G, bo, none⟩) M cap) ∧ M ≤ cap ∧ cap ≤ maxLen) ∧ W.cell? ⟨B2, o2, none⟩ = some (.int .i64 n)
set_option maxRecDepth 100000 in
set_option maxHeartbeats 2000000 in
theorem chunk1_in (F : Fence) (nn : Nat) (h8 : F.fn 24) (hro : F.round = none) (hn : 1 ≤ nn) (l B1 o1 B2 o2 G bo n : Nat) (hn1 : 1 ≤ n) (hM : n * n ≤ 1000000000) (J Jx : List (Fin n) → World → Prop) (hJd : ∀ s W, J s W → J s W.drew)
  (hY : ∀ pre (x : Fin n) W, J pre W → pre.length < n → YieldAt F (nn - 1) Tryd.prog l #[.slice (some ⟨G, bo + x.val * n, none⟩) n n] W fun e W' =>
   (e = .returned (.bool true) ∧ J (pre ++ [x]) W' ∧ (ChB B1 o1 B2 o2 G bo (n * n) n W → ChB B1 o1 B2 o2 G bo (n * n) n W')) ∨ (e = .returned (.bool false) ∧ Jx (pre ++ [x]) W'))
  (W : World) (hB : ChB B1 o1 B2 o2 G bo (n * n) n W) (h0 : J [] W) :
  CallsIn F nn Tryd.prog 24 #[.func (.yield l) #[] #[], .pointer (some ⟨B1, o1, none⟩), .pointer (some ⟨B2, o2, none⟩)] W fun e W' => (∃ v, e = .returned v) ∧
   ((∃ xs, xs = uptoF n n ∧ J xs W') ∨ (∃ pre, (∃ k, k ≤ n ∧ pre = uptoF n k) ∧ Jx pre W')) := by
 refine callsIn_of_wp Tryd.func24 rfl h8 ?_ hro
 simp only [Tryd.ntmps24, List.size_toArray, List.length_cons, List.length_nil, Nat.reduceAdd, Nat.reduceSub, Array.replicate_succ, Array.replicate_zero, List.push_toArray, List.append_toArray, List.nil_append, List.cons_append]
 obtain ⟨M, eM⟩ : ∃ M, M = n * n := ⟨_, rfl⟩
 rw [← eM] at hB hM
 simp only [← eM] at hY
 have EM := Lib.hid eM
 clear eM
 gi_wp2
 gi_loopw [4] (fun i wr => ∃ k q : Nat, k ≤ n ∧ q ≤ M ∧ Hid (q = k * n) ∧ i = .int .i64 (q : Int) ∧ J (uptoF n k) wr ∧ Hid (ChB B1 o1 B2 o2 G bo M n wr))
  (fun i _ => M - (intOf i).toNat)
 case atStart => exact ⟨0, 0, Nat.zero_le _, Nat.zero_le _, Lib.hid (by simp), rfl, h0, Lib.hid hB⟩
 case round =>
  obtain ⟨k, q, hk, hq, eq, rfl, hJs, hCB⟩ := hrel
  obtain ⟨⟨cap, hb1, hb1a, hb1b⟩, hb2⟩ := hCB.out
  by_cases hlt : q < M
  ·have hkn : k < n := by
    rcases Nat.lt_or_ge k n with h | h
    ·exact h
    ·have e1 := eq.out
     have e2 := EM.out
     have e3 : k = n := by omega
     rw [e3] at e1
     omega
   have hqn : q + n ≤ M := by
    have e1 := eq.out
    have e2 := EM.out
    have e3 : (k + 1) * n ≤ n * n := Nat.mul_le_mul_right n hkn
    rw [Nat.add_mul, Nat.one_mul] at e3
    omega
   have hlt' : (q : Int) < (M : Int) := by omega
   have hmn : ¬ (M - q < n) := by omega
   have hcq : ¬ cap = q := by omega
   obtain ⟨fn, tmps, assign, body, hy, hR⟩ := hY (uptoF n k) ⟨k, hkn⟩ wr.drew (hJd _ _ hJs) (by rw [uptoF_length hk]; exact hkn)
   rw [← eq.out] at hy
   have hB2 : ChB B1 o1 B2 o2 G bo M n wr.drew := hCB.out
   have hR := Lib.hid hR
   have hB2 := Lib.hid hB2
   gi_wp2
   gi_region
   all_goals (
    gi_wp2
    refine hR.out.mono ?_
    rintro e W3 (⟨rfl, hJ3, hk3⟩ | ⟨rfl, hJx3⟩)
    ·have hC3 := hk3 hB2.out
     obtain ⟨⟨cap3, hb31, hb31a, hb31b⟩, hb32⟩ := hC3
     have hC3 : ChB B1 o1 B2 o2 G bo M n W3 := ⟨⟨cap3, hb31, hb31a, hb31b⟩, hb32⟩
     have hC3 := Lib.hid hC3
     gi_wp2
     go_roundw
     case rel => exact ⟨k + 1, q + n, hkn, hqn, Lib.hid (by rw [eq.out, Nat.add_mul, Nat.one_mul]), by simp, by rw [uptoF_succ hkn]; exact hJ3, hC3⟩
     case measure => simp [intOf]; omega
    ·gi_wp2
     refine bodyPost_ret (results_none rfl _ _ _) rfl ?_
     exact ⟨⟨_, rfl⟩, .inr ⟨_, ⟨k + 1, hkn, by rw [uptoF_succ hkn]⟩, hJx3⟩⟩)
  ·have hge : ¬ (q : Int) < (M : Int) := by omega
   have hkn : k = n := by
    have e1 := eq.out
    have e2 := EM.out
    rcases Nat.lt_or_ge k n with h | h
    ·have e3 : (k + 1) * n ≤ n * n := Nat.mul_le_mul_right n h
     rw [Nat.add_mul, Nat.one_mul] at e3
     omega
    ·omega
   rw [hkn] at hJs
   gi_wp2
   go_end0
   exact ⟨⟨_, rfl⟩, .inl (by first | exact hJs | exact ⟨_, rfl, hJs⟩)⟩
theorem chunk_stops (F : Fence) (nn : Nat) (h8 : F.fn 24) (hro : F.round = none) (hn : 1 ≤ nn) (B1 o1 B2 o2 G bo n : Nat) (hn1 : 1 ≤ n) (hM : n * n ≤ 1000000000) (w : World) (hB : ChB B1 o1 B2 o2 G bo (n * n) n w) :
  SeqStopsK F nn Tryd.prog 24 #[.pointer (some ⟨B1, o1, none⟩), .pointer (some ⟨B2, o2, none⟩)] (fun x : Fin n => #[Value.slice (some ⟨G, bo + x.val * n, none⟩) n n]) (fun X Y => ChB B1 o1 B2 o2 G bo (n * n) n X → ChB B1 o1 B2 o2 G bo (n * n) n Y) (fun xs => xs = uptoF n n)
   (fun pre => ∃ k, k ≤ n ∧ pre = uptoF n k) n w := fun l J Jx W hW hJ _ hY h0 => by
 have hl : ∀ {g o : Nat} {v : Value}, w.cell? ⟨g, o, none⟩ = some v → W.cell? ⟨g, o, none⟩ = some v := fun {g o v} h => (hW.cell (p := ⟨g, o, none⟩) (World.block_lt_of_cell? _ _ h)).trans h
 obtain ⟨⟨cap, h1, h2, h3⟩, h4⟩ := hB
 exact chunk1_in F nn h8 hro hn l B1 o1 B2 o2 G bo n hn1 hM J Jx (fun s W h => hJ s W W.drew none h ⟨rfl, rfl, rfl, Nat.le_refl _, fun _ _ _ => rfl⟩ (fun r e => by cases e)) hY W ⟨⟨cap, hl h1, h2, h3⟩, hl h4⟩ h0
end Go.Proofs.YteaaangdibabnaaDoor
