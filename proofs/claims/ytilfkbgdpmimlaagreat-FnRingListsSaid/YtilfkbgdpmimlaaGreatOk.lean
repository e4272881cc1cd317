/- Texts joined: Ec1 Ec2 Ec3. -/
import Derived.Test.YtilfkbgdpmimlaaGreatMh
import Derived.Test.YtilfkbgdpmimlaaGreatOi
set_option linter.all false
/- Enumeration of rings, the law: marks in a list of rings. -/
namespace Go.Proofs.YtilfkbgdpmimlaaGreat
open Go.RowKit
set_option maxRecDepth 1000000
abbrev rI (F : Nat → Nat → Nat → Int) (n : Nat) : List AV := rws (fun i => .row (rws (fun j => .row (rws (fun k => i64 (F i j k)) n)) n)) n
abbrev rJ (F : Nat → Nat → Nat → Int) (n i : Nat) : List AV := rws (fun j => .row (rws (fun k => i64 (F i j k)) n)) n
abbrev C4 := Nat → Nat → Nat → Nat → Int
abbrev qR (H : C4) (N n : Nat) : List AV := rws (fun w => cubeA (H w) n) N
def qA (H : C4) (N n : Nat) : AV := .row (qR H N n)
section
variable {s g a i j n N : Nat} {H : C4} {ro : Ro} {gn : Nat → Nat} {k : Int}
def mkJ (H : C4) (a i : Nat) (k : Int) (n j : Nat) : C4 := fun w x y z => if w = a ∧ x = i ∧ y < j then k + (y * n + z : Nat) else H w x y z
def mkI (H : C4) (a : Nat) (k : Int) (n i : Nat) : C4 := fun w x y z => if w = a ∧ x < i then k + ((x * n + y) * n + z : Nat) else H w x y z
def mkW (H : C4) (k : Int) (n a : Nat) : C4 := fun w x y z => if w < a then k + (w * (n * n * n) + ((x * n + y) * n + z) : Nat) else H w x y z
end
theorem pli (F : C3) (n : Nat) : pureL (rws (fun i => AV.imm (rws (fun j => AV.imm (rws (fun k => i64 (F i j k)) n)) n)) n) = true := by
 have := isLLL_pure (isLLL_immC F n)
 simpa only [pureA] using this
section
variable {n : Nat} {Ls : List C3}
abbrev immM (N n : Nat) : AV := .imm (rws (fun w => immC (lbl (1 + (w * (n * n * n) : Nat)) n) n) N)
end
theorem ex_cubeA (ro : Ro) (F : C3) (n k : Nat) : ex ro (k + 4) (cubeA F n) = immC F n := by
 show AV.imm ((rws (fun i => AV.row (rws (fun j => AV.row (rws (fun k => i64 (F i j k)) n)) n)) n).map (ex ro (k + 3))) = _
 rw [rws_map]
 refine congrArg AV.imm (rws_congr fun x _ => ?_)
 show AV.imm ((rws (fun j => AV.row (rws (fun k => i64 (F x j k)) n)) n).map (ex ro (k + 2))) = _
 rw [rws_map]
 refine congrArg AV.imm (rws_congr fun y _ => ?_)
 show AV.imm ((rws (fun k => i64 (F x y k)) n).map (ex ro (k + 1))) = _
 rw [rws_map]
 rfl
theorem exq_listA {ro : Ro} {s g n N : Nat} {Ls : List C3} (h : ro s g = some (listA n Ls)) (hN : N = Ls.length) : exq 8 ro (.ref s g [] 0 N) (immR n Ls) := by
 subst hN
 refine ⟨fun k hk => ?_, fun hp => by simp [pureA] at hp⟩
 obtain ⟨j, rfl⟩ : ∃ j, k = j + 5 := ⟨k - 5, by omega⟩
 show (match ro.cells s g [] with | some cs => AV.imm (((cs.drop 0).take Ls.length).map (ex ro (j + 4))) | none => .dead) = _
 rw [zef, h]
 show AV.imm ((((Ls.map fun F => cubeA F n).drop 0).take Ls.length).map (ex ro (j + 4))) = _
 rw [List.drop_zero, List.take_of_length_le (by rw [List.length_map]; exact Nat.le_refl _), List.map_map]
 exact congrArg AV.imm (List.map_congr_left fun F _ => ex_cubeA ro F n j)
theorem impE_tS (b : Nat) (gn : Nat → Nat) (v x : Value) : impE b gn (.tup [.sc v, .sc x]) = ⟨.tup [.sc v, .sc x], none, [], []⟩ := nr _
theorem impE_tR (b : Nat) (gn : Nat → Nat) (cs : List AV) (v : Value) : impE b gn (.tup [.row cs, .sc v]) = ⟨.tup [.ref b (gn b + 1) [] 0 cs.length, .sc v], none, [], [(b, .row cs)]⟩ := nr _
section
variable {n m : Nat}
end
end Go.Proofs.YtilfkbgdpmimlaaGreat
