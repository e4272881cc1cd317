/- Texts joined: G6. -/
import Derived.Test.YtbopenehooiekaaGreatMl
set_option linter.all false
/- The second indicator; the law of SecondIndicator answers true. -/
namespace Go.Proofs.YtbopenehooiekaaGreat
open Go.RowKit
set_option maxRecDepth 1000000

section
variable (S : List (List Int)) (T : List Int)
def sqT (j : Nat) : Int := atI T j * atI T j % 55441
def upT (j : Nat) : Int := atI (row S 0) j * sqT T j % 55441
def dnT (j : Nat) : Int := atI (row S 0) j * pw (sqT T j) 55439 % 55441
def nmC (i j k : Nat) : Int := nmE S T.length (cjL S T) i j k
/-- The reference's sums. -/
def siI (i : Nat) (s : Int) (j : Nat) : Nat → Int
  | 0 => s
  | k + 1 => (siI i s j k + nmC S T j k i * (upT S T j * dnT S T k % 55441)) % 55441
def siO (i : Nat) : Nat → Int
  | 0 => 0
  | j + 1 => siI S T i (siO i j) j T.length
/-- The program's terms. -/
def wtT (j k : Nat) : Int := atI (row S 0) j * atI (row S 0) k % 55441 * qt (pwz (atI T j) 2) (pwz (atI T k) 2) % 55441
def tmT (i j k : Nat) : Int := nmC S T j k i * wtT S T j k % 55441
def rwT (i j : Nat) : Int := sm (tmT S T i j) T.length
end
theorem num_siI {S : List (List Int)} {T : List Int} {i j : Nat} {s : Int} (h : num s) : ∀ k, num (siI S T i s j k)
  | 0 => h
  | _ + 1 => num_mod _
theorem num_siO (S : List (List Int)) (T : List Int) (i : Nat) : ∀ j, num (siO S T i j)
  | 0 => ⟨Int.le_refl _, by show (0 : Int) < 55441; decide⟩
  | j + 1 => num_siI (num_siO S T i j) _
theorem pwz2 (a : Int) : pwz a 2 = a * a % 55441 := by
  unfold pwz pw
  rw [if_neg (by decide)]
  show a ^ 2 % 55441 = _
  rw [Int.pow_succ, Int.pow_succ, Int.pow_zero, Int.one_mul]
theorem tm_MM (S : List (List Int)) (T : List Int) (i j k : Nat) : MM (nmC S T j k i * (upT S T j * dnT S T k % 55441)) (tmT S T i j k) := by
  unfold tmT wtT upT dnT qt sqT
  rw [pwz2, pwz2]
  generalize nmC S T j k i = n
  generalize atI (row S 0) j = a
  generalize atI (row S 0) k = b
  generalize atI T j * atI T j % 55441 = c
  generalize pw (atI T k * atI T k % 55441) 55439 = d
  have h1 : MM (n * (a * c % 55441 * (b * d % 55441) % 55441)) (n * (a * c * (b * d))) := MM.mul MM.rfl ((MM.mod _).trans (MM.mul (MM.mod _) (MM.mod _)))
  have h2 : MM (n * (a * b % 55441 * (c * d % 55441) % 55441) % 55441) (n * (a * b * (c * d))) := (MM.mod _).trans (MM.mul MM.rfl ((MM.mod _).trans (MM.mul (MM.mod _) (MM.mod _))))
  refine h1.trans (MM.trans ?_ h2.symm)
  have : a * c * (b * d) = a * b * (c * d) := by
    rw [Int.mul_assoc a c (b * d), Int.mul_assoc a b (c * d), Int.mul_left_comm c b d]
  rw [this]; exact MM.rfl
theorem siI_MM {S : List (List Int)} {T : List Int} {i j : Nat} {s s' : Int} (h : MM s s') : ∀ k, MM (siI S T i s j k) (s' + sm (tmT S T i j) k)
  | 0 => by simpa [siI, sm] using h
  | k + 1 => by
    refine (MM.mod _).trans ?_
    simp only [sm]
    rw [← Int.add_assoc]
    exact MM.add (siI_MM h k) (tm_MM S T i j k)
theorem siO_MM (S : List (List Int)) (T : List Int) (i : Nat) : ∀ j, MM (siO S T i j) (sm (rwT S T i) j)
  | 0 => MM.rfl
  | j + 1 => siI_MM (siO_MM S T i j) T.length
theorem num_tm (S : List (List Int)) (T : List Int) (i j k : Nat) : 0 ≤ tmT S T i j k ∧ tmT S T i j k ≤ 55440 := by
  have := num_mod (nmC S T j k i * wtT S T j k)
  unfold num at this; unfold tmT; omega
theorem bnd_rw (S : List (List Int)) (T : List Int) (h : T.length ≤ 16) (i j : Nat) : 0 ≤ rwT S T i j ∧ rwT S T i j ≤ 887040 := by
  have := sm_bnd (f := tmT S T i j) (B := 55440) (num_tm S T i j) T.length
  unfold rwT; omega
def sinV (S : List (List Int)) (T : List Int) (i : Nat) : Int := siO S T i T.length * pw (whl S T.length) 55439 % 55441
theorem sin_eq (S : List (List Int)) (T : List Int) (i : Nat) : qt (sm (rwT S T i) T.length % 55441) (whl S T.length) = sinV S T i := by
  unfold qt sinV
  exact MM.mul ((MM.mod _).trans (siO_MM S T i T.length).symm) MM.rfl

section
variable {a b : AV} {S : List (List Int)} {T : List Int}
end
end Go.Proofs.YtbopenehooiekaaGreat
