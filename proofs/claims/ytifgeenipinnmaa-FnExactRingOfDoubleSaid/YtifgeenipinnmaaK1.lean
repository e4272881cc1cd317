/- Powers: impl.power and spec.l01Pow. -/
import Derived.Test.YtifgeenipinnmaaVm22
import Derived.Test.YtifgeenipinnmaaProg
import Derived.Test.YtifgeenipinnmaaChecked
set_option linter.all false
namespace Go.Proofs.Ytifgeenipinnmaa
open Go.RowKit
noncomputable abbrev ti0 : Nat → Option TI := tiG Try.prog
theorem ti2 : ti0 2 = some ⟨1, false, [Value.int .i64 0], none, [], some .i64, false, false⟩ := by kernel_rfl

theorem sq_pow (a : Int) : ∀ m : Nat, (a * a % 55441) ^ m % 55441 = (a * a) ^ m % 55441 := by
  intro m; induction m with
  | zero => simp
  | succ m ih => rw [Int.pow_succ, Int.pow_succ, Int.mul_emod, ih, Int.emod_emod_of_dvd _ (by decide : (55441:Int) ∣ 55441), ← Int.mul_emod]
theorem sq_two (a : Int) (m : Nat) : (a * a) ^ m = a ^ (2 * m) := by
  rw [Int.pow_mul, show a ^ 2 = a * a by rw [Int.pow_succ, Int.pow_succ]; simp]
theorem pow_step (p a : Int) (m : Nat) : (p * a % 55441) * (a * a % 55441) ^ m % 55441 = p * a ^ (2 * m + 1) % 55441 := by
  rw [Int.mul_emod, Int.emod_emod_of_dvd _ (by decide : (55441:Int) ∣ 55441), sq_pow, ← Int.mul_emod, Int.mul_assoc, sq_two, Int.pow_succ, Int.mul_comm a]
theorem pow_step' (p a : Int) (m : Nat) : p * (a * a % 55441) ^ m % 55441 = p * a ^ (2 * m) % 55441 := by
  rw [Int.mul_emod, sq_pow, ← Int.mul_emod, sq_two]

theorem bnd {a b : Int} (h1 : 0 ≤ a) (h2 : a < 55441) (h3 : 0 ≤ b) (h4 : b < 55441) : 0 ≤ a * b ∧ a * b ≤ 55440 * 55440 := by
  refine ⟨Int.mul_nonneg h1 h3, ?_⟩
  exact Int.mul_le_mul (by omega) (by omega) h3 (by omega)

noncomputable def B77 : Code := cAt [1,1,0,0,0] (bodyOf Try.f77)
noncomputable def P77a : Code := cAt [0] (bodyOf Try.f77)
noncomputable def P77b : Code := cAt [1,0] (bodyOf Try.f77)
noncomputable def P77c : Code := cAt [1,1,1] (bodyOf Try.f77)
theorem body77 : Try.f77.body = some (.seq P77a (.seq P77b (.seq (.block 0 (.loop B77)) P77c))) := by rfl

variable {E : EC} {l : List AV} {hp : List (Nat × Nat × AV)} {gn : List (Nat × Nat)}

theorem r77_out {k : Int} (s1 : slAt l 1 = i64 k) (hc : ltI 0 k = false) : ∃ l', evC E ti0 B77 ⟨l, hp, gn⟩ = some (.exit 0, ⟨l', hp, gn⟩) ∧ slAt l' 5 = slAt l 5 := by
  generalize hE : evC E ti0 B77 ⟨l, hp, gn⟩ = X
  simp only [B77, Try.f77, bodyOf, cAt, Option.getD, evC, evOps, inF, zbl, opE, opK, kMove, kBin, zcn, zco, kInt, HS.st, St.ev, zcs, HS.eff, HS.put, dlH, wrOH, alH, ti2, hc, slAt_slPut, Nat.reduceEqDiff, reduceIte, s1] at hE
  subst hE
  exact ⟨_, rfl, by simp only [slAt_slPut, Nat.reduceEqDiff, reduceIte]⟩

theorem r77 {a k p : Int} (s0 : slAt l 0 = i64 a) (s1 : slAt l 1 = i64 k) (s5 : slAt l 5 = i64 p) (h1 : 0 ≤ a) (h2 : a < 55441) (h3 : 0 ≤ p) (h4 : p < 55441) (h5 : 0 < k) (h7 : k < 2^63) :
    ∃ l', evC E ti0 B77 ⟨l, hp, gn⟩ = some (.normal, ⟨l', hp, gn⟩) ∧ slAt l' 0 = i64 (a * a % 55441) ∧ slAt l' 1 = i64 (k / 2) ∧ slAt l' 5 = i64 (if k % 2 = 1 then p * a % 55441 else p) := by
  have hc : ltI 0 k = true := ltI_true h5
  have hq : wrF (k.tdiv 2) = k / 2 := by rw [Int.tdiv_eq_ediv_of_nonneg (by omega)]; exact zfu (by omega) (by omega)
  have ha : wrF (Int.mul a a) = a * a := by have := bnd h1 h2 h1 h2; exact zfu (show _ ≤ a * a by omega) (show a * a ≤ _ by omega)
  have hpa : wrF (Int.mul p a) = p * a := by have := bnd h3 h4 h1 h2; exact zfu (show _ ≤ p * a by omega) (show p * a ≤ _ by omega)
  have hz2 : isZ 2 = false := rfl
  have hzp : isZ 55441 = false := rfl
  have hra : (a * a).tmod 55441 = a * a % 55441 := Int.tmod_eq_emod_of_nonneg (bnd h1 h2 h1 h2).1
  have hrp : (p * a).tmod 55441 = p * a % 55441 := Int.tmod_eq_emod_of_nonneg (bnd h3 h4 h1 h2).1
  have hrk : k.tmod 2 = k % 2 := Int.tmod_eq_emod_of_nonneg (by omega)
  generalize hE : evC E ti0 B77 ⟨l, hp, gn⟩ = X
  by_cases hb : k % 2 = 1
  · have he : eqI (k % 2) 1 = true := eqI_true hb
    simp only [B77, Try.f77, bodyOf, cAt, Option.getD, evC, evOps, inF, zbl, opE, opK, kMove, kBin, zcn, zco, kInt, HS.st, St.ev, zcs, HS.eff, HS.put, dlH, wrOH, alH, ti2, hc, hz2, hzp, slAt_slPut, Nat.reduceEqDiff, reduceIte, s0, s1, s5, hq, ha, hpa, hra, hrp, hrk, he, cond_false] at hE
    subst hE
    exact ⟨_, rfl, by simp only [slAt_slPut, Nat.reduceEqDiff, reduceIte], by simp only [slAt_slPut, Nat.reduceEqDiff, reduceIte], by simp only [slAt_slPut, Nat.reduceEqDiff, reduceIte, hb]⟩
  · have he : eqI (k % 2) 1 = false := eqI_false hb
    simp only [B77, Try.f77, bodyOf, cAt, Option.getD, evC, evOps, inF, zbl, opE, opK, kMove, kBin, zcn, zco, kInt, HS.st, St.ev, zcs, HS.eff, HS.put, dlH, wrOH, alH, ti2, hc, hz2, hzp, slAt_slPut, Nat.reduceEqDiff, reduceIte, s0, s1, s5, hq, ha, hra, hrk, he, cond_false] at hE
    subst hE
    exact ⟨_, rfl, by simp only [slAt_slPut, Nat.reduceEqDiff, reduceIte], by simp only [slAt_slPut, Nat.reduceEqDiff, reduceIte], by simp only [slAt_slPut, Nat.reduceEqDiff, reduceIte, hb, s5]⟩

theorem l77 : ∀ (n : Nat) (a k p : Int) (l : List AV), slAt l 0 = i64 a → slAt l 1 = i64 k → slAt l 5 = i64 p → 0 ≤ a → a < 55441 → 0 ≤ p → p < 55441 → 0 ≤ k → k < 2 ^ n → k < 2^63 →
   ∃ l', loopE (evC E ti0 B77) (n + 1) ⟨l, hp, gn⟩ = some (.exit 0, ⟨l', hp, gn⟩) ∧ slAt l' 5 = i64 (p * a ^ k.toNat % 55441) := by
  intro n
  induction n with
  | zero =>
    intro a k p l s0 s1 s5 h1 h2 h3 h4 h5 h6 h7
    have hk0 : k = 0 := by simp at h6; omega
    subst hk0
    obtain ⟨l', e1, e2⟩ := r77_out (E := E) (hp := hp) (gn := gn) s1 rfl
    refine ⟨l', by simp only [loopE, e1], ?_⟩
    rw [e2, s5]; simp; rw [Int.emod_eq_of_lt h3 h4]
  | succ n ih =>
    intro a k p l s0 s1 s5 h1 h2 h3 h4 h5 h6 h7
    rcases Int.lt_or_le 0 k with hk | hk
    · obtain ⟨l1, e1, e2, e3, e4⟩ := r77 (E := E) (hp := hp) (gn := gn) s0 s1 s5 h1 h2 h3 h4 hk h7
      have hlt : k / 2 < 2 ^ n := by rw [Int.pow_succ] at h6; omega
      have hp' : 0 ≤ (if k % 2 = 1 then p * a % 55441 else p) ∧ (if k % 2 = 1 then p * a % 55441 else p) < 55441 := by split <;> omega
      obtain ⟨l', f1, f2⟩ := ih _ _ _ l1 e2 e3 e4 (by omega) (by omega) hp'.1 hp'.2 (by omega) hlt (by omega)
      refine ⟨l', by rw [loopE, e1]; exact f1, ?_⟩
      rw [f2]
      by_cases hb : k % 2 = 1
      · rw [if_pos hb, pow_step, show k.toNat = 2 * (k / 2).toNat + 1 by omega]
      · rw [if_neg hb, pow_step', show k.toNat = 2 * (k / 2).toNat by omega]
    · have hk0 : k = 0 := by omega
      subst hk0
      obtain ⟨l', e1, e2⟩ := r77_out (E := E) (hp := hp) (gn := gn) s1 rfl
      refine ⟨l', by rw [loopE, e1], ?_⟩
      rw [e2, s5]; simp; rw [Int.emod_eq_of_lt h3 h4]

theorem f77_run {a k : Int} (h1 : 0 ≤ a) (h2 : a < 55441) (h5 : 0 ≤ k) (h7 : k < 2^63) : bodyE Try.prog ti0 E 77 [i64 a, i64 k] = some (i64 (a ^ k.toNat % 55441)) := by
  obtain ⟨l', e1, e2⟩ := l77 (E := E) (hp := []) (gn := []) 63 a k 1 (slPut (slPut [i64 a, i64 k] 4 (i64 0)) 5 (i64 1)) rfl rfl rfl h1 h2 (by omega) (by omega) h5 h7 h7
  have e1 := loopE_fuel e1 (by decide)
  refine bodyE_run (h := ⟨slPut (slPut l' 21 (i64 (1 * a ^ k.toNat % 55441))) 4 (i64 (1 * a ^ k.toNat % 55441)), [], []⟩) (e := .ret) Try.func77 body77 (by kernel_rfl) ?_ (.inr rfl) ?_ rfl
  · simp only [P77a, P77b, P77c, cAt, bodyOf, Option.getD, evC, evOps, inF, zbl, opE, opK, kMove, HS.st, St.ev, zcs, HS.eff, HS.put, dlH, wrOH, alH, e1, slAt_slPut, Nat.reduceEqDiff, reduceIte, e2, eq_self, Try.f77]
  · simp only [Try.f77, retR, resL, HS.st, slAt_slPut, Nat.reduceEqDiff, reduceIte, outT, zes, zez, oneV, Int.one_mul]

noncomputable def B74 : Code := cAt [1,1,0,0,0] (bodyOf Try.f74)
noncomputable def P74a : Code := cAt [0] (bodyOf Try.f74)
noncomputable def P74b : Code := cAt [1,0] (bodyOf Try.f74)
noncomputable def P74c : Code := cAt [1,1,1] (bodyOf Try.f74)
theorem body74 : Try.f74.body = some (.seq P74a (.seq P74b (.seq (.block 0 (.loop B74)) P74c))) := by rfl


theorem r74_out {k : Int} (s1 : slAt l 1 = i64 k) (hc : ltI 0 k = false) : ∃ l', evC E ti0 B74 ⟨l, hp, gn⟩ = some (.exit 0, ⟨l', hp, gn⟩) ∧ slAt l' 5 = slAt l 5 := by
  generalize hE : evC E ti0 B74 ⟨l, hp, gn⟩ = X
  simp only [B74, Try.f74, bodyOf, cAt, Option.getD, evC, evOps, inF, zbl, opE, opK, kMove, kBin, zcn, zco, kInt, HS.st, St.ev, zcs, HS.eff, HS.put, dlH, wrOH, alH, ti2, hc, slAt_slPut, Nat.reduceEqDiff, reduceIte, s1] at hE
  subst hE
  exact ⟨_, rfl, by simp only [slAt_slPut, Nat.reduceEqDiff, reduceIte]⟩

theorem r74 {a k p : Int} (s0 : slAt l 0 = i64 a) (s1 : slAt l 1 = i64 k) (s5 : slAt l 5 = i64 p) (h1 : 0 ≤ a) (h2 : a < 55441) (h3 : 0 ≤ p) (h4 : p < 55441) (h5 : 0 < k) (h7 : k < 2^63) :
    ∃ l', evC E ti0 B74 ⟨l, hp, gn⟩ = some (.normal, ⟨l', hp, gn⟩) ∧ slAt l' 0 = i64 (a * a % 55441) ∧ slAt l' 1 = i64 (k / 2) ∧ slAt l' 5 = i64 (if k % 2 = 1 then p * a % 55441 else p) := by
  have hc : ltI 0 k = true := ltI_true h5
  have hq : wrF (k.tdiv 2) = k / 2 := by rw [Int.tdiv_eq_ediv_of_nonneg (by omega)]; exact zfu (by omega) (by omega)
  have ha : wrF (Int.mul a a) = a * a := by have := bnd h1 h2 h1 h2; exact zfu (show _ ≤ a * a by omega) (show a * a ≤ _ by omega)
  have hpa : wrF (Int.mul p a) = p * a := by have := bnd h3 h4 h1 h2; exact zfu (show _ ≤ p * a by omega) (show p * a ≤ _ by omega)
  have hz2 : isZ 2 = false := rfl
  have hzp : isZ 55441 = false := rfl
  have hra : (a * a).tmod 55441 = a * a % 55441 := Int.tmod_eq_emod_of_nonneg (bnd h1 h2 h1 h2).1
  have hrp : (p * a).tmod 55441 = p * a % 55441 := Int.tmod_eq_emod_of_nonneg (bnd h3 h4 h1 h2).1
  have hrk : k.tmod 2 = k % 2 := Int.tmod_eq_emod_of_nonneg (by omega)
  generalize hE : evC E ti0 B74 ⟨l, hp, gn⟩ = X
  by_cases hb : k % 2 = 1
  · have he : eqI (k % 2) 1 = true := eqI_true hb
    simp only [B74, Try.f74, bodyOf, cAt, Option.getD, evC, evOps, inF, zbl, opE, opK, kMove, kBin, zcn, zco, kInt, HS.st, St.ev, zcs, HS.eff, HS.put, dlH, wrOH, alH, ti2, hc, hz2, hzp, slAt_slPut, Nat.reduceEqDiff, reduceIte, s0, s1, s5, hq, ha, hpa, hra, hrp, hrk, he, cond_false] at hE
    subst hE
    exact ⟨_, rfl, by simp only [slAt_slPut, Nat.reduceEqDiff, reduceIte], by simp only [slAt_slPut, Nat.reduceEqDiff, reduceIte], by simp only [slAt_slPut, Nat.reduceEqDiff, reduceIte, hb]⟩
  · have he : eqI (k % 2) 1 = false := eqI_false hb
    simp only [B74, Try.f74, bodyOf, cAt, Option.getD, evC, evOps, inF, zbl, opE, opK, kMove, kBin, zcn, zco, kInt, HS.st, St.ev, zcs, HS.eff, HS.put, dlH, wrOH, alH, ti2, hc, hz2, hzp, slAt_slPut, Nat.reduceEqDiff, reduceIte, s0, s1, s5, hq, ha, hra, hrk, he, cond_false] at hE
    subst hE
    exact ⟨_, rfl, by simp only [slAt_slPut, Nat.reduceEqDiff, reduceIte], by simp only [slAt_slPut, Nat.reduceEqDiff, reduceIte], by simp only [slAt_slPut, Nat.reduceEqDiff, reduceIte, hb, s5]⟩

theorem l74 : ∀ (n : Nat) (a k p : Int) (l : List AV), slAt l 0 = i64 a → slAt l 1 = i64 k → slAt l 5 = i64 p → 0 ≤ a → a < 55441 → 0 ≤ p → p < 55441 → 0 ≤ k → k < 2 ^ n → k < 2^63 →
   ∃ l', loopE (evC E ti0 B74) (n + 1) ⟨l, hp, gn⟩ = some (.exit 0, ⟨l', hp, gn⟩) ∧ slAt l' 5 = i64 (p * a ^ k.toNat % 55441) := by
  intro n
  induction n with
  | zero =>
    intro a k p l s0 s1 s5 h1 h2 h3 h4 h5 h6 h7
    have hk0 : k = 0 := by simp at h6; omega
    subst hk0
    obtain ⟨l', e1, e2⟩ := r74_out (E := E) (hp := hp) (gn := gn) s1 rfl
    refine ⟨l', by simp only [loopE, e1], ?_⟩
    rw [e2, s5]; simp; rw [Int.emod_eq_of_lt h3 h4]
  | succ n ih =>
    intro a k p l s0 s1 s5 h1 h2 h3 h4 h5 h6 h7
    rcases Int.lt_or_le 0 k with hk | hk
    · obtain ⟨l1, e1, e2, e3, e4⟩ := r74 (E := E) (hp := hp) (gn := gn) s0 s1 s5 h1 h2 h3 h4 hk h7
      have hlt : k / 2 < 2 ^ n := by rw [Int.pow_succ] at h6; omega
      have hp' : 0 ≤ (if k % 2 = 1 then p * a % 55441 else p) ∧ (if k % 2 = 1 then p * a % 55441 else p) < 55441 := by split <;> omega
      obtain ⟨l', f1, f2⟩ := ih _ _ _ l1 e2 e3 e4 (by omega) (by omega) hp'.1 hp'.2 (by omega) hlt (by omega)
      refine ⟨l', by rw [loopE, e1]; exact f1, ?_⟩
      rw [f2]
      by_cases hb : k % 2 = 1
      · rw [if_pos hb, pow_step, show k.toNat = 2 * (k / 2).toNat + 1 by omega]
      · rw [if_neg hb, pow_step', show k.toNat = 2 * (k / 2).toNat by omega]
    · have hk0 : k = 0 := by omega
      subst hk0
      obtain ⟨l', e1, e2⟩ := r74_out (E := E) (hp := hp) (gn := gn) s1 rfl
      refine ⟨l', by rw [loopE, e1], ?_⟩
      rw [e2, s5]; simp; rw [Int.emod_eq_of_lt h3 h4]

theorem f74_run {a k : Int} (h1 : 0 ≤ a) (h2 : a < 55441) (h5 : 0 ≤ k) (h7 : k < 2^63) : bodyE Try.prog ti0 E 74 [i64 a, i64 k] = some (i64 (a ^ k.toNat % 55441)) := by
  obtain ⟨l', e1, e2⟩ := l74 (E := E) (hp := []) (gn := []) 63 a k 1 (slPut (slPut [i64 a, i64 k] 4 (i64 0)) 5 (i64 1)) rfl rfl rfl h1 h2 (by omega) (by omega) h5 h7 h7
  have e1 := loopE_fuel e1 (by decide)
  refine bodyE_run (h := ⟨slPut (slPut l' 21 (i64 (1 * a ^ k.toNat % 55441))) 4 (i64 (1 * a ^ k.toNat % 55441)), [], []⟩) (e := .ret) Try.func74 body74 (by kernel_rfl) ?_ (.inr rfl) ?_ rfl
  · simp only [P74a, P74b, P74c, cAt, bodyOf, Option.getD, evC, evOps, inF, zbl, opE, opK, kMove, HS.st, St.ev, zcs, HS.eff, HS.put, dlH, wrOH, alH, e1, slAt_slPut, Nat.reduceEqDiff, reduceIte, e2, eq_self, Try.f74]
  · simp only [Try.f74, retR, resL, HS.st, slAt_slPut, Nat.reduceEqDiff, reduceIte, outT, zes, zez, oneV, Int.one_mul]

/-- The powers, as the kernel goes fast. -/
def pwK (a k : Int) : Option AV := match a, k with
  | .ofNat m, .ofNat n => cond (Nat.blt m 55441 && Nat.blt n 9223372036854775808) (some (i64 (.ofNat (m ^ n % 55441)))) none
  | _, _ => none

theorem pwK_spec {a k : Int} {r : AV} (h : pwK a k = some r) : 0 ≤ a ∧ a < 55441 ∧ 0 ≤ k ∧ k < 2^63 ∧ r = i64 (a ^ k.toNat % 55441) := by
  unfold pwK at h
  split at h
  · rename_i m n
    cases hc : (Nat.blt m 55441 && Nat.blt n 9223372036854775808) with
    | false => rw [hc] at h; cases h
    | true =>
      rw [hc] at h
      simp only [cond_true, Option.some.injEq] at h
      simp only [Bool.and_eq_true, Nat.blt_eq] at hc
      simp only [Int.ofNat_eq_natCast]
      refine ⟨by omega, by omega, by omega, by omega, ?_⟩
      rw [← h]
      simp
  · cases h

theorem mixed0 : Try.prog.follows .mixedOrders = true := by kernel_rfl

theorem of_body {f : Nat} {args : List AV} {r : AV} (h : bodyE Try.prog ti0 E0 f args = some r) : CallOK Try.prog f args r := of_bodyG (tiG_ok _) mixed0 h

/-- What is known of the powers. -/
def KP (f : Nat) (args : List AV) : Option AV := cond (Nat.beq f 77 || Nat.beq f 74) (match args with
  | [.sc (.int .i64 a), .sc (.int .i64 k)] => pwK a k
  | _ => none) none

theorem KP_ok : ∀ f args r, KP f args = some r → CallOK Try.prog f args r := by
  intro f args r h
  unfold KP at h
  cases hc : (Nat.beq f 77 || Nat.beq f 74) with
  | false => rw [hc] at h; cases h
  | true =>
    rw [hc] at h
    simp only [cond_true] at h
    split at h
    · rename_i a k
      obtain ⟨h1, h2, h3, h4, rfl⟩ := pwK_spec h
      simp only [Bool.or_eq_true] at hc
      rcases hc with hc | hc
      · have := beq_iff.1 hc; subst this; exact of_body (f77_run h1 h2 h3 h4)
      · have := beq_iff.1 hc; subst this; exact of_body (f74_run h1 h2 h3 h4)
    · cases h

end Go.Proofs.Ytifgeenipinnmaa
