/- Texts joined: K1 K2 K3 K3b. -/
import Derived.Test.YtgcnmlecihegcaaGreatProg
import Derived.Test.YtgcnmlecihegcaaGreatChecked
import Derived.Test.YtgcnmlecihegcaaGreatMc
set_option linter.all false
/- Powers: impl.power and spec.l01Pow. -/
namespace Go.Proofs.YtgcnmlecihegcaaGreat
open Go.RowKit
noncomputable abbrev ti0 : Nat → Option TI := tiG Tryz.prog
theorem ti2 : ti0 2 = some ⟨1, false, [Value.int .i64 0], none, [], some .i64, false, false⟩ := by kernel_rfl
theorem sq_pow (a : Int) : ∀ m : Nat, (a * a % 55441) ^ m % 55441 = (a * a) ^ m % 55441 := by
 intro m; induction m with
 | zero => simp
 | succ m ih => rw [Int.pow_succ, Int.pow_succ, Int.mul_emod, ih, Int.emod_emod_of_dvd _ (by decide : (55441:Int) ∣ 55441), ← Int.mul_emod]
theorem sq_two (a : Int) (m : Nat) : (a * a) ^ m = a ^ (2 * m) := by
 rw [Int.pow_mul, show a ^ 2 = a * a by rw [Int.pow_succ, Int.pow_succ]; simp]
theorem pow_step (p a : Int) (m : Nat) : (p * a % 55441) * (a * a % 55441) ^ m % 55441 = p * a ^ (2 * m + 1) % 55441 := by
 rw [Int.mul_emod, Int.emod_emod_of_dvd _ (by decide : (55441:Int) ∣ 55441), sq_pow, ← Int.mul_emod, Int.mul_assoc, sq_two, Int.pow_succ, Int.mul_comm a]
theorem pow_step' (p a : Int) (m : Nat) : p * (a * a % 55441) ^ m % 55441 = p * a ^ (2 * m) % 55441 := by
 rw [Int.mul_emod, sq_pow, ← Int.mul_emod, sq_two]
theorem bnd {a b : Int} (h1 : 0 ≤ a) (h2 : a < 55441) (h3 : 0 ≤ b) (h4 : b < 55441) : 0 ≤ a * b ∧ a * b ≤ 55440 * 55440 := by
 refine ⟨Int.mul_nonneg h1 h3, ?_⟩
 exact Int.mul_le_mul (by omega) (by omega) h3 (by omega)
noncomputable def B77 : Code := cAt [1,1,0,0,0] (bodyOf Tryz.f88)
noncomputable def P77a : Code := cAt [0] (bodyOf Tryz.f88)
noncomputable def P77b : Code := cAt [1,0] (bodyOf Tryz.f88)
noncomputable def P77c : Code := cAt [1,1,1] (bodyOf Tryz.f88)
theorem body77 : Tryz.f88.body = some (.seq P77a (.seq P77b (.seq (.block 0 (.loop B77)) P77c))) := by rfl
variable {E : EC} {l : List AV} {hp : List (Nat × Nat × AV)} {gn : List (Nat × Nat)}
theorem r77_out {k : Int} (s1 : slAt l 1 = i64 k) (hc : ltI 0 k = false) : ∃ l', evC E ti0 B77 ⟨l, hp, gn⟩ = some (.exit 0, ⟨l', hp, gn⟩) ∧ slAt l' 5 = slAt l 5 := by
 generalize hE : evC E ti0 B77 ⟨l, hp, gn⟩ = X
 simp only [B77, Tryz.f88, bodyOf, cAt, Option.getD, evC, evOps, inF, zbl, opE, opK, kMove, kBin, zcn, zco, kInt, HS.st, St.ev, zcs, HS.eff, HS.put, dlH, wrOH, alH, ti2, hc, slAt_slPut, Nat.reduceEqDiff, reduceIte, s1] at hE
 subst hE
 exact ⟨_, rfl, by simp only [slAt_slPut, Nat.reduceEqDiff, reduceIte]⟩
theorem r77 {a k p : Int} (s0 : slAt l 0 = i64 a) (s1 : slAt l 1 = i64 k) (s5 : slAt l 5 = i64 p) (h1 : 0 ≤ a) (h2 : a < 55441) (h3 : 0 ≤ p) (h4 : p < 55441) (h5 : 0 < k) (h7 : k < 2^63) :
   ∃ l', evC E ti0 B77 ⟨l, hp, gn⟩ = some (.normal, ⟨l', hp, gn⟩) ∧ slAt l' 0 = i64 (a * a % 55441) ∧ slAt l' 1 = i64 (k / 2) ∧ slAt l' 5 = i64 (if k % 2 = 1 then p * a % 55441 else p) := by
 have hc : ltI 0 k = true := ltI_true h5
 have hq : wrF (k.tdiv 2) = k / 2 := by rw [Int.tdiv_eq_ediv_of_nonneg (by omega)]; exact zfu (by omega) (by omega)
 have ha : wrF (Int.mul a a) = a * a := by have := bnd h1 h2 h1 h2; exact zfu (show _ ≤ a * a by omega) (show a * a ≤ _ by omega)
 have hpa : wrF (Int.mul p a) = p * a := by have := bnd h3 h4 h1 h2; exact zfu (show _ ≤ p * a by omega) (show p * a ≤ _ by omega)
 have hz2 : isZ 2 = false := rfl
 have hzp : isZ 55441 = false := rfl
 have hra : (a * a).tmod 55441 = a * a % 55441 := Int.tmod_eq_emod_of_nonneg (bnd h1 h2 h1 h2).1
 have hrp : (p * a).tmod 55441 = p * a % 55441 := Int.tmod_eq_emod_of_nonneg (bnd h3 h4 h1 h2).1
 have hrk : k.tmod 2 = k % 2 := Int.tmod_eq_emod_of_nonneg (by omega)
 generalize hE : evC E ti0 B77 ⟨l, hp, gn⟩ = X
 by_cases hb : k % 2 = 1
 · have he : eqI (k % 2) 1 = true := eqI_true hb
   simp only [B77, Tryz.f88, bodyOf, cAt, Option.getD, evC, evOps, inF, zbl, opE, opK, kMove, kBin, zcn, zco, kInt, HS.st, St.ev, zcs, HS.eff, HS.put, dlH, wrOH, alH, ti2, hc, hz2, hzp, slAt_slPut, Nat.reduceEqDiff, reduceIte, s0, s1, s5, hq, ha, hpa, hra, hrp, hrk, he, cond_false] at hE
   subst hE
   exact ⟨_, rfl, by simp only [slAt_slPut, Nat.reduceEqDiff, reduceIte], by simp only [slAt_slPut, Nat.reduceEqDiff, reduceIte], by simp only [slAt_slPut, Nat.reduceEqDiff, reduceIte, hb]⟩
 · have he : eqI (k % 2) 1 = false := eqI_false hb
   simp only [B77, Tryz.f88, bodyOf, cAt, Option.getD, evC, evOps, inF, zbl, opE, opK, kMove, kBin, zcn, zco, kInt, HS.st, St.ev, zcs, HS.eff, HS.put, dlH, wrOH, alH, ti2, hc, hz2, hzp, slAt_slPut, Nat.reduceEqDiff, reduceIte, s0, s1, s5, hq, ha, hra, hrk, he, cond_false] at hE
   subst hE
   exact ⟨_, rfl, by simp only [slAt_slPut, Nat.reduceEqDiff, reduceIte], by simp only [slAt_slPut, Nat.reduceEqDiff, reduceIte], by simp only [slAt_slPut, Nat.reduceEqDiff, reduceIte, hb, s5]⟩
theorem l77 : ∀ (n : Nat) (a k p : Int) (l : List AV), slAt l 0 = i64 a → slAt l 1 = i64 k → slAt l 5 = i64 p → 0 ≤ a → a < 55441 → 0 ≤ p → p < 55441 → 0 ≤ k → k < 2 ^ n → k < 2^63 →
  ∃ l', loopE (evC E ti0 B77) (n + 1) ⟨l, hp, gn⟩ = some (.exit 0, ⟨l', hp, gn⟩) ∧ slAt l' 5 = i64 (p * a ^ k.toNat % 55441) := by
 intro n
 induction n with
 | zero =>
   intro a k p l s0 s1 s5 h1 h2 h3 h4 h5 h6 h7
   have hk0 : k = 0 := by simp at h6; omega
   subst hk0
   obtain ⟨l', e1, e2⟩ := r77_out (E := E) (hp := hp) (gn := gn) s1 rfl
   refine ⟨l', by simp only [loopE, e1], ?_⟩
   rw [e2, s5]; simp; rw [Int.emod_eq_of_lt h3 h4]
 | succ n ih =>
   intro a k p l s0 s1 s5 h1 h2 h3 h4 h5 h6 h7
   rcases Int.lt_or_le 0 k with hk | hk
   · obtain ⟨l1, e1, e2, e3, e4⟩ := r77 (E := E) (hp := hp) (gn := gn) s0 s1 s5 h1 h2 h3 h4 hk h7
     have hlt : k / 2 < 2 ^ n := by rw [Int.pow_succ] at h6; omega
     have hp' : 0 ≤ (if k % 2 = 1 then p * a % 55441 else p) ∧ (if k % 2 = 1 then p * a % 55441 else p) < 55441 := by split <;> omega
     obtain ⟨l', f1, f2⟩ := ih _ _ _ l1 e2 e3 e4 (by omega) (by omega) hp'.1 hp'.2 (by omega) hlt (by omega)
     refine ⟨l', by rw [loopE, e1]; exact f1, ?_⟩
     rw [f2]
     by_cases hb : k % 2 = 1
     · rw [if_pos hb, pow_step, show k.toNat = 2 * (k / 2).toNat + 1 by omega]
     · rw [if_neg hb, pow_step', show k.toNat = 2 * (k / 2).toNat by omega]
   · have hk0 : k = 0 := by omega
     subst hk0
     obtain ⟨l', e1, e2⟩ := r77_out (E := E) (hp := hp) (gn := gn) s1 rfl
     refine ⟨l', by rw [loopE, e1], ?_⟩
     rw [e2, s5]; simp; rw [Int.emod_eq_of_lt h3 h4]
theorem f77_run {a k : Int} (h1 : 0 ≤ a) (h2 : a < 55441) (h5 : 0 ≤ k) (h7 : k < 2^63) : bodyE Tryz.prog ti0 E 88 [i64 a, i64 k] = some (i64 (a ^ k.toNat % 55441)) := by
 obtain ⟨l', e1, e2⟩ := l77 (E := E) (hp := []) (gn := []) 63 a k 1 (slPut (slPut [i64 a, i64 k] 4 (i64 0)) 5 (i64 1)) rfl rfl rfl h1 h2 (by omega) (by omega) h5 h7 h7
 have e1 := loopE_fuel e1 (by decide)
 refine bodyE_run (h := ⟨slPut (slPut l' 21 (i64 (1 * a ^ k.toNat % 55441))) 4 (i64 (1 * a ^ k.toNat % 55441)), [], []⟩) (e := .ret) Tryz.func88 body77 (by kernel_rfl) ?_ (.inr rfl) ?_ rfl
 · simp only [P77a, P77b, P77c, cAt, bodyOf, Option.getD, evC, evOps, inF, zbl, opE, opK, kMove, HS.st, St.ev, zcs, HS.eff, HS.put, dlH, wrOH, alH, e1, slAt_slPut, Nat.reduceEqDiff, reduceIte, e2, eq_self, Tryz.f88]
 · simp only [Tryz.f88, retR, resL, HS.st, slAt_slPut, Nat.reduceEqDiff, reduceIte, outT, zhk, zes, zez, oneV, Int.one_mul]
noncomputable def B74 : Code := cAt [1,1,0,0,0] (bodyOf Tryz.f91)
noncomputable def P74a : Code := cAt [0] (bodyOf Tryz.f91)
noncomputable def P74b : Code := cAt [1,0] (bodyOf Tryz.f91)
noncomputable def P74c : Code := cAt [1,1,1] (bodyOf Tryz.f91)
theorem body74 : Tryz.f91.body = some (.seq P74a (.seq P74b (.seq (.block 0 (.loop B74)) P74c))) := by rfl
theorem r74_out {k : Int} (s1 : slAt l 1 = i64 k) (hc : ltI 0 k = false) : ∃ l', evC E ti0 B74 ⟨l, hp, gn⟩ = some (.exit 0, ⟨l', hp, gn⟩) ∧ slAt l' 5 = slAt l 5 := by
 generalize hE : evC E ti0 B74 ⟨l, hp, gn⟩ = X
 simp only [B74, Tryz.f91, bodyOf, cAt, Option.getD, evC, evOps, inF, zbl, opE, opK, kMove, kBin, zcn, zco, kInt, HS.st, St.ev, zcs, HS.eff, HS.put, dlH, wrOH, alH, ti2, hc, slAt_slPut, Nat.reduceEqDiff, reduceIte, s1] at hE
 subst hE
 exact ⟨_, rfl, by simp only [slAt_slPut, Nat.reduceEqDiff, reduceIte]⟩
theorem r74 {a k p : Int} (s0 : slAt l 0 = i64 a) (s1 : slAt l 1 = i64 k) (s5 : slAt l 5 = i64 p) (h1 : 0 ≤ a) (h2 : a < 55441) (h3 : 0 ≤ p) (h4 : p < 55441) (h5 : 0 < k) (h7 : k < 2^63) :
   ∃ l', evC E ti0 B74 ⟨l, hp, gn⟩ = some (.normal, ⟨l', hp, gn⟩) ∧ slAt l' 0 = i64 (a * a % 55441) ∧ slAt l' 1 = i64 (k / 2) ∧ slAt l' 5 = i64 (if k % 2 = 1 then p * a % 55441 else p) := by
 have hc : ltI 0 k = true := ltI_true h5
 have hq : wrF (k.tdiv 2) = k / 2 := by rw [Int.tdiv_eq_ediv_of_nonneg (by omega)]; exact zfu (by omega) (by omega)
 have ha : wrF (Int.mul a a) = a * a := by have := bnd h1 h2 h1 h2; exact zfu (show _ ≤ a * a by omega) (show a * a ≤ _ by omega)
 have hpa : wrF (Int.mul p a) = p * a := by have := bnd h3 h4 h1 h2; exact zfu (show _ ≤ p * a by omega) (show p * a ≤ _ by omega)
 have hz2 : isZ 2 = false := rfl
 have hzp : isZ 55441 = false := rfl
 have hra : (a * a).tmod 55441 = a * a % 55441 := Int.tmod_eq_emod_of_nonneg (bnd h1 h2 h1 h2).1
 have hrp : (p * a).tmod 55441 = p * a % 55441 := Int.tmod_eq_emod_of_nonneg (bnd h3 h4 h1 h2).1
 have hrk : k.tmod 2 = k % 2 := Int.tmod_eq_emod_of_nonneg (by omega)
 generalize hE : evC E ti0 B74 ⟨l, hp, gn⟩ = X
 by_cases hb : k % 2 = 1
 · have he : eqI (k % 2) 1 = true := eqI_true hb
   simp only [B74, Tryz.f91, bodyOf, cAt, Option.getD, evC, evOps, inF, zbl, opE, opK, kMove, kBin, zcn, zco, kInt, HS.st, St.ev, zcs, HS.eff, HS.put, dlH, wrOH, alH, ti2, hc, hz2, hzp, slAt_slPut, Nat.reduceEqDiff, reduceIte, s0, s1, s5, hq, ha, hpa, hra, hrp, hrk, he, cond_false] at hE
   subst hE
   exact ⟨_, rfl, by simp only [slAt_slPut, Nat.reduceEqDiff, reduceIte], by simp only [slAt_slPut, Nat.reduceEqDiff, reduceIte], by simp only [slAt_slPut, Nat.reduceEqDiff, reduceIte, hb]⟩
 · have he : eqI (k % 2) 1 = false := eqI_false hb
   simp only [B74, Tryz.f91, bodyOf, cAt, Option.getD, evC, evOps, inF, zbl, opE, opK, kMove, kBin, zcn, zco, kInt, HS.st, St.ev, zcs, HS.eff, HS.put, dlH, wrOH, alH, ti2, hc, hz2, hzp, slAt_slPut, Nat.reduceEqDiff, reduceIte, s0, s1, s5, hq, ha, hra, hrk, he, cond_false] at hE
   subst hE
   exact ⟨_, rfl, by simp only [slAt_slPut, Nat.reduceEqDiff, reduceIte], by simp only [slAt_slPut, Nat.reduceEqDiff, reduceIte], by simp only [slAt_slPut, Nat.reduceEqDiff, reduceIte, hb, s5]⟩
theorem l74 : ∀ (n : Nat) (a k p : Int) (l : List AV), slAt l 0 = i64 a → slAt l 1 = i64 k → slAt l 5 = i64 p → 0 ≤ a → a < 55441 → 0 ≤ p → p < 55441 → 0 ≤ k → k < 2 ^ n → k < 2^63 →
  ∃ l', loopE (evC E ti0 B74) (n + 1) ⟨l, hp, gn⟩ = some (.exit 0, ⟨l', hp, gn⟩) ∧ slAt l' 5 = i64 (p * a ^ k.toNat % 55441) := by
 intro n
 induction n with
 | zero =>
   intro a k p l s0 s1 s5 h1 h2 h3 h4 h5 h6 h7
   have hk0 : k = 0 := by simp at h6; omega
   subst hk0
   obtain ⟨l', e1, e2⟩ := r74_out (E := E) (hp := hp) (gn := gn) s1 rfl
   refine ⟨l', by simp only [loopE, e1], ?_⟩
   rw [e2, s5]; simp; rw [Int.emod_eq_of_lt h3 h4]
 | succ n ih =>
   intro a k p l s0 s1 s5 h1 h2 h3 h4 h5 h6 h7
   rcases Int.lt_or_le 0 k with hk | hk
   · obtain ⟨l1, e1, e2, e3, e4⟩ := r74 (E := E) (hp := hp) (gn := gn) s0 s1 s5 h1 h2 h3 h4 hk h7
     have hlt : k / 2 < 2 ^ n := by rw [Int.pow_succ] at h6; omega
     have hp' : 0 ≤ (if k % 2 = 1 then p * a % 55441 else p) ∧ (if k % 2 = 1 then p * a % 55441 else p) < 55441 := by split <;> omega
     obtain ⟨l', f1, f2⟩ := ih _ _ _ l1 e2 e3 e4 (by omega) (by omega) hp'.1 hp'.2 (by omega) hlt (by omega)
     refine ⟨l', by rw [loopE, e1]; exact f1, ?_⟩
     rw [f2]
     by_cases hb : k % 2 = 1
     · rw [if_pos hb, pow_step, show k.toNat = 2 * (k / 2).toNat + 1 by omega]
     · rw [if_neg hb, pow_step', show k.toNat = 2 * (k / 2).toNat by omega]
   · have hk0 : k = 0 := by omega
     subst hk0
     obtain ⟨l', e1, e2⟩ := r74_out (E := E) (hp := hp) (gn := gn) s1 rfl
     refine ⟨l', by rw [loopE, e1], ?_⟩
     rw [e2, s5]; simp; rw [Int.emod_eq_of_lt h3 h4]
theorem f74_run {a k : Int} (h1 : 0 ≤ a) (h2 : a < 55441) (h5 : 0 ≤ k) (h7 : k < 2^63) : bodyE Tryz.prog ti0 E 91 [i64 a, i64 k] = some (i64 (a ^ k.toNat % 55441)) := by
 obtain ⟨l', e1, e2⟩ := l74 (E := E) (hp := []) (gn := []) 63 a k 1 (slPut (slPut [i64 a, i64 k] 4 (i64 0)) 5 (i64 1)) rfl rfl rfl h1 h2 (by omega) (by omega) h5 h7 h7
 have e1 := loopE_fuel e1 (by decide)
 refine bodyE_run (h := ⟨slPut (slPut l' 21 (i64 (1 * a ^ k.toNat % 55441))) 4 (i64 (1 * a ^ k.toNat % 55441)), [], []⟩) (e := .ret) Tryz.func91 body74 (by kernel_rfl) ?_ (.inr rfl) ?_ rfl
 · simp only [P74a, P74b, P74c, cAt, bodyOf, Option.getD, evC, evOps, inF, zbl, opE, opK, kMove, HS.st, St.ev, zcs, HS.eff, HS.put, dlH, wrOH, alH, e1, slAt_slPut, Nat.reduceEqDiff, reduceIte, e2, eq_self, Tryz.f91]
 · simp only [Tryz.f91, retR, resL, HS.st, slAt_slPut, Nat.reduceEqDiff, reduceIte, outT, zhk, zes, zez, oneV, Int.one_mul]
def pwK (a k : Int) : Option AV := match a, k with
 | .ofNat m, .ofNat n => cond (Nat.blt m 55441 && Nat.blt n 9223372036854775808) (some (i64 (.ofNat (m ^ n % 55441)))) none
 | _, _ => none
theorem pwK_spec {a k : Int} {r : AV} (h : pwK a k = some r) : 0 ≤ a ∧ a < 55441 ∧ 0 ≤ k ∧ k < 2^63 ∧ r = i64 (a ^ k.toNat % 55441) := by
 unfold pwK at h
 split at h
 · rename_i m n
   cases hc : (Nat.blt m 55441 && Nat.blt n 9223372036854775808) with
   | false => rw [hc] at h; cases h
   | true =>
     rw [hc] at h
     simp only [cond_true, Option.some.injEq] at h
     simp only [Bool.and_eq_true, Nat.blt_eq] at hc
     simp only [Int.ofNat_eq_natCast]
     refine ⟨by omega, by omega, by omega, by omega, ?_⟩
     rw [← h]
     simp
 · cases h
theorem mixed0 : Tryz.prog.follows .mixedOrders = true := by kernel_rfl
theorem of_body {f : Nat} {args : List AV} {r : AV} (h : bodyE Tryz.prog ti0 E0 f args = some r) : CallOK Tryz.prog f args r := of_bodyG (tiG_ok _) mixed0 h
def KP (f : Nat) (args : List AV) : Option AV := cond (Nat.beq f 88 || Nat.beq f 91) (match args with
 | [.sc (.int .i64 a), .sc (.int .i64 k)] => pwK a k
 | _ => none) none
theorem KP_ok : ∀ f args r, KP f args = some r → CallOK Tryz.prog f args r := by
 intro f args r h
 unfold KP at h
 cases hc : (Nat.beq f 88 || Nat.beq f 91) with
 | false => rw [hc] at h; cases h
 | true =>
   rw [hc] at h
   simp only [cond_true] at h
   split at h
   · rename_i a k
     obtain ⟨h1, h2, h3, h4, rfl⟩ := pwK_spec h
     simp only [Bool.or_eq_true] at hc
     rcases hc with hc | hc
     · have := beq_iff.1 hc; subst this; exact of_body (f77_run h1 h2 h3 h4)
     · have := beq_iff.1 hc; subst this; exact of_body (f74_run h1 h2 h3 h4)
   · cases h
end Go.Proofs.YtgcnmlecihegcaaGreat
/- The laws' comparing functions. -/
namespace Go.Proofs.YtgcnmlecihegcaaGreat
open Go.RowKit
noncomputable abbrev XX : WX := ⟨Tryz.prog, ti0, fun f => Nat.beq f 999999 || Nat.beq f 999999 || Nat.beq f 999999 || Nat.beq f 999999 || Nat.beq f 999999 || Nat.beq f 999999 || Nat.beq f 999999 || Nat.beq f 999999 || Nat.beq f 999999 || Nat.beq f 999999 || Nat.beq f 23 || Nat.beq f 41 || Nat.beq f 40 || Nat.beq f 22⟩
theorem call_of {f : Nat} {fn : Func} {code : Code} {args : List AV} {r : AV} (hf : Tryz.prog.funcs[f]? = some fn) (hb : fn.body = some code)
   (hok : (!(fn.name == "runtime.NumGoroutine") && dstOK fn.ntmps code && decide (args.length ≤ fn.ntmps)) = true) (hn : noRef r = true)
   (h : ∀ sl : Nat → AV, (∀ k, sl k = args.getD k (.sc undef)) → WK XX code [] (RET ti0 fn.results.toList r) ⟨sl, fun _ _ => none, fun _ => 0⟩) : CallOK Tryz.prog f args r :=
 call_ofG _ (tiG_ok _) mixed0 hf hb hok hn h
theorem ti3 : ti0 3 = some ⟨1, false, [Value.int .i64 0], none, [], some .i64, false, false⟩ := by kernel_rfl
theorem ti4 : ti0 4 = some ⟨1, false, [Value.bool false], none, [], none, false, true⟩ := by kernel_rfl
theorem ti22 : ti0 28 = some ⟨1, false, [Value.slice none 0 0], some 25, [], none, false, false⟩ := by kernel_rfl
theorem ti23 : ti0 25 = some ⟨1, false, [Value.slice none 0 0], some 2, [], none, false, false⟩ := by kernel_rfl
theorem ti25 : ti0 37 = some ⟨2, true, [Value.slice none 0 0, Value.slice none 0 0], none, [(0, 28), (1, 25)], none, false, false⟩ := by kernel_rfl
theorem eq_of_atI {xs ys : List Int} (hl : xs.length = ys.length) (h : ∀ j, j < xs.length → atI xs j = atI ys j) : xs = ys := by
 refine List.ext_getElem hl fun i h1 h2 => ?_
 have := h i h1
 simpa [atI, h1, h2] using this
set_option maxRecDepth 1000000 in
theorem c31 {a b : AV} {xs ys : List Int} (ha : isL a xs) (hb : isL b ys) (hx : xs.length ≤ maxN) : CallOK Tryz.prog 84 [a, b] (bo (decide (xs = ys))) := by
 refine call_of (fn := Tryz.f84) (code := bodyOf Tryz.f84) Tryz.func84 rfl (by kernel_rfl) rfl ?_
 intro sl hs
 have s0 : sl 0 = a := hs 0
 have s1 : sl 1 = b := hs 1
 simp only [Tryz.f84, bodyOf, Option.getD, go_sem, ↓reduceIte, Nat.reduceEqDiff, reduceCtorEq, Nat.reduceAdd, Nat.reduceMul, Nat.reduceLeDiff, ti2, ti3, ti4, ti23, s0, s1, isL_len ha, isL_len hb]
 refine ⟨fun h => ?_, fun h => ?_⟩
 · have hl : xs.length = ys.length := by omega
   have hx' : xs.length ≤ 4294967296 := hx
   refine WK_for (fun k st => st.sl 0 = a ∧ st.sl 1 = b ∧ st.sl 5 = i64 (k : Int) ∧ ∀ j, j < k → atI xs j = atI ys j) xs.length ?_ ?_ ?_
   · simp only [↓zcy, ↓zcz, ↓zda, ↓zdb, ↓reduceIte, Nat.reduceEqDiff, and_true, true_and, and_self, ne_eq, not_false_eq_true, eq_self, false_and, and_false, reduceCtorEq, s0, s1]
     exact ⟨rfl, fun j hj => absurd hj (Nat.not_lt_zero _)⟩
   · rintro k sl ro gn hk ⟨s0, s1, s5, hp⟩
     dsimp only at s0 s1 s5
     have hk' : (k : Int) < xs.length := by omega
     simp (maxSteps := 10000000) (disch := first | omega | assumption) only [go_sem, ↓reduceIte, Nat.reduceEqDiff, reduceCtorEq, Nat.reduceAdd, Nat.reduceMul, Nat.reduceLeDiff, zfu, Int.mul_def, Int.add_def, zfv, cond_false, cond_true, isub, ti2, ti3, ti4, ti23, s0, s1, s5, isL_len ha, isL_len hb, isL_idx ha, isL_idx hb, isL_sites ha, isL_sites hb, hk']
     refine FIN_of (by kernel_rfl) ?_
     simp (maxSteps := 10000000) (disch := first | omega | assumption) only [go_sem, ↓reduceIte, Nat.reduceEqDiff, reduceCtorEq, Nat.reduceAdd, Nat.reduceMul, Nat.reduceLeDiff, zfu, Int.mul_def, Int.add_def, zfv, cond_false, cond_true, isub, ti2, ti3, ti4, ti23, s0, s1, s5]
     refine ⟨fun he => ⟨rfl, fun j hj => ?_⟩, fun hne => ?_⟩
     · rcases Nat.lt_or_ge j k with h | h
       · exact hp j h
       · have : j = k := by omega
         subst this; exact he
     · simp only [zbj, zbk, retR, resL, outT, zes, zez, oneV, ↓zcy, ↓zcz, ↓reduceIte, Nat.reduceEqDiff, Option.some.injEq, AV.sc.injEq, Value.bool.injEq, Value.int.injEq, outL, outT, zft, zcp, zed, zef, zei, zeh, List.length_cons, List.length_nil, Nat.reduceAdd, Nat.zero_add, Nat.reduceLeDiff, List.drop_zero, List.take_succ_cons, List.take_zero, zfi, zfh, Ro.dl, zdb, zda, zfe, and_self, and_true, true_and, eq_self, List.append_nil, List.nil_append, List.cons_append, ne_eq, not_false_eq_true, and_false, false_and, Bool.false_eq_true, St.ev, zes, zfn, zhk]
       refine (decide_eq_false ?_).symm
       rintro rfl; exact hne rfl
   · rintro sl ro gn ⟨s0, s1, s5, hp⟩
     dsimp only at s0 s1 s5
     have hk' : ¬ (xs.length : Int) < xs.length := by omega
     simp (maxSteps := 10000000) (disch := first | omega | assumption) only [go_sem, ↓reduceIte, Nat.reduceEqDiff, reduceCtorEq, Nat.reduceAdd, Nat.reduceMul, Nat.reduceLeDiff, zfu, Int.mul_def, Int.add_def, zfv, cond_false, cond_true, isub, ti2, ti3, ti4, ti23, s0, s1, s5, isL_len ha, isL_len hb, hk']
     simp only [zbj, zbk, retR, resL, outT, zes, zez, oneV, ↓zcy, ↓zcz, ↓reduceIte, Nat.reduceEqDiff, Option.some.injEq, AV.sc.injEq, Value.bool.injEq, Value.int.injEq, outL, outT, zft, zcp, zed, zef, zei, zeh, List.length_cons, List.length_nil, Nat.reduceAdd, Nat.zero_add, Nat.reduceLeDiff, List.drop_zero, List.take_succ_cons, List.take_zero, zfi, zfh, Ro.dl, zdb, zda, zfe, and_self, and_true, true_and, eq_self, List.append_nil, List.nil_append, List.cons_append, ne_eq, not_false_eq_true, and_false, false_and, Bool.false_eq_true, St.ev, zes, zfn, zhk]
     exact (decide_eq_true (eq_of_atI hl hp)).symm
 · simp only [zbj, zbk, retR, resL, outT, zes, zez, oneV, ↓zcy, ↓zcz, ↓reduceIte, Nat.reduceEqDiff, Option.some.injEq, AV.sc.injEq, Value.bool.injEq, Value.int.injEq, outL, outT, zft, zcp, zed, zef, zei, zeh, List.length_cons, List.length_nil, Nat.reduceAdd, Nat.zero_add, Nat.reduceLeDiff, List.drop_zero, List.take_succ_cons, List.take_zero, zfi, zfh, Ro.dl, zdb, zda, zfe, and_self, and_true, true_and, eq_self, List.append_nil, List.nil_append, List.cons_append, ne_eq, not_false_eq_true, and_false, false_and, Bool.false_eq_true, St.ev, zes, zfn, zhk]
   refine (decide_eq_false ?_).symm
   rintro rfl; exact h rfl
theorem isLs_inj : ∀ {xs ys : List (List Int)}, xs.length = ys.length → (∀ j, j < xs.length → xs.getD j [] = ys.getD j []) → xs = ys := by
 intro xs ys hl h
 refine List.ext_getElem hl fun i h1 h2 => ?_
 have := h i h1
 simpa [h1, h2] using this
set_option maxRecDepth 1000000 in
theorem c42 {a b : AV} {xs ys : List (List Int)} (ha : isLL a xs) (hb : isLL b ys) (hx : xs.length ≤ maxN) (hx2 : ∀ j, (xs.getD j []).length ≤ maxN) : CallOK Tryz.prog 85 [a, b] (bo (decide (xs = ys))) := by
 refine call_of (fn := Tryz.f85) (code := bodyOf Tryz.f85) Tryz.func85 rfl (by kernel_rfl) rfl ?_
 intro sl hs
 have s0 : sl 0 = a := hs 0
 have s1 : sl 1 = b := hs 1
 simp only [Tryz.f85, bodyOf, Option.getD, go_sem, ↓reduceIte, Nat.reduceEqDiff, reduceCtorEq, Nat.reduceAdd, Nat.reduceMul, Nat.reduceLeDiff, ti2, ti3, ti4, ti22, s0, s1, isLL_len ha, isLL_len hb]
 refine ⟨fun h => ?_, fun h => ?_⟩
 · have hl : xs.length = ys.length := by omega
   have hx' : xs.length ≤ 4294967296 := hx
   refine WK_for (fun k st => st.sl 0 = a ∧ st.sl 1 = b ∧ st.sl 5 = i64 (k : Int) ∧ ∀ j, j < k → xs.getD j [] = ys.getD j []) xs.length ?_ ?_ ?_
   · simp only [↓zcy, ↓zcz, ↓zda, ↓zdb, ↓reduceIte, Nat.reduceEqDiff, and_true, true_and, and_self, ne_eq, not_false_eq_true, eq_self, false_and, and_false, reduceCtorEq, s0, s1]
     exact ⟨rfl, fun j hj => absurd hj (Nat.not_lt_zero _)⟩
   · rintro k sl ro gn hk ⟨s0, s1, s5, hp⟩
     dsimp only at s0 s1 s5
     have hk' : (k : Int) < xs.length := by omega
     have h1 := isLL_at ha hk
     have h2 := isLL_at hb (hl ▸ hk)
     simp (maxSteps := 10000000) (disch := first | omega | assumption) only [go_sem, ↓reduceIte, Nat.reduceEqDiff, reduceCtorEq, Nat.reduceAdd, Nat.reduceMul, Nat.reduceLeDiff, zfu, Int.mul_def, Int.add_def, zfv, cond_false, cond_true, isub, ti2, ti3, ti4, ti22, ti23, s0, s1, s5, isLL_len ha, isLL_len hb, isLL_idx ha, isLL_idx hb, isLL_sites ha, isLL_sites hb, hk']
     simp only [pureL, isL_pure h1, isL_pure h2, go_sem, ↓reduceIte, Nat.reduceEqDiff, reduceCtorEq, Nat.reduceAdd, Nat.reduceMul, Nat.reduceLeDiff, Bool.and_self]
     refine CLLD_pure _ (c31 h1 h2 (hx2 k)) (by simp only [pureL, isL_pure h1, isL_pure h2, Bool.and_self]) rfl ?_
     simp (maxSteps := 10000000) (disch := first | omega | assumption) only [go_sem, ↓reduceIte, Nat.reduceEqDiff, reduceCtorEq, Nat.reduceAdd, Nat.reduceMul, Nat.reduceLeDiff, zfu, Int.mul_def, Int.add_def, zfv, cond_false, cond_true, isub, zej]
     refine FIN_of (by kernel_rfl) ?_
     simp (maxSteps := 10000000) (disch := first | omega | assumption) only [go_sem, ↓reduceIte, Nat.reduceEqDiff, reduceCtorEq, Nat.reduceAdd, Nat.reduceMul, Nat.reduceLeDiff, zfu, Int.mul_def, Int.add_def, zfv, cond_false, cond_true, isub, ti2, ti3, ti4, ti23, s0, s1, s5]
     refine ⟨fun he => ⟨rfl, fun j hj => ?_⟩, fun hne => ?_⟩
     · rcases Nat.lt_or_ge j k with h | h
       · exact hp j h
       · have : j = k := by omega
         subst this; exact he
     · simp only [zbj, zbk, retR, resL, outT, zes, zez, oneV, ↓zcy, ↓zcz, ↓reduceIte, Nat.reduceEqDiff, Option.some.injEq, AV.sc.injEq, Value.bool.injEq, Value.int.injEq, outL, outT, zft, zcp, zed, zef, zei, zeh, List.length_cons, List.length_nil, Nat.reduceAdd, Nat.zero_add, Nat.reduceLeDiff, List.drop_zero, List.take_succ_cons, List.take_zero, zfi, zfh, Ro.dl, zdb, zda, zfe, and_self, and_true, true_and, eq_self, List.append_nil, List.nil_append, List.cons_append, ne_eq, not_false_eq_true, and_false, false_and, Bool.false_eq_true, St.ev, zes, zfn, zhk]
       refine (decide_eq_false ?_).symm
       rintro rfl; exact hne rfl
   · rintro sl ro gn ⟨s0, s1, s5, hp⟩
     dsimp only at s0 s1 s5
     have hk' : ¬ (xs.length : Int) < xs.length := by omega
     simp (maxSteps := 10000000) (disch := first | omega | assumption) only [go_sem, ↓reduceIte, Nat.reduceEqDiff, reduceCtorEq, Nat.reduceAdd, Nat.reduceMul, Nat.reduceLeDiff, zfu, Int.mul_def, Int.add_def, zfv, cond_false, cond_true, isub, ti2, ti3, ti4, ti22, s0, s1, s5, isLL_len ha, isLL_len hb, hk']
     simp only [zbj, zbk, retR, resL, outT, zes, zez, oneV, ↓zcy, ↓zcz, ↓reduceIte, Nat.reduceEqDiff, Option.some.injEq, AV.sc.injEq, Value.bool.injEq, Value.int.injEq, outL, outT, zft, zcp, zed, zef, zei, zeh, List.length_cons, List.length_nil, Nat.reduceAdd, Nat.zero_add, Nat.reduceLeDiff, List.drop_zero, List.take_succ_cons, List.take_zero, zfi, zfh, Ro.dl, zdb, zda, zfe, and_self, and_true, true_and, eq_self, List.append_nil, List.nil_append, List.cons_append, ne_eq, not_false_eq_true, and_false, false_and, Bool.false_eq_true, St.ev, zes, zfn, zhk]
     exact (decide_eq_true (isLs_inj hl hp)).symm
 · simp only [zbj, zbk, retR, resL, outT, zes, zez, oneV, ↓zcy, ↓zcz, ↓reduceIte, Nat.reduceEqDiff, Option.some.injEq, AV.sc.injEq, Value.bool.injEq, Value.int.injEq, outL, outT, zft, zcp, zed, zef, zei, zeh, List.length_cons, List.length_nil, Nat.reduceAdd, Nat.zero_add, Nat.reduceLeDiff, List.drop_zero, List.take_succ_cons, List.take_zero, zfi, zfh, Ro.dl, zdb, zda, zfe, and_self, and_true, true_and, eq_self, List.append_nil, List.nil_append, List.cons_append, ne_eq, not_false_eq_true, and_false, false_and, Bool.false_eq_true, St.ev, zes, zfn, zhk]
   refine (decide_eq_false ?_).symm
   rintro rfl; exact h rfl
theorem c12 {a b c d : AV} {xs ys : List (List Int)} {us vs : List Int} (ha : isLL a xs) (hb : isLL c ys) (hc : isL b us) (hd : isL d vs) (hx : xs.length ≤ maxN) (hx2 : ∀ j, (xs.getD j []).length ≤ maxN) (hu : us.length ≤ maxN) : CallOK Tryz.prog 39 [.agg [a, b], .agg [c, d]] (bo (decide (xs = ys ∧ us = vs))) := by
 refine call_of (fn := Tryz.f39) (code := bodyOf Tryz.f39) Tryz.func39 rfl (by kernel_rfl) rfl ?_
 intro sl hs
 have s0 : sl 0 = .agg [a, b] := hs 0
 have s1 : sl 1 = .agg [c, d] := hs 1
 simp only [Tryz.f39, bodyOf, Option.getD, go_sem, ↓reduceIte, Nat.reduceEqDiff, reduceCtorEq, Nat.reduceAdd, Nat.reduceMul, Nat.reduceLeDiff, ti2, ti3, ti4, ti22, ti25, s0, s1, isLL_cellB _ ha, isLL_cellB _ hb, isL_cellB _ hc, isL_cellB _ hd, isLL_lift _ _ _ ha, isLL_lift _ _ _ hb, isL_lift _ _ _ hc, isL_lift _ _ _ hd]
 refine CLL_pure _ (c42 ha hb hx hx2) (by simp only [pureL, isLL_pure ha, isLL_pure hb, Bool.and_self]) rfl rfl ?_
 simp only [go_sem, ↓reduceIte, Nat.reduceEqDiff, reduceCtorEq, Nat.reduceAdd, Nat.reduceMul, Nat.reduceLeDiff, ti2, ti3, ti4, ti22, ti23, ti25, isLL_lift _ _ _ ha, isLL_lift _ _ _ hb, isL_lift _ _ _ hc, isL_lift _ _ _ hd]
 refine ⟨fun h => ?_, fun h => ?_⟩
 · refine CLL_pure _ (c31 hc hd hu) (by simp only [pureL, isL_pure hc, isL_pure hd, Bool.and_self]) rfl rfl ?_
   simp only [go_sem, ↓reduceIte, Nat.reduceEqDiff, reduceCtorEq, Nat.reduceAdd, Nat.reduceMul, Nat.reduceLeDiff, ti2, ti3, ti4, ti22, ti23, ti25]
   refine ⟨fun h2 => ?_, fun h2 => ?_⟩
   · simp only [zbj, zbk, retR, resL, outT, zes, zez, oneV, ↓zcy, ↓zcz, ↓reduceIte, Nat.reduceEqDiff, Option.some.injEq, AV.sc.injEq, Value.bool.injEq, Value.int.injEq, outL, outT, zft, zcp, zed, zef, zei, zeh, List.length_cons, List.length_nil, Nat.reduceAdd, Nat.zero_add, Nat.reduceLeDiff, List.drop_zero, List.take_succ_cons, List.take_zero, zfi, zfh, Ro.dl, zdb, zda, zfe, and_self, and_true, true_and, eq_self, List.append_nil, List.nil_append, List.cons_append, ne_eq, not_false_eq_true, and_false, false_and, Bool.false_eq_true, St.ev, zes, zfn, zhk]
     exact (decide_eq_true ⟨h, h2⟩).symm
   · simp only [zbj, zbk, retR, resL, outT, zes, zez, oneV, ↓zcy, ↓zcz, ↓reduceIte, Nat.reduceEqDiff, Option.some.injEq, AV.sc.injEq, Value.bool.injEq, Value.int.injEq, outL, outT, zft, zcp, zed, zef, zei, zeh, List.length_cons, List.length_nil, Nat.reduceAdd, Nat.zero_add, Nat.reduceLeDiff, List.drop_zero, List.take_succ_cons, List.take_zero, zfi, zfh, Ro.dl, zdb, zda, zfe, and_self, and_true, true_and, eq_self, List.append_nil, List.nil_append, List.cons_append, ne_eq, not_false_eq_true, and_false, false_and, Bool.false_eq_true, St.ev, zes, zfn, zhk]
     exact (decide_eq_false fun h3 => h2 h3.2).symm
 · simp only [zbj, zbk, retR, resL, outT, zes, zez, oneV, ↓zcy, ↓zcz, ↓reduceIte, Nat.reduceEqDiff, Option.some.injEq, AV.sc.injEq, Value.bool.injEq, Value.int.injEq, outL, outT, zft, zcp, zed, zef, zei, zeh, List.length_cons, List.length_nil, Nat.reduceAdd, Nat.zero_add, Nat.reduceLeDiff, List.drop_zero, List.take_succ_cons, List.take_zero, zfi, zfh, Ro.dl, zdb, zda, zfe, and_self, and_true, true_and, eq_self, List.append_nil, List.nil_append, List.cons_append, ne_eq, not_false_eq_true, and_false, false_and, Bool.false_eq_true, St.ev, zes, zfn, zhk]
   exact (decide_eq_false fun h3 => h h3.1).symm
end Go.Proofs.YtgcnmlecihegcaaGreat
/- The laws' marking and holding functions. -/
namespace Go.Proofs.YtgcnmlecihegcaaGreat
open Go.RowKit
def iota (k : Int) : Nat → List Int
 | 0 => []
 | n + 1 => iota k n ++ [k + n]
theorem iota_len (k : Int) : ∀ n, (iota k n).length = n
 | 0 => rfl
 | n + 1 => by simp [iota, iota_len k n]
theorem iota_at (k : Int) : ∀ n j, j < n → atI (iota k n) j = k + j
 | 0, j, h => by omega
 | n + 1, j, h => by
   have ih := iota_at k n
   unfold atI at ih ⊢
   simp only [iota, List.getD_eq_getElem?_getD, List.getElem?_append, iota_len]
   split
   · rename_i h2
     have := ih j h2
     rwa [List.getD_eq_getElem?_getD] at this
   · have : j = n := by omega
     subst this; simp
def sumN : List Nat → Nat
 | [] => 0
 | n :: ns => n + sumN ns
def labs (k : Int) : List Nat → List (List Int)
 | [] => []
 | n :: ns => iota k n :: labs (k + n) ns
theorem labs_len (k : Int) : ∀ ns, (labs k ns).length = ns.length := by
 intro ns; induction ns generalizing k with
 | nil => rfl
 | cons n ns ih => simp [labs, ih]
theorem labs_at : ∀ (ns : List Nat) (k : Int) (j : Nat), j < ns.length → (labs k ns).getD j [] = iota (k + sumN (ns.take j)) (ns.getD j 0)
 | [], _, j, h => by simp at h
 | n :: ns, k, 0, _ => by simp [labs, sumN]
 | n :: ns, k, j + 1, h => by
   have := labs_at ns (k + n) j (by simpa using h)
   simp only [labs, List.getD_cons_succ, List.take_succ_cons, sumN, this]
   congr 1; omega
theorem sumN_take : ∀ (ns : List Nat) (j : Nat), j < ns.length → sumN (ns.take (j + 1)) = sumN (ns.take j) + ns.getD j 0
 | [], j, h => by simp at h
 | n :: ns, 0, _ => by simp [sumN]
 | n :: ns, j + 1, h => by
   have := sumN_take ns j (by simpa using h)
   simp only [List.take_succ_cons, sumN, List.getD_cons_succ] at this ⊢
   omega
theorem sumN_take_le : ∀ (ns : List Nat) (j : Nat), sumN (ns.take j) ≤ sumN ns
 | [], j => by simp
 | n :: ns, 0 => by simp [sumN]
 | n :: ns, j + 1 => by have := sumN_take_le ns j; simp only [List.take_succ_cons, sumN]; omega
theorem in_of {f : Nat} {fn : Func} {code : Code} {args : List AV} {r : AV} {ro ro' : Ro} {gn gn' : Nat → Nat} (hf : Tryz.prog.funcs[f]? = some fn) (hb : fn.body = some code)
   (hok : (!(fn.name == "runtime.NumGoroutine") && dstOK fn.ntmps code && decide (args.length ≤ fn.ntmps)) = true)
   (h : ∀ sl : Nat → AV, (∀ k, sl k = args.getD k (.sc undef)) → WK XX code [] (RETI ti0 fn.results.toList r ro' gn') ⟨sl, ro, gn⟩) : InOK Tryz.prog f args ro gn r ro' gn' :=
 in_ofG _ (tiG_ok _) mixed0 hf hb hok h
structure Plc (s g : Nat) (p : List Nat) (W : List AV → AV) : Prop where
 cells : ∀ (ro : Ro) cs, ro s g = some (W cs) → ro.cells s g p = some cs
 notBx : ∀ (ro : Ro) cs, ro s g = some (W cs) → isBxAt ro s g p = false
 put : ∀ f cs, putR f p (W cs) = W (f cs)
theorem plc_nil (s g : Nat) : Plc s g [] .row := by
 refine ⟨fun ro cs h => ?_, fun ro cs h => ?_, fun f cs => ?_⟩
 · simp [Ro.cells, h, blk]
 · simp [isBxAt, Ro.at, h, ath]
 · simp [putR]
theorem plc_in (s g i : Nat) (rows : List AV) (hi : i < rows.length) : Plc s g [i] (fun cs => .row (rows.set i (.row cs))) := by
 refine ⟨fun ro cs h => ?_, fun ro cs h => ?_, fun f cs => ?_⟩
 · simp [Ro.cells, Ro.at, h, ath, hi]
 · simp [isBxAt, Ro.at, h, ath, hi]
 · simp [putR, hi]
theorem upr_upr (ro : Ro) (s g : Nat) (a b : AV) : upr (upr ro s g a) s g b = upr ro s g b := by
 funext s' g'; simp only [zdb]; split <;> rfl
theorem upr_id (ro : Ro) (s g : Nat) (a : AV) (h : ro s g = some a) : upr ro s g a = ro := by
 funext s' g'; simp only [zdb]; split
 · rename_i h2; obtain ⟨rfl, rfl⟩ := h2; exact h.symm
 · rfl
theorem upr_same (ro : Ro) (s g : Nat) (a : AV) : upr ro s g a s g = some a := by simp [zdb]
theorem Plc.wr {s g : Nat} {p : List Nat} {W : List AV → AV} (hp : Plc s g p W) (ro : Ro) (cs : List AV) (i : Nat) (vs : List AV) : (upr ro s g (W cs)).wr ⟨s, g, p, i, vs⟩ = upr ro s g (W (setL i vs cs)) := by
 simp only [Ro.wr, upr_same, hp.put, upr_upr]
def mkd (k : Int) (j : Nat) (cs : List AV) : List AV := (iota k j).map i64 ++ cs.drop j
theorem mkd_len (k : Int) (j : Nat) (cs : List AV) (h : j ≤ cs.length) : (mkd k j cs).length = cs.length := by simp [mkd, iota_len]; omega
theorem mkd_zero (k : Int) (cs : List AV) : mkd k 0 cs = cs := rfl
theorem mkd_full (k : Int) (cs : List AV) : mkd k cs.length cs = (iota k cs.length).map i64 := by simp [mkd]
theorem mkd_succ (k : Int) (j : Nat) (cs : List AV) (h : j < cs.length) : setL j [i64 (k + j)] (mkd k j cs) = mkd k (j + 1) cs := by
 simp only [setL, mkd, iota]
 rw [List.set_append_right _ _ (by simp [iota_len])]
 simp only [List.length_map, iota_len, Nat.sub_self, List.map_append, List.append_assoc, List.map_cons, List.map_nil, List.cons_append, List.nil_append]
 rw [List.drop_eq_getElem_cons h, List.set_cons_zero]
def rowsOf (css : List (List AV)) : List AV := css.map .row
def labsA (k : Int) (ns : List Nat) : List AV := (labs k ns).map fun xs => .row (xs.map i64)
def mkr (k : Int) (j : Nat) (css : List (List AV)) : List AV := labsA k ((css.map List.length).take j) ++ (css.drop j).map .row
theorem labsA_len (k : Int) (ns : List Nat) : (labsA k ns).length = ns.length := by simp [labsA, labs_len]
theorem labs_snoc : ∀ (ns : List Nat) (n : Nat) (k : Int), labs k (ns ++ [n]) = labs k ns ++ [iota (k + sumN ns) n]
 | [], n, k => by simp [labs, sumN]
 | m :: ns, n, k => by
   simp only [List.cons_append, labs, labs_snoc ns n, sumN]
   rw [show k + (m : Int) + (sumN ns : Nat) = k + ((m + sumN ns : Nat) : Int) by omega]
theorem mkr_len (k : Int) (j : Nat) (css : List (List AV)) (h : j ≤ css.length) : (mkr k j css).length = css.length := by
 simp [mkr, labsA_len]; omega
theorem mkr_at (k : Int) (j : Nat) (css : List (List AV)) (h : j < css.length) : (mkr k j css)[j]? = some (.row (css.getD j [])) := by
 have h2 : (labsA k ((css.map List.length).take j)).length = j := by simp [labsA_len]; omega
 rw [mkr, List.getElem?_append_right (by omega), h2, Nat.sub_self]
 simp [h]
theorem mkr_succ (k : Int) (j : Nat) (css : List (List AV)) (h : j < css.length) : (mkr k j css).set j (.row ((iota (k + sumN ((css.map List.length).take j)) (css.getD j []).length).map i64)) = mkr k (j + 1) css := by
 have h2 : (labsA k ((css.map List.length).take j)).length = j := by simp [labsA_len]; omega
 have h3 : (css.map List.length).take (j + 1) = (css.map List.length).take j ++ [(css.getD j []).length] := by
   rw [List.take_succ]
   simp [h]
 unfold mkr
 rw [List.set_append_right _ _ (by omega), h2, Nat.sub_self, List.drop_eq_getElem_cons h]
 rw [h3]
 simp only [labsA, labs_snoc, List.map_append, List.map_cons, List.map_nil, List.append_assoc, List.cons_append, List.nil_append, List.set_cons_zero]
end Go.Proofs.YtgcnmlecihegcaaGreat
/- Marking data. -/
namespace Go.Proofs.YtgcnmlecihegcaaGreat
open Go.RowKit
end Go.Proofs.YtgcnmlecihegcaaGreat
