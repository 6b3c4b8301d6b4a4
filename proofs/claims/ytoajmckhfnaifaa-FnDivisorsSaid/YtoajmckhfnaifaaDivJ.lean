/- The range of divisors of Jefferson's method: what lies in it gives the seats; it is empty only if the last seat is tied. Plain numbers: no program is walked here. -/
import Derived.Test.YtoajmckhfnaifaaDivC
import Derived.Test.YtoajmckhfnaifaaJeff1
namespace Go.Proofs.Ytoajmckhfnaifaa
set_option linter.unusedVariables false
open Go.RowKit

theorem lessF_iff {a b c d : Nat} : lessF a b c d = true ↔ a * d < c * b := by
  unfold lessF cmpF cmpI
  rw [beq_iff_eq]
  have e1 : ((a : Int) * (d : Int)) = ((a * d : Nat) : Int) := by simp
  have e2 : ((c : Int) * (b : Int)) = ((c * b : Nat) : Int) := by simp
  rw [e1, e2]
  split <;> (try split) <;> omega
theorem red_eq {x q : Nat} (hx : x ≤ 1000000) (h1 : 1 ≤ q) (hq : q ≤ 1000000) : redTop x q * q = x * redBot x q ∧ 1 ≤ redBot x q := by
  have h := (red_ok (t := x) (b := q) (by omega) (by omega) (by omega)).1
  have hg : 1 ≤ Nat.gcd x q := Nat.gcd_pos_of_pos_right x h1
  unfold redOk at h
  unfold redTop redBot
  rw [if_pos h, if_pos h]
  obtain ⟨a, ha⟩ := Nat.gcd_dvd_left x q
  obtain ⟨b, hb⟩ := Nat.gcd_dvd_right x q
  generalize Nat.gcd x q = g at *
  subst ha
  subst hb
  rw [Nat.mul_div_cancel_left a hg, Nat.mul_div_cancel_left b hg]
  refine ⟨by rw [Nat.mul_left_comm, ← Nat.mul_assoc], ?_⟩
  rcases Nat.eq_zero_or_pos b with e | e
  · rw [e] at h1; omega
  · exact e
theorem crossN {A B C D E F : Nat} (hD : 0 < D) (h1 : A * D ≤ C * B) (h2 : C * F ≤ E * D) : A * F ≤ E * B := by
  have h := cross (A := A) (B := B) (C := C) (D := D) (E := E) (F := F) (by omega) (by omega) (by omega) (by exact_mod_cast h1) (by exact_mod_cast h2)
  exact_mod_cast h
structure JInv (xs ys : List Int) (k k' : Nat) (s : JRng) : Prop where
  lb : 1 ≤ s.lb
  hb : 1 ≤ s.hb
  lo : ∀ i, i < k → (ix xs i).toNat * s.lb ≤ s.lt * ((ix ys i).toNat + 1)
  hi : ∀ i, i < k' → (ix ys i).toNat ≠ 0 → s.ht * (ix ys i).toNat ≤ (ix xs i).toNat * s.hb
  lw : s.lt = 0 ∨ ∃ i, i < k ∧ s.lt * ((ix ys i).toNat + 1) = (ix xs i).toNat * s.lb
  hw : (s.ht = 1000000000 ∧ s.hb = 1) ∨ ∃ i, i < k' ∧ (ix ys i).toNat ≠ 0 ∧ s.ht * (ix ys i).toNat = (ix xs i).toNat * s.hb
theorem jInv_low {xs ys : List Int} {k : Nat} {s : JRng} (J : JInv xs ys k k s) (hx : (ix xs k).toNat ≤ 1000000) (hy : (ix ys k).toNat ≤ 1000) : JInv xs ys (k + 1) k (jLow s (ix xs k).toNat (ix ys k).toNat) := by
  obtain ⟨r1, r2⟩ := red_eq (x := (ix xs k).toNat) (q := (ix ys k).toNat + 1) hx (by omega) (by omega)
  cases hl : lessF s.lt s.lb (redTop (ix xs k).toNat ((ix ys k).toNat + 1)) (redBot (ix xs k).toNat ((ix ys k).toNat + 1))
  · rw [jLow_no hl]
    have h : ¬ s.lt * redBot (ix xs k).toNat ((ix ys k).toNat + 1) < redTop (ix xs k).toNat ((ix ys k).toNat + 1) * s.lb := fun h => by rw [lessF_iff.2 h] at hl; cases hl
    refine ⟨J.lb, J.hb, fun i hi => ?_, J.hi, J.lw.imp id fun ⟨i, hi, e⟩ => ⟨i, by omega, e⟩, J.hw⟩
    by_cases e : i = k
    · subst e
      exact crossN r2 (Nat.le_of_eq r1.symm) (Nat.le_of_not_lt h)
    · exact J.lo i (by omega)
  · rw [jLow_yes hl]
    have h := lessF_iff.1 hl
    refine ⟨r2, J.hb, fun i hi => ?_, J.hi, .inr ⟨k, by omega, r1⟩, J.hw⟩
    by_cases e : i = k
    · subst e; exact Nat.le_of_eq r1.symm
    · exact crossN J.lb (J.lo i (by omega)) (Nat.le_of_lt h)
theorem jInv_high {xs ys : List Int} {k : Nat} {s : JRng} (J : JInv xs ys (k + 1) k s) (hx : (ix xs k).toNat ≤ 1000000) (hy : (ix ys k).toNat ≤ 1000) : JInv xs ys (k + 1) (k + 1) (jHigh s (ix xs k).toNat (ix ys k).toNat) := by
  by_cases hq : (ix ys k).toNat = 0
  · rw [jHigh_zero hq]
    refine ⟨J.lb, J.hb, J.lo, fun i hi h0 => ?_, J.lw, J.hw.imp id fun ⟨i, hi, h0, e⟩ => ⟨i, by omega, h0, e⟩⟩
    by_cases e : i = k
    · subst e; exact absurd hq h0
    · exact J.hi i (by omega) h0
  obtain ⟨r1, r2⟩ := red_eq (x := (ix xs k).toNat) (q := (ix ys k).toNat) hx (by omega) (by omega)
  unfold jHigh
  by_cases hl : lessF (redTop (ix xs k).toNat (ix ys k).toNat) (redBot (ix xs k).toNat (ix ys k).toNat) s.ht s.hb = true
  · rw [if_pos ⟨hq, hl⟩]
    have h := lessF_iff.1 hl
    refine ⟨J.lb, r2, J.lo, fun i hi h0 => ?_, J.lw, .inr ⟨k, by omega, hq, r1⟩⟩
    by_cases e : i = k
    · subst e; exact Nat.le_of_eq r1
    · exact crossN J.hb (Nat.le_of_lt h) (J.hi i (by omega) h0)
  · rw [if_neg fun h => hl h.2]
    have h : ¬ redTop (ix xs k).toNat (ix ys k).toNat * s.hb < s.ht * redBot (ix xs k).toNat (ix ys k).toNat := fun h => hl (lessF_iff.2 h)
    refine ⟨J.lb, J.hb, J.lo, fun i hi h0 => ?_, J.lw, J.hw.imp id fun ⟨i, hi, h0, e⟩ => ⟨i, by omega, h0, e⟩⟩
    by_cases e : i = k
    · subst e
      exact crossN r2 (Nat.le_of_not_lt h) (Nat.le_of_eq r1)
    · exact J.hi i (by omega) h0
theorem jInv {xs ys : List Int} (hx : ∀ i, i < xs.length → (ix xs i).toNat ≤ 1000000) (hy : ∀ i, i < xs.length → (ix ys i).toNat ≤ 1000) : ∀ k, k ≤ xs.length → JInv xs ys k k (jTo xs ys k)
  | 0, _ => ⟨Nat.le_refl _, Nat.le_refl _, fun i h => by omega, fun i h => by omega, .inl rfl, .inl ⟨rfl, rfl⟩⟩
  | k + 1, hk => jInv_high (jInv_low (jInv hx hy k (by omega)) (hx k (by omega)) (hy k (by omega))) (hx k (by omega)) (hy k (by omega))
/-- a claim that is no less than the last seat's: the last seat is tied -/
theorem last_tied {m : Int} {xs : List Int} (D : DivX m xs) (t : Nat) {i : Nat} (hi : i < xs.length)
    (c7 : claimC m (ix xs (bestA m xs t)) (ix (seatsA m xs (t + 1)) (bestA m xs t) - 1) (ix xs i) (ix (seatsA m xs (t + 1)) i) ≤ 0) :
    i ≠ bestA m xs t ∧ claimC m (ix xs i) (ix (seatsA m xs (t + 1)) i) (ix xs (bestA m xs t)) (ix (seatsA m xs (t + 1)) (bestA m xs t) - 1) = 0 := by
  have hl := bestA_lt D t
  have sl : 1 ≤ ix (seatsA m xs (t + 1)) (bestA m xs t) := by rw [seatsA_next D t, if_pos rfl]; have := seatsA_nn D t _ hl; omega
  have hne : i ≠ bestA m xs t := fun e => by
    rw [← e] at c7 sl
    have hp : 0 < ix xs i := by rw [e]; exact bestA_pos D t
    have := claim_down (a := ix (seatsA m xs (t + 1)) i - 1) D.m1 D.m5 hp (by omega)
    rw [Int.sub_add_cancel] at this
    have h3 := claim_neg m (ix xs i) (ix (seatsA m xs (t + 1)) i - 1) (ix xs i) (ix (seatsA m xs (t + 1)) i)
    omega
  refine ⟨hne, ?_⟩
  have c8 := seatsA_fair D (t + 1) i _ hi hl hne (by omega)
  have := claim_neg m (ix xs i) (ix (seatsA m xs (t + 1)) i) (ix xs (bestA m xs t)) (ix (seatsA m xs (t + 1)) (bestA m xs t) - 1)
  omega
theorem tied_of {m : Int} {xs : List Int} {k : Int} (h : seatsAskedB m xs k = true) {t : Nat} (hkt : k.toNat = t + 1) {i : Nat} (hi : i < xs.length) (hne : i ≠ bestA m xs t)
    (hcl : claimC m (ix xs i) (ix (seatsA m xs (t + 1)) i) (ix xs (bestA m xs t)) (ix (seatsA m xs (t + 1)) (bestA m xs t) - 1) = 0) : isTied m xs k = true := by
  have hon : tiedOn m xs k = true := by unfold tiedOn; rw [h]; simp; omega
  have hlast : lastOfI (seatOrder m xs k) = bestA m xs t := by
    unfold lastOfI
    rw [seatOrder_yes h, hkt, orderA_len, ix_order _ _ (by omega)]; simp
  rw [tied_yes hon, hlast, seatsBy_A h, hkt, Bool.not_eq_true']
  exact allN_false hi (tiedAt_eq hne hcl)
theorem seats_pos {m : Int} {xs : List Int} (D : DivX m xs) : ∀ t i, i < xs.length → 0 < ix (seatsA m xs t) i → 0 < ix xs i
  | 0, i, hi, h => by rw [seatsA, ix_lt (by simpa using hi)] at h; simp at h
  | t + 1, i, hi, h => by
    rw [seatsA_next D t i] at h
    by_cases e : i = bestA m xs t
    · rw [e]; exact bestA_pos D t
    · rw [if_neg e] at h; exact seats_pos D t i hi h
theorem red_div {t b : Nat} (hb : 1 ≤ b) (h : redOk t b = true) : redTop t b / redBot t b = t / b := by
  have hg : 1 ≤ Nat.gcd t b := Nat.gcd_pos_of_pos_right t hb
  unfold redOk at h
  unfold redTop redBot
  rw [if_pos h, if_pos h]
  obtain ⟨a', ha⟩ := Nat.gcd_dvd_left t b
  obtain ⟨b', hb'⟩ := Nat.gcd_dvd_right t b
  clear h
  generalize Nat.gcd t b = g at *
  subst ha
  subst hb'
  rw [Nat.mul_div_cancel_left a' hg, Nat.mul_div_cancel_left b' hg, Nat.mul_div_mul_left a' b' hg]
structure JefF (xs : List Int) (k : Int) : Prop where
  inv : JInv xs (seatsBy 5 xs k) xs.length xs.length (jFin xs k)
theorem jefF {xs : List Int} {k : Int} (h : seatsAskedB 5 xs k = true) : JefF xs k := by
  obtain ⟨m1, m5, k0, k1, n1, n6, hx⟩ := asked_facts h
  have D := asked_divX h
  refine ⟨jInv (fun i hi => by have := hx _ (ix_mem hi); omega) (fun i hi => ?_) _ (Nat.le_refl _)⟩
  rw [seatsBy_A h]
  have := (seatsA_bd (m := 5) n1 k.toNat i hi).2
  omega
/-- a divisor in the range gives the seats -/
theorem jef_floor {xs : List Int} {k : Int} (h : seatsAskedB 5 xs k = true) (hg : jGot xs k = true) {i : Nat} (hi : i < xs.length) :
    1 ≤ (jFin xs k).ht ∧ ((ix xs i).toNat * (jFin xs k).hb) / (1 * (jFin xs k).ht) = (ix (seatsBy 5 xs k) i).toNat := by
  have J := (jefF h).inv
  unfold jGot at hg
  rw [Bool.and_eq_true] at hg
  have hlt := lessF_iff.1 hg.2
  have hp : 1 ≤ (jFin xs k).ht := by
    rcases Nat.eq_zero_or_pos (jFin xs k).ht with e | e
    · rw [e, Nat.zero_mul] at hlt; omega
    · exact e
  refine ⟨hp, ?_⟩
  rw [Nat.one_mul]
  have a := J.lo i hi
  have b : (jFin xs k).ht * (ix (seatsBy 5 xs k) i).toNat ≤ (ix xs i).toNat * (jFin xs k).hb := by
    by_cases e : (ix (seatsBy 5 xs k) i).toNat = 0
    · rw [e, Nat.mul_zero]; exact Nat.zero_le _
    · exact J.hi i hi e
  generalize (ix (seatsBy 5 xs k) i).toNat = y at *
  generalize (ix xs i).toNat = x at *
  have lb := J.lb
  generalize jFin xs k = s at *
  have c : x * s.hb < s.ht * (y + 1) := by
    have h1 : x * s.lb * s.hb ≤ s.lt * (y + 1) * s.hb := Nat.mul_le_mul_right _ a
    have h2 : s.lt * s.hb * (y + 1) < s.ht * s.lb * (y + 1) := Nat.mul_lt_mul_of_pos_right hlt (by omega)
    have e1 : s.lt * (y + 1) * s.hb = s.lt * s.hb * (y + 1) := Nat.mul_right_comm _ _ _
    have e2 : x * s.lb * s.hb = x * s.hb * s.lb := Nat.mul_right_comm _ _ _
    have e3 : s.ht * s.lb * (y + 1) = s.ht * (y + 1) * s.lb := Nat.mul_right_comm _ _ _
    have : x * s.hb * s.lb < s.ht * (y + 1) * s.lb := by omega
    exact Nat.lt_of_mul_lt_mul_right this
  refine Nat.div_eq_of_lt_le ?_ ?_
  · rw [Nat.mul_comm]; exact b
  · rw [Nat.mul_comm (y + 1)]; exact c
theorem jef_tied {xs : List Int} {k : Int} (h : seatsAskedB 5 xs k = true) (hk : k ≠ 0) (hg : jGot xs k = false) : isTied 5 xs k = true := by
  obtain ⟨m1, m5, k0, k1, n1, n6, hx⟩ := asked_facts h
  have D := asked_divX h
  have J := (jefF h).inv
  obtain ⟨t, hkt⟩ : ∃ t, k.toNat = t + 1 := ⟨k.toNat - 1, by omega⟩
  have hlt : ¬ (jFin xs k).lt * (jFin xs k).hb < (jFin xs k).ht * (jFin xs k).lb := fun hh => by
    have h1 : jOn xs k = true := by unfold jOn; rw [h]; simp [hk]
    have h2 : jLess (jFin xs k) = true := lessF_iff.2 hh
    unfold jGot at hg
    rw [h1, h2] at hg; cases hg
  have hle := Nat.le_of_not_lt hlt
  have lb := J.lb
  have hb := J.hb
  have nn := seatsA_nn D (t + 1)
  have sp := seats_pos D (t + 1)
  have hw := J.hw
  have lw := J.lw
  rw [seatsBy_A h, hkt] at hw lw
  clear J hlt hg
  generalize jFin xs k = s at *
  rcases hw with ⟨w1, w2⟩ | ⟨j, hj, hy0, hw⟩
  · exfalso
    rw [w1, w2, Nat.mul_one] at hle
    rcases lw with e | ⟨i, hi, e⟩
    · omega
    · have x1 := hx _ (ix_mem hi)
      have h1 : s.lt * 1 ≤ s.lt * ((ix (seatsA 5 xs (t + 1)) i).toNat + 1) := Nat.mul_le_mul_left _ (by omega)
      have h2 : (ix xs i).toNat * s.lb ≤ 1000000 * s.lb := Nat.mul_le_mul_right _ (by omega)
      omega
  · have xj := sp j hj (by omega)
    have yj := nn j hj
    rcases lw with e | ⟨i, hi, e⟩
    · exfalso
      rw [e, Nat.zero_mul] at hle
      have h0 : s.ht = 0 := by
        rcases Nat.eq_zero_or_pos s.ht with e | e
        · exact e
        · have := Nat.mul_pos e lb; omega
      rw [h0, Nat.zero_mul] at hw
      have := Nat.mul_pos (show 0 < (ix xs j).toNat by omega) hb
      omega
    · have yi := nn i hi
      have xi := D.x0 i hi
      have c1 := crossN hb (Nat.le_of_eq hw.symm) hle
      have c2 := crossN lb c1 (Nat.le_of_eq e)
      have c3 : claimC 5 (ix xs j) (ix (seatsA 5 xs (t + 1)) j - 1) (ix xs i) (ix (seatsA 5 xs (t + 1)) i) ≤ 0 := by
        rw [claim_le (by omega) xi (botC_nn (by omega)) (botC_nn yi)]
        have c2' : ix xs j * (ix (seatsA 5 xs (t + 1)) i + 1) ≤ ix xs i * ix (seatsA 5 xs (t + 1)) j := by
          have hh := Int.ofNat_le.2 c2
          rw [Int.natCast_mul, Int.natCast_mul, Int.natCast_add, Int.toNat_of_nonneg (by omega), Int.toNat_of_nonneg yi, Int.toNat_of_nonneg xi, Int.toNat_of_nonneg yj] at hh
          exact hh
        have pos := Int.mul_pos xj (show 0 < ix (seatsA 5 xs (t + 1)) i + 1 by omega)
        have xip : 0 < ix xs i := by
          rcases Int.lt_or_eq_of_le xi with e | e
          · exact e
          · rw [← e, Int.zero_mul] at c2'; omega
        refine .inr ⟨xj, xip, .inr (.inr ⟨?_, ?_, ?_⟩)⟩
        · simp [botC]; omega
        · simp [botC]; omega
        · simp only [botC, topC, (by decide : ¬ (5 : Int) = 1), (by decide : ¬ (5 : Int) = 2), (by decide : ¬ (5 : Int) = 3), (by decide : ¬ (5 : Int) = 4), if_false, Int.sub_add_cancel]
          exact c2'
      have c4 := seatsA_last D t j hj (by omega)
      have hl := bestA_lt D t
      have sl : 1 ≤ ix (seatsA 5 xs (t + 1)) (bestA 5 xs t) := by rw [seatsA_next D t, if_pos rfl]; have := seatsA_nn D t _ hl; omega
      have c7 := claim_trans (D.x0 _ hl) (by omega) xi (by omega) (by omega) yi c4 c3
      obtain ⟨hne, hcl⟩ := last_tied D t hi c7
      exact tied_of h hkt hi hne hcl
end Go.Proofs.Ytoajmckhfnaifaa
