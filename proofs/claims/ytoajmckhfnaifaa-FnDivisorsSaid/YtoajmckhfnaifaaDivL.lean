/- What the law on divisors asks of the range of divisors and of two claims, plain. No program is walked here. -/
import Derived.Test.YtoajmckhfnaifaaDivK
import Derived.Test.YtoajmckhfnaifaaFracDiv
namespace Go.Proofs.Ytoajmckhfnaifaa
set_option linter.unusedVariables false
open Go.RowKit

structure JefOk (xs : List Int) (k : Int) : Prop where
  l : fracOk (jLt xs k) (jLb xs k) = true
  h : fracOk (jHt xs k) (jHb xs k) = true
  z : jHt xs k ≠ 0
  c : cmpF (jLt xs k) (jLb xs k) (jHt xs k) (jHb xs k) < 0
  x : ∀ i, i < xs.length → ∃ x : Nat, ix xs i = (x : Int) ∧ x ≤ 1000000 ∧ fracOk x 1 = true ∧
    (redOk (x * jHb xs k) (1 * jHt xs k) = true → fracOk (redTop (x * jHb xs k) (1 * jHt xs k)) (redBot (x * jHb xs k) (1 * jHt xs k)) = true ∧
      ((redTop (x * jHb xs k) (1 * jHt xs k) / redBot (x * jHb xs k) (1 * jHt xs k) : Nat) : Int) = ix (seatsBy 5 xs k) i)
theorem frac_one {x : Nat} (h : x ≤ 1000000) : fracOk x 1 = true := by
  unfold fracOk
  rw [Bool.and_eq_true, Bool.and_eq_true, inB_iff, inB_iff, Nat.gcd_one_right]
  exact ⟨⟨by omega, by omega⟩, rfl⟩
theorem redOk_frac {t b : Nat} (h : redOk t b = true) : fracOk (redTop t b) (redBot t b) = true := by
  unfold redOk at h
  unfold redTop redBot
  rw [if_pos h, if_pos h]
  exact h
theorem jefOk {xs : List Int} {k : Int} (h : seatsAskedB 5 xs k = true) (hg : jGot xs k = true) : JefOk xs k := by
  obtain ⟨e1, e2, e3, e4⟩ := jYes hg
  have F := j_facts h
  have G := F.good xs.length (Nat.le_refl _)
  have hlt := hg
  unfold jGot at hlt
  rw [Bool.and_eq_true] at hlt
  refine ⟨by rw [e1, e2]; exact G.l, by rw [e3, e4]; exact G.h, ?_, by rw [e1, e2, e3, e4]; exact cmpF_lt.2 hlt.2, fun i hi => ?_⟩
  · have := (jef_floor h hg (i := 0) (by have := F.n1; omega)).1
    rw [e3]; omega
  · have xb := F.xb i hi
    have yb := F.yb i hi
    obtain ⟨p1, p2⟩ := jef_floor h hg hi
    refine ⟨(ix xs i).toNat, by omega, by omega, frac_one (by omega), fun hr => ⟨redOk_frac hr, ?_⟩⟩
    rw [e3, e4] at hr ⊢
    rw [red_div (by omega) hr, p2]; omega
theorem claims_neg {m x y : Int} (hm : 1 ≤ m ∧ m ≤ 5) (hx : 0 ≤ x ∧ x ≤ 1000000) (hy : 0 ≤ y ∧ y ≤ 1000000) : claimsC m y 2 x 1 = -claimsC m x 1 y 2 := by
  unfold claimsC
  rw [if_pos, if_pos, claim_neg]
  · simp only [Bool.and_eq_true, inB_iff]; omega
  · simp only [Bool.and_eq_true, inB_iff]; omega
theorem claims_bd (m x a y b : Int) : -2 ≤ claimsC m x a y b ∧ claimsC m x a y b ≤ 1 := by
  unfold claimsC
  split
  · unfold claimC cmpI
    repeat' split
    all_goals omega
  · omega
theorem counts_rng {xs : List Int} (h : countsOk xs = true) : 1 ≤ xs.length ∧ ∀ i, i < xs.length → 0 ≤ ix xs i ∧ ix xs i ≤ 1000000 := by
  have h5 := asked_of (m := 5) (by decide) (by decide) h (show (0 : Int) ≤ 0 by omega) (by omega)
  have F := j_facts h5
  exact ⟨F.n1, F.xb⟩
end Go.Proofs.Ytoajmckhfnaifaa
