/- What the law on divisors asks, as plain facts. No program is walked here. -/
import Derived.Test.YtoajmckhfnaifaaDivJ
import Derived.Test.YtoajmckhfnaifaaCurN
namespace Go.Proofs.Ytoajmckhfnaifaa
set_option linter.unusedVariables false
open Go.RowKit

theorem asked_of {m : Int} {xs : List Int} {k : Int} (m1 : 1 ≤ m) (m5 : m ≤ 5) (hc : countsOk xs = true) (k0 : 0 ≤ k) (k1 : k ≤ 100) : seatsAskedB m xs k = true := by
  unfold seatsAskedB quotaOk
  rw [Bool.and_eq_true, Bool.and_eq_true, inB_iff, inB_iff]
  exact ⟨⟨m1, m5⟩, hc, k0, k1⟩
theorem seatsBy_len {m : Int} {xs : List Int} {k : Int} (h : seatsAskedB m xs k = true) : (seatsBy m xs k).length = xs.length := by rw [seatsBy_A h, seatsA_len]
theorem seatsBy_sum {m : Int} {xs : List Int} {k : Int} (h : seatsAskedB m xs k = true) : lsum (seatsBy m xs k) = k := by
  obtain ⟨m1, m5, k0, k1, n1, n6, hx⟩ := asked_facts h
  rw [seatsBy_A h, seatsA_sum (asked_divX h)]; omega
theorem seatsBy_bd {m : Int} {xs : List Int} {k : Int} (h : seatsAskedB m xs k = true) : ∀ x ∈ seatsBy m xs k, 0 ≤ x ∧ x ≤ 100 := fun x hx => by
  obtain ⟨m1, m5, k0, k1, n1, n6, _⟩ := asked_facts h
  rw [seatsBy_A h] at hx
  obtain ⟨i, hi, rfl⟩ := List.getElem_of_mem hx
  rw [← ix_lt hi]
  rw [seatsA_len] at hi
  have := seatsA_bd (m := m) (xs := xs) n1 k.toNat i hi
  omega
theorem seatsBy_fair {m : Int} {xs : List Int} {k : Int} (h : seatsAskedB m xs k = true) : isFair m xs (seatsBy m xs k) = true := by
  obtain ⟨m1, m5, k0, k1, n1, n6, _⟩ := asked_facts h
  have h2 := h
  unfold seatsAskedB at h2
  rw [Bool.and_eq_true] at h2
  have hc := (quotaOk_facts h2.2).1
  unfold isFair seatsOk
  simp only [Bool.and_eq_true, decide_eq_true_eq, List.all_eq_true]
  refine ⟨⟨h2.1, ⟨⟨hc, by rw [seatsBy_len h]⟩, fun x hx => inB_iff.2 (seatsBy_bd h x hx)⟩, by rw [seatsBy_sum h]; exact k1⟩, ?_⟩
  rw [seatsBy_A h]
  exact fairAll_iff.2 (seatsA_fair (asked_divX h) _)
theorem cntV_order {m : Int} {xs : List Int} (D : DivX m xs) (i : Nat) (hi : i < xs.length) : ∀ t T, t ≤ T → cntV (orderA m xs T) (i : Int) t = ix (seatsA m xs t) i
  | 0, T, _ => by rw [cntV, seatsA, ix_lt (by simpa using hi)]; simp
  | t + 1, T, h => by
    rw [cntV, cntV_order D i hi t T (by omega), ix_order T t (by omega), seatsA_next D t i]
    by_cases e : i = bestA m xs t
    · rw [if_pos (by omega), if_pos e]
    · rw [if_neg (by omega), if_neg e]
theorem seatOrder_cnt {m : Int} {xs : List Int} {k : Int} (h : seatsAskedB m xs k = true) {i : Nat} (hi : i < xs.length) : cntV (seatOrder m xs k) (i : Int) (seatOrder m xs k).length = ix (seatsBy m xs k) i := by
  rw [seatsBy_A h, seatOrder_yes h, orderA_len, cntV_order (asked_divX h) i hi _ _ (Nat.le_refl _)]
theorem seatsBy_mono {m : Int} {xs : List Int} {k : Int} (h : seatsAskedB m xs k = true) (h' : seatsAskedB m xs (k + 1) = true) {i : Nat} : ix (seatsBy m xs k) i ≤ ix (seatsBy m xs (k + 1)) i := by
  obtain ⟨m1, m5, k0, k1, n1, n6, _⟩ := asked_facts h
  rw [seatsBy_A h, seatsBy_A h', show (k + 1).toNat = k.toNat + 1 by omega, seatsA_next (asked_divX h)]
  split <;> omega
theorem fairCount {m : Int} {xs : List Int} {k : Int} (h : seatsAskedB m xs k = true) (h3 : xs.length ≤ 3) (hk : k ≤ 20) : 1 ≤ cntF m xs k ∧ (cntF m xs k = 1 ↔ isTied m xs k = false) := by
  have ha : fairAsk m xs k = true := by unfold fairAsk; rw [h]; simp [h3, hk]
  rw [cntF_yes ha]
  have := count_fair h
  exact ⟨by omega, by rw [← this.2]; omega⟩
end Go.Proofs.Ytoajmckhfnaifaa
