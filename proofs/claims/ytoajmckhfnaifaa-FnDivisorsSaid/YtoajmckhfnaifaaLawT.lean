/- The helpers of the laws: laws.same, sum. -/
import Derived.Test.YtoajmckhfnaifaaSums
import Derived.Deep.DrawnRows
import Derived.Deep.DeepCutAuto
namespace Go.Proofs.Ytoajmckhfnaifaa
set_option linter.unusedVariables false
open Go.RowKit
attribute [local go_sem ↓] Go.wp_at_zero Go.wp_at_succ


theorem sum_any (A : Option Addr) (n c : Nat) (xs : List Int) (w : World) (h : IntsAt w A n xs) (hn : n ≤ 1048576) (hx : ∀ x ∈ xs, 0 ≤ x ∧ x ≤ 1000000) :
    Calls Try.prog 8 #[.slice A n c] w fun e w' => e = .returned (.int .i64 (lsum xs)) ∧ w' = w := by
  have HX := Lib.hid hx
  clear hx
  obtain rfl := h.len
  go_enter Try.func8, Try.ntmps8
  go_wp2
  go_loop [3, 5, 8] (fun s _ i => ∃ k : Nat, k ≤ xs.length ∧ i = .int .i64 k ∧ s = .int .i64 (lsum (xs.take k))) (fun _ _ i => xs.length - (intOf i).toNat)
  case atStart => exact ⟨0, Nat.zero_le _, rfl, rfl⟩
  case round =>
    obtain ⟨k, hk, rfl, rfl⟩ := hrel
    by_cases hlt : k < xs.length
    · obtain ⟨b, o, rfl, _, hc⟩ := h.at_ hlt
      have hck := hc k hlt
      clear hc
      have hst := lsum_take hlt
      have b1 := lsum_bd (xs.take k) 1000000 fun x hx => HX.out x (List.mem_of_mem_take hx)
      have b2 := HX.out _ (ix_mem hlt)
      rw [List.length_take, Nat.min_eq_left (by omega)] at b1
      have b3 : (k : Int) * 1000000 ≤ 1048576 * 1000000 := Int.mul_le_mul_of_nonneg_right (by omega) (by decide)
      have b4 : lsum (xs.take k) ≤ 1048576000000 := by have := b1.2; omega
      have b5 := b1.1
      clear b1 b3
      generalize lsum (xs.take k) = s at *
      go_wp2
      go_round
      case rel => exact ⟨k + 1, by omega, by go_num, by rw [hst]⟩
      case measure => simp [intOf]; omega
    · obtain rfl : k = xs.length := by omega
      rw [List.take_length]
      go_wp2
      go_ret
      exact ⟨rfl, rfl⟩
end Go.Proofs.Ytoajmckhfnaifaa
