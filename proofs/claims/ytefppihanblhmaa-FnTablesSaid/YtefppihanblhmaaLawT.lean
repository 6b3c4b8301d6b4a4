/- The helpers of the laws: laws.same, sum. -/
import Derived.Test.YtefppihanblhmaaSums
import Derived.Deep.DrawnRows
import Derived.Deep.DeepCutAuto
namespace Go.Proofs.Ytefppihanblhmaa
set_option linter.unusedVariables false
open Go.RowKit
attribute [local go_sem ↓] Go.wp_at_zero Go.wp_at_succ

theorem same_any (A A' : Option Addr) (n n' c c' : Nat) (xs ys : List Int) (w : World) (h : IntsAt w A n xs) (h' : IntsAt w A' n' ys) (hn : n ≤ 1048576) (hn' : n' ≤ 1048576) (he : xs = ys) :
    Calls Try.prog 12 #[.slice A n c, .slice A' n' c'] w fun e w' => e = .returned (.bool true) ∧ w' = w := by
  subst he
  have e1 := h.len
  have e2 := h'.len
  obtain rfl : n = n' := by omega
  obtain rfl := e1
  clear e2
  go_enter Try.func12, Try.ntmps12
  go_wp2
  go_loop [5, 6, 14] (fun _ _ i => ∃ k : Nat, k ≤ xs.length ∧ i = .int .i64 k) (fun _ _ i => xs.length - (intOf i).toNat)
  case atStart => exact ⟨0, Nat.zero_le _, rfl⟩
  case round =>
    obtain ⟨k, hk, rfl⟩ := hrel
    by_cases hlt : k < xs.length
    · obtain ⟨b, o, rfl, _, hc⟩ := h.at_ hlt
      obtain ⟨b', o', rfl, _, hc'⟩ := h'.at_ hlt
      have hck := hc k hlt
      have hck' := hc' k hlt
      clear hc hc'
      go_wp2
      go_round
      case rel => exact ⟨k + 1, by omega, by go_num⟩
      case measure => simp [intOf]; omega
    · obtain rfl : k = xs.length := by omega
      go_wp2
      go_ret
      exact ⟨rfl, rfl⟩

theorem sum_any (A : Option Addr) (n c : Nat) (xs : List Int) (w : World) (h : IntsAt w A n xs) (hn : n ≤ 1048576) (hx : ∀ x ∈ xs, 0 ≤ x ∧ x ≤ 1000000) :
    Calls Try.prog 15 #[.slice A n c] w fun e w' => e = .returned (.int .i64 (lsum xs)) ∧ w' = w := by
  have HX := Lib.hid hx
  clear hx
  obtain rfl := h.len
  go_enter Try.func15, Try.ntmps15
  go_wp2
  go_loop [3, 5, 8] (fun s _ i => ∃ k : Nat, k ≤ xs.length ∧ i = .int .i64 k ∧ s = .int .i64 (lsum (xs.take k))) (fun _ _ i => xs.length - (intOf i).toNat)
  case atStart => exact ⟨0, Nat.zero_le _, rfl, rfl⟩
  case round =>
    obtain ⟨k, hk, rfl, rfl⟩ := hrel
    by_cases hlt : k < xs.length
    · obtain ⟨b, o, rfl, _, hc⟩ := h.at_ hlt
      have hck := hc k hlt
      clear hc
      have hst := lsum_take hlt
      have b1 := lsum_bd (xs.take k) 1000000 fun x hx => HX.out x (List.mem_of_mem_take hx)
      have b2 := HX.out _ (ix_mem hlt)
      rw [List.length_take, Nat.min_eq_left (by omega)] at b1
      have b3 : (k : Int) * 1000000 ≤ 1048576 * 1000000 := Int.mul_le_mul_of_nonneg_right (by omega) (by decide)
      have b4 : lsum (xs.take k) ≤ 1048576000000 := by have := b1.2; omega
      have b5 := b1.1
      clear b1 b3
      generalize lsum (xs.take k) = s at *
      go_wp2
      go_round
      case rel => exact ⟨k + 1, by omega, by go_num, by rw [hst]⟩
      case measure => simp [intOf]; omega
    · obtain rfl : k = xs.length := by omega
      rw [List.take_length]
      go_wp2
      go_ret
      exact ⟨rfl, rfl⟩
end Go.Proofs.Ytefppihanblhmaa
