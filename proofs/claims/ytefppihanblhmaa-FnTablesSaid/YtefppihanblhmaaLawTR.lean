/- The helpers of the laws: laws.tables. -/
import Derived.Test.YtefppihanblhmaaLawT
import Derived.Test.YtefppihanblhmaaBaseR
namespace Go.Proofs.Ytefppihanblhmaa
set_option linter.unusedVariables false
open Go.RowKit
attribute [local go_sem ↓] Go.wp_at_zero Go.wp_at_succ

theorem tables_any (A A' : Option Addr) (n n' c c' : Nat) (xs ys : List (List Int)) (w : World) (h : RowsAt w A n xs) (h' : RowsAt w A' n' ys) (hn : n ≤ 1048576) (hn' : n' ≤ 1048576) (hx : ∀ r ∈ xs, r.length ≤ 1048576) (he : xs = ys) :
    Calls Try.prog 11 #[.slice A n c, .slice A' n' c'] w fun e w' => e = .returned (.bool true) ∧ w' = w := by
  subst he
  have HX := Lib.hid hx
  clear hx
  have e1 := h.len
  have e2 := h'.len
  obtain rfl : n = n' := by omega
  obtain rfl := e1
  clear e2
  go_enter Try.func11, Try.ntmps11
  go_wp2
  go_loop [5, 6, 14] (fun _ _ i => ∃ k : Nat, k ≤ xs.length ∧ i = .int .i64 k) (fun _ _ i => xs.length - (intOf i).toNat)
  case atStart => exact ⟨0, Nat.zero_le _, rfl⟩
  case round =>
    obtain ⟨k, hk, rfl⟩ := hrel
    by_cases hlt : k < xs.length
    · obtain ⟨b, o, B, d, ea, hb, hc, hd, hin⟩ := h.at_ hlt
      obtain ⟨b', o', B', d', ea', hb', hc', hd', hin'⟩ := h'.at_ hlt
      cases ea
      cases ea'
      have hr := HX.out _ (rx_mem hlt)
      go_wp2_with fail
      (with_reducible refine (same_any _ _ _ _ _ _ _ _ _ hin hin' (by omega) (by omega) rfl).mono ?_)
      rintro e w1 ⟨rfl, rfl⟩
      go_wp2_with fail
      go_round
      case rel => exact ⟨k + 1, by omega, by go_num⟩
      case measure => simp [intOf]; omega
    · obtain rfl : k = xs.length := by omega
      go_wp2_with fail
      go_ret
      exact ⟨rfl, rfl⟩

end Go.Proofs.Ytefppihanblhmaa
