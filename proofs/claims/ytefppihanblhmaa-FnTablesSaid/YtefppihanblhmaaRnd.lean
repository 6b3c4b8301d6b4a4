/- Lists that are rounded; copies of rows. -/
import Derived.Test.YtefppihanblhmaaBaseR
import Derived.Test.YtefppihanblhmaaSmall
import Derived.Test.YtefppihanblhmaaCopy
namespace Go.Proofs.Ytefppihanblhmaa
set_option linter.unusedVariables false
open Go.RowKit

def allRnd (xs ys : List Int) : Bool := allN (fun i => isRnd (ix xs i) (ix ys i)) xs.length

theorem areRounded_any (A A' : Option Addr) (n n' c c' : Nat) (xs ys : List Int) (w : World) (h : IntsAt w A n xs) (h' : IntsAt w A' n' ys) (hn : n ≤ 1048576) (hnn : n ≤ n') :
    Calls Try.prog 23 #[.slice A n c, .slice A' n' c'] w fun e w' => e = .returned (.bool (allRnd xs ys)) ∧ w = w' := by
  obtain rfl := h.len
  unfold allRnd
  go_enter Try.func23, Try.ntmps23
  go_wp2
  go_loop [5, 6, 9] (fun _ _ i => ∃ k : Nat, k ≤ xs.length ∧ i = .int .i64 k ∧ allN (fun i => isRnd (ix xs i) (ix ys i)) k = true) (fun _ _ i => xs.length - (intOf i).toNat)
  case atStart => exact ⟨0, Nat.zero_le _, rfl, rfl⟩
  case round =>
    obtain ⟨k, hk, rfl, hall⟩ := hrel
    have HA := Lib.hid hall
    clear hall
    by_cases hlt : k < xs.length
    · obtain ⟨b, o, rfl, _, hc⟩ := h.at_ hlt
      obtain ⟨b2, o2, rfl, _, hc2⟩ := h'.at_ (k := k) (by omega)
      have hck := hc k hlt
      have hck2 := hc2 k (by omega)
      clear hc hc2
      cases hr : isRnd (ix xs k) (ix ys k)
      · have HF := Lib.hid (allN_false (p := fun i => isRnd (ix xs i) (ix ys i)) hlt hr)
        go_wp2_with (go_at_call 17; refine (implIsRoundedTo _ _ _).mono ?_; rintro e w' ⟨rfl, rfl⟩)
        go_ret
        exact ⟨ret_b HF.out.symm, rfl⟩
      · have HN := Lib.hid (allN_step HA.out hr)
        go_wp2_with (go_at_call 17; refine (implIsRoundedTo _ _ _).mono ?_; rintro e w' ⟨rfl, rfl⟩)
        go_round
        case rel => exact ⟨k + 1, by omega, by go_num, HN.out⟩
        case measure => simp [intOf]; omega
    · obtain rfl : k = xs.length := by omega
      go_wp2
      go_ret
      exact ⟨ret_b HA.out.symm, rfl⟩


end Go.Proofs.Ytefppihanblhmaa
