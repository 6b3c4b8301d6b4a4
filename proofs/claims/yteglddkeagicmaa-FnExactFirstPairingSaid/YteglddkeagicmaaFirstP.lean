/- The first stable pairing. -/
import Derived.Test.YteglddkeagicmaaStabPair
namespace Go.Proofs.Yteglddkeagicmaa
set_option linter.unusedVariables false
open Go.RowKit

def firstP (xss : List (List Int)) : List Int := rx (stablePairings xss) 0
def firstOk (xss : List (List Int)) : Bool := decide (0 < (stablePairings xss).length)
set_option maxHeartbeats 800000 in
theorem implFirstPairing (A : Option Addr) (n c : Nat) (xss : List (List Int)) (w : World) (h : RowsAt w A n xss) (hn : n ≤ 1048576) (hx : ∀ xs ∈ xss, xs.length ≤ 1048576) :
    Calls Try.prog 35 #[.slice A n c] w fun e w' => ∃ A' c', e = .returned (.tuple #[.slice A' (firstP xss).length c', .bool (firstOk xss)]) ∧ OwnI w' w.heap.size w'.heap.size (.slice A' (firstP xss).length c') (firstP xss) ∧ (firstP xss).length ≤ 1048576 ∧ Below w.heap.size w w' := by
  have HX := Lib.hid hx
  clear hx
  unfold firstP firstOk
  by_cases h0 : (stablePairings xss).length = 0
  · have h00 : stablePairings xss = [] := List.eq_nil_of_length_eq_zero h0
    rw [h00]
    go_enter Try.func35, Try.ntmps35
    go_wp2_with fail
    (with_reducible refine (implStablePairings _ _ _ _ _ h hn HX.out).mono ?_)
    rintro e w1 ⟨A1, c1, rfl, o1, _, _, b1⟩
    rw [h00] at o1 ⊢
    clear h0 h00 o1
    go_wp2
    go_ret2
    exact ⟨none, 0, rfl, OwnI.nil _ _ _, by simp [rx], b1⟩
  · have hp : 0 < (stablePairings xss).length := by omega
    have e0 : (((stablePairings xss).length : Int) == 0) = false := by rw [beq_eq_false_iff_ne]; omega
    have hd : decide (0 < (stablePairings xss).length) = true := by simp [hp]
    rw [hd]
    have HB := Lib.hid (stablePairings_bd (xss := xss)).2
    go_enter Try.func35, Try.ntmps35
    go_wp2_with fail
    (with_reducible refine (implStablePairings _ _ _ _ _ h hn HX.out).mono ?_)
    rintro e w1 ⟨A1, c1, rfl, o1, _, _, b1⟩
    have hi : (0 : Int) < ((stablePairings xss).length : Int) := by omega
    obtain ⟨g, rfl, _, _, _⟩ := o1.head hp
    obtain ⟨_, A2, c2, hc, o2⟩ := o1.row 0 hp
    have hl := HB.out _ (rx_mem hp)
    clear hd
    go_wp2
    go_ret2
    exact ⟨_, _, rfl, o2, hl, b1⟩
set_option maxHeartbeats 800000 in
theorem specFirstPairing (A : Option Addr) (n c : Nat) (xss : List (List Int)) (w : World) (h : RowsAt w A n xss) (hn : n ≤ 1048576) (hx : ∀ xs ∈ xss, xs.length ≤ 1048576) :
    Calls Try.prog 34 #[.slice A n c] w fun e w' => ∃ A' c', e = .returned (.tuple #[.slice A' (firstP xss).length c', .bool (firstOk xss)]) ∧ OwnI w' w.heap.size w'.heap.size (.slice A' (firstP xss).length c') (firstP xss) ∧ (firstP xss).length ≤ 1048576 ∧ Below w.heap.size w w' := by
  have HX := Lib.hid hx
  clear hx
  unfold firstP firstOk
  by_cases h0 : (stablePairings xss).length = 0
  · have h00 : stablePairings xss = [] := List.eq_nil_of_length_eq_zero h0
    rw [h00]
    go_enter Try.func34, Try.ntmps34
    go_wp2_with fail
    (with_reducible refine (specStablePairings _ _ _ _ _ h hn HX.out).mono ?_)
    rintro e w1 ⟨A1, c1, rfl, o1, _, _, b1⟩
    rw [h00] at o1 ⊢
    clear h0 h00 o1
    go_wp2
    go_ret2
    exact ⟨none, 0, rfl, OwnI.nil _ _ _, by simp [rx], b1⟩
  · have hp : 0 < (stablePairings xss).length := by omega
    have e0 : (((stablePairings xss).length : Int) == 0) = false := by rw [beq_eq_false_iff_ne]; omega
    have hd : decide (0 < (stablePairings xss).length) = true := by simp [hp]
    rw [hd]
    have HB := Lib.hid (stablePairings_bd (xss := xss)).2
    go_enter Try.func34, Try.ntmps34
    go_wp2_with fail
    (with_reducible refine (specStablePairings _ _ _ _ _ h hn HX.out).mono ?_)
    rintro e w1 ⟨A1, c1, rfl, o1, _, _, b1⟩
    have hi : (0 : Int) < ((stablePairings xss).length : Int) := by omega
    obtain ⟨g, rfl, _, _, _⟩ := o1.head hp
    obtain ⟨_, A2, c2, hc, o2⟩ := o1.row 0 hp
    have hl := HB.out _ (rx_mem hp)
    clear hd
    go_wp2
    go_ret2
    exact ⟨_, _, rfl, o2, hl, b1⟩
end Go.Proofs.Yteglddkeagicmaa
