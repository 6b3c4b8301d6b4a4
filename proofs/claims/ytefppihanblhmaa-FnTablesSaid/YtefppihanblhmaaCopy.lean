/- Lists of numbers and rows of them, copied. -/
import Derived.Test.YtefppihanblhmaaBaseR
import Derived.Test.YtefppihanblhmaaSmall
namespace Go.Proofs.Ytefppihanblhmaa
set_option linter.unusedVariables false
open Go.RowKit

set_option maxHeartbeats 400000 in
theorem clone_any (A : Option Addr) (n c : Nat) (xs : List Int) (w : World) (h : IntsAt w A n xs) (hn : n ≤ 1048576) :
    Calls Try.prog 32 #[.slice A n c] w fun e w' => ∃ A' c', e = .returned (.slice A' n c') ∧ OwnI w' w.heap.size w'.heap.size (.slice A' n c') xs ∧ Below w.heap.size w w' := by
  have he := Lib.run_eql_slice_nil (P := Try.prog) w 32 3 A n c 0 0 Try.underlying32
  cases A with
  | none =>
    have hn0 : n = 0 := by
      rcases Nat.eq_zero_or_pos n with h0 | h0
      · exact h0
      · obtain ⟨b, o, e, _⟩ := h.2 h0
        cases e
    subst hn0
    have hx : xs = [] := List.eq_nil_of_length_eq_zero h.1
    subst hx
    simp only [Option.isNone_none] at he
    go_enter Try.func32, Try.ntmps32
    go_wp2
    go_ret
    exact ⟨none, 0, rfl, OwnI.nil _ _ _, Below.refl _ _⟩
  | some a =>
    simp only [Option.isNone_some] at he
    have hb := (Below.refl w.heap.size w).alloc (Nat.le_refl _) (.cells #[] 3)
    go_enter Try.func32, Try.ntmps32
    go_wp2_with (at_builtin; refine wpList_append_ints _ rfl _ _ rfl w.heap.size (w.heap.size + 1) 0 0 _ [] rfl (OwnI.empty w (Nat.le_refl _) (by omega)) (some a) n c xs rfl (h.below hb) (by omega) (by simp) (by simp) ?_)
    intro A' c' w1 ho hon
    have hb2 := hb.trans (hon.toBelow (Nat.le_refl _) (by simp))
    clear hon hb he
    go_wp2
    go_ret
    exact ⟨_, _, rfl, ho, hb2⟩
set_option maxHeartbeats 400000 in
theorem copyRows_any (A : Option Addr) (n c : Nat) (xss : List (List Int)) (w : World) (h : RowsAt w A n xss) (hn : n ≤ 1048576) (hx : ∀ xs ∈ xss, xs.length ≤ 1048576) :
    Calls Try.prog 21 #[.slice A n c] w fun e w' => ∃ A' c', e = .returned (.slice A' n c') ∧ OwnR w' w.heap.size w'.heap.size (.slice A' n c') xss ∧ Below w.heap.size w w' := by
  obtain rfl := h.len
  have HX := Lib.hid hx
  clear hx
  go_enter Try.func21, Try.ntmps21
  go_wp2
  go_loopw [3, 5, 8] (fun v _ i wr => ∃ (k : Nat) (A' : Option Addr) (c' : Nat), k ≤ xss.length ∧ i = .int .i64 k ∧ v = .slice A' k c' ∧ OwnR wr w.heap.size wr.heap.size (.slice A' k c') (xss.take k) ∧ Below w.heap.size w wr)
    (fun _ _ i _ => xss.length - (intOf i).toNat)
  case atStart => exact ⟨0, none, 0, Nat.zero_le _, rfl, rfl, OwnR.nil _ _ _, Below.refl _ _⟩
  case round =>
    obtain ⟨k, A1, c1, hk, rfl, rfl, hown, hb⟩ := hrel
    by_cases hlt : k < xss.length
    · obtain ⟨b, o, A', c', rfl, hbl, hck, hcc, hin⟩ := (h.below hb).at_ hlt
      have hxl := HX.out _ (rx_mem hlt)
      have hsz := hb.size
      go_wp2_with fail
      refine (clone_any A' _ c' (rx xss k) _ hin hxl).mono ?_
      rintro e w2 ⟨A2, c2, rfl, ho2, hb2⟩
      have hs2 := hb2.size
      replace hown := hown.belowW hb2
      replace hb := hb.trans (hb2.mono hsz)
      clear hb2 hck
      go_wp2_with (at_builtin; refine wpList_append_row _ rfl _ _ rfl w.heap.size wr.heap.size k _ _ _ rfl (hown.alloc _) A2 _ c2 (rx xss k) _ _ (ho2.alloc _) (Nat.le_refl _) (by simp) _ 1 rfl (new_cell _ _ _ rfl) (by omega) hsz (by simp; omega) ?_)
      intro A3 c3 w3 ho3 hon
      rw [← take_rx hlt] at ho3
      have hb3 : Below w.heap.size w w3 := (hb.alloc (by omega) _).trans (hon.toBelow (Nat.le_refl _) (by simp; omega))
      clear hon hown hb ho2
      go_wp2
      go_roundw
      case rel => exact ⟨k + 1, _, _, by omega, by go_num, rfl, ho3, hb3⟩
      case measure => simp [intOf]; omega
    · obtain rfl : k = xss.length := by omega
      rw [List.take_length] at hown
      go_wp2
      go_ret
      exact ⟨_, _, rfl, hown, hb⟩
end Go.Proofs.Ytefppihanblhmaa
