/- Lists that are rounded; copies of rows. -/
import Derived.Test.YtcanmmmlppkamaaBaseR
import Derived.Test.YtcanmmmlppkamaaSmall
namespace Go.Proofs.Ytcanmmmlppkamaa
set_option linter.unusedVariables false
open Go.RowKit

def allRnd (xs ys : List Int) : Bool := allN (fun i => isRnd (ix xs i) (ix ys i)) xs.length

theorem areRounded_any (A A' : Option Addr) (n n' c c' : Nat) (xs ys : List Int) (w : World) (h : IntsAt w A n xs) (h' : IntsAt w A' n' ys) (hn : n ≤ 1048576) (hnn : n ≤ n') :
    Calls Try.prog 45 #[.slice A n c, .slice A' n' c'] w fun e w' => e = .returned (.bool (allRnd xs ys)) ∧ w = w' := by
  obtain rfl := h.len
  unfold allRnd
  go_enter Try.func45, Try.ntmps45
  go_wp2
  go_loop [5, 6, 9] (fun _ _ i => ∃ k : Nat, k ≤ xs.length ∧ i = .int .i64 k ∧ allN (fun i => isRnd (ix xs i) (ix ys i)) k = true) (fun _ _ i => xs.length - (intOf i).toNat)
  case atStart => exact ⟨0, Nat.zero_le _, rfl, rfl⟩
  case round =>
    obtain ⟨k, hk, rfl, hall⟩ := hrel
    have HA := Lib.hid hall
    clear hall
    by_cases hlt : k < xs.length
    · obtain ⟨b, o, rfl, _, hc⟩ := h.at_ hlt
      obtain ⟨b2, o2, rfl, _, hc2⟩ := h'.at_ (k := k) (by omega)
      have hck := hc k hlt
      have hck2 := hc2 k (by omega)
      clear hc hc2
      cases hr : isRnd (ix xs k) (ix ys k)
      · have HF := Lib.hid (allN_false (p := fun i => isRnd (ix xs i) (ix ys i)) hlt hr)
        go_wp2_with (go_at_call 12; refine (implIsRoundedTo _ _ _).mono ?_; rintro e w' ⟨rfl, rfl⟩)
        go_ret
        exact ⟨ret_b HF.out.symm, rfl⟩
      · have HN := Lib.hid (allN_step HA.out hr)
        go_wp2_with (go_at_call 12; refine (implIsRoundedTo _ _ _).mono ?_; rintro e w' ⟨rfl, rfl⟩)
        go_round
        case rel => exact ⟨k + 1, by omega, by go_num, HN.out⟩
        case measure => simp [intOf]; omega
    · obtain rfl : k = xs.length := by omega
      go_wp2
      go_ret
      exact ⟨ret_b HA.out.symm, rfl⟩

theorem l16All_any (A A' : Option Addr) (n n' c c' : Nat) (xs ys : List Int) (w : World) (h : IntsAt w A n xs) (h' : IntsAt w A' n' ys) (hn : n ≤ 1048576) (hnn : n ≤ n') :
    Calls Try.prog 44 #[.slice A n c, .slice A' n' c'] w fun e w' => e = .returned (.bool (allRnd xs ys)) ∧ w = w' := by
  obtain rfl := h.len
  unfold allRnd
  go_enter Try.func44, Try.ntmps44
  go_wp2
  go_loop [5, 6, 9] (fun _ _ i => ∃ k : Nat, k ≤ xs.length ∧ i = .int .i64 k ∧ allN (fun i => isRnd (ix xs i) (ix ys i)) k = true) (fun _ _ i => xs.length - (intOf i).toNat)
  case atStart => exact ⟨0, Nat.zero_le _, rfl, rfl⟩
  case round =>
    obtain ⟨k, hk, rfl, hall⟩ := hrel
    have HA := Lib.hid hall
    clear hall
    by_cases hlt : k < xs.length
    · obtain ⟨b, o, rfl, _, hc⟩ := h.at_ hlt
      obtain ⟨b2, o2, rfl, _, hc2⟩ := h'.at_ (k := k) (by omega)
      have hck := hc k hlt
      have hck2 := hc2 k (by omega)
      clear hc hc2
      cases hr : isRnd (ix xs k) (ix ys k)
      · have HF := Lib.hid (allN_false (p := fun i => isRnd (ix xs i) (ix ys i)) hlt hr)
        go_wp2_with (go_at_call 11; refine (specIsRoundedTo _ _ _).mono ?_; rintro e w' ⟨rfl, rfl⟩)
        go_ret
        exact ⟨ret_b HF.out.symm, rfl⟩
      · have HN := Lib.hid (allN_step HA.out hr)
        go_wp2_with (go_at_call 11; refine (specIsRoundedTo _ _ _).mono ?_; rintro e w' ⟨rfl, rfl⟩)
        go_round
        case rel => exact ⟨k + 1, by omega, by go_num, HN.out⟩
        case measure => simp [intOf]; omega
    · obtain rfl : k = xs.length := by omega
      go_wp2
      go_ret
      exact ⟨ret_b HA.out.symm, rfl⟩

set_option maxHeartbeats 400000 in
theorem clone_any (A : Option Addr) (n c : Nat) (xs : List Int) (w : World) (h : IntsAt w A n xs) (hn : n ≤ 1048576) :
    Calls Try.prog 49 #[.slice A n c] w fun e w' => ∃ A' c', e = .returned (.slice A' n c') ∧ OwnI w' w.heap.size w'.heap.size (.slice A' n c') xs ∧ Below w.heap.size w w' := by
  have he := Lib.run_eql_slice_nil (P := Try.prog) w 29 3 A n c 0 0 Try.underlying29
  cases A with
  | none =>
    have hn0 : n = 0 := by
      rcases Nat.eq_zero_or_pos n with h0 | h0
      · exact h0
      · obtain ⟨b, o, e, _⟩ := h.2 h0
        cases e
    subst hn0
    have hx : xs = [] := List.eq_nil_of_length_eq_zero h.1
    subst hx
    simp only [Option.isNone_none] at he
    go_enter Try.func49, Try.ntmps49
    go_wp2
    go_ret
    exact ⟨none, 0, rfl, OwnI.nil _ _ _, Below.refl _ _⟩
  | some a =>
    simp only [Option.isNone_some] at he
    have hb := (Below.refl w.heap.size w).alloc (Nat.le_refl _) (.cells #[] 3)
    go_enter Try.func49, Try.ntmps49
    go_wp2_with (at_builtin; refine wpList_append_ints _ rfl _ _ rfl w.heap.size (w.heap.size + 1) 0 0 _ [] rfl (OwnI.empty w (Nat.le_refl _) (by omega)) (some a) n c xs rfl (h.below hb) (by omega) (by simp) (by simp) ?_)
    intro A' c' w1 ho hon
    have hb2 := hb.trans (hon.toBelow (Nat.le_refl _) (by simp))
    clear hon hb he
    go_wp2
    go_ret
    exact ⟨_, _, rfl, ho, hb2⟩
set_option maxHeartbeats 400000 in
theorem copyRows_any (A : Option Addr) (n c : Nat) (xss : List (List Int)) (w : World) (h : RowsAt w A n xss) (hn : n ≤ 1048576) (hx : ∀ xs ∈ xss, xs.length ≤ 1048576) :
    Calls Try.prog 43 #[.slice A n c] w fun e w' => ∃ A' c', e = .returned (.slice A' n c') ∧ OwnR w' w.heap.size w'.heap.size (.slice A' n c') xss ∧ Below w.heap.size w w' := by
  obtain rfl := h.len
  have HX := Lib.hid hx
  clear hx
  go_enter Try.func43, Try.ntmps43
  go_wp2
  go_loopw [3, 5, 8] (fun v _ i wr => ∃ (k : Nat) (A' : Option Addr) (c' : Nat), k ≤ xss.length ∧ i = .int .i64 k ∧ v = .slice A' k c' ∧ OwnR wr w.heap.size wr.heap.size (.slice A' k c') (xss.take k) ∧ Below w.heap.size w wr)
    (fun _ _ i _ => xss.length - (intOf i).toNat)
  case atStart => exact ⟨0, none, 0, Nat.zero_le _, rfl, rfl, OwnR.nil _ _ _, Below.refl _ _⟩
  case round =>
    obtain ⟨k, A1, c1, hk, rfl, rfl, hown, hb⟩ := hrel
    by_cases hlt : k < xss.length
    · obtain ⟨b, o, A', c', rfl, hbl, hck, hcc, hin⟩ := (h.below hb).at_ hlt
      have hxl := HX.out _ (rx_mem hlt)
      have hsz := hb.size
      go_wp2_with fail
      refine (clone_any A' _ c' (rx xss k) _ hin hxl).mono ?_
      rintro e w2 ⟨A2, c2, rfl, ho2, hb2⟩
      have hs2 := hb2.size
      replace hown := hown.belowW hb2
      replace hb := hb.trans (hb2.mono hsz)
      clear hb2 hck
      go_wp2_with (at_builtin; refine wpList_append_row _ rfl _ _ rfl w.heap.size wr.heap.size k _ _ _ rfl (hown.alloc _) A2 _ c2 (rx xss k) _ _ (ho2.alloc _) (Nat.le_refl _) (by simp) _ 1 rfl (new_cell _ _ _ rfl) (by omega) hsz (by simp; omega) ?_)
      intro A3 c3 w3 ho3 hon
      rw [← take_rx hlt] at ho3
      have hb3 : Below w.heap.size w w3 := (hb.alloc (by omega) _).trans (hon.toBelow (Nat.le_refl _) (by simp; omega))
      clear hon hown hb ho2
      go_wp2
      go_roundw
      case rel => exact ⟨k + 1, _, _, by omega, by go_num, rfl, ho3, hb3⟩
      case measure => simp [intOf]; omega
    · obtain rfl : k = xss.length := by omega
      rw [List.take_length] at hown
      go_wp2
      go_ret
      exact ⟨_, _, rfl, hown, hb⟩
end Go.Proofs.Ytcanmmmlppkamaa
