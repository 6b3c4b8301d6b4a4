/- Lists of numbers and rows of them, copied. -/
import Derived.Test.YtmakbndlobaaaaaBaseR
import Derived.Test.YtmakbndlobaaaaaSmall
namespace Go.Proofs.Ytmakbndlobaaaaa
set_option linter.unusedVariables false
open Go.RowKit

set_option maxHeartbeats 400000 in
theorem clone_any (A : Option Addr) (n c : Nat) (xs : List Int) (w : World) (h : IntsAt w A n xs) (hn : n ≤ 1048576) :
    Calls Try.prog 43 #[.slice A n c] w fun e w' => ∃ A' c', e = .returned (.slice A' n c') ∧ OwnI w' w.heap.size w'.heap.size (.slice A' n c') xs ∧ Below w.heap.size w w' := by
  have he := Lib.run_eql_slice_nil (P := Try.prog) w 23 3 A n c 0 0 Try.underlying23
  cases A with
  | none =>
    have hn0 : n = 0 := by
      rcases Nat.eq_zero_or_pos n with h0 | h0
      · exact h0
      · obtain ⟨b, o, e, _⟩ := h.2 h0
        cases e
    subst hn0
    have hx : xs = [] := List.eq_nil_of_length_eq_zero h.1
    subst hx
    simp only [Option.isNone_none] at he
    go_enter Try.func43, Try.ntmps43
    go_wp2
    go_ret
    exact ⟨none, 0, rfl, OwnI.nil _ _ _, Below.refl _ _⟩
  | some a =>
    simp only [Option.isNone_some] at he
    have hb := (Below.refl w.heap.size w).alloc (Nat.le_refl _) (.cells #[] 3)
    go_enter Try.func43, Try.ntmps43
    go_wp2_with (at_builtin; refine wpList_append_ints _ rfl _ _ rfl w.heap.size (w.heap.size + 1) 0 0 _ [] rfl (OwnI.empty w (Nat.le_refl _) (by omega)) (some a) n c xs rfl (h.below hb) (by omega) (by simp) (by simp) ?_)
    intro A' c' w1 ho hon
    have hb2 := hb.trans (hon.toBelow (Nat.le_refl _) (by simp))
    clear hon hb he
    go_wp2
    go_ret
    exact ⟨_, _, rfl, ho, hb2⟩
end Go.Proofs.Ytmakbndlobaaaaa
