/- The laws' own helpers on slices of integers: copies, comparison, marks. -/
import Derived.Test.YtnoanomihifobaaDoorBase
namespace Go.Proofs.YtnoanomihifobaaDoor
set_option linter.unusedVariables false
open Go.RowKit

theorem copy_set (xs : List Int) (k : Nat) (hk : k < xs.length) (n : Nat) (hn : n = xs.length) : (xs.take k ++ List.replicate (n - k) 0).set k (ix xs k) = xs.take (k + 1) ++ List.replicate (n - (k + 1)) 0 := by
  subst hn
  apply List.ext_getElem?
  intro j
  rw [ix_lt hk]
  by_cases h1 : j < k
  · rw [List.getElem?_set_ne (by omega), List.getElem?_append_left (by simp; omega), List.getElem?_append_left (by simp; omega)]
    simp [h1, show j < k + 1 by omega]
  · by_cases h2 : j = k
    · subst h2
      rw [List.getElem?_set_self (by simp; omega), List.getElem?_append_left (by simp; omega)]
      simp [hk]
    · rw [List.getElem?_set_ne (by omega), List.getElem?_append_right (by simp; omega), List.getElem?_append_right (by simp; omega)]
      simp only [List.length_take, List.getElem?_replicate]
      have a1 : min k xs.length = k := by omega
      have a2 : min (k + 1) xs.length = k + 1 := by omega
      rw [a1, a2]
      by_cases h3 : j < xs.length
      · rw [if_pos (by omega), if_pos (by omega)]
      · rw [if_neg (by omega), if_neg (by omega)]


theorem eqIntS_eq (A A' : Option Addr) (n n' c c' : Nat) (xs : List Int) (w : World) (h : IntsAt w A n xs) (h' : IntsAt w A' n' xs) (hn : n ≤ 1099511627776) :
    Calls Tryd.prog 31 #[.slice A n c, .slice A' n' c'] w fun e w' => e = .returned (.bool true) ∧ ∃ m, w' = w.drewN m := by
  obtain rfl : n' = n := by rw [← h.len, ← h'.len]
  go_enter Tryd.func31, Tryd.ntmps31
  go_wp2
  go_loopw [5] (fun i wr => ∃ k m : Nat, k ≤ n' ∧ i = .int .i64 k ∧ wr = w.drewN m) (fun i _ => n' - (intOf i).toNat)
  case atStart => exact ⟨0, 0, Nat.zero_le _, rfl, rfl⟩
  case round =>
    obtain ⟨k, m, hk, rfl, rfl⟩ := hrel
    by_cases hlt : k < n'
    · obtain ⟨b, o, rfl, _, hc⟩ := h.at_ hlt
      obtain ⟨b2, o2, rfl, _, hc2⟩ := h'.at_ hlt
      have hck := hc k hlt
      have hck2 := hc2 k hlt
      clear hc hc2
      go_wp2
      go_quiet (fail)
      go_wp2
      go_roundw
      case rel => exact ⟨k + 1, _, by omega, by go_num, rfl⟩
      case measure => simp [intOf]; omega
    · obtain rfl : k = n' := by omega
      go_wp2
      go_ret
      exact ⟨rfl, _, rfl⟩

def marks (k : Int) (n : Nat) : List Int := (List.range n).map fun (j : Nat) => k + (j : Int)
theorem marks_len (k : Int) (n : Nat) : (marks k n).length = n := by simp [marks]
theorem ix_marks (k : Int) (n j : Nat) (h : j < n) : ix (marks k n) j = k + (j : Int) := by rw [ix_lt (by rw [marks_len]; exact h)]; simp [marks]
theorem marks_set (k : Int) (xs : List Int) (j : Nat) (h : j < xs.length) : (marks k j ++ xs.drop j).set j (k + (j : Int)) = marks k (j + 1) ++ xs.drop (j + 1) := by
  have e := List.drop_eq_getElem_cons h
  rw [List.set_append_right _ _ (by simp [marks])]
  simp only [marks, List.length_map, List.length_range, Nat.sub_self, List.range_succ, List.map_append, List.map_cons, List.map_nil, List.append_assoc, List.cons_append, List.nil_append]
  rw [e]
  rfl

set_option maxHeartbeats 400000 in
theorem markIntS_any (A : Option Addr) (n c lo hi : Nat) (xs : List Int) (k0 : Int) (w : World) (h : OwnI w lo hi (.slice A n c) xs) (hn : n ≤ 1099511627776) (h0 : 0 ≤ k0) (h1 : k0 ≤ 1152921504606846976) :
    Calls Tryd.prog 32 #[.slice A n c, .int .i64 k0] w fun e w' => e = .returned (.int .i64 (k0 + n)) ∧ OwnI w' lo hi (.slice A n c) (marks k0 n) ∧ Only lo hi w w' := by
  have hl := h.ints.2.1
  go_enter Tryd.func32, Tryd.ntmps32
  go_wp2
  go_loopw [1, 5] (fun kk i wr => ∃ k : Nat, k ≤ n ∧ i = .int .i64 k ∧ kk = .int .i64 (k0 + k) ∧ OwnI wr lo hi (.slice A n c) (marks k0 k ++ xs.drop k) ∧ Only lo hi w wr)
    (fun _ i _ => n - (intOf i).toNat)
  case atStart => exact ⟨0, Nat.zero_le _, rfl, by simp, by simpa [marks] using h, Only.refl _ _ _⟩
  case round =>
    obtain ⟨k, hk, rfl, rfl, hown, hg⟩ := hrel
    by_cases hlt : k < n
    · obtain ⟨g, rfl, hg1, hg2⟩ := hown.head (by omega)
      have hd := hown.cellAt k hlt
      have hf := hown.frozenAt k
      have hst := hown.stored k (k0 + k)
      rw [marks_set k0 xs k (by omega)] at hst
      go_wp2
      go_roundw
      case rel => exact ⟨k + 1, by omega, by go_num, by go_num, hst.1, hg.trans (hst.2.mono hg1 (by omega))⟩
      case measure => simp [intOf]; omega
    · obtain rfl : k = n := by omega
      go_wp2
      go_ret
      refine ⟨by go_num, ?_, hg⟩
      rw [List.drop_of_length_le (by omega), List.append_nil] at hown
      exact hown

theorem heldIntS_any (A : Option Addr) (n c : Nat) (k0 : Int) (w : World) (h : IntsAt w A n (marks k0 n)) (hn : n ≤ 1099511627776) (h0 : 0 ≤ k0) (h1 : k0 ≤ 1152921504606846976) :
    Calls Tryd.prog 33 #[.slice A n c, .int .i64 k0] w fun e w' => e = .returned (.int .i64 (k0 + n)) ∧ w = w' := by
  go_enter Tryd.func33, Tryd.ntmps33
  go_wp2
  go_loop [1, 5] (fun kk i => ∃ k : Nat, k ≤ n ∧ i = .int .i64 k ∧ kk = .int .i64 (k0 + k)) (fun _ i => n - (intOf i).toNat)
  case atStart => exact ⟨0, Nat.zero_le _, rfl, by simp⟩
  case round =>
    obtain ⟨k, hk, rfl, rfl⟩ := hrel
    by_cases hlt : k < n
    · obtain ⟨b, o, rfl, _, hc⟩ := h.at_ hlt
      have hck := hc k hlt
      rw [ix_marks k0 n k hlt] at hck
      clear hc
      go_wp2
      go_round
      case rel => exact ⟨k + 1, by omega, by go_num, by go_num⟩
      case measure => simp [intOf]; omega
    · obtain rfl : k = n := by omega
      go_wp2
      go_ret
      exact ⟨by go_num, rfl⟩
end Go.Proofs.YtnoanomihifobaaDoor
