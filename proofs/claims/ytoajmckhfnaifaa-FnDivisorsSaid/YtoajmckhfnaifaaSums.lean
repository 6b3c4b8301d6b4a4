/- Sums. -/
import Derived.Test.YtoajmckhfnaifaaBase
namespace Go.Proofs.Ytoajmckhfnaifaa
set_option linter.unusedVariables false
open Go.RowKit

def lsum : List Int → Int
  | [] => 0
  | x :: r => x + lsum r
theorem lsum_append (a b : List Int) : lsum (a ++ b) = lsum a + lsum b := by
  induction a with
  | nil => simp [lsum]
  | cons x a ih => simp only [List.cons_append, lsum, ih]; omega
theorem lsum_take {xs : List Int} {k : Nat} (h : k < xs.length) : lsum (xs.take (k + 1)) = lsum (xs.take k) + ix xs k := by
  rw [take_ix h, lsum_append]; simp [lsum]
theorem lsum_bd (xs : List Int) (m : Nat) (h : ∀ x ∈ xs, 0 ≤ x ∧ x ≤ m) : 0 ≤ lsum xs ∧ lsum xs ≤ xs.length * m := by
  induction xs with
  | nil => simp [lsum]
  | cons x r ih =>
    have h1 := ih fun y hy => h y (by simp [hy])
    have h2 := h x (by simp)
    simp only [lsum, List.length_cons, Int.natCast_add, Int.add_mul]
    omega

theorem sumOf_any (A : Option Addr) (n c : Nat) (xs : List Int) (w : World) (h : IntsAt w A n xs) (hn : n ≤ 1048576) (hx : ∀ x ∈ xs, 0 ≤ x ∧ x ≤ 1000000000) :
    Calls Try.prog 26 #[.slice A n c] w fun e w' => e = .returned (.int .i64 (lsum xs)) ∧ w = w' := by
  obtain rfl := h.len
  have HX := Lib.hid hx
  clear hx
  go_enter Try.func26, Try.ntmps26
  go_wp2
  go_loop [3, 5, 8] (fun s _ i => ∃ k : Nat, k ≤ xs.length ∧ i = .int .i64 k ∧ s = .int .i64 (lsum (xs.take k))) (fun _ _ i => xs.length - (intOf i).toNat)
  case atStart => exact ⟨0, Nat.zero_le _, rfl, rfl⟩
  case round =>
    obtain ⟨k, hk, rfl, rfl⟩ := hrel
    by_cases hlt : k < xs.length
    · obtain ⟨b, o, rfl, _, hc⟩ := h.at_ hlt
      have hck := hc k hlt
      clear hc
      have b1 := HX.out _ (ix_mem hlt)
      have b2 := lsum_bd (xs.take k) 1000000000 (fun x hx => HX.out x (List.mem_of_mem_take hx))
      have b3 : ((xs.take k).length : Int) ≤ 1048576 := by simp; omega
      have b4 : lsum (xs.take k) ≤ 1048576 * 1000000000 := by omega
      have HE := Lib.hid (lsum_take hlt)
      go_wp2
      go_round
      case rel => exact ⟨k + 1, by omega, by go_num, by rw [HE.out]⟩
      case measure => simp [intOf]; omega
    · obtain rfl : k = xs.length := by omega
      go_wp2
      go_ret
      exact ⟨(ret_i (by first | rfl | (simp; done) | omega | (simp; omega))), rfl⟩

theorem l13Sum_any (A : Option Addr) (n c : Nat) (xs : List Int) (w : World) (h : IntsAt w A n xs) (hn : n ≤ 1048576) (hx : ∀ x ∈ xs, 0 ≤ x ∧ x ≤ 1000000000) :
    Calls Try.prog 35 #[.slice A n c] w fun e w' => e = .returned (.int .i64 (lsum xs)) ∧ w = w' := by
  obtain rfl := h.len
  have HX := Lib.hid hx
  clear hx
  go_enter Try.func35, Try.ntmps35
  go_wp2
  go_loop [3, 5, 8] (fun s _ i => ∃ k : Nat, k ≤ xs.length ∧ i = .int .i64 k ∧ s = .int .i64 (lsum (xs.take k))) (fun _ _ i => xs.length - (intOf i).toNat)
  case atStart => exact ⟨0, Nat.zero_le _, rfl, rfl⟩
  case round =>
    obtain ⟨k, hk, rfl, rfl⟩ := hrel
    by_cases hlt : k < xs.length
    · obtain ⟨b, o, rfl, _, hc⟩ := h.at_ hlt
      have hck := hc k hlt
      clear hc
      have b1 := HX.out _ (ix_mem hlt)
      have b2 := lsum_bd (xs.take k) 1000000000 (fun x hx => HX.out x (List.mem_of_mem_take hx))
      have b3 : ((xs.take k).length : Int) ≤ 1048576 := by simp; omega
      have b4 : lsum (xs.take k) ≤ 1048576 * 1000000000 := by omega
      have HE := Lib.hid (lsum_take hlt)
      go_wp2
      go_round
      case rel => exact ⟨k + 1, by omega, by go_num, by rw [HE.out]⟩
      case measure => simp [intOf]; omega
    · obtain rfl : k = xs.length := by omega
      go_wp2
      go_ret
      exact ⟨(ret_i (by first | rfl | (simp; done) | omega | (simp; omega))), rfl⟩
end Go.Proofs.Ytoajmckhfnaifaa
