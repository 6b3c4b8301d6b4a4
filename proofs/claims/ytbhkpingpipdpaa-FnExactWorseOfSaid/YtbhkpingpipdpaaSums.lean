/- Sums. -/
import Derived.Test.YtbhkpingpipdpaaBase
namespace Go.Proofs.Ytbhkpingpipdpaa
set_option linter.unusedVariables false
open Go.RowKit

def lsum : List Int → Int
  | [] => 0
  | x :: r => x + lsum r
theorem lsum_append (a b : List Int) : lsum (a ++ b) = lsum a + lsum b := by
  induction a with
  | nil => simp [lsum]
  | cons x a ih => simp only [List.cons_append, lsum, ih]; omega
theorem lsum_take {xs : List Int} {k : Nat} (h : k < xs.length) : lsum (xs.take (k + 1)) = lsum (xs.take k) + ix xs k := by
  rw [take_ix h, lsum_append]; simp [lsum]
theorem lsum_bd (xs : List Int) (m : Nat) (h : ∀ x ∈ xs, 0 ≤ x ∧ x ≤ m) : 0 ≤ lsum xs ∧ lsum xs ≤ xs.length * m := by
  induction xs with
  | nil => simp [lsum]
  | cons x r ih =>
    have h1 := ih fun y hy => h y (by simp [hy])
    have h2 := h x (by simp)
    simp only [lsum, List.length_cons, Int.natCast_add, Int.add_mul]
    omega
end Go.Proofs.Ytbhkpingpipdpaa
