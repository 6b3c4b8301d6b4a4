/- The reference's search for roundings: by induction on the entries that are left. -/
import Derived.Test.YtefppihanblhmaaSrchZ
import Derived.Test.YtefppihanblhmaaFillD
import Derived.Test.YtefppihanblhmaaSums
namespace Go.Proofs.Ytefppihanblhmaa
set_option linter.unusedVariables false
open Go.RowKit

theorem firstF_append {c r : Nat} {P Q : List (List Int)} {v : Value} {W : World} (hP : P ≠ []) (h : firstF c r P v W) : firstF c r (P ++ Q) v W := by
  cases P with
  | nil => exact absurd rfl hP
  | cons m P => exact h
theorem low_eq {x : Int} : (lowOf x == x) = decide (x % 10 = 0) := by
  unfold lowOf
  rw [Bool.eq_iff_iff, beq_iff_eq, decide_eq_true_eq]; omega
end Go.Proofs.Ytefppihanblhmaa
