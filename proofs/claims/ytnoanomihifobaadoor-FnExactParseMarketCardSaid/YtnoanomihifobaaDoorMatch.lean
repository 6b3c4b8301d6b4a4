/- Matchings, and a matching turned round. -/
import Derived.Test.YtnoanomihifobaaDoorMarket
namespace Go.Proofs.YtnoanomihifobaaDoor
set_option linter.unusedVariables false
open Go.RowKit


/-- after k numbers: of each number below, at which place it stood -/
def invTo (xs : List Int) : Nat → List Int
  | 0 => List.replicate xs.length 0
  | k + 1 => (invTo xs k).set (ix xs k).toNat (k : Int)
theorem invTo_len (xs : List Int) (k : Nat) : (invTo xs k).length = xs.length := by
  induction k with
  | zero => simp [invTo]
  | succ k ih => simp [invTo, ih]
def turnOf (xs : List Int) : List Int := if rankOk xs.length xs then invTo xs xs.length else []
theorem turnOf_yes {xs : List Int} (h : rankOk xs.length xs = true) : turnOf xs = invTo xs xs.length := by unfold turnOf; rw [if_pos h]
theorem turnOf_no {xs : List Int} (h : rankOk xs.length xs = false) : turnOf xs = [] := by unfold turnOf; rw [h]; rfl
end Go.Proofs.YtnoanomihifobaaDoor
