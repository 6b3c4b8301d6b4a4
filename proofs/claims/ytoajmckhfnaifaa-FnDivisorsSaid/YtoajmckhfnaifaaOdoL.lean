/- The reference's CountFairBy. -/
import Derived.Test.YtoajmckhfnaifaaOdoS
import Derived.Test.YtoajmckhfnaifaaOrder
namespace Go.Proofs.Ytoajmckhfnaifaa
set_option linter.unusedVariables false
open Go.RowKit

def fairAsk (m : Int) (xs : List Int) (k : Int) : Bool := seatsAskedB m xs k && decide (xs.length ≤ 3) && decide (k ≤ 20)
def cntAll (m : Int) (xs : List Int) (k : Int) : Nat := (upN k.toNat xs.length).countP fun l => l.sum == k.toNat && fairAll m xs (toI l)
def cntF (m : Int) (xs : List Int) (k : Int) : Int := if fairAsk m xs k then (cntAll m xs k : Int) else -1
theorem cntF_no {m : Int} {xs : List Int} {k : Int} (h : fairAsk m xs k = false) : cntF m xs k = -1 := by unfold cntF; rw [h]; rfl
theorem cntF_yes {m : Int} {xs : List Int} {k : Int} (h : fairAsk m xs k = true) : cntF m xs k = (cntAll m xs k : Int) := by unfold cntF; rw [h]; rfl
end Go.Proofs.Ytoajmckhfnaifaa
