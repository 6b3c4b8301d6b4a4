/- The reference's CountRoundings and RoundTable. -/
import Derived.Test.YtefppihanblhmaaSrchW
import Derived.Test.YtefppihanblhmaaCountW
import Derived.Test.YtefppihanblhmaaCopy
namespace Go.Proofs.Ytefppihanblhmaa
set_option linter.unusedVariables false
open Go.RowKit

/-- the first rounding, or nothing -/
def rndT (t : List (List Int)) : List (List Int) := match allR t with
  | [] => []
  | m :: _ => rowsF (rx t 0).length m t.length
def hasR (t : List (List Int)) : Bool := !(allR t).isEmpty
theorem rndT_no {t : List (List Int)} (h : allR t = []) : rndT t = [] ∧ hasR t = false := by unfold rndT hasR; rw [h]; exact ⟨rfl, rfl⟩
theorem rndT_yes {t : List (List Int)} {m : List Int} {q : List (List Int)} (h : allR t = m :: q) : rndT t = rowsF (rx t 0).length m t.length ∧ hasR t = true := by unfold rndT hasR; rw [h]; exact ⟨rfl, rfl⟩
end Go.Proofs.Ytefppihanblhmaa
