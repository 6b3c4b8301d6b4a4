/- The sum of a row, read off the memory: a measure for loops without a count. No program is walked here. -/
import Derived.Test.YtmmmgppfmcklpaaSums
namespace Go.Proofs.Ytmmmgppfmcklpaa
set_option linter.unusedVariables false
open Go.RowKit

def cellI (w : World) (g j : Nat) : Int := match w.cell? ⟨g, j, none⟩ with
  | some (.int _ x) => x
  | _ => 0
def sumC (w : World) (g n : Nat) : Int := lsum ((List.range n).map (cellI w g))
theorem sumC_own {w : World} {lo hi g n c : Nat} {xs : List Int} (h : OwnI w lo hi (.slice (some ⟨g, 0, none⟩) n c) xs) : sumC w g n = lsum xs := by
  unfold sumC
  congr 1
  obtain ⟨hl, _⟩ := h.num
  apply List.ext_getElem
  · simp [hl]
  · intro i h1 h2
    have hi : i < n := by omega
    have := h.cellAt i hi
    simp only [List.getElem_map, List.getElem_range]
    unfold cellI
    rw [this, ix_lt h2]
end Go.Proofs.Ytmmmgppfmcklpaa
