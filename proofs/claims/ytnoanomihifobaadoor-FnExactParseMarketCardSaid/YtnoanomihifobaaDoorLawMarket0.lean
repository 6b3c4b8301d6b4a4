/- Stores into a block of the call's own, told by 'Only'. -/
import Derived.Test.YtnoanomihifobaaDoorLawRow
import Derived.Test.YtnoanomihifobaaDoorPair
import Derived.Test.YtnoanomihifobaaDoorOpen
import Derived.Lib.SmallJoins
namespace Go.Proofs.YtnoanomihifobaaDoor
set_option linter.unusedVariables false
open Go.RowKit

theorem Only.setCell (w : World) (g j : Nat) (s : Option Nat) (u : Value) : Only g (g + 1) w (w.setCell ⟨g, j, s⟩ u) :=
  ⟨rfl, rfl, rfl, by simp [World.setCell], fun k _ hk => Below.heap_setCell _ _ _ _ (by simp; omega)⟩
theorem Only.drew {lo hi : Nat} {w w' : World} (h : Only lo hi w w') : Only lo hi w w'.drew := ⟨h.os, h.tape, h.output, h.size, h.block⟩

end Go.Proofs.YtnoanomihifobaaDoor
