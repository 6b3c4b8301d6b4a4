/-
  DERIVED. GIVEN WITH THE SEED: THE CARDS: each row of YtaanppihgldeaaaGreatDoorRows.lean that lists a variable, with what it lists TIED to the program's text (the seventh form; the later family's looks); each row that meets fmt, with fmt's text TOLD by the authors' own Lean function (tested against real Go, not proved from fmt's source: count such statements apart). THE CARD IS WHAT COUNTS. Prove the row's statement (the work); the ties are given (YtaanppihgldeaaaGreatDoorTie.lean); close each card by the builder's one call (the guide's Derived/Test/ToyasCard.lean, 'card_holds'). Laid BY PROGRAM, IN A SANDBOX (cutbox-door.mjs). By AI agents, Wed Nov 11 2026. No macro, syntax, notation, axiom, sorry.
-/
import Derived.Test.YtaanppihgldeaaaGreatDoorRows
import GoSem.ClaimSeven
namespace Go.Proofs.YtaanppihgldeaaaGreatDoor
namespace Rows

/-- THE TIED CARD OF 'laws.FnEveryText'. -/
def fnEveryTextCard : Claim7 := { stood := { row := fnEveryTextRow, standIns := [], harness := (true, "3acae85ef51eae652f29467fdec8477c2c2b99d90c357f98a0db71cde6be66d2"), looks := true }, kinds := [], alts := [], laidByText := true, laidKinds := [.data, .data, .data, .data, .sentinel, .sentinel, .pinned], laidTests := true, laidLooks := .later }
def FnEveryTextCardSaid : Prop := Claim7.holds Tryz.pinned (.plain (OpenSpec.ofChange fnEveryTextSpec)) fnEveryTextCard

/-- THE SECOND FORM's CARD OF 'laws.FnEveryText'. -/
def fnEveryTextUptoCard : Claim7 := { stood := { row := fnEveryTextUptoRow, standIns := [], harness := (true, "3acae85ef51eae652f29467fdec8477c2c2b99d90c357f98a0db71cde6be66d2"), looks := true }, kinds := [], alts := [], laidByText := true, laidKinds := [.data, .data, .data, .data, .sentinel, .sentinel, .pinned], laidTests := true, laidLooks := .later }
def FnEveryTextUptoCardSaid : Prop := Claim7.holds Tryz.pinned (.plain (OpenSpec.upto fnEveryTextSpec)) fnEveryTextUptoCard
end Rows
end Go.Proofs.YtaanppihgldeaaaGreatDoor
