/-
  DERIVED. GIVEN WITH THE SEED: THE CARDS: each row of YtnoanomihifobaaDoorRows.lean that lists a variable, with what it lists TIED to the program's text (the seventh form; the later family's looks); each row that meets fmt, with fmt's text TOLD by the authors' own Lean function (tested against real Go, not proved from fmt's source: count such statements apart). THE CARD IS WHAT COUNTS. Prove the row's statement (the work); the ties are given (YtnoanomihifobaaDoorTie.lean); close each card by the builder's one call (the guide's Derived/Test/ToyasCard.lean, 'card_holds'). Laid BY PROGRAM, IN A SANDBOX (cutbox-door.mjs). By AI agents, Wed Nov 11 2026. No macro, syntax, notation, axiom, sorry.
-/
import Derived.Test.YtnoanomihifobaaDoorRows
import GoSem.ClaimSeven
namespace Go.Proofs.YtnoanomihifobaaDoor
namespace Rows

/-- THE TIED CARD OF 'laws.FnExactParseMarket'. -/
def fnExactParseMarketCard : Claim7 := { stood := { row := fnExactParseMarketRow, standIns := [], harness := (true, "4b4bb1f30647e4603dd39a25e92a4bdac351e9d7ecb653945639483cdf689325"), looks := false }, kinds := [], alts := [], laidByText := true, laidKinds := [.data, .pinned], laidTests := true, laidLooks := .later }
def FnExactParseMarketCardSaid : Prop := Claim7.holds Tryd.pinned (.plain (OpenSpec.ofChange fnExactParseMarketSpec)) fnExactParseMarketCard

/-- THE SECOND FORM's CARD OF 'laws.FnExactParseMarket'. -/
def fnExactParseMarketUptoCard : Claim7 := { stood := { row := fnExactParseMarketUptoRow, standIns := [], harness := (true, "4b4bb1f30647e4603dd39a25e92a4bdac351e9d7ecb653945639483cdf689325"), looks := false }, kinds := [], alts := [], laidByText := true, laidKinds := [.data, .pinned], laidTests := true, laidLooks := .later }
def FnExactParseMarketUptoCardSaid : Prop := Claim7.holds Tryd.pinned (.plain (OpenSpec.upto fnExactParseMarketSpec)) fnExactParseMarketUptoCard
end Rows
end Go.Proofs.YtnoanomihifobaaDoor
