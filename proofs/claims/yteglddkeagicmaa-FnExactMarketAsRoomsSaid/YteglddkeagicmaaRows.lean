/-
  No cell of these rows narrows 'for every input' (looked for: loops, veiled, ifaces, maps, wideKeys, modest, calm, conditions, laid).
  DERIVED. THE GIVEN ROWS OF THIS SEAT. 9 by the template 'for every input the law returns true; each argument reads behind the call as it read before'; 0 by the template 'total and deterministic' (their statements: YteglddkeagicmaaTotals.lean).
  GIVEN WITH THE SEED: the statements are not yours to turn. If you find one false, say at which input.
  Laid BY PROGRAM, IN A SANDBOX (cutbox-rows.mjs): the forced cells as the released guide's own fill.sh prints them over the translation 8e708619d79ae947… (all of the seat's roots in one cut). By AI agents, Wed Nov 11 2026. No macro, syntax, notation, axiom, sorry.
-/
import Derived.Test.YteglddkeagicmaaChecked
import GoSem.Claim
import GoSem.ClaimJoined
import GoSem.ClaimMapViews
import Derived.JoinedTies
import Derived.KernelRfl
namespace Go.Proofs.Yteglddkeagicmaa
/- THE CELL 'sum', in the pinned program and in every row, IS THE sha256 OF THE DUMP (.gsa) THAT YteglddkeagicmaaProg.lean LOADS. Nothing in Lean hashes anything: it is a label: what it is worth is what the hold of that sum in a sandbox is worth. -/
noncomputable def Try.pinned : Pinned := { name := "yteglddkeagicmaa", sum := "8e708619d79ae9477a16d9f8a98371a92bf69ec477849b78e81413606a002b3c", checked := Try.checked }
namespace Rows
def none {H : Type} : Left H := { results := [], args := [] }

/-- 'laws.FnExactIsPairing': WHATEVER THE INPUT: true; the input reads as it did. -/
def fnExactIsPairingSpec : ChangeSpec := { name := "fnExactIsPairing", fn := fun _ => fun
  | [d1, d2] => { results := [.lit (.bool true)], args := [d1, d2] }
  | _ => none }
def fnExactIsPairingRow : OpenClaim := { program := "yteglddkeagicmaa", sum := "8e708619d79ae9477a16d9f8a98371a92bf69ec477849b78e81413606a002b3c", func := "loop.example/g03202/laws.FnExactIsPairing", spec := "fnExactIsPairing", unfollowed := true, recurses := true, apart := false }
def FnExactIsPairingSaid : Prop := fnExactIsPairingRow.holds Try.pinned (OpenSpec.ofChange fnExactIsPairingSpec)

/-- ITS FALSE NEIGHBOUR: 'it returns false'. Refute it at one input. -/
def fnExactIsPairingWrong : ChangeSpec := { name := "fnExactIsPairing", fn := fun _ => fun
  | [d1, d2] => { results := [.lit (.bool false)], args := [d1, d2] }
  | _ => none }
def FnExactIsPairingWrongFalsely : Prop := fnExactIsPairingRow.holds Try.pinned (OpenSpec.ofChange fnExactIsPairingWrong)

/-- 'laws.FnExactRoomsOk': WHATEVER THE INPUT: true; the input reads as it did. -/
def fnExactRoomsOkSpec : ChangeSpec := { name := "fnExactRoomsOk", fn := fun _ => fun
  | [d] => { results := [.lit (.bool true)], args := [d] }
  | _ => none }
def fnExactRoomsOkRow : OpenClaim := { program := "yteglddkeagicmaa", sum := "8e708619d79ae9477a16d9f8a98371a92bf69ec477849b78e81413606a002b3c", func := "loop.example/g03202/laws.FnExactRoomsOk", spec := "fnExactRoomsOk", unfollowed := true, recurses := true, apart := false }
def FnExactRoomsOkSaid : Prop := fnExactRoomsOkRow.holds Try.pinned (OpenSpec.ofChange fnExactRoomsOkSpec)

/-- ITS FALSE NEIGHBOUR: 'it returns false'. Refute it at one input. -/
def fnExactRoomsOkWrong : ChangeSpec := { name := "fnExactRoomsOk", fn := fun _ => fun
  | [d] => { results := [.lit (.bool false)], args := [d] }
  | _ => none }
def FnExactRoomsOkWrongFalsely : Prop := fnExactRoomsOkRow.holds Try.pinned (OpenSpec.ofChange fnExactRoomsOkWrong)

/-- 'laws.FnExactAllPairings': WHATEVER THE INPUT: true; the input reads as it did. -/
def fnExactAllPairingsSpec : ChangeSpec := { name := "fnExactAllPairings", fn := fun _ => fun
  | [d] => { results := [.lit (.bool true)], args := [d] }
  | _ => none }
def fnExactAllPairingsRow : OpenClaim := { program := "yteglddkeagicmaa", sum := "8e708619d79ae9477a16d9f8a98371a92bf69ec477849b78e81413606a002b3c", func := "loop.example/g03202/laws.FnExactAllPairings", spec := "fnExactAllPairings", recurses := true, apart := false }
def FnExactAllPairingsSaid : Prop := fnExactAllPairingsRow.holds Try.pinned (OpenSpec.ofChange fnExactAllPairingsSpec)

/-- ITS FALSE NEIGHBOUR: 'it returns false'. Refute it at one input. -/
def fnExactAllPairingsWrong : ChangeSpec := { name := "fnExactAllPairings", fn := fun _ => fun
  | [d] => { results := [.lit (.bool false)], args := [d] }
  | _ => none }
def FnExactAllPairingsWrongFalsely : Prop := fnExactAllPairingsRow.holds Try.pinned (OpenSpec.ofChange fnExactAllPairingsWrong)

/-- 'laws.FnExactIsStablePairing': WHATEVER THE INPUT: true; the input reads as it did. -/
def fnExactIsStablePairingSpec : ChangeSpec := { name := "fnExactIsStablePairing", fn := fun _ => fun
  | [d1, d2] => { results := [.lit (.bool true)], args := [d1, d2] }
  | _ => none }
def fnExactIsStablePairingRow : OpenClaim := { program := "yteglddkeagicmaa", sum := "8e708619d79ae9477a16d9f8a98371a92bf69ec477849b78e81413606a002b3c", func := "loop.example/g03202/laws.FnExactIsStablePairing", spec := "fnExactIsStablePairing", unfollowed := true, recurses := true, apart := false }
def FnExactIsStablePairingSaid : Prop := fnExactIsStablePairingRow.holds Try.pinned (OpenSpec.ofChange fnExactIsStablePairingSpec)

/-- ITS FALSE NEIGHBOUR: 'it returns false'. Refute it at one input. -/
def fnExactIsStablePairingWrong : ChangeSpec := { name := "fnExactIsStablePairing", fn := fun _ => fun
  | [d1, d2] => { results := [.lit (.bool false)], args := [d1, d2] }
  | _ => none }
def FnExactIsStablePairingWrongFalsely : Prop := fnExactIsStablePairingRow.holds Try.pinned (OpenSpec.ofChange fnExactIsStablePairingWrong)

/-- 'laws.FnExactBlockingRooms': WHATEVER THE INPUT: true; the input reads as it did. -/
def fnExactBlockingRoomsSpec : ChangeSpec := { name := "fnExactBlockingRooms", fn := fun _ => fun
  | [d1, d2] => { results := [.lit (.bool true)], args := [d1, d2] }
  | _ => none }
def fnExactBlockingRoomsRow : OpenClaim := { program := "yteglddkeagicmaa", sum := "8e708619d79ae9477a16d9f8a98371a92bf69ec477849b78e81413606a002b3c", func := "loop.example/g03202/laws.FnExactBlockingRooms", spec := "fnExactBlockingRooms", unfollowed := true, recurses := true, apart := false }
def FnExactBlockingRoomsSaid : Prop := fnExactBlockingRoomsRow.holds Try.pinned (OpenSpec.ofChange fnExactBlockingRoomsSpec)

/-- ITS FALSE NEIGHBOUR: 'it returns false'. Refute it at one input. -/
def fnExactBlockingRoomsWrong : ChangeSpec := { name := "fnExactBlockingRooms", fn := fun _ => fun
  | [d1, d2] => { results := [.lit (.bool false)], args := [d1, d2] }
  | _ => none }
def FnExactBlockingRoomsWrongFalsely : Prop := fnExactBlockingRoomsRow.holds Try.pinned (OpenSpec.ofChange fnExactBlockingRoomsWrong)

/-- 'laws.FnExactFewestBlocks': WHATEVER THE INPUT: true; the input reads as it did. -/
def fnExactFewestBlocksSpec : ChangeSpec := { name := "fnExactFewestBlocks", fn := fun _ => fun
  | [d] => { results := [.lit (.bool true)], args := [d] }
  | _ => none }
def fnExactFewestBlocksRow : OpenClaim := { program := "yteglddkeagicmaa", sum := "8e708619d79ae9477a16d9f8a98371a92bf69ec477849b78e81413606a002b3c", func := "loop.example/g03202/laws.FnExactFewestBlocks", spec := "fnExactFewestBlocks", unfollowed := true, recurses := true, apart := false }
def FnExactFewestBlocksSaid : Prop := fnExactFewestBlocksRow.holds Try.pinned (OpenSpec.ofChange fnExactFewestBlocksSpec)

/-- ITS FALSE NEIGHBOUR: 'it returns false'. Refute it at one input. -/
def fnExactFewestBlocksWrong : ChangeSpec := { name := "fnExactFewestBlocks", fn := fun _ => fun
  | [d] => { results := [.lit (.bool false)], args := [d] }
  | _ => none }
def FnExactFewestBlocksWrongFalsely : Prop := fnExactFewestBlocksRow.holds Try.pinned (OpenSpec.ofChange fnExactFewestBlocksWrong)

/-- 'laws.FnExactStablePairings': WHATEVER THE INPUT: true; the input reads as it did. -/
def fnExactStablePairingsSpec : ChangeSpec := { name := "fnExactStablePairings", fn := fun _ => fun
  | [d] => { results := [.lit (.bool true)], args := [d] }
  | _ => none }
def fnExactStablePairingsRow : OpenClaim := { program := "yteglddkeagicmaa", sum := "8e708619d79ae9477a16d9f8a98371a92bf69ec477849b78e81413606a002b3c", func := "loop.example/g03202/laws.FnExactStablePairings", spec := "fnExactStablePairings", unfollowed := true, recurses := true, apart := false }
def FnExactStablePairingsSaid : Prop := fnExactStablePairingsRow.holds Try.pinned (OpenSpec.ofChange fnExactStablePairingsSpec)

/-- ITS FALSE NEIGHBOUR: 'it returns false'. Refute it at one input. -/
def fnExactStablePairingsWrong : ChangeSpec := { name := "fnExactStablePairings", fn := fun _ => fun
  | [d] => { results := [.lit (.bool false)], args := [d] }
  | _ => none }
def FnExactStablePairingsWrongFalsely : Prop := fnExactStablePairingsRow.holds Try.pinned (OpenSpec.ofChange fnExactStablePairingsWrong)

/-- 'laws.FnExactFirstPairing': WHATEVER THE INPUT: true; the input reads as it did. -/
def fnExactFirstPairingSpec : ChangeSpec := { name := "fnExactFirstPairing", fn := fun _ => fun
  | [d] => { results := [.lit (.bool true)], args := [d] }
  | _ => none }
def fnExactFirstPairingRow : OpenClaim := { program := "yteglddkeagicmaa", sum := "8e708619d79ae9477a16d9f8a98371a92bf69ec477849b78e81413606a002b3c", func := "loop.example/g03202/laws.FnExactFirstPairing", spec := "fnExactFirstPairing", unfollowed := true, recurses := true, apart := false }
def FnExactFirstPairingSaid : Prop := fnExactFirstPairingRow.holds Try.pinned (OpenSpec.ofChange fnExactFirstPairingSpec)

/-- ITS FALSE NEIGHBOUR: 'it returns false'. Refute it at one input. -/
def fnExactFirstPairingWrong : ChangeSpec := { name := "fnExactFirstPairing", fn := fun _ => fun
  | [d] => { results := [.lit (.bool false)], args := [d] }
  | _ => none }
def FnExactFirstPairingWrongFalsely : Prop := fnExactFirstPairingRow.holds Try.pinned (OpenSpec.ofChange fnExactFirstPairingWrong)

/-- 'laws.FnExactMarketAsRooms': WHATEVER THE INPUT: true; the input reads as it did. -/
def fnExactMarketAsRoomsSpec : ChangeSpec := { name := "fnExactMarketAsRooms", fn := fun _ => fun
  | [d] => { results := [.lit (.bool true)], args := [d] }
  | _ => none }
def fnExactMarketAsRoomsRow : OpenClaim := { program := "yteglddkeagicmaa", sum := "8e708619d79ae9477a16d9f8a98371a92bf69ec477849b78e81413606a002b3c", func := "loop.example/g03202/laws.FnExactMarketAsRooms", spec := "fnExactMarketAsRooms", unfollowed := true, recurses := true, apart := false }
def FnExactMarketAsRoomsSaid : Prop := fnExactMarketAsRoomsRow.holds Try.pinned (OpenSpec.ofChange fnExactMarketAsRoomsSpec)

/-- ITS FALSE NEIGHBOUR: 'it returns false'. Refute it at one input. -/
def fnExactMarketAsRoomsWrong : ChangeSpec := { name := "fnExactMarketAsRooms", fn := fun _ => fun
  | [d] => { results := [.lit (.bool false)], args := [d] }
  | _ => none }
def FnExactMarketAsRoomsWrongFalsely : Prop := fnExactMarketAsRoomsRow.holds Try.pinned (OpenSpec.ofChange fnExactMarketAsRoomsWrong)

/- THE SECOND FORM. 'bulk': how many values and letters a reading holds, each counted each time it is reached (what is shared counts as often as it is met; a slice's spare places count too). A statement '..UptoSaid' is the law's where the arguments, and the package variables that the reading takes, are together of bulk at most 1048576: NARROWER than '..Said'. Prove '..Said' where nothing that the law and all that it calls make is longer than what came in: it says more and counts as full. Else prove '..UptoSaid'. A law counts once. -/
mutual
def uptoBulk {H : Type} : DataW H → Nat
  | .lit (.string bytes) => bytes.length + 1
  | .lit _ => 1
  | .nil => 1
  | .ptr d => uptoBulk d + 1
  | .slice elems spare => uptoBulkAll elems + uptoBulkAll spare + 1
  | .agg parts => uptoBulkAll parts + 1
  | .iface _ d => uptoBulk d + 1
  | .map entries => uptoBulkEntries entries + 1
  | .held _ => 1
def uptoBulkAll {H : Type} : List (DataW H) → Nat
  | [] => 0
  | d :: r => uptoBulk d + uptoBulkAll r
def uptoBulkEntries {H : Type} : List (Lit × DataW H) → Nat
  | [] => 0
  | x :: r => uptoBulkEntry x + uptoBulkEntries r
def uptoBulkEntry {H : Type} : Lit × DataW H → Nat
  | (.string bytes, d) => bytes.length + uptoBulk d + 1
  | (_, d) => uptoBulk d + 1
 end
def uptoSmall : (H : Type) → List (DataW H) → Bool := fun _ ds => decide (uptoBulkAll ds ≤ 1048576)
def OpenSpec.upto (s : _root_.Go.ChangeSpec) : _root_.Go.OpenSpec := { _root_.Go.OpenSpec.ofChange s with cond := some uptoSmall }

/-- 'laws.FnExactIsPairing', WHERE WHAT IT READS IS OF BULK AT MOST 1048576: true; the input reads as it did. -/
def fnExactIsPairingUptoRow : OpenClaim := { program := "yteglddkeagicmaa", sum := "8e708619d79ae9477a16d9f8a98371a92bf69ec477849b78e81413606a002b3c", func := "loop.example/g03202/laws.FnExactIsPairing", spec := "fnExactIsPairing", unfollowed := true, recurses := true, apart := false, narrowed := true }
def FnExactIsPairingUptoSaid : Prop := fnExactIsPairingUptoRow.holds Try.pinned (OpenSpec.upto fnExactIsPairingSpec)

/-- 'laws.FnExactRoomsOk', WHERE WHAT IT READS IS OF BULK AT MOST 1048576: true; the input reads as it did. -/
def fnExactRoomsOkUptoRow : OpenClaim := { program := "yteglddkeagicmaa", sum := "8e708619d79ae9477a16d9f8a98371a92bf69ec477849b78e81413606a002b3c", func := "loop.example/g03202/laws.FnExactRoomsOk", spec := "fnExactRoomsOk", unfollowed := true, recurses := true, apart := false, narrowed := true }
def FnExactRoomsOkUptoSaid : Prop := fnExactRoomsOkUptoRow.holds Try.pinned (OpenSpec.upto fnExactRoomsOkSpec)

/-- 'laws.FnExactAllPairings', WHERE WHAT IT READS IS OF BULK AT MOST 1048576: true; the input reads as it did. -/
def fnExactAllPairingsUptoRow : OpenClaim := { program := "yteglddkeagicmaa", sum := "8e708619d79ae9477a16d9f8a98371a92bf69ec477849b78e81413606a002b3c", func := "loop.example/g03202/laws.FnExactAllPairings", spec := "fnExactAllPairings", recurses := true, apart := false, narrowed := true }
def FnExactAllPairingsUptoSaid : Prop := fnExactAllPairingsUptoRow.holds Try.pinned (OpenSpec.upto fnExactAllPairingsSpec)

/-- 'laws.FnExactIsStablePairing', WHERE WHAT IT READS IS OF BULK AT MOST 1048576: true; the input reads as it did. -/
def fnExactIsStablePairingUptoRow : OpenClaim := { program := "yteglddkeagicmaa", sum := "8e708619d79ae9477a16d9f8a98371a92bf69ec477849b78e81413606a002b3c", func := "loop.example/g03202/laws.FnExactIsStablePairing", spec := "fnExactIsStablePairing", unfollowed := true, recurses := true, apart := false, narrowed := true }
def FnExactIsStablePairingUptoSaid : Prop := fnExactIsStablePairingUptoRow.holds Try.pinned (OpenSpec.upto fnExactIsStablePairingSpec)

/-- 'laws.FnExactBlockingRooms', WHERE WHAT IT READS IS OF BULK AT MOST 1048576: true; the input reads as it did. -/
def fnExactBlockingRoomsUptoRow : OpenClaim := { program := "yteglddkeagicmaa", sum := "8e708619d79ae9477a16d9f8a98371a92bf69ec477849b78e81413606a002b3c", func := "loop.example/g03202/laws.FnExactBlockingRooms", spec := "fnExactBlockingRooms", unfollowed := true, recurses := true, apart := false, narrowed := true }
def FnExactBlockingRoomsUptoSaid : Prop := fnExactBlockingRoomsUptoRow.holds Try.pinned (OpenSpec.upto fnExactBlockingRoomsSpec)

/-- 'laws.FnExactFewestBlocks', WHERE WHAT IT READS IS OF BULK AT MOST 1048576: true; the input reads as it did. -/
def fnExactFewestBlocksUptoRow : OpenClaim := { program := "yteglddkeagicmaa", sum := "8e708619d79ae9477a16d9f8a98371a92bf69ec477849b78e81413606a002b3c", func := "loop.example/g03202/laws.FnExactFewestBlocks", spec := "fnExactFewestBlocks", unfollowed := true, recurses := true, apart := false, narrowed := true }
def FnExactFewestBlocksUptoSaid : Prop := fnExactFewestBlocksUptoRow.holds Try.pinned (OpenSpec.upto fnExactFewestBlocksSpec)

/-- 'laws.FnExactStablePairings', WHERE WHAT IT READS IS OF BULK AT MOST 1048576: true; the input reads as it did. -/
def fnExactStablePairingsUptoRow : OpenClaim := { program := "yteglddkeagicmaa", sum := "8e708619d79ae9477a16d9f8a98371a92bf69ec477849b78e81413606a002b3c", func := "loop.example/g03202/laws.FnExactStablePairings", spec := "fnExactStablePairings", unfollowed := true, recurses := true, apart := false, narrowed := true }
def FnExactStablePairingsUptoSaid : Prop := fnExactStablePairingsUptoRow.holds Try.pinned (OpenSpec.upto fnExactStablePairingsSpec)

/-- 'laws.FnExactFirstPairing', WHERE WHAT IT READS IS OF BULK AT MOST 1048576: true; the input reads as it did. -/
def fnExactFirstPairingUptoRow : OpenClaim := { program := "yteglddkeagicmaa", sum := "8e708619d79ae9477a16d9f8a98371a92bf69ec477849b78e81413606a002b3c", func := "loop.example/g03202/laws.FnExactFirstPairing", spec := "fnExactFirstPairing", unfollowed := true, recurses := true, apart := false, narrowed := true }
def FnExactFirstPairingUptoSaid : Prop := fnExactFirstPairingUptoRow.holds Try.pinned (OpenSpec.upto fnExactFirstPairingSpec)

/-- 'laws.FnExactMarketAsRooms', WHERE WHAT IT READS IS OF BULK AT MOST 1048576: true; the input reads as it did. -/
def fnExactMarketAsRoomsUptoRow : OpenClaim := { program := "yteglddkeagicmaa", sum := "8e708619d79ae9477a16d9f8a98371a92bf69ec477849b78e81413606a002b3c", func := "loop.example/g03202/laws.FnExactMarketAsRooms", spec := "fnExactMarketAsRooms", unfollowed := true, recurses := true, apart := false, narrowed := true }
def FnExactMarketAsRoomsUptoSaid : Prop := fnExactMarketAsRoomsUptoRow.holds Try.pinned (OpenSpec.upto fnExactMarketAsRoomsSpec)

end Rows
end Go.Proofs.Yteglddkeagicmaa
