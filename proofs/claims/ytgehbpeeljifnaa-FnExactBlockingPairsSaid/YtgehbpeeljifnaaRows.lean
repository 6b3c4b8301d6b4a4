/-
  No cell of these rows narrows 'for every input' (looked for: loops, veiled, ifaces, maps, wideKeys, modest, calm, conditions, laid).
  DERIVED. THE GIVEN ROWS OF THIS SEAT. 9 by the template 'for every input the law returns true; each argument reads behind the call as it read before'; 0 by the template 'total and deterministic' (their statements: YtgehbpeeljifnaaTotals.lean).
  GIVEN WITH THE SEED: the statements are not yours to turn. If you find one false, say at which input.
  Laid BY PROGRAM, IN A SANDBOX (cutbox-rows.mjs): the forced cells as the released guide's own fill.sh prints them over the translation 08f3b573004e486b… (all of the seat's roots in one cut). By AI agents, Wed Nov 11 2026. No macro, syntax, notation, axiom, sorry.
-/
import Derived.Test.YtgehbpeeljifnaaChecked
import GoSem.Claim
import GoSem.ClaimJoined
import GoSem.ClaimMapViews
import Derived.JoinedTies
import Derived.KernelRfl
namespace Go.Proofs.Ytgehbpeeljifnaa
/- THE CELL 'sum', in the pinned program and in every row, IS THE sha256 OF THE DUMP (.gsa) THAT YtgehbpeeljifnaaProg.lean LOADS. Nothing in Lean hashes anything: it is a label: what it is worth is what the hold of that sum in a sandbox is worth. -/
noncomputable def Try.pinned : Pinned := { name := "ytgehbpeeljifnaa", sum := "08f3b573004e486b95306da8c59975bcf9eec705225393b7badeec232c1565ca", checked := Try.checked }
namespace Rows
def none {H : Type} : Left H := { results := [], args := [] }

/-- 'laws.FnExactTurnMatching': WHATEVER THE INPUT: true; the input reads as it did. -/
def fnExactTurnMatchingSpec : ChangeSpec := { name := "fnExactTurnMatching", fn := fun _ => fun
  | [d] => { results := [.lit (.bool true)], args := [d] }
  | _ => none }
def fnExactTurnMatchingRow : OpenClaim := { program := "ytgehbpeeljifnaa", sum := "08f3b573004e486b95306da8c59975bcf9eec705225393b7badeec232c1565ca", func := "loop.example/g03202/laws.FnExactTurnMatching", spec := "fnExactTurnMatching", apart := false }
def FnExactTurnMatchingSaid : Prop := fnExactTurnMatchingRow.holds Try.pinned (OpenSpec.ofChange fnExactTurnMatchingSpec)

/-- ITS FALSE NEIGHBOUR: 'it returns false'. Refute it at one input. -/
def fnExactTurnMatchingWrong : ChangeSpec := { name := "fnExactTurnMatching", fn := fun _ => fun
  | [d] => { results := [.lit (.bool false)], args := [d] }
  | _ => none }
def FnExactTurnMatchingWrongFalsely : Prop := fnExactTurnMatchingRow.holds Try.pinned (OpenSpec.ofChange fnExactTurnMatchingWrong)

/-- 'laws.FnExactMarketOk': WHATEVER THE INPUT: true; the input reads as it did. -/
def fnExactMarketOkSpec : ChangeSpec := { name := "fnExactMarketOk", fn := fun _ => fun
  | [d] => { results := [.lit (.bool true)], args := [d] }
  | _ => none }
def fnExactMarketOkRow : OpenClaim := { program := "ytgehbpeeljifnaa", sum := "08f3b573004e486b95306da8c59975bcf9eec705225393b7badeec232c1565ca", func := "loop.example/g03202/laws.FnExactMarketOk", spec := "fnExactMarketOk", unfollowed := true, recurses := true, apart := false }
def FnExactMarketOkSaid : Prop := fnExactMarketOkRow.holds Try.pinned (OpenSpec.ofChange fnExactMarketOkSpec)

/-- ITS FALSE NEIGHBOUR: 'it returns false'. Refute it at one input. -/
def fnExactMarketOkWrong : ChangeSpec := { name := "fnExactMarketOk", fn := fun _ => fun
  | [d] => { results := [.lit (.bool false)], args := [d] }
  | _ => none }
def FnExactMarketOkWrongFalsely : Prop := fnExactMarketOkRow.holds Try.pinned (OpenSpec.ofChange fnExactMarketOkWrong)

/-- 'laws.FnExactIsMatching': WHATEVER THE INPUT: true; the input reads as it did. -/
def fnExactIsMatchingSpec : ChangeSpec := { name := "fnExactIsMatching", fn := fun _ => fun
  | [d1, d2] => { results := [.lit (.bool true)], args := [d1, d2] }
  | _ => none }
def fnExactIsMatchingRow : OpenClaim := { program := "ytgehbpeeljifnaa", sum := "08f3b573004e486b95306da8c59975bcf9eec705225393b7badeec232c1565ca", func := "loop.example/g03202/laws.FnExactIsMatching", spec := "fnExactIsMatching", unfollowed := true, recurses := true, apart := false }
def FnExactIsMatchingSaid : Prop := fnExactIsMatchingRow.holds Try.pinned (OpenSpec.ofChange fnExactIsMatchingSpec)

/-- ITS FALSE NEIGHBOUR: 'it returns false'. Refute it at one input. -/
def fnExactIsMatchingWrong : ChangeSpec := { name := "fnExactIsMatching", fn := fun _ => fun
  | [d1, d2] => { results := [.lit (.bool false)], args := [d1, d2] }
  | _ => none }
def FnExactIsMatchingWrongFalsely : Prop := fnExactIsMatchingRow.holds Try.pinned (OpenSpec.ofChange fnExactIsMatchingWrong)

/-- 'laws.FnExactAtLeastAsGood': WHATEVER THE INPUT: true; the input reads as it did. -/
def fnExactAtLeastAsGoodSpec : ChangeSpec := { name := "fnExactAtLeastAsGood", fn := fun _ => fun
  | [d1, d2, d3] => { results := [.lit (.bool true)], args := [d1, d2, d3] }
  | _ => none }
def fnExactAtLeastAsGoodRow : OpenClaim := { program := "ytgehbpeeljifnaa", sum := "08f3b573004e486b95306da8c59975bcf9eec705225393b7badeec232c1565ca", func := "loop.example/g03202/laws.FnExactAtLeastAsGood", spec := "fnExactAtLeastAsGood", unfollowed := true, recurses := true, apart := false }
def FnExactAtLeastAsGoodSaid : Prop := fnExactAtLeastAsGoodRow.holds Try.pinned (OpenSpec.ofChange fnExactAtLeastAsGoodSpec)

/-- ITS FALSE NEIGHBOUR: 'it returns false'. Refute it at one input. -/
def fnExactAtLeastAsGoodWrong : ChangeSpec := { name := "fnExactAtLeastAsGood", fn := fun _ => fun
  | [d1, d2, d3] => { results := [.lit (.bool false)], args := [d1, d2, d3] }
  | _ => none }
def FnExactAtLeastAsGoodWrongFalsely : Prop := fnExactAtLeastAsGoodRow.holds Try.pinned (OpenSpec.ofChange fnExactAtLeastAsGoodWrong)

/-- 'laws.FnExactPlaceSums': WHATEVER THE INPUT: true; the input reads as it did. -/
def fnExactPlaceSumsSpec : ChangeSpec := { name := "fnExactPlaceSums", fn := fun _ => fun
  | [d1, d2] => { results := [.lit (.bool true)], args := [d1, d2] }
  | _ => none }
def fnExactPlaceSumsRow : OpenClaim := { program := "ytgehbpeeljifnaa", sum := "08f3b573004e486b95306da8c59975bcf9eec705225393b7badeec232c1565ca", func := "loop.example/g03202/laws.FnExactPlaceSums", spec := "fnExactPlaceSums", unfollowed := true, recurses := true, apart := false }
def FnExactPlaceSumsSaid : Prop := fnExactPlaceSumsRow.holds Try.pinned (OpenSpec.ofChange fnExactPlaceSumsSpec)

/-- ITS FALSE NEIGHBOUR: 'it returns false'. Refute it at one input. -/
def fnExactPlaceSumsWrong : ChangeSpec := { name := "fnExactPlaceSums", fn := fun _ => fun
  | [d1, d2] => { results := [.lit (.bool false)], args := [d1, d2] }
  | _ => none }
def FnExactPlaceSumsWrongFalsely : Prop := fnExactPlaceSumsRow.holds Try.pinned (OpenSpec.ofChange fnExactPlaceSumsWrong)

/-- 'laws.FnExactRegretOf': WHATEVER THE INPUT: true; the input reads as it did. -/
def fnExactRegretOfSpec : ChangeSpec := { name := "fnExactRegretOf", fn := fun _ => fun
  | [d1, d2] => { results := [.lit (.bool true)], args := [d1, d2] }
  | _ => none }
def fnExactRegretOfRow : OpenClaim := { program := "ytgehbpeeljifnaa", sum := "08f3b573004e486b95306da8c59975bcf9eec705225393b7badeec232c1565ca", func := "loop.example/g03202/laws.FnExactRegretOf", spec := "fnExactRegretOf", unfollowed := true, recurses := true, apart := false }
def FnExactRegretOfSaid : Prop := fnExactRegretOfRow.holds Try.pinned (OpenSpec.ofChange fnExactRegretOfSpec)

/-- ITS FALSE NEIGHBOUR: 'it returns false'. Refute it at one input. -/
def fnExactRegretOfWrong : ChangeSpec := { name := "fnExactRegretOf", fn := fun _ => fun
  | [d1, d2] => { results := [.lit (.bool false)], args := [d1, d2] }
  | _ => none }
def FnExactRegretOfWrongFalsely : Prop := fnExactRegretOfRow.holds Try.pinned (OpenSpec.ofChange fnExactRegretOfWrong)

/-- 'laws.FnExactIsStable': WHATEVER THE INPUT: true; the input reads as it did. -/
def fnExactIsStableSpec : ChangeSpec := { name := "fnExactIsStable", fn := fun _ => fun
  | [d1, d2] => { results := [.lit (.bool true)], args := [d1, d2] }
  | _ => none }
def fnExactIsStableRow : OpenClaim := { program := "ytgehbpeeljifnaa", sum := "08f3b573004e486b95306da8c59975bcf9eec705225393b7badeec232c1565ca", func := "loop.example/g03202/laws.FnExactIsStable", spec := "fnExactIsStable", unfollowed := true, recurses := true, apart := false }
def FnExactIsStableSaid : Prop := fnExactIsStableRow.holds Try.pinned (OpenSpec.ofChange fnExactIsStableSpec)

/-- ITS FALSE NEIGHBOUR: 'it returns false'. Refute it at one input. -/
def fnExactIsStableWrong : ChangeSpec := { name := "fnExactIsStable", fn := fun _ => fun
  | [d1, d2] => { results := [.lit (.bool false)], args := [d1, d2] }
  | _ => none }
def FnExactIsStableWrongFalsely : Prop := fnExactIsStableRow.holds Try.pinned (OpenSpec.ofChange fnExactIsStableWrong)

/-- 'laws.FnExactBlockingPairs': WHATEVER THE INPUT: true; the input reads as it did. -/
def fnExactBlockingPairsSpec : ChangeSpec := { name := "fnExactBlockingPairs", fn := fun _ => fun
  | [d1, d2] => { results := [.lit (.bool true)], args := [d1, d2] }
  | _ => none }
def fnExactBlockingPairsRow : OpenClaim := { program := "ytgehbpeeljifnaa", sum := "08f3b573004e486b95306da8c59975bcf9eec705225393b7badeec232c1565ca", func := "loop.example/g03202/laws.FnExactBlockingPairs", spec := "fnExactBlockingPairs", unfollowed := true, recurses := true, apart := false }
def FnExactBlockingPairsSaid : Prop := fnExactBlockingPairsRow.holds Try.pinned (OpenSpec.ofChange fnExactBlockingPairsSpec)

/-- ITS FALSE NEIGHBOUR: 'it returns false'. Refute it at one input. -/
def fnExactBlockingPairsWrong : ChangeSpec := { name := "fnExactBlockingPairs", fn := fun _ => fun
  | [d1, d2] => { results := [.lit (.bool false)], args := [d1, d2] }
  | _ => none }
def FnExactBlockingPairsWrongFalsely : Prop := fnExactBlockingPairsRow.holds Try.pinned (OpenSpec.ofChange fnExactBlockingPairsWrong)

/-- 'laws.FnExactNextWoman': WHATEVER THE INPUT: true; the input reads as it did. -/
def fnExactNextWomanSpec : ChangeSpec := { name := "fnExactNextWoman", fn := fun _ => fun
  | [d1, d2, d3] => { results := [.lit (.bool true)], args := [d1, d2, d3] }
  | _ => none }
def fnExactNextWomanRow : OpenClaim := { program := "ytgehbpeeljifnaa", sum := "08f3b573004e486b95306da8c59975bcf9eec705225393b7badeec232c1565ca", func := "loop.example/g03202/laws.FnExactNextWoman", spec := "fnExactNextWoman", unfollowed := true, recurses := true, apart := false }
def FnExactNextWomanSaid : Prop := fnExactNextWomanRow.holds Try.pinned (OpenSpec.ofChange fnExactNextWomanSpec)

/-- ITS FALSE NEIGHBOUR: 'it returns false'. Refute it at one input. -/
def fnExactNextWomanWrong : ChangeSpec := { name := "fnExactNextWoman", fn := fun _ => fun
  | [d1, d2, d3] => { results := [.lit (.bool false)], args := [d1, d2, d3] }
  | _ => none }
def FnExactNextWomanWrongFalsely : Prop := fnExactNextWomanRow.holds Try.pinned (OpenSpec.ofChange fnExactNextWomanWrong)

/- THE SECOND FORM. 'bulk': how many values and letters a reading holds, each counted each time it is reached (what is shared counts as often as it is met; a slice's spare places count too). A statement '..UptoSaid' is the law's where the arguments, and the package variables that the reading takes, are together of bulk at most 1048576: NARROWER than '..Said'. Prove '..Said' where nothing that the law and all that it calls make is longer than what came in: it says more and counts as full. Else prove '..UptoSaid'. A law counts once. -/
mutual
def uptoBulk {H : Type} : DataW H → Nat
  | .lit (.string bytes) => bytes.length + 1
  | .lit _ => 1
  | .nil => 1
  | .ptr d => uptoBulk d + 1
  | .slice elems spare => uptoBulkAll elems + uptoBulkAll spare + 1
  | .agg parts => uptoBulkAll parts + 1
  | .iface _ d => uptoBulk d + 1
  | .map entries => uptoBulkEntries entries + 1
  | .held _ => 1
def uptoBulkAll {H : Type} : List (DataW H) → Nat
  | [] => 0
  | d :: r => uptoBulk d + uptoBulkAll r
def uptoBulkEntries {H : Type} : List (Lit × DataW H) → Nat
  | [] => 0
  | x :: r => uptoBulkEntry x + uptoBulkEntries r
def uptoBulkEntry {H : Type} : Lit × DataW H → Nat
  | (.string bytes, d) => bytes.length + uptoBulk d + 1
  | (_, d) => uptoBulk d + 1
 end
def uptoSmall : (H : Type) → List (DataW H) → Bool := fun _ ds => decide (uptoBulkAll ds ≤ 1048576)
def OpenSpec.upto (s : _root_.Go.ChangeSpec) : _root_.Go.OpenSpec := { _root_.Go.OpenSpec.ofChange s with cond := some uptoSmall }

/-- 'laws.FnExactTurnMatching', WHERE WHAT IT READS IS OF BULK AT MOST 1048576: true; the input reads as it did. -/
def fnExactTurnMatchingUptoRow : OpenClaim := { program := "ytgehbpeeljifnaa", sum := "08f3b573004e486b95306da8c59975bcf9eec705225393b7badeec232c1565ca", func := "loop.example/g03202/laws.FnExactTurnMatching", spec := "fnExactTurnMatching", apart := false, narrowed := true }
def FnExactTurnMatchingUptoSaid : Prop := fnExactTurnMatchingUptoRow.holds Try.pinned (OpenSpec.upto fnExactTurnMatchingSpec)

/-- 'laws.FnExactMarketOk', WHERE WHAT IT READS IS OF BULK AT MOST 1048576: true; the input reads as it did. -/
def fnExactMarketOkUptoRow : OpenClaim := { program := "ytgehbpeeljifnaa", sum := "08f3b573004e486b95306da8c59975bcf9eec705225393b7badeec232c1565ca", func := "loop.example/g03202/laws.FnExactMarketOk", spec := "fnExactMarketOk", unfollowed := true, recurses := true, apart := false, narrowed := true }
def FnExactMarketOkUptoSaid : Prop := fnExactMarketOkUptoRow.holds Try.pinned (OpenSpec.upto fnExactMarketOkSpec)

/-- 'laws.FnExactIsMatching', WHERE WHAT IT READS IS OF BULK AT MOST 1048576: true; the input reads as it did. -/
def fnExactIsMatchingUptoRow : OpenClaim := { program := "ytgehbpeeljifnaa", sum := "08f3b573004e486b95306da8c59975bcf9eec705225393b7badeec232c1565ca", func := "loop.example/g03202/laws.FnExactIsMatching", spec := "fnExactIsMatching", unfollowed := true, recurses := true, apart := false, narrowed := true }
def FnExactIsMatchingUptoSaid : Prop := fnExactIsMatchingUptoRow.holds Try.pinned (OpenSpec.upto fnExactIsMatchingSpec)

/-- 'laws.FnExactAtLeastAsGood', WHERE WHAT IT READS IS OF BULK AT MOST 1048576: true; the input reads as it did. -/
def fnExactAtLeastAsGoodUptoRow : OpenClaim := { program := "ytgehbpeeljifnaa", sum := "08f3b573004e486b95306da8c59975bcf9eec705225393b7badeec232c1565ca", func := "loop.example/g03202/laws.FnExactAtLeastAsGood", spec := "fnExactAtLeastAsGood", unfollowed := true, recurses := true, apart := false, narrowed := true }
def FnExactAtLeastAsGoodUptoSaid : Prop := fnExactAtLeastAsGoodUptoRow.holds Try.pinned (OpenSpec.upto fnExactAtLeastAsGoodSpec)

/-- 'laws.FnExactPlaceSums', WHERE WHAT IT READS IS OF BULK AT MOST 1048576: true; the input reads as it did. -/
def fnExactPlaceSumsUptoRow : OpenClaim := { program := "ytgehbpeeljifnaa", sum := "08f3b573004e486b95306da8c59975bcf9eec705225393b7badeec232c1565ca", func := "loop.example/g03202/laws.FnExactPlaceSums", spec := "fnExactPlaceSums", unfollowed := true, recurses := true, apart := false, narrowed := true }
def FnExactPlaceSumsUptoSaid : Prop := fnExactPlaceSumsUptoRow.holds Try.pinned (OpenSpec.upto fnExactPlaceSumsSpec)

/-- 'laws.FnExactRegretOf', WHERE WHAT IT READS IS OF BULK AT MOST 1048576: true; the input reads as it did. -/
def fnExactRegretOfUptoRow : OpenClaim := { program := "ytgehbpeeljifnaa", sum := "08f3b573004e486b95306da8c59975bcf9eec705225393b7badeec232c1565ca", func := "loop.example/g03202/laws.FnExactRegretOf", spec := "fnExactRegretOf", unfollowed := true, recurses := true, apart := false, narrowed := true }
def FnExactRegretOfUptoSaid : Prop := fnExactRegretOfUptoRow.holds Try.pinned (OpenSpec.upto fnExactRegretOfSpec)

/-- 'laws.FnExactIsStable', WHERE WHAT IT READS IS OF BULK AT MOST 1048576: true; the input reads as it did. -/
def fnExactIsStableUptoRow : OpenClaim := { program := "ytgehbpeeljifnaa", sum := "08f3b573004e486b95306da8c59975bcf9eec705225393b7badeec232c1565ca", func := "loop.example/g03202/laws.FnExactIsStable", spec := "fnExactIsStable", unfollowed := true, recurses := true, apart := false, narrowed := true }
def FnExactIsStableUptoSaid : Prop := fnExactIsStableUptoRow.holds Try.pinned (OpenSpec.upto fnExactIsStableSpec)

/-- 'laws.FnExactBlockingPairs', WHERE WHAT IT READS IS OF BULK AT MOST 1048576: true; the input reads as it did. -/
def fnExactBlockingPairsUptoRow : OpenClaim := { program := "ytgehbpeeljifnaa", sum := "08f3b573004e486b95306da8c59975bcf9eec705225393b7badeec232c1565ca", func := "loop.example/g03202/laws.FnExactBlockingPairs", spec := "fnExactBlockingPairs", unfollowed := true, recurses := true, apart := false, narrowed := true }
def FnExactBlockingPairsUptoSaid : Prop := fnExactBlockingPairsUptoRow.holds Try.pinned (OpenSpec.upto fnExactBlockingPairsSpec)

/-- 'laws.FnExactNextWoman', WHERE WHAT IT READS IS OF BULK AT MOST 1048576: true; the input reads as it did. -/
def fnExactNextWomanUptoRow : OpenClaim := { program := "ytgehbpeeljifnaa", sum := "08f3b573004e486b95306da8c59975bcf9eec705225393b7badeec232c1565ca", func := "loop.example/g03202/laws.FnExactNextWoman", spec := "fnExactNextWoman", unfollowed := true, recurses := true, apart := false, narrowed := true }
def FnExactNextWomanUptoSaid : Prop := fnExactNextWomanUptoRow.holds Try.pinned (OpenSpec.upto fnExactNextWomanSpec)

end Rows
end Go.Proofs.Ytgehbpeeljifnaa
