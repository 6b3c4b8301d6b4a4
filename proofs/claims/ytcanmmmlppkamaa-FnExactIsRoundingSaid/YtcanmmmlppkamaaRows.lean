/-
  No cell of these rows narrows 'for every input' (looked for: loops, veiled, ifaces, maps, wideKeys, modest, calm, conditions, laid).
  DERIVED. THE GIVEN ROWS OF THIS SEAT. 8 by the template 'for every input the law returns true; each argument reads behind the call as it read before'; 0 by the template 'total and deterministic' (their statements: YtcanmmmlppkamaaTotals.lean).
  GIVEN WITH THE SEED: the statements are not yours to turn. If you find one false, say at which input.
  Laid BY PROGRAM, IN A SANDBOX (cutbox-rows.mjs): the forced cells as the released guide's own fill.sh prints them over the translation bba61afad0bdd645… (all of the seat's roots in one cut). By AI agents, Wed Nov 11 2026. No macro, syntax, notation, axiom, sorry.
-/
import Derived.Test.YtcanmmmlppkamaaChecked
import GoSem.Claim
import GoSem.ClaimJoined
import GoSem.ClaimMapViews
import Derived.JoinedTies
import Derived.KernelRfl
namespace Go.Proofs.Ytcanmmmlppkamaa
/- THE CELL 'sum', in the pinned program and in every row, IS THE sha256 OF THE DUMP (.gsa) THAT YtcanmmmlppkamaaProg.lean LOADS. Nothing in Lean hashes anything: it is a label: what it is worth is what the hold of that sum in a sandbox is worth. -/
noncomputable def Try.pinned : Pinned := { name := "ytcanmmmlppkamaa", sum := "bba61afad0bdd645fa90f86c34f528b207fface876718d212f2d6e583673e12d", checked := Try.checked }
namespace Rows
def none {H : Type} : Left H := { results := [], args := [] }

/-- 'laws.FnExactIsRoundedTo': WHATEVER THE INPUT: true; the input reads as it did. -/
def fnExactIsRoundedToSpec : ChangeSpec := { name := "fnExactIsRoundedTo", fn := fun _ => fun
  | [d1, d2] => { results := [.lit (.bool true)], args := [d1, d2] }
  | _ => none }
def fnExactIsRoundedToRow : OpenClaim := { program := "ytcanmmmlppkamaa", sum := "bba61afad0bdd645fa90f86c34f528b207fface876718d212f2d6e583673e12d", func := "loop.example/g03202/laws.FnExactIsRoundedTo", spec := "fnExactIsRoundedTo", apart := false }
def FnExactIsRoundedToSaid : Prop := fnExactIsRoundedToRow.holds Try.pinned (OpenSpec.ofChange fnExactIsRoundedToSpec)

/-- ITS FALSE NEIGHBOUR: 'it returns false'. Refute it at one input. -/
def fnExactIsRoundedToWrong : ChangeSpec := { name := "fnExactIsRoundedTo", fn := fun _ => fun
  | [d1, d2] => { results := [.lit (.bool false)], args := [d1, d2] }
  | _ => none }
def FnExactIsRoundedToWrongFalsely : Prop := fnExactIsRoundedToRow.holds Try.pinned (OpenSpec.ofChange fnExactIsRoundedToWrong)

/-- 'laws.FnExactTableOk': WHATEVER THE INPUT: true; the input reads as it did. -/
def fnExactTableOkSpec : ChangeSpec := { name := "fnExactTableOk", fn := fun _ => fun
  | [d] => { results := [.lit (.bool true)], args := [d] }
  | _ => none }
def fnExactTableOkRow : OpenClaim := { program := "ytcanmmmlppkamaa", sum := "bba61afad0bdd645fa90f86c34f528b207fface876718d212f2d6e583673e12d", func := "loop.example/g03202/laws.FnExactTableOk", spec := "fnExactTableOk", unfollowed := true, recurses := true, apart := false }
def FnExactTableOkSaid : Prop := fnExactTableOkRow.holds Try.pinned (OpenSpec.ofChange fnExactTableOkSpec)

/-- ITS FALSE NEIGHBOUR: 'it returns false'. Refute it at one input. -/
def fnExactTableOkWrong : ChangeSpec := { name := "fnExactTableOk", fn := fun _ => fun
  | [d] => { results := [.lit (.bool false)], args := [d] }
  | _ => none }
def FnExactTableOkWrongFalsely : Prop := fnExactTableOkRow.holds Try.pinned (OpenSpec.ofChange fnExactTableOkWrong)

/-- 'laws.FnExactTotalOf': WHATEVER THE INPUT: true; the input reads as it did. -/
def fnExactTotalOfSpec : ChangeSpec := { name := "fnExactTotalOf", fn := fun _ => fun
  | [d] => { results := [.lit (.bool true)], args := [d] }
  | _ => none }
def fnExactTotalOfRow : OpenClaim := { program := "ytcanmmmlppkamaa", sum := "bba61afad0bdd645fa90f86c34f528b207fface876718d212f2d6e583673e12d", func := "loop.example/g03202/laws.FnExactTotalOf", spec := "fnExactTotalOf", unfollowed := true, recurses := true, apart := false }
def FnExactTotalOfSaid : Prop := fnExactTotalOfRow.holds Try.pinned (OpenSpec.ofChange fnExactTotalOfSpec)

/-- ITS FALSE NEIGHBOUR: 'it returns false'. Refute it at one input. -/
def fnExactTotalOfWrong : ChangeSpec := { name := "fnExactTotalOf", fn := fun _ => fun
  | [d] => { results := [.lit (.bool false)], args := [d] }
  | _ => none }
def FnExactTotalOfWrongFalsely : Prop := fnExactTotalOfRow.holds Try.pinned (OpenSpec.ofChange fnExactTotalOfWrong)

/-- 'laws.FnExactTurnTable': WHATEVER THE INPUT: true; the input reads as it did. -/
def fnExactTurnTableSpec : ChangeSpec := { name := "fnExactTurnTable", fn := fun _ => fun
  | [d] => { results := [.lit (.bool true)], args := [d] }
  | _ => none }
def fnExactTurnTableRow : OpenClaim := { program := "ytcanmmmlppkamaa", sum := "bba61afad0bdd645fa90f86c34f528b207fface876718d212f2d6e583673e12d", func := "loop.example/g03202/laws.FnExactTurnTable", spec := "fnExactTurnTable", unfollowed := true, recurses := true, apart := false }
def FnExactTurnTableSaid : Prop := fnExactTurnTableRow.holds Try.pinned (OpenSpec.ofChange fnExactTurnTableSpec)

/-- ITS FALSE NEIGHBOUR: 'it returns false'. Refute it at one input. -/
def fnExactTurnTableWrong : ChangeSpec := { name := "fnExactTurnTable", fn := fun _ => fun
  | [d] => { results := [.lit (.bool false)], args := [d] }
  | _ => none }
def FnExactTurnTableWrongFalsely : Prop := fnExactTurnTableRow.holds Try.pinned (OpenSpec.ofChange fnExactTurnTableWrong)

/-- 'laws.FnExactRowSums': WHATEVER THE INPUT: true; the input reads as it did. -/
def fnExactRowSumsSpec : ChangeSpec := { name := "fnExactRowSums", fn := fun _ => fun
  | [d] => { results := [.lit (.bool true)], args := [d] }
  | _ => none }
def fnExactRowSumsRow : OpenClaim := { program := "ytcanmmmlppkamaa", sum := "bba61afad0bdd645fa90f86c34f528b207fface876718d212f2d6e583673e12d", func := "loop.example/g03202/laws.FnExactRowSums", spec := "fnExactRowSums", unfollowed := true, recurses := true, apart := false }
def FnExactRowSumsSaid : Prop := fnExactRowSumsRow.holds Try.pinned (OpenSpec.ofChange fnExactRowSumsSpec)

/-- ITS FALSE NEIGHBOUR: 'it returns false'. Refute it at one input. -/
def fnExactRowSumsWrong : ChangeSpec := { name := "fnExactRowSums", fn := fun _ => fun
  | [d] => { results := [.lit (.bool false)], args := [d] }
  | _ => none }
def FnExactRowSumsWrongFalsely : Prop := fnExactRowSumsRow.holds Try.pinned (OpenSpec.ofChange fnExactRowSumsWrong)

/-- 'laws.FnExactColumnSums': WHATEVER THE INPUT: true; the input reads as it did. -/
def fnExactColumnSumsSpec : ChangeSpec := { name := "fnExactColumnSums", fn := fun _ => fun
  | [d] => { results := [.lit (.bool true)], args := [d] }
  | _ => none }
def fnExactColumnSumsRow : OpenClaim := { program := "ytcanmmmlppkamaa", sum := "bba61afad0bdd645fa90f86c34f528b207fface876718d212f2d6e583673e12d", func := "loop.example/g03202/laws.FnExactColumnSums", spec := "fnExactColumnSums", unfollowed := true, recurses := true, apart := false }
def FnExactColumnSumsSaid : Prop := fnExactColumnSumsRow.holds Try.pinned (OpenSpec.ofChange fnExactColumnSumsSpec)

/-- ITS FALSE NEIGHBOUR: 'it returns false'. Refute it at one input. -/
def fnExactColumnSumsWrong : ChangeSpec := { name := "fnExactColumnSums", fn := fun _ => fun
  | [d] => { results := [.lit (.bool false)], args := [d] }
  | _ => none }
def FnExactColumnSumsWrongFalsely : Prop := fnExactColumnSumsRow.holds Try.pinned (OpenSpec.ofChange fnExactColumnSumsWrong)

/-- 'laws.FnExactRoundEach': WHATEVER THE INPUT: true; the input reads as it did. -/
def fnExactRoundEachSpec : ChangeSpec := { name := "fnExactRoundEach", fn := fun _ => fun
  | [d] => { results := [.lit (.bool true)], args := [d] }
  | _ => none }
def fnExactRoundEachRow : OpenClaim := { program := "ytcanmmmlppkamaa", sum := "bba61afad0bdd645fa90f86c34f528b207fface876718d212f2d6e583673e12d", func := "loop.example/g03202/laws.FnExactRoundEach", spec := "fnExactRoundEach", unfollowed := true, recurses := true, apart := false }
def FnExactRoundEachSaid : Prop := fnExactRoundEachRow.holds Try.pinned (OpenSpec.ofChange fnExactRoundEachSpec)

/-- ITS FALSE NEIGHBOUR: 'it returns false'. Refute it at one input. -/
def fnExactRoundEachWrong : ChangeSpec := { name := "fnExactRoundEach", fn := fun _ => fun
  | [d] => { results := [.lit (.bool false)], args := [d] }
  | _ => none }
def FnExactRoundEachWrongFalsely : Prop := fnExactRoundEachRow.holds Try.pinned (OpenSpec.ofChange fnExactRoundEachWrong)

/-- 'laws.FnExactIsRounding': WHATEVER THE INPUT: true; the input reads as it did. -/
def fnExactIsRoundingSpec : ChangeSpec := { name := "fnExactIsRounding", fn := fun _ => fun
  | [d1, d2] => { results := [.lit (.bool true)], args := [d1, d2] }
  | _ => none }
def fnExactIsRoundingRow : OpenClaim := { program := "ytcanmmmlppkamaa", sum := "bba61afad0bdd645fa90f86c34f528b207fface876718d212f2d6e583673e12d", func := "loop.example/g03202/laws.FnExactIsRounding", spec := "fnExactIsRounding", unfollowed := true, recurses := true, apart := false }
def FnExactIsRoundingSaid : Prop := fnExactIsRoundingRow.holds Try.pinned (OpenSpec.ofChange fnExactIsRoundingSpec)

/-- ITS FALSE NEIGHBOUR: 'it returns false'. Refute it at one input. -/
def fnExactIsRoundingWrong : ChangeSpec := { name := "fnExactIsRounding", fn := fun _ => fun
  | [d1, d2] => { results := [.lit (.bool false)], args := [d1, d2] }
  | _ => none }
def FnExactIsRoundingWrongFalsely : Prop := fnExactIsRoundingRow.holds Try.pinned (OpenSpec.ofChange fnExactIsRoundingWrong)

/- THE SECOND FORM. 'bulk': how many values and letters a reading holds, each counted each time it is reached (what is shared counts as often as it is met; a slice's spare places count too). A statement '..UptoSaid' is the law's where the arguments, and the package variables that the reading takes, are together of bulk at most 1048576: NARROWER than '..Said'. Prove '..Said' where nothing that the law and all that it calls make is longer than what came in: it says more and counts as full. Else prove '..UptoSaid'. A law counts once. -/
mutual
def uptoBulk {H : Type} : DataW H → Nat
  | .lit (.string bytes) => bytes.length + 1
  | .lit _ => 1
  | .nil => 1
  | .ptr d => uptoBulk d + 1
  | .slice elems spare => uptoBulkAll elems + uptoBulkAll spare + 1
  | .agg parts => uptoBulkAll parts + 1
  | .iface _ d => uptoBulk d + 1
  | .map entries => uptoBulkEntries entries + 1
  | .held _ => 1
def uptoBulkAll {H : Type} : List (DataW H) → Nat
  | [] => 0
  | d :: r => uptoBulk d + uptoBulkAll r
def uptoBulkEntries {H : Type} : List (Lit × DataW H) → Nat
  | [] => 0
  | x :: r => uptoBulkEntry x + uptoBulkEntries r
def uptoBulkEntry {H : Type} : Lit × DataW H → Nat
  | (.string bytes, d) => bytes.length + uptoBulk d + 1
  | (_, d) => uptoBulk d + 1
 end
def uptoSmall : (H : Type) → List (DataW H) → Bool := fun _ ds => decide (uptoBulkAll ds ≤ 1048576)
def OpenSpec.upto (s : _root_.Go.ChangeSpec) : _root_.Go.OpenSpec := { _root_.Go.OpenSpec.ofChange s with cond := some uptoSmall }

/-- 'laws.FnExactIsRoundedTo', WHERE WHAT IT READS IS OF BULK AT MOST 1048576: true; the input reads as it did. -/
def fnExactIsRoundedToUptoRow : OpenClaim := { program := "ytcanmmmlppkamaa", sum := "bba61afad0bdd645fa90f86c34f528b207fface876718d212f2d6e583673e12d", func := "loop.example/g03202/laws.FnExactIsRoundedTo", spec := "fnExactIsRoundedTo", apart := false, narrowed := true }
def FnExactIsRoundedToUptoSaid : Prop := fnExactIsRoundedToUptoRow.holds Try.pinned (OpenSpec.upto fnExactIsRoundedToSpec)

/-- 'laws.FnExactTableOk', WHERE WHAT IT READS IS OF BULK AT MOST 1048576: true; the input reads as it did. -/
def fnExactTableOkUptoRow : OpenClaim := { program := "ytcanmmmlppkamaa", sum := "bba61afad0bdd645fa90f86c34f528b207fface876718d212f2d6e583673e12d", func := "loop.example/g03202/laws.FnExactTableOk", spec := "fnExactTableOk", unfollowed := true, recurses := true, apart := false, narrowed := true }
def FnExactTableOkUptoSaid : Prop := fnExactTableOkUptoRow.holds Try.pinned (OpenSpec.upto fnExactTableOkSpec)

/-- 'laws.FnExactTotalOf', WHERE WHAT IT READS IS OF BULK AT MOST 1048576: true; the input reads as it did. -/
def fnExactTotalOfUptoRow : OpenClaim := { program := "ytcanmmmlppkamaa", sum := "bba61afad0bdd645fa90f86c34f528b207fface876718d212f2d6e583673e12d", func := "loop.example/g03202/laws.FnExactTotalOf", spec := "fnExactTotalOf", unfollowed := true, recurses := true, apart := false, narrowed := true }
def FnExactTotalOfUptoSaid : Prop := fnExactTotalOfUptoRow.holds Try.pinned (OpenSpec.upto fnExactTotalOfSpec)

/-- 'laws.FnExactTurnTable', WHERE WHAT IT READS IS OF BULK AT MOST 1048576: true; the input reads as it did. -/
def fnExactTurnTableUptoRow : OpenClaim := { program := "ytcanmmmlppkamaa", sum := "bba61afad0bdd645fa90f86c34f528b207fface876718d212f2d6e583673e12d", func := "loop.example/g03202/laws.FnExactTurnTable", spec := "fnExactTurnTable", unfollowed := true, recurses := true, apart := false, narrowed := true }
def FnExactTurnTableUptoSaid : Prop := fnExactTurnTableUptoRow.holds Try.pinned (OpenSpec.upto fnExactTurnTableSpec)

/-- 'laws.FnExactRowSums', WHERE WHAT IT READS IS OF BULK AT MOST 1048576: true; the input reads as it did. -/
def fnExactRowSumsUptoRow : OpenClaim := { program := "ytcanmmmlppkamaa", sum := "bba61afad0bdd645fa90f86c34f528b207fface876718d212f2d6e583673e12d", func := "loop.example/g03202/laws.FnExactRowSums", spec := "fnExactRowSums", unfollowed := true, recurses := true, apart := false, narrowed := true }
def FnExactRowSumsUptoSaid : Prop := fnExactRowSumsUptoRow.holds Try.pinned (OpenSpec.upto fnExactRowSumsSpec)

/-- 'laws.FnExactColumnSums', WHERE WHAT IT READS IS OF BULK AT MOST 1048576: true; the input reads as it did. -/
def fnExactColumnSumsUptoRow : OpenClaim := { program := "ytcanmmmlppkamaa", sum := "bba61afad0bdd645fa90f86c34f528b207fface876718d212f2d6e583673e12d", func := "loop.example/g03202/laws.FnExactColumnSums", spec := "fnExactColumnSums", unfollowed := true, recurses := true, apart := false, narrowed := true }
def FnExactColumnSumsUptoSaid : Prop := fnExactColumnSumsUptoRow.holds Try.pinned (OpenSpec.upto fnExactColumnSumsSpec)

/-- 'laws.FnExactRoundEach', WHERE WHAT IT READS IS OF BULK AT MOST 1048576: true; the input reads as it did. -/
def fnExactRoundEachUptoRow : OpenClaim := { program := "ytcanmmmlppkamaa", sum := "bba61afad0bdd645fa90f86c34f528b207fface876718d212f2d6e583673e12d", func := "loop.example/g03202/laws.FnExactRoundEach", spec := "fnExactRoundEach", unfollowed := true, recurses := true, apart := false, narrowed := true }
def FnExactRoundEachUptoSaid : Prop := fnExactRoundEachUptoRow.holds Try.pinned (OpenSpec.upto fnExactRoundEachSpec)

/-- 'laws.FnExactIsRounding', WHERE WHAT IT READS IS OF BULK AT MOST 1048576: true; the input reads as it did. -/
def fnExactIsRoundingUptoRow : OpenClaim := { program := "ytcanmmmlppkamaa", sum := "bba61afad0bdd645fa90f86c34f528b207fface876718d212f2d6e583673e12d", func := "loop.example/g03202/laws.FnExactIsRounding", spec := "fnExactIsRounding", unfollowed := true, recurses := true, apart := false, narrowed := true }
def FnExactIsRoundingUptoSaid : Prop := fnExactIsRoundingUptoRow.holds Try.pinned (OpenSpec.upto fnExactIsRoundingSpec)

end Rows
end Go.Proofs.Ytcanmmmlppkamaa
