/-
  No cell of these rows narrows 'for every input' (looked for: loops, veiled, ifaces, maps, wideKeys, modest, calm, conditions, laid).
  DERIVED. THE GIVEN ROWS OF THIS SEAT. 5 by the template 'for every input the law returns true; each argument reads behind the call as it read before'; 0 by the template 'total and deterministic' (their statements: YtbhkpingpipdpaaTotals.lean).
  GIVEN WITH THE SEED: the statements are not yours to turn. If you find one false, say at which input.
  Laid BY PROGRAM, IN A SANDBOX (cutbox-rows.mjs): the forced cells as the released guide's own fill.sh prints them over the translation 927b27e53d42fa45… (all of the seat's roots in one cut). By AI agents, Wed Nov 11 2026. No macro, syntax, notation, axiom, sorry.
-/
import Derived.Test.YtbhkpingpipdpaaChecked
import GoSem.Claim
import GoSem.ClaimJoined
import GoSem.ClaimMapViews
import Derived.JoinedTies
import Derived.KernelRfl
namespace Go.Proofs.Ytbhkpingpipdpaa
/- THE CELL 'sum', in the pinned program and in every row, IS THE sha256 OF THE DUMP (.gsa) THAT YtbhkpingpipdpaaProg.lean LOADS. Nothing in Lean hashes anything: it is a label: what it is worth is what the hold of that sum in a sandbox is worth. -/
noncomputable def Try.pinned : Pinned := { name := "ytbhkpingpipdpaa", sum := "927b27e53d42fa45ac49a650568498acd005d687c5bc41c0355cbf82ebf52f95", checked := Try.checked }
namespace Rows
def none {H : Type} : Left H := { results := [], args := [] }

/-- 'laws.FnExactTurnMarket': WHATEVER THE INPUT: true; the input reads as it did. -/
def fnExactTurnMarketSpec : ChangeSpec := { name := "fnExactTurnMarket", fn := fun _ => fun
  | [d] => { results := [.lit (.bool true)], args := [d] }
  | _ => none }
def fnExactTurnMarketRow : OpenClaim := { program := "ytbhkpingpipdpaa", sum := "927b27e53d42fa45ac49a650568498acd005d687c5bc41c0355cbf82ebf52f95", func := "loop.example/g03202/laws.FnExactTurnMarket", spec := "fnExactTurnMarket", unfollowed := true, recurses := true, apart := false }
def FnExactTurnMarketSaid : Prop := fnExactTurnMarketRow.holds Try.pinned (OpenSpec.ofChange fnExactTurnMarketSpec)

/-- ITS FALSE NEIGHBOUR: 'it returns false'. Refute it at one input. -/
def fnExactTurnMarketWrong : ChangeSpec := { name := "fnExactTurnMarket", fn := fun _ => fun
  | [d] => { results := [.lit (.bool false)], args := [d] }
  | _ => none }
def FnExactTurnMarketWrongFalsely : Prop := fnExactTurnMarketRow.holds Try.pinned (OpenSpec.ofChange fnExactTurnMarketWrong)

/-- 'laws.FnExactBetterOf': WHATEVER THE INPUT: true; the input reads as it did. -/
def fnExactBetterOfSpec : ChangeSpec := { name := "fnExactBetterOf", fn := fun _ => fun
  | [d1, d2, d3] => { results := [.lit (.bool true)], args := [d1, d2, d3] }
  | _ => none }
def fnExactBetterOfRow : OpenClaim := { program := "ytbhkpingpipdpaa", sum := "927b27e53d42fa45ac49a650568498acd005d687c5bc41c0355cbf82ebf52f95", func := "loop.example/g03202/laws.FnExactBetterOf", spec := "fnExactBetterOf", unfollowed := true, recurses := true, apart := false }
def FnExactBetterOfSaid : Prop := fnExactBetterOfRow.holds Try.pinned (OpenSpec.ofChange fnExactBetterOfSpec)

/-- ITS FALSE NEIGHBOUR: 'it returns false'. Refute it at one input. -/
def fnExactBetterOfWrong : ChangeSpec := { name := "fnExactBetterOf", fn := fun _ => fun
  | [d1, d2, d3] => { results := [.lit (.bool false)], args := [d1, d2, d3] }
  | _ => none }
def FnExactBetterOfWrongFalsely : Prop := fnExactBetterOfRow.holds Try.pinned (OpenSpec.ofChange fnExactBetterOfWrong)

/-- 'laws.FnExactWorseOf': WHATEVER THE INPUT: true; the input reads as it did. -/
def fnExactWorseOfSpec : ChangeSpec := { name := "fnExactWorseOf", fn := fun _ => fun
  | [d1, d2, d3] => { results := [.lit (.bool true)], args := [d1, d2, d3] }
  | _ => none }
def fnExactWorseOfRow : OpenClaim := { program := "ytbhkpingpipdpaa", sum := "927b27e53d42fa45ac49a650568498acd005d687c5bc41c0355cbf82ebf52f95", func := "loop.example/g03202/laws.FnExactWorseOf", spec := "fnExactWorseOf", unfollowed := true, recurses := true, apart := false }
def FnExactWorseOfSaid : Prop := fnExactWorseOfRow.holds Try.pinned (OpenSpec.ofChange fnExactWorseOfSpec)

/-- ITS FALSE NEIGHBOUR: 'it returns false'. Refute it at one input. -/
def fnExactWorseOfWrong : ChangeSpec := { name := "fnExactWorseOf", fn := fun _ => fun
  | [d1, d2, d3] => { results := [.lit (.bool false)], args := [d1, d2, d3] }
  | _ => none }
def FnExactWorseOfWrongFalsely : Prop := fnExactWorseOfRow.holds Try.pinned (OpenSpec.ofChange fnExactWorseOfWrong)

/-- 'laws.FnExactProposeMen': WHATEVER THE INPUT: true; the input reads as it did. -/
def fnExactProposeMenSpec : ChangeSpec := { name := "fnExactProposeMen", fn := fun _ => fun
  | [d] => { results := [.lit (.bool true)], args := [d] }
  | _ => none }
def fnExactProposeMenRow : OpenClaim := { program := "ytbhkpingpipdpaa", sum := "927b27e53d42fa45ac49a650568498acd005d687c5bc41c0355cbf82ebf52f95", func := "loop.example/g03202/laws.FnExactProposeMen", spec := "fnExactProposeMen", unfollowed := true, recurses := true, apart := false }
def FnExactProposeMenSaid : Prop := fnExactProposeMenRow.holds Try.pinned (OpenSpec.ofChange fnExactProposeMenSpec)

/-- ITS FALSE NEIGHBOUR: 'it returns false'. Refute it at one input. -/
def fnExactProposeMenWrong : ChangeSpec := { name := "fnExactProposeMen", fn := fun _ => fun
  | [d] => { results := [.lit (.bool false)], args := [d] }
  | _ => none }
def FnExactProposeMenWrongFalsely : Prop := fnExactProposeMenRow.holds Try.pinned (OpenSpec.ofChange fnExactProposeMenWrong)

/-- 'laws.FnExactProposeWomen': WHATEVER THE INPUT: true; the input reads as it did. -/
def fnExactProposeWomenSpec : ChangeSpec := { name := "fnExactProposeWomen", fn := fun _ => fun
  | [d] => { results := [.lit (.bool true)], args := [d] }
  | _ => none }
def fnExactProposeWomenRow : OpenClaim := { program := "ytbhkpingpipdpaa", sum := "927b27e53d42fa45ac49a650568498acd005d687c5bc41c0355cbf82ebf52f95", func := "loop.example/g03202/laws.FnExactProposeWomen", spec := "fnExactProposeWomen", unfollowed := true, recurses := true, apart := false }
def FnExactProposeWomenSaid : Prop := fnExactProposeWomenRow.holds Try.pinned (OpenSpec.ofChange fnExactProposeWomenSpec)

/-- ITS FALSE NEIGHBOUR: 'it returns false'. Refute it at one input. -/
def fnExactProposeWomenWrong : ChangeSpec := { name := "fnExactProposeWomen", fn := fun _ => fun
  | [d] => { results := [.lit (.bool false)], args := [d] }
  | _ => none }
def FnExactProposeWomenWrongFalsely : Prop := fnExactProposeWomenRow.holds Try.pinned (OpenSpec.ofChange fnExactProposeWomenWrong)

/- THE SECOND FORM. 'bulk': how many values and letters a reading holds, each counted each time it is reached (what is shared counts as often as it is met; a slice's spare places count too). A statement '..UptoSaid' is the law's where the arguments, and the package variables that the reading takes, are together of bulk at most 1048576: NARROWER than '..Said'. Prove '..Said' where nothing that the law and all that it calls make is longer than what came in: it says more and counts as full. Else prove '..UptoSaid'. A law counts once. -/
mutual
def uptoBulk {H : Type} : DataW H → Nat
  | .lit (.string bytes) => bytes.length + 1
  | .lit _ => 1
  | .nil => 1
  | .ptr d => uptoBulk d + 1
  | .slice elems spare => uptoBulkAll elems + uptoBulkAll spare + 1
  | .agg parts => uptoBulkAll parts + 1
  | .iface _ d => uptoBulk d + 1
  | .map entries => uptoBulkEntries entries + 1
  | .held _ => 1
def uptoBulkAll {H : Type} : List (DataW H) → Nat
  | [] => 0
  | d :: r => uptoBulk d + uptoBulkAll r
def uptoBulkEntries {H : Type} : List (Lit × DataW H) → Nat
  | [] => 0
  | x :: r => uptoBulkEntry x + uptoBulkEntries r
def uptoBulkEntry {H : Type} : Lit × DataW H → Nat
  | (.string bytes, d) => bytes.length + uptoBulk d + 1
  | (_, d) => uptoBulk d + 1
 end
def uptoSmall : (H : Type) → List (DataW H) → Bool := fun _ ds => decide (uptoBulkAll ds ≤ 1048576)
def OpenSpec.upto (s : _root_.Go.ChangeSpec) : _root_.Go.OpenSpec := { _root_.Go.OpenSpec.ofChange s with cond := some uptoSmall }

/-- 'laws.FnExactTurnMarket', WHERE WHAT IT READS IS OF BULK AT MOST 1048576: true; the input reads as it did. -/
def fnExactTurnMarketUptoRow : OpenClaim := { program := "ytbhkpingpipdpaa", sum := "927b27e53d42fa45ac49a650568498acd005d687c5bc41c0355cbf82ebf52f95", func := "loop.example/g03202/laws.FnExactTurnMarket", spec := "fnExactTurnMarket", unfollowed := true, recurses := true, apart := false, narrowed := true }
def FnExactTurnMarketUptoSaid : Prop := fnExactTurnMarketUptoRow.holds Try.pinned (OpenSpec.upto fnExactTurnMarketSpec)

/-- 'laws.FnExactBetterOf', WHERE WHAT IT READS IS OF BULK AT MOST 1048576: true; the input reads as it did. -/
def fnExactBetterOfUptoRow : OpenClaim := { program := "ytbhkpingpipdpaa", sum := "927b27e53d42fa45ac49a650568498acd005d687c5bc41c0355cbf82ebf52f95", func := "loop.example/g03202/laws.FnExactBetterOf", spec := "fnExactBetterOf", unfollowed := true, recurses := true, apart := false, narrowed := true }
def FnExactBetterOfUptoSaid : Prop := fnExactBetterOfUptoRow.holds Try.pinned (OpenSpec.upto fnExactBetterOfSpec)

/-- 'laws.FnExactWorseOf', WHERE WHAT IT READS IS OF BULK AT MOST 1048576: true; the input reads as it did. -/
def fnExactWorseOfUptoRow : OpenClaim := { program := "ytbhkpingpipdpaa", sum := "927b27e53d42fa45ac49a650568498acd005d687c5bc41c0355cbf82ebf52f95", func := "loop.example/g03202/laws.FnExactWorseOf", spec := "fnExactWorseOf", unfollowed := true, recurses := true, apart := false, narrowed := true }
def FnExactWorseOfUptoSaid : Prop := fnExactWorseOfUptoRow.holds Try.pinned (OpenSpec.upto fnExactWorseOfSpec)

/-- 'laws.FnExactProposeMen', WHERE WHAT IT READS IS OF BULK AT MOST 1048576: true; the input reads as it did. -/
def fnExactProposeMenUptoRow : OpenClaim := { program := "ytbhkpingpipdpaa", sum := "927b27e53d42fa45ac49a650568498acd005d687c5bc41c0355cbf82ebf52f95", func := "loop.example/g03202/laws.FnExactProposeMen", spec := "fnExactProposeMen", unfollowed := true, recurses := true, apart := false, narrowed := true }
def FnExactProposeMenUptoSaid : Prop := fnExactProposeMenUptoRow.holds Try.pinned (OpenSpec.upto fnExactProposeMenSpec)

/-- 'laws.FnExactProposeWomen', WHERE WHAT IT READS IS OF BULK AT MOST 1048576: true; the input reads as it did. -/
def fnExactProposeWomenUptoRow : OpenClaim := { program := "ytbhkpingpipdpaa", sum := "927b27e53d42fa45ac49a650568498acd005d687c5bc41c0355cbf82ebf52f95", func := "loop.example/g03202/laws.FnExactProposeWomen", spec := "fnExactProposeWomen", unfollowed := true, recurses := true, apart := false, narrowed := true }
def FnExactProposeWomenUptoSaid : Prop := fnExactProposeWomenUptoRow.holds Try.pinned (OpenSpec.upto fnExactProposeWomenSpec)

end Rows
end Go.Proofs.Ytbhkpingpipdpaa
