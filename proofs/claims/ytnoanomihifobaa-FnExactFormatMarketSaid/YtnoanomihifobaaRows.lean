/-
  No cell of these rows narrows 'for every input' (looked for: loops, veiled, ifaces, maps, wideKeys, modest, calm, conditions, laid).
  DERIVED. THE GIVEN ROWS OF THIS SEAT. 3 by the template 'for every input the law returns true; each argument reads behind the call as it read before'; 0 by the template 'total and deterministic' (their statements: YtnoanomihifobaaTotals.lean).
  GIVEN WITH THE SEED: the statements are not yours to turn. If you find one false, say at which input.
  Laid BY PROGRAM, IN A SANDBOX (cutbox-rows.mjs): the forced cells as the released guide's own fill.sh prints them over the translation b927f19eeccf30b2… (all of the seat's roots in one cut). By AI agents, Wed Nov 11 2026. No macro, syntax, notation, axiom, sorry.
-/
import Derived.Test.YtnoanomihifobaaChecked
import GoSem.Claim
import GoSem.ClaimJoined
import GoSem.ClaimMapViews
import Derived.JoinedTies
import Derived.KernelRfl
namespace Go.Proofs.Ytnoanomihifobaa
/- THE CELL 'sum', in the pinned program and in every row, IS THE sha256 OF THE DUMP (.gsa) THAT YtnoanomihifobaaProg.lean LOADS. Nothing in Lean hashes anything: it is a label: what it is worth is what the hold of that sum in a sandbox is worth. -/
noncomputable def Try.pinned : Pinned := { name := "ytnoanomihifobaa", sum := "b927f19eeccf30b2682860754937861b98d56ebbaa4857070d67e48874ffd99d", checked := Try.checked }
namespace Rows
def none {H : Type} : Left H := { results := [], args := [] }

/-- 'laws.FnExactIsUniqueStable': WHATEVER THE INPUT: true; the input reads as it did. -/
def fnExactIsUniqueStableSpec : ChangeSpec := { name := "fnExactIsUniqueStable", fn := fun _ => fun
  | [d] => { results := [.lit (.bool true)], args := [d] }
  | _ => none }
def fnExactIsUniqueStableRow : OpenClaim := { program := "ytnoanomihifobaa", sum := "b927f19eeccf30b2682860754937861b98d56ebbaa4857070d67e48874ffd99d", func := "loop.example/g03202/laws.FnExactIsUniqueStable", spec := "fnExactIsUniqueStable", unfollowed := true, recurses := true, apart := false }
def FnExactIsUniqueStableSaid : Prop := fnExactIsUniqueStableRow.holds Try.pinned (OpenSpec.ofChange fnExactIsUniqueStableSpec)

/-- ITS FALSE NEIGHBOUR: 'it returns false'. Refute it at one input. -/
def fnExactIsUniqueStableWrong : ChangeSpec := { name := "fnExactIsUniqueStable", fn := fun _ => fun
  | [d] => { results := [.lit (.bool false)], args := [d] }
  | _ => none }
def FnExactIsUniqueStableWrongFalsely : Prop := fnExactIsUniqueStableRow.holds Try.pinned (OpenSpec.ofChange fnExactIsUniqueStableWrong)

/-- 'laws.FnExactStableMatchings': WHATEVER THE INPUT: true; the input reads as it did. -/
def fnExactStableMatchingsSpec : ChangeSpec := { name := "fnExactStableMatchings", fn := fun _ => fun
  | [d] => { results := [.lit (.bool true)], args := [d] }
  | _ => none }
def fnExactStableMatchingsRow : OpenClaim := { program := "ytnoanomihifobaa", sum := "b927f19eeccf30b2682860754937861b98d56ebbaa4857070d67e48874ffd99d", func := "loop.example/g03202/laws.FnExactStableMatchings", spec := "fnExactStableMatchings", unfollowed := true, recurses := true, apart := false }
def FnExactStableMatchingsSaid : Prop := fnExactStableMatchingsRow.holds Try.pinned (OpenSpec.ofChange fnExactStableMatchingsSpec)

/-- ITS FALSE NEIGHBOUR: 'it returns false'. Refute it at one input. -/
def fnExactStableMatchingsWrong : ChangeSpec := { name := "fnExactStableMatchings", fn := fun _ => fun
  | [d] => { results := [.lit (.bool false)], args := [d] }
  | _ => none }
def FnExactStableMatchingsWrongFalsely : Prop := fnExactStableMatchingsRow.holds Try.pinned (OpenSpec.ofChange fnExactStableMatchingsWrong)

/-- 'laws.FnExactFormatMarket': WHATEVER THE INPUT: true; the input reads as it did. -/
def fnExactFormatMarketSpec : ChangeSpec := { name := "fnExactFormatMarket", fn := fun _ => fun
  | [d] => { results := [.lit (.bool true)], args := [d] }
  | _ => none }
def fnExactFormatMarketRow : OpenClaim := { program := "ytnoanomihifobaa", sum := "b927f19eeccf30b2682860754937861b98d56ebbaa4857070d67e48874ffd99d", func := "loop.example/g03202/laws.FnExactFormatMarket", spec := "fnExactFormatMarket", inPlace := ["internal/abi.NoEscape", "internal/bytealg.MakeNoZero"], unfollowed := true, recurses := true, apart := false }
def FnExactFormatMarketSaid : Prop := fnExactFormatMarketRow.holds Try.pinned (OpenSpec.ofChange fnExactFormatMarketSpec)

/-- ITS FALSE NEIGHBOUR: 'it returns false'. Refute it at one input. -/
def fnExactFormatMarketWrong : ChangeSpec := { name := "fnExactFormatMarket", fn := fun _ => fun
  | [d] => { results := [.lit (.bool false)], args := [d] }
  | _ => none }
def FnExactFormatMarketWrongFalsely : Prop := fnExactFormatMarketRow.holds Try.pinned (OpenSpec.ofChange fnExactFormatMarketWrong)

/- THE SECOND FORM. 'bulk': how many values and letters a reading holds, each counted each time it is reached (what is shared counts as often as it is met; a slice's spare places count too). A statement '..UptoSaid' is the law's where the arguments, and the package variables that the reading takes, are together of bulk at most 1048576: NARROWER than '..Said'. Prove '..Said' where nothing that the law and all that it calls make is longer than what came in: it says more and counts as full. Else prove '..UptoSaid'. A law counts once. -/
mutual
def uptoBulk {H : Type} : DataW H → Nat
  | .lit (.string bytes) => bytes.length + 1
  | .lit _ => 1
  | .nil => 1
  | .ptr d => uptoBulk d + 1
  | .slice elems spare => uptoBulkAll elems + uptoBulkAll spare + 1
  | .agg parts => uptoBulkAll parts + 1
  | .iface _ d => uptoBulk d + 1
  | .map entries => uptoBulkEntries entries + 1
  | .held _ => 1
def uptoBulkAll {H : Type} : List (DataW H) → Nat
  | [] => 0
  | d :: r => uptoBulk d + uptoBulkAll r
def uptoBulkEntries {H : Type} : List (Lit × DataW H) → Nat
  | [] => 0
  | x :: r => uptoBulkEntry x + uptoBulkEntries r
def uptoBulkEntry {H : Type} : Lit × DataW H → Nat
  | (.string bytes, d) => bytes.length + uptoBulk d + 1
  | (_, d) => uptoBulk d + 1
 end
def uptoSmall : (H : Type) → List (DataW H) → Bool := fun _ ds => decide (uptoBulkAll ds ≤ 1048576)
def OpenSpec.upto (s : _root_.Go.ChangeSpec) : _root_.Go.OpenSpec := { _root_.Go.OpenSpec.ofChange s with cond := some uptoSmall }

/-- 'laws.FnExactIsUniqueStable', WHERE WHAT IT READS IS OF BULK AT MOST 1048576: true; the input reads as it did. -/
def fnExactIsUniqueStableUptoRow : OpenClaim := { program := "ytnoanomihifobaa", sum := "b927f19eeccf30b2682860754937861b98d56ebbaa4857070d67e48874ffd99d", func := "loop.example/g03202/laws.FnExactIsUniqueStable", spec := "fnExactIsUniqueStable", unfollowed := true, recurses := true, apart := false, narrowed := true }
def FnExactIsUniqueStableUptoSaid : Prop := fnExactIsUniqueStableUptoRow.holds Try.pinned (OpenSpec.upto fnExactIsUniqueStableSpec)

/-- 'laws.FnExactStableMatchings', WHERE WHAT IT READS IS OF BULK AT MOST 1048576: true; the input reads as it did. -/
def fnExactStableMatchingsUptoRow : OpenClaim := { program := "ytnoanomihifobaa", sum := "b927f19eeccf30b2682860754937861b98d56ebbaa4857070d67e48874ffd99d", func := "loop.example/g03202/laws.FnExactStableMatchings", spec := "fnExactStableMatchings", unfollowed := true, recurses := true, apart := false, narrowed := true }
def FnExactStableMatchingsUptoSaid : Prop := fnExactStableMatchingsUptoRow.holds Try.pinned (OpenSpec.upto fnExactStableMatchingsSpec)

/-- 'laws.FnExactFormatMarket', WHERE WHAT IT READS IS OF BULK AT MOST 1048576: true; the input reads as it did. -/
def fnExactFormatMarketUptoRow : OpenClaim := { program := "ytnoanomihifobaa", sum := "b927f19eeccf30b2682860754937861b98d56ebbaa4857070d67e48874ffd99d", func := "loop.example/g03202/laws.FnExactFormatMarket", spec := "fnExactFormatMarket", inPlace := ["internal/abi.NoEscape", "internal/bytealg.MakeNoZero"], unfollowed := true, recurses := true, apart := false, narrowed := true }
def FnExactFormatMarketUptoSaid : Prop := fnExactFormatMarketUptoRow.holds Try.pinned (OpenSpec.upto fnExactFormatMarketSpec)

end Rows
end Go.Proofs.Ytnoanomihifobaa
