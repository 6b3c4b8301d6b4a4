/-
  No cell of these rows narrows 'for every input' (looked for: loops, veiled, ifaces, maps, wideKeys, modest, calm, conditions, laid).
  DERIVED. THE GIVEN ROWS OF THIS SEAT. 6 by the template 'for every input the law returns true; each argument reads behind the call as it read before'; 0 by the template 'total and deterministic' (their statements: YtoledjljccccaaaTotals.lean).
  GIVEN WITH THE SEED: the statements are not yours to turn. If you find one false, say at which input.
  Laid BY PROGRAM, IN A SANDBOX (cutbox-rows.mjs): the forced cells as the released guide's own fill.sh prints them over the translation 9a03193cafba4953… (all of the seat's roots in one cut). By AI agents, Wed Nov 11 2026. No macro, syntax, notation, axiom, sorry.
-/
import Derived.Test.YtoledjljccccaaaChecked
import GoSem.Claim
import GoSem.ClaimJoined
import GoSem.ClaimMapViews
import Derived.JoinedTies
import Derived.KernelRfl
namespace Go.Proofs.Ytoledjljccccaaa
/- THE CELL 'sum', in the pinned program and in every row, IS THE sha256 OF THE DUMP (.gsa) THAT YtoledjljccccaaaProg.lean LOADS. Nothing in Lean hashes anything: it is a label: what it is worth is what the hold of that sum in a sandbox is worth. -/
noncomputable def Try.pinned : Pinned := { name := "ytoledjljccccaaa", sum := "9a03193cafba495357ddbfda10b95021170616885b0a9317706a731bd26867bd", checked := Try.checked }
namespace Rows
def none {H : Type} : Left H := { results := [], args := [] }

/-- 'laws.FnExactCompareClaims': WHATEVER THE INPUT: true; the input reads as it did. -/
def fnExactCompareClaimsSpec : ChangeSpec := { name := "fnExactCompareClaims", fn := fun _ => fun
  | [d1, d2, d3, d4, d5] => { results := [.lit (.bool true)], args := [d1, d2, d3, d4, d5] }
  | _ => none }
def fnExactCompareClaimsRow : OpenClaim := { program := "ytoledjljccccaaa", sum := "9a03193cafba495357ddbfda10b95021170616885b0a9317706a731bd26867bd", func := "loop.example/g03202/laws.FnExactCompareClaims", spec := "fnExactCompareClaims", unfollowed := true, recurses := true, apart := false }
def FnExactCompareClaimsSaid : Prop := fnExactCompareClaimsRow.holds Try.pinned (OpenSpec.ofChange fnExactCompareClaimsSpec)

/-- ITS FALSE NEIGHBOUR: 'it returns false'. Refute it at one input. -/
def fnExactCompareClaimsWrong : ChangeSpec := { name := "fnExactCompareClaims", fn := fun _ => fun
  | [d1, d2, d3, d4, d5] => { results := [.lit (.bool false)], args := [d1, d2, d3, d4, d5] }
  | _ => none }
def FnExactCompareClaimsWrongFalsely : Prop := fnExactCompareClaimsRow.holds Try.pinned (OpenSpec.ofChange fnExactCompareClaimsWrong)

/-- 'laws.FnExactSeatOrder': WHATEVER THE INPUT: true; the input reads as it did. -/
def fnExactSeatOrderSpec : ChangeSpec := { name := "fnExactSeatOrder", fn := fun _ => fun
  | [d1, d2, d3] => { results := [.lit (.bool true)], args := [d1, d2, d3] }
  | _ => none }
def fnExactSeatOrderRow : OpenClaim := { program := "ytoledjljccccaaa", sum := "9a03193cafba495357ddbfda10b95021170616885b0a9317706a731bd26867bd", func := "loop.example/g03202/laws.FnExactSeatOrder", spec := "fnExactSeatOrder", unfollowed := true, recurses := true, apart := false }
def FnExactSeatOrderSaid : Prop := fnExactSeatOrderRow.holds Try.pinned (OpenSpec.ofChange fnExactSeatOrderSpec)

/-- ITS FALSE NEIGHBOUR: 'it returns false'. Refute it at one input. -/
def fnExactSeatOrderWrong : ChangeSpec := { name := "fnExactSeatOrder", fn := fun _ => fun
  | [d1, d2, d3] => { results := [.lit (.bool false)], args := [d1, d2, d3] }
  | _ => none }
def FnExactSeatOrderWrongFalsely : Prop := fnExactSeatOrderRow.holds Try.pinned (OpenSpec.ofChange fnExactSeatOrderWrong)

/-- 'laws.FnExactSeatsBy': WHATEVER THE INPUT: true; the input reads as it did. -/
def fnExactSeatsBySpec : ChangeSpec := { name := "fnExactSeatsBy", fn := fun _ => fun
  | [d1, d2, d3] => { results := [.lit (.bool true)], args := [d1, d2, d3] }
  | _ => none }
def fnExactSeatsByRow : OpenClaim := { program := "ytoledjljccccaaa", sum := "9a03193cafba495357ddbfda10b95021170616885b0a9317706a731bd26867bd", func := "loop.example/g03202/laws.FnExactSeatsBy", spec := "fnExactSeatsBy", unfollowed := true, recurses := true, apart := false }
def FnExactSeatsBySaid : Prop := fnExactSeatsByRow.holds Try.pinned (OpenSpec.ofChange fnExactSeatsBySpec)

/-- ITS FALSE NEIGHBOUR: 'it returns false'. Refute it at one input. -/
def fnExactSeatsByWrong : ChangeSpec := { name := "fnExactSeatsBy", fn := fun _ => fun
  | [d1, d2, d3] => { results := [.lit (.bool false)], args := [d1, d2, d3] }
  | _ => none }
def FnExactSeatsByWrongFalsely : Prop := fnExactSeatsByRow.holds Try.pinned (OpenSpec.ofChange fnExactSeatsByWrong)

/-- 'laws.FnExactIsFairBy': WHATEVER THE INPUT: true; the input reads as it did. -/
def fnExactIsFairBySpec : ChangeSpec := { name := "fnExactIsFairBy", fn := fun _ => fun
  | [d1, d2, d3] => { results := [.lit (.bool true)], args := [d1, d2, d3] }
  | _ => none }
def fnExactIsFairByRow : OpenClaim := { program := "ytoledjljccccaaa", sum := "9a03193cafba495357ddbfda10b95021170616885b0a9317706a731bd26867bd", func := "loop.example/g03202/laws.FnExactIsFairBy", spec := "fnExactIsFairBy", unfollowed := true, recurses := true, apart := false }
def FnExactIsFairBySaid : Prop := fnExactIsFairByRow.holds Try.pinned (OpenSpec.ofChange fnExactIsFairBySpec)

/-- ITS FALSE NEIGHBOUR: 'it returns false'. Refute it at one input. -/
def fnExactIsFairByWrong : ChangeSpec := { name := "fnExactIsFairBy", fn := fun _ => fun
  | [d1, d2, d3] => { results := [.lit (.bool false)], args := [d1, d2, d3] }
  | _ => none }
def FnExactIsFairByWrongFalsely : Prop := fnExactIsFairByRow.holds Try.pinned (OpenSpec.ofChange fnExactIsFairByWrong)

/-- 'laws.FnExactIsTied': WHATEVER THE INPUT: true; the input reads as it did. -/
def fnExactIsTiedSpec : ChangeSpec := { name := "fnExactIsTied", fn := fun _ => fun
  | [d1, d2, d3] => { results := [.lit (.bool true)], args := [d1, d2, d3] }
  | _ => none }
def fnExactIsTiedRow : OpenClaim := { program := "ytoledjljccccaaa", sum := "9a03193cafba495357ddbfda10b95021170616885b0a9317706a731bd26867bd", func := "loop.example/g03202/laws.FnExactIsTied", spec := "fnExactIsTied", unfollowed := true, recurses := true, apart := false }
def FnExactIsTiedSaid : Prop := fnExactIsTiedRow.holds Try.pinned (OpenSpec.ofChange fnExactIsTiedSpec)

/-- ITS FALSE NEIGHBOUR: 'it returns false'. Refute it at one input. -/
def fnExactIsTiedWrong : ChangeSpec := { name := "fnExactIsTied", fn := fun _ => fun
  | [d1, d2, d3] => { results := [.lit (.bool false)], args := [d1, d2, d3] }
  | _ => none }
def FnExactIsTiedWrongFalsely : Prop := fnExactIsTiedRow.holds Try.pinned (OpenSpec.ofChange fnExactIsTiedWrong)

/-- 'laws.FnExactJeffersonRange': WHATEVER THE INPUT: true; the input reads as it did. -/
def fnExactJeffersonRangeSpec : ChangeSpec := { name := "fnExactJeffersonRange", fn := fun _ => fun
  | [d1, d2] => { results := [.lit (.bool true)], args := [d1, d2] }
  | _ => none }
def fnExactJeffersonRangeRow : OpenClaim := { program := "ytoledjljccccaaa", sum := "9a03193cafba495357ddbfda10b95021170616885b0a9317706a731bd26867bd", func := "loop.example/g03202/laws.FnExactJeffersonRange", spec := "fnExactJeffersonRange", unfollowed := true, recurses := true, apart := false }
def FnExactJeffersonRangeSaid : Prop := fnExactJeffersonRangeRow.holds Try.pinned (OpenSpec.ofChange fnExactJeffersonRangeSpec)

/-- ITS FALSE NEIGHBOUR: 'it returns false'. Refute it at one input. -/
def fnExactJeffersonRangeWrong : ChangeSpec := { name := "fnExactJeffersonRange", fn := fun _ => fun
  | [d1, d2] => { results := [.lit (.bool false)], args := [d1, d2] }
  | _ => none }
def FnExactJeffersonRangeWrongFalsely : Prop := fnExactJeffersonRangeRow.holds Try.pinned (OpenSpec.ofChange fnExactJeffersonRangeWrong)

/- THE SECOND FORM. 'bulk': how many values and letters a reading holds, each counted each time it is reached (what is shared counts as often as it is met; a slice's spare places count too). A statement '..UptoSaid' is the law's where the arguments, and the package variables that the reading takes, are together of bulk at most 1048576: NARROWER than '..Said'. Prove '..Said' where nothing that the law and all that it calls make is longer than what came in: it says more and counts as full. Else prove '..UptoSaid'. A law counts once. -/
mutual
def uptoBulk {H : Type} : DataW H → Nat
  | .lit (.string bytes) => bytes.length + 1
  | .lit _ => 1
  | .nil => 1
  | .ptr d => uptoBulk d + 1
  | .slice elems spare => uptoBulkAll elems + uptoBulkAll spare + 1
  | .agg parts => uptoBulkAll parts + 1
  | .iface _ d => uptoBulk d + 1
  | .map entries => uptoBulkEntries entries + 1
  | .held _ => 1
def uptoBulkAll {H : Type} : List (DataW H) → Nat
  | [] => 0
  | d :: r => uptoBulk d + uptoBulkAll r
def uptoBulkEntries {H : Type} : List (Lit × DataW H) → Nat
  | [] => 0
  | x :: r => uptoBulkEntry x + uptoBulkEntries r
def uptoBulkEntry {H : Type} : Lit × DataW H → Nat
  | (.string bytes, d) => bytes.length + uptoBulk d + 1
  | (_, d) => uptoBulk d + 1
 end
def uptoSmall : (H : Type) → List (DataW H) → Bool := fun _ ds => decide (uptoBulkAll ds ≤ 1048576)
def OpenSpec.upto (s : _root_.Go.ChangeSpec) : _root_.Go.OpenSpec := { _root_.Go.OpenSpec.ofChange s with cond := some uptoSmall }

/-- 'laws.FnExactCompareClaims', WHERE WHAT IT READS IS OF BULK AT MOST 1048576: true; the input reads as it did. -/
def fnExactCompareClaimsUptoRow : OpenClaim := { program := "ytoledjljccccaaa", sum := "9a03193cafba495357ddbfda10b95021170616885b0a9317706a731bd26867bd", func := "loop.example/g03202/laws.FnExactCompareClaims", spec := "fnExactCompareClaims", unfollowed := true, recurses := true, apart := false, narrowed := true }
def FnExactCompareClaimsUptoSaid : Prop := fnExactCompareClaimsUptoRow.holds Try.pinned (OpenSpec.upto fnExactCompareClaimsSpec)

/-- 'laws.FnExactSeatOrder', WHERE WHAT IT READS IS OF BULK AT MOST 1048576: true; the input reads as it did. -/
def fnExactSeatOrderUptoRow : OpenClaim := { program := "ytoledjljccccaaa", sum := "9a03193cafba495357ddbfda10b95021170616885b0a9317706a731bd26867bd", func := "loop.example/g03202/laws.FnExactSeatOrder", spec := "fnExactSeatOrder", unfollowed := true, recurses := true, apart := false, narrowed := true }
def FnExactSeatOrderUptoSaid : Prop := fnExactSeatOrderUptoRow.holds Try.pinned (OpenSpec.upto fnExactSeatOrderSpec)

/-- 'laws.FnExactSeatsBy', WHERE WHAT IT READS IS OF BULK AT MOST 1048576: true; the input reads as it did. -/
def fnExactSeatsByUptoRow : OpenClaim := { program := "ytoledjljccccaaa", sum := "9a03193cafba495357ddbfda10b95021170616885b0a9317706a731bd26867bd", func := "loop.example/g03202/laws.FnExactSeatsBy", spec := "fnExactSeatsBy", unfollowed := true, recurses := true, apart := false, narrowed := true }
def FnExactSeatsByUptoSaid : Prop := fnExactSeatsByUptoRow.holds Try.pinned (OpenSpec.upto fnExactSeatsBySpec)

/-- 'laws.FnExactIsFairBy', WHERE WHAT IT READS IS OF BULK AT MOST 1048576: true; the input reads as it did. -/
def fnExactIsFairByUptoRow : OpenClaim := { program := "ytoledjljccccaaa", sum := "9a03193cafba495357ddbfda10b95021170616885b0a9317706a731bd26867bd", func := "loop.example/g03202/laws.FnExactIsFairBy", spec := "fnExactIsFairBy", unfollowed := true, recurses := true, apart := false, narrowed := true }
def FnExactIsFairByUptoSaid : Prop := fnExactIsFairByUptoRow.holds Try.pinned (OpenSpec.upto fnExactIsFairBySpec)

/-- 'laws.FnExactIsTied', WHERE WHAT IT READS IS OF BULK AT MOST 1048576: true; the input reads as it did. -/
def fnExactIsTiedUptoRow : OpenClaim := { program := "ytoledjljccccaaa", sum := "9a03193cafba495357ddbfda10b95021170616885b0a9317706a731bd26867bd", func := "loop.example/g03202/laws.FnExactIsTied", spec := "fnExactIsTied", unfollowed := true, recurses := true, apart := false, narrowed := true }
def FnExactIsTiedUptoSaid : Prop := fnExactIsTiedUptoRow.holds Try.pinned (OpenSpec.upto fnExactIsTiedSpec)

/-- 'laws.FnExactJeffersonRange', WHERE WHAT IT READS IS OF BULK AT MOST 1048576: true; the input reads as it did. -/
def fnExactJeffersonRangeUptoRow : OpenClaim := { program := "ytoledjljccccaaa", sum := "9a03193cafba495357ddbfda10b95021170616885b0a9317706a731bd26867bd", func := "loop.example/g03202/laws.FnExactJeffersonRange", spec := "fnExactJeffersonRange", unfollowed := true, recurses := true, apart := false, narrowed := true }
def FnExactJeffersonRangeUptoSaid : Prop := fnExactJeffersonRangeUptoRow.holds Try.pinned (OpenSpec.upto fnExactJeffersonRangeSpec)

end Rows
end Go.Proofs.Ytoledjljccccaaa
