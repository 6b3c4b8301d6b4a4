/-
  No cell of these rows narrows 'for every input' (looked for: loops, veiled, ifaces, maps, wideKeys, modest, calm, conditions, laid).
  DERIVED. THE GIVEN ROWS OF THIS SEAT. 7 by the template 'for every input the law returns true; each argument reads behind the call as it read before'; 0 by the template 'total and deterministic' (their statements: YtkjgngkiiecckaaTotals.lean).
  GIVEN WITH THE SEED: the statements are not yours to turn. If you find one false, say at which input.
  Laid BY PROGRAM, IN A SANDBOX (cutbox-rows.mjs): the forced cells as the released guide's own fill.sh prints them over the translation 2137b736bac5462f… (all of the seat's roots in one cut). By AI agents, Wed Nov 11 2026. No macro, syntax, notation, axiom, sorry.
-/
import Derived.Test.YtkjgngkiiecckaaChecked
import GoSem.Claim
import GoSem.ClaimJoined
import GoSem.ClaimMapViews
import Derived.JoinedTies
import Derived.KernelRfl
namespace Go.Proofs.Ytkjgngkiiecckaa
/- THE CELL 'sum', in the pinned program and in every row, IS THE sha256 OF THE DUMP (.gsa) THAT YtkjgngkiiecckaaProg.lean LOADS. Nothing in Lean hashes anything: it is a label: what it is worth is what the hold of that sum in a sandbox is worth. -/
noncomputable def Try.pinned : Pinned := { name := "ytkjgngkiiecckaa", sum := "2137b736bac5462f9f6c89fe3dcf024f107ec34f675adf1019609903218162d2", checked := Try.checked }
namespace Rows
def none {H : Type} : Left H := { results := [], args := [] }

/-- 'laws.FnExactCountsOk': WHATEVER THE INPUT: true; the input reads as it did. -/
def fnExactCountsOkSpec : ChangeSpec := { name := "fnExactCountsOk", fn := fun _ => fun
  | [d] => { results := [.lit (.bool true)], args := [d] }
  | _ => none }
def fnExactCountsOkRow : OpenClaim := { program := "ytkjgngkiiecckaa", sum := "2137b736bac5462f9f6c89fe3dcf024f107ec34f675adf1019609903218162d2", func := "loop.example/g03202/laws.FnExactCountsOk", spec := "fnExactCountsOk", unfollowed := true, recurses := true, apart := false }
def FnExactCountsOkSaid : Prop := fnExactCountsOkRow.holds Try.pinned (OpenSpec.ofChange fnExactCountsOkSpec)

/-- ITS FALSE NEIGHBOUR: 'it returns false'. Refute it at one input. -/
def fnExactCountsOkWrong : ChangeSpec := { name := "fnExactCountsOk", fn := fun _ => fun
  | [d] => { results := [.lit (.bool false)], args := [d] }
  | _ => none }
def FnExactCountsOkWrongFalsely : Prop := fnExactCountsOkRow.holds Try.pinned (OpenSpec.ofChange fnExactCountsOkWrong)

/-- 'laws.FnExactLowerQuotas': WHATEVER THE INPUT: true; the input reads as it did. -/
def fnExactLowerQuotasSpec : ChangeSpec := { name := "fnExactLowerQuotas", fn := fun _ => fun
  | [d1, d2] => { results := [.lit (.bool true)], args := [d1, d2] }
  | _ => none }
def fnExactLowerQuotasRow : OpenClaim := { program := "ytkjgngkiiecckaa", sum := "2137b736bac5462f9f6c89fe3dcf024f107ec34f675adf1019609903218162d2", func := "loop.example/g03202/laws.FnExactLowerQuotas", spec := "fnExactLowerQuotas", unfollowed := true, recurses := true, apart := false }
def FnExactLowerQuotasSaid : Prop := fnExactLowerQuotasRow.holds Try.pinned (OpenSpec.ofChange fnExactLowerQuotasSpec)

/-- ITS FALSE NEIGHBOUR: 'it returns false'. Refute it at one input. -/
def fnExactLowerQuotasWrong : ChangeSpec := { name := "fnExactLowerQuotas", fn := fun _ => fun
  | [d1, d2] => { results := [.lit (.bool false)], args := [d1, d2] }
  | _ => none }
def FnExactLowerQuotasWrongFalsely : Prop := fnExactLowerQuotasRow.holds Try.pinned (OpenSpec.ofChange fnExactLowerQuotasWrong)

/-- 'laws.FnExactRemaindersOf': WHATEVER THE INPUT: true; the input reads as it did. -/
def fnExactRemaindersOfSpec : ChangeSpec := { name := "fnExactRemaindersOf", fn := fun _ => fun
  | [d1, d2] => { results := [.lit (.bool true)], args := [d1, d2] }
  | _ => none }
def fnExactRemaindersOfRow : OpenClaim := { program := "ytkjgngkiiecckaa", sum := "2137b736bac5462f9f6c89fe3dcf024f107ec34f675adf1019609903218162d2", func := "loop.example/g03202/laws.FnExactRemaindersOf", spec := "fnExactRemaindersOf", unfollowed := true, recurses := true, apart := false }
def FnExactRemaindersOfSaid : Prop := fnExactRemaindersOfRow.holds Try.pinned (OpenSpec.ofChange fnExactRemaindersOfSpec)

/-- ITS FALSE NEIGHBOUR: 'it returns false'. Refute it at one input. -/
def fnExactRemaindersOfWrong : ChangeSpec := { name := "fnExactRemaindersOf", fn := fun _ => fun
  | [d1, d2] => { results := [.lit (.bool false)], args := [d1, d2] }
  | _ => none }
def FnExactRemaindersOfWrongFalsely : Prop := fnExactRemaindersOfRow.holds Try.pinned (OpenSpec.ofChange fnExactRemaindersOfWrong)

/-- 'laws.FnExactUpperQuotas': WHATEVER THE INPUT: true; the input reads as it did. -/
def fnExactUpperQuotasSpec : ChangeSpec := { name := "fnExactUpperQuotas", fn := fun _ => fun
  | [d1, d2] => { results := [.lit (.bool true)], args := [d1, d2] }
  | _ => none }
def fnExactUpperQuotasRow : OpenClaim := { program := "ytkjgngkiiecckaa", sum := "2137b736bac5462f9f6c89fe3dcf024f107ec34f675adf1019609903218162d2", func := "loop.example/g03202/laws.FnExactUpperQuotas", spec := "fnExactUpperQuotas", unfollowed := true, recurses := true, apart := false }
def FnExactUpperQuotasSaid : Prop := fnExactUpperQuotasRow.holds Try.pinned (OpenSpec.ofChange fnExactUpperQuotasSpec)

/-- ITS FALSE NEIGHBOUR: 'it returns false'. Refute it at one input. -/
def fnExactUpperQuotasWrong : ChangeSpec := { name := "fnExactUpperQuotas", fn := fun _ => fun
  | [d1, d2] => { results := [.lit (.bool false)], args := [d1, d2] }
  | _ => none }
def FnExactUpperQuotasWrongFalsely : Prop := fnExactUpperQuotasRow.holds Try.pinned (OpenSpec.ofChange fnExactUpperQuotasWrong)

/-- 'laws.FnExactQuotaOf': WHATEVER THE INPUT: true; the input reads as it did. -/
def fnExactQuotaOfSpec : ChangeSpec := { name := "fnExactQuotaOf", fn := fun _ => fun
  | [d1, d2, d3] => { results := [.lit (.bool true)], args := [d1, d2, d3] }
  | _ => none }
def fnExactQuotaOfRow : OpenClaim := { program := "ytkjgngkiiecckaa", sum := "2137b736bac5462f9f6c89fe3dcf024f107ec34f675adf1019609903218162d2", func := "loop.example/g03202/laws.FnExactQuotaOf", spec := "fnExactQuotaOf", unfollowed := true, recurses := true, apart := false }
def FnExactQuotaOfSaid : Prop := fnExactQuotaOfRow.holds Try.pinned (OpenSpec.ofChange fnExactQuotaOfSpec)

/-- ITS FALSE NEIGHBOUR: 'it returns false'. Refute it at one input. -/
def fnExactQuotaOfWrong : ChangeSpec := { name := "fnExactQuotaOf", fn := fun _ => fun
  | [d1, d2, d3] => { results := [.lit (.bool false)], args := [d1, d2, d3] }
  | _ => none }
def FnExactQuotaOfWrongFalsely : Prop := fnExactQuotaOfRow.holds Try.pinned (OpenSpec.ofChange fnExactQuotaOfWrong)

/-- 'laws.FnExactKeepsQuota': WHATEVER THE INPUT: true; the input reads as it did. -/
def fnExactKeepsQuotaSpec : ChangeSpec := { name := "fnExactKeepsQuota", fn := fun _ => fun
  | [d1, d2] => { results := [.lit (.bool true)], args := [d1, d2] }
  | _ => none }
def fnExactKeepsQuotaRow : OpenClaim := { program := "ytkjgngkiiecckaa", sum := "2137b736bac5462f9f6c89fe3dcf024f107ec34f675adf1019609903218162d2", func := "loop.example/g03202/laws.FnExactKeepsQuota", spec := "fnExactKeepsQuota", unfollowed := true, recurses := true, apart := false }
def FnExactKeepsQuotaSaid : Prop := fnExactKeepsQuotaRow.holds Try.pinned (OpenSpec.ofChange fnExactKeepsQuotaSpec)

/-- ITS FALSE NEIGHBOUR: 'it returns false'. Refute it at one input. -/
def fnExactKeepsQuotaWrong : ChangeSpec := { name := "fnExactKeepsQuota", fn := fun _ => fun
  | [d1, d2] => { results := [.lit (.bool false)], args := [d1, d2] }
  | _ => none }
def FnExactKeepsQuotaWrongFalsely : Prop := fnExactKeepsQuotaRow.holds Try.pinned (OpenSpec.ofChange fnExactKeepsQuotaWrong)

/-- 'laws.FnExactDistanceOf': WHATEVER THE INPUT: true; the input reads as it did. -/
def fnExactDistanceOfSpec : ChangeSpec := { name := "fnExactDistanceOf", fn := fun _ => fun
  | [d1, d2] => { results := [.lit (.bool true)], args := [d1, d2] }
  | _ => none }
def fnExactDistanceOfRow : OpenClaim := { program := "ytkjgngkiiecckaa", sum := "2137b736bac5462f9f6c89fe3dcf024f107ec34f675adf1019609903218162d2", func := "loop.example/g03202/laws.FnExactDistanceOf", spec := "fnExactDistanceOf", unfollowed := true, recurses := true, apart := false }
def FnExactDistanceOfSaid : Prop := fnExactDistanceOfRow.holds Try.pinned (OpenSpec.ofChange fnExactDistanceOfSpec)

/-- ITS FALSE NEIGHBOUR: 'it returns false'. Refute it at one input. -/
def fnExactDistanceOfWrong : ChangeSpec := { name := "fnExactDistanceOf", fn := fun _ => fun
  | [d1, d2] => { results := [.lit (.bool false)], args := [d1, d2] }
  | _ => none }
def FnExactDistanceOfWrongFalsely : Prop := fnExactDistanceOfRow.holds Try.pinned (OpenSpec.ofChange fnExactDistanceOfWrong)

/- THE SECOND FORM. 'bulk': how many values and letters a reading holds, each counted each time it is reached (what is shared counts as often as it is met; a slice's spare places count too). A statement '..UptoSaid' is the law's where the arguments, and the package variables that the reading takes, are together of bulk at most 1048576: NARROWER than '..Said'. Prove '..Said' where nothing that the law and all that it calls make is longer than what came in: it says more and counts as full. Else prove '..UptoSaid'. A law counts once. -/
mutual
def uptoBulk {H : Type} : DataW H → Nat
  | .lit (.string bytes) => bytes.length + 1
  | .lit _ => 1
  | .nil => 1
  | .ptr d => uptoBulk d + 1
  | .slice elems spare => uptoBulkAll elems + uptoBulkAll spare + 1
  | .agg parts => uptoBulkAll parts + 1
  | .iface _ d => uptoBulk d + 1
  | .map entries => uptoBulkEntries entries + 1
  | .held _ => 1
def uptoBulkAll {H : Type} : List (DataW H) → Nat
  | [] => 0
  | d :: r => uptoBulk d + uptoBulkAll r
def uptoBulkEntries {H : Type} : List (Lit × DataW H) → Nat
  | [] => 0
  | x :: r => uptoBulkEntry x + uptoBulkEntries r
def uptoBulkEntry {H : Type} : Lit × DataW H → Nat
  | (.string bytes, d) => bytes.length + uptoBulk d + 1
  | (_, d) => uptoBulk d + 1
 end
def uptoSmall : (H : Type) → List (DataW H) → Bool := fun _ ds => decide (uptoBulkAll ds ≤ 1048576)
def OpenSpec.upto (s : _root_.Go.ChangeSpec) : _root_.Go.OpenSpec := { _root_.Go.OpenSpec.ofChange s with cond := some uptoSmall }

/-- 'laws.FnExactCountsOk', WHERE WHAT IT READS IS OF BULK AT MOST 1048576: true; the input reads as it did. -/
def fnExactCountsOkUptoRow : OpenClaim := { program := "ytkjgngkiiecckaa", sum := "2137b736bac5462f9f6c89fe3dcf024f107ec34f675adf1019609903218162d2", func := "loop.example/g03202/laws.FnExactCountsOk", spec := "fnExactCountsOk", unfollowed := true, recurses := true, apart := false, narrowed := true }
def FnExactCountsOkUptoSaid : Prop := fnExactCountsOkUptoRow.holds Try.pinned (OpenSpec.upto fnExactCountsOkSpec)

/-- 'laws.FnExactLowerQuotas', WHERE WHAT IT READS IS OF BULK AT MOST 1048576: true; the input reads as it did. -/
def fnExactLowerQuotasUptoRow : OpenClaim := { program := "ytkjgngkiiecckaa", sum := "2137b736bac5462f9f6c89fe3dcf024f107ec34f675adf1019609903218162d2", func := "loop.example/g03202/laws.FnExactLowerQuotas", spec := "fnExactLowerQuotas", unfollowed := true, recurses := true, apart := false, narrowed := true }
def FnExactLowerQuotasUptoSaid : Prop := fnExactLowerQuotasUptoRow.holds Try.pinned (OpenSpec.upto fnExactLowerQuotasSpec)

/-- 'laws.FnExactRemaindersOf', WHERE WHAT IT READS IS OF BULK AT MOST 1048576: true; the input reads as it did. -/
def fnExactRemaindersOfUptoRow : OpenClaim := { program := "ytkjgngkiiecckaa", sum := "2137b736bac5462f9f6c89fe3dcf024f107ec34f675adf1019609903218162d2", func := "loop.example/g03202/laws.FnExactRemaindersOf", spec := "fnExactRemaindersOf", unfollowed := true, recurses := true, apart := false, narrowed := true }
def FnExactRemaindersOfUptoSaid : Prop := fnExactRemaindersOfUptoRow.holds Try.pinned (OpenSpec.upto fnExactRemaindersOfSpec)

/-- 'laws.FnExactUpperQuotas', WHERE WHAT IT READS IS OF BULK AT MOST 1048576: true; the input reads as it did. -/
def fnExactUpperQuotasUptoRow : OpenClaim := { program := "ytkjgngkiiecckaa", sum := "2137b736bac5462f9f6c89fe3dcf024f107ec34f675adf1019609903218162d2", func := "loop.example/g03202/laws.FnExactUpperQuotas", spec := "fnExactUpperQuotas", unfollowed := true, recurses := true, apart := false, narrowed := true }
def FnExactUpperQuotasUptoSaid : Prop := fnExactUpperQuotasUptoRow.holds Try.pinned (OpenSpec.upto fnExactUpperQuotasSpec)

/-- 'laws.FnExactQuotaOf', WHERE WHAT IT READS IS OF BULK AT MOST 1048576: true; the input reads as it did. -/
def fnExactQuotaOfUptoRow : OpenClaim := { program := "ytkjgngkiiecckaa", sum := "2137b736bac5462f9f6c89fe3dcf024f107ec34f675adf1019609903218162d2", func := "loop.example/g03202/laws.FnExactQuotaOf", spec := "fnExactQuotaOf", unfollowed := true, recurses := true, apart := false, narrowed := true }
def FnExactQuotaOfUptoSaid : Prop := fnExactQuotaOfUptoRow.holds Try.pinned (OpenSpec.upto fnExactQuotaOfSpec)

/-- 'laws.FnExactKeepsQuota', WHERE WHAT IT READS IS OF BULK AT MOST 1048576: true; the input reads as it did. -/
def fnExactKeepsQuotaUptoRow : OpenClaim := { program := "ytkjgngkiiecckaa", sum := "2137b736bac5462f9f6c89fe3dcf024f107ec34f675adf1019609903218162d2", func := "loop.example/g03202/laws.FnExactKeepsQuota", spec := "fnExactKeepsQuota", unfollowed := true, recurses := true, apart := false, narrowed := true }
def FnExactKeepsQuotaUptoSaid : Prop := fnExactKeepsQuotaUptoRow.holds Try.pinned (OpenSpec.upto fnExactKeepsQuotaSpec)

/-- 'laws.FnExactDistanceOf', WHERE WHAT IT READS IS OF BULK AT MOST 1048576: true; the input reads as it did. -/
def fnExactDistanceOfUptoRow : OpenClaim := { program := "ytkjgngkiiecckaa", sum := "2137b736bac5462f9f6c89fe3dcf024f107ec34f675adf1019609903218162d2", func := "loop.example/g03202/laws.FnExactDistanceOf", spec := "fnExactDistanceOf", unfollowed := true, recurses := true, apart := false, narrowed := true }
def FnExactDistanceOfUptoSaid : Prop := fnExactDistanceOfUptoRow.holds Try.pinned (OpenSpec.upto fnExactDistanceOfSpec)

end Rows
end Go.Proofs.Ytkjgngkiiecckaa
