/-
  No cell of these rows narrows 'for every input' (looked for: loops, veiled, ifaces, maps, wideKeys, modest, calm, conditions, laid).
  DERIVED. THE GIVEN ROWS OF THIS SEAT. 5 by the template 'for every input the law returns true; each argument reads behind the call as it read before'; 0 by the template 'total and deterministic' (their statements: YtmakbndlobaaaaaTotals.lean).
  GIVEN WITH THE SEED: the statements are not yours to turn. If you find one false, say at which input.
  Laid BY PROGRAM, IN A SANDBOX (cutbox-rows.mjs): the forced cells as the released guide's own fill.sh prints them over the translation d9fb1e9e6cab0c38… (all of the seat's roots in one cut). By AI agents, Wed Nov 11 2026. No macro, syntax, notation, axiom, sorry.
-/
import Derived.Test.YtmakbndlobaaaaaChecked
import GoSem.Claim
import GoSem.ClaimJoined
import GoSem.ClaimMapViews
import Derived.JoinedTies
import Derived.KernelRfl
namespace Go.Proofs.Ytmakbndlobaaaaa
/- THE CELL 'sum', in the pinned program and in every row, IS THE sha256 OF THE DUMP (.gsa) THAT YtmakbndlobaaaaaProg.lean LOADS. Nothing in Lean hashes anything: it is a label: what it is worth is what the hold of that sum in a sandbox is worth. -/
noncomputable def Try.pinned : Pinned := { name := "ytmakbndlobaaaaa", sum := "d9fb1e9e6cab0c3851cd6b0d31c62847cb2fac98fd5d828418e8bf4eb074d26e", checked := Try.checked }
namespace Rows
def none {H : Type} : Left H := { results := [], args := [] }

/-- 'laws.FnExactSchoolOk': WHATEVER THE INPUT: true; the input reads as it did. -/
def fnExactSchoolOkSpec : ChangeSpec := { name := "fnExactSchoolOk", fn := fun _ => fun
  | [d] => { results := [.lit (.bool true)], args := [d] }
  | _ => none }
def fnExactSchoolOkRow : OpenClaim := { program := "ytmakbndlobaaaaa", sum := "d9fb1e9e6cab0c3851cd6b0d31c62847cb2fac98fd5d828418e8bf4eb074d26e", func := "loop.example/g03202/laws.FnExactSchoolOk", spec := "fnExactSchoolOk", unfollowed := true, recurses := true, apart := false }
def FnExactSchoolOkSaid : Prop := fnExactSchoolOkRow.holds Try.pinned (OpenSpec.ofChange fnExactSchoolOkSpec)

/-- ITS FALSE NEIGHBOUR: 'it returns false'. Refute it at one input. -/
def fnExactSchoolOkWrong : ChangeSpec := { name := "fnExactSchoolOk", fn := fun _ => fun
  | [d] => { results := [.lit (.bool false)], args := [d] }
  | _ => none }
def FnExactSchoolOkWrongFalsely : Prop := fnExactSchoolOkRow.holds Try.pinned (OpenSpec.ofChange fnExactSchoolOkWrong)

/-- 'laws.FnExactEntryOk': WHATEVER THE INPUT: true; the input reads as it did. -/
def fnExactEntryOkSpec : ChangeSpec := { name := "fnExactEntryOk", fn := fun _ => fun
  | [d1, d2] => { results := [.lit (.bool true)], args := [d1, d2] }
  | _ => none }
def fnExactEntryOkRow : OpenClaim := { program := "ytmakbndlobaaaaa", sum := "d9fb1e9e6cab0c3851cd6b0d31c62847cb2fac98fd5d828418e8bf4eb074d26e", func := "loop.example/g03202/laws.FnExactEntryOk", spec := "fnExactEntryOk", unfollowed := true, recurses := true, apart := false }
def FnExactEntryOkSaid : Prop := fnExactEntryOkRow.holds Try.pinned (OpenSpec.ofChange fnExactEntryOkSpec)

/-- ITS FALSE NEIGHBOUR: 'it returns false'. Refute it at one input. -/
def fnExactEntryOkWrong : ChangeSpec := { name := "fnExactEntryOk", fn := fun _ => fun
  | [d1, d2] => { results := [.lit (.bool false)], args := [d1, d2] }
  | _ => none }
def FnExactEntryOkWrongFalsely : Prop := fnExactEntryOkRow.holds Try.pinned (OpenSpec.ofChange fnExactEntryOkWrong)

/-- 'laws.FnExactFilledPlaces': WHATEVER THE INPUT: true; the input reads as it did. -/
def fnExactFilledPlacesSpec : ChangeSpec := { name := "fnExactFilledPlaces", fn := fun _ => fun
  | [d1, d2] => { results := [.lit (.bool true)], args := [d1, d2] }
  | _ => none }
def fnExactFilledPlacesRow : OpenClaim := { program := "ytmakbndlobaaaaa", sum := "d9fb1e9e6cab0c3851cd6b0d31c62847cb2fac98fd5d828418e8bf4eb074d26e", func := "loop.example/g03202/laws.FnExactFilledPlaces", spec := "fnExactFilledPlaces", unfollowed := true, recurses := true, apart := false }
def FnExactFilledPlacesSaid : Prop := fnExactFilledPlacesRow.holds Try.pinned (OpenSpec.ofChange fnExactFilledPlacesSpec)

/-- ITS FALSE NEIGHBOUR: 'it returns false'. Refute it at one input. -/
def fnExactFilledPlacesWrong : ChangeSpec := { name := "fnExactFilledPlaces", fn := fun _ => fun
  | [d1, d2] => { results := [.lit (.bool false)], args := [d1, d2] }
  | _ => none }
def FnExactFilledPlacesWrongFalsely : Prop := fnExactFilledPlacesRow.holds Try.pinned (OpenSpec.ofChange fnExactFilledPlacesWrong)

/-- 'laws.FnExactIsStableEntry': WHATEVER THE INPUT: true; the input reads as it did. -/
def fnExactIsStableEntrySpec : ChangeSpec := { name := "fnExactIsStableEntry", fn := fun _ => fun
  | [d1, d2] => { results := [.lit (.bool true)], args := [d1, d2] }
  | _ => none }
def fnExactIsStableEntryRow : OpenClaim := { program := "ytmakbndlobaaaaa", sum := "d9fb1e9e6cab0c3851cd6b0d31c62847cb2fac98fd5d828418e8bf4eb074d26e", func := "loop.example/g03202/laws.FnExactIsStableEntry", spec := "fnExactIsStableEntry", unfollowed := true, recurses := true, apart := false }
def FnExactIsStableEntrySaid : Prop := fnExactIsStableEntryRow.holds Try.pinned (OpenSpec.ofChange fnExactIsStableEntrySpec)

/-- ITS FALSE NEIGHBOUR: 'it returns false'. Refute it at one input. -/
def fnExactIsStableEntryWrong : ChangeSpec := { name := "fnExactIsStableEntry", fn := fun _ => fun
  | [d1, d2] => { results := [.lit (.bool false)], args := [d1, d2] }
  | _ => none }
def FnExactIsStableEntryWrongFalsely : Prop := fnExactIsStableEntryRow.holds Try.pinned (OpenSpec.ofChange fnExactIsStableEntryWrong)

/-- 'laws.FnExactSplitSchool': WHATEVER THE INPUT: true; the input reads as it did. -/
def fnExactSplitSchoolSpec : ChangeSpec := { name := "fnExactSplitSchool", fn := fun _ => fun
  | [d] => { results := [.lit (.bool true)], args := [d] }
  | _ => none }
def fnExactSplitSchoolRow : OpenClaim := { program := "ytmakbndlobaaaaa", sum := "d9fb1e9e6cab0c3851cd6b0d31c62847cb2fac98fd5d828418e8bf4eb074d26e", func := "loop.example/g03202/laws.FnExactSplitSchool", spec := "fnExactSplitSchool", unfollowed := true, recurses := true, apart := false }
def FnExactSplitSchoolSaid : Prop := fnExactSplitSchoolRow.holds Try.pinned (OpenSpec.ofChange fnExactSplitSchoolSpec)

/-- ITS FALSE NEIGHBOUR: 'it returns false'. Refute it at one input. -/
def fnExactSplitSchoolWrong : ChangeSpec := { name := "fnExactSplitSchool", fn := fun _ => fun
  | [d] => { results := [.lit (.bool false)], args := [d] }
  | _ => none }
def FnExactSplitSchoolWrongFalsely : Prop := fnExactSplitSchoolRow.holds Try.pinned (OpenSpec.ofChange fnExactSplitSchoolWrong)

/- THE SECOND FORM. 'bulk': how many values and letters a reading holds, each counted each time it is reached (what is shared counts as often as it is met; a slice's spare places count too). A statement '..UptoSaid' is the law's where the arguments, and the package variables that the reading takes, are together of bulk at most 1048576: NARROWER than '..Said'. Prove '..Said' where nothing that the law and all that it calls make is longer than what came in: it says more and counts as full. Else prove '..UptoSaid'. A law counts once. -/
mutual
def uptoBulk {H : Type} : DataW H → Nat
  | .lit (.string bytes) => bytes.length + 1
  | .lit _ => 1
  | .nil => 1
  | .ptr d => uptoBulk d + 1
  | .slice elems spare => uptoBulkAll elems + uptoBulkAll spare + 1
  | .agg parts => uptoBulkAll parts + 1
  | .iface _ d => uptoBulk d + 1
  | .map entries => uptoBulkEntries entries + 1
  | .held _ => 1
def uptoBulkAll {H : Type} : List (DataW H) → Nat
  | [] => 0
  | d :: r => uptoBulk d + uptoBulkAll r
def uptoBulkEntries {H : Type} : List (Lit × DataW H) → Nat
  | [] => 0
  | x :: r => uptoBulkEntry x + uptoBulkEntries r
def uptoBulkEntry {H : Type} : Lit × DataW H → Nat
  | (.string bytes, d) => bytes.length + uptoBulk d + 1
  | (_, d) => uptoBulk d + 1
 end
def uptoSmall : (H : Type) → List (DataW H) → Bool := fun _ ds => decide (uptoBulkAll ds ≤ 1048576)
def OpenSpec.upto (s : _root_.Go.ChangeSpec) : _root_.Go.OpenSpec := { _root_.Go.OpenSpec.ofChange s with cond := some uptoSmall }

/-- 'laws.FnExactSchoolOk', WHERE WHAT IT READS IS OF BULK AT MOST 1048576: true; the input reads as it did. -/
def fnExactSchoolOkUptoRow : OpenClaim := { program := "ytmakbndlobaaaaa", sum := "d9fb1e9e6cab0c3851cd6b0d31c62847cb2fac98fd5d828418e8bf4eb074d26e", func := "loop.example/g03202/laws.FnExactSchoolOk", spec := "fnExactSchoolOk", unfollowed := true, recurses := true, apart := false, narrowed := true }
def FnExactSchoolOkUptoSaid : Prop := fnExactSchoolOkUptoRow.holds Try.pinned (OpenSpec.upto fnExactSchoolOkSpec)

/-- 'laws.FnExactEntryOk', WHERE WHAT IT READS IS OF BULK AT MOST 1048576: true; the input reads as it did. -/
def fnExactEntryOkUptoRow : OpenClaim := { program := "ytmakbndlobaaaaa", sum := "d9fb1e9e6cab0c3851cd6b0d31c62847cb2fac98fd5d828418e8bf4eb074d26e", func := "loop.example/g03202/laws.FnExactEntryOk", spec := "fnExactEntryOk", unfollowed := true, recurses := true, apart := false, narrowed := true }
def FnExactEntryOkUptoSaid : Prop := fnExactEntryOkUptoRow.holds Try.pinned (OpenSpec.upto fnExactEntryOkSpec)

/-- 'laws.FnExactFilledPlaces', WHERE WHAT IT READS IS OF BULK AT MOST 1048576: true; the input reads as it did. -/
def fnExactFilledPlacesUptoRow : OpenClaim := { program := "ytmakbndlobaaaaa", sum := "d9fb1e9e6cab0c3851cd6b0d31c62847cb2fac98fd5d828418e8bf4eb074d26e", func := "loop.example/g03202/laws.FnExactFilledPlaces", spec := "fnExactFilledPlaces", unfollowed := true, recurses := true, apart := false, narrowed := true }
def FnExactFilledPlacesUptoSaid : Prop := fnExactFilledPlacesUptoRow.holds Try.pinned (OpenSpec.upto fnExactFilledPlacesSpec)

/-- 'laws.FnExactIsStableEntry', WHERE WHAT IT READS IS OF BULK AT MOST 1048576: true; the input reads as it did. -/
def fnExactIsStableEntryUptoRow : OpenClaim := { program := "ytmakbndlobaaaaa", sum := "d9fb1e9e6cab0c3851cd6b0d31c62847cb2fac98fd5d828418e8bf4eb074d26e", func := "loop.example/g03202/laws.FnExactIsStableEntry", spec := "fnExactIsStableEntry", unfollowed := true, recurses := true, apart := false, narrowed := true }
def FnExactIsStableEntryUptoSaid : Prop := fnExactIsStableEntryUptoRow.holds Try.pinned (OpenSpec.upto fnExactIsStableEntrySpec)

/-- 'laws.FnExactSplitSchool', WHERE WHAT IT READS IS OF BULK AT MOST 1048576: true; the input reads as it did. -/
def fnExactSplitSchoolUptoRow : OpenClaim := { program := "ytmakbndlobaaaaa", sum := "d9fb1e9e6cab0c3851cd6b0d31c62847cb2fac98fd5d828418e8bf4eb074d26e", func := "loop.example/g03202/laws.FnExactSplitSchool", spec := "fnExactSplitSchool", unfollowed := true, recurses := true, apart := false, narrowed := true }
def FnExactSplitSchoolUptoSaid : Prop := fnExactSplitSchoolUptoRow.holds Try.pinned (OpenSpec.upto fnExactSplitSchoolSpec)

end Rows
end Go.Proofs.Ytmakbndlobaaaaa
