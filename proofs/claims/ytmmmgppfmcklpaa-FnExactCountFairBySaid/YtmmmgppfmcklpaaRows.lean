/-
  No cell of these rows narrows 'for every input' (looked for: loops, veiled, ifaces, maps, wideKeys, modest, calm, conditions, laid).
  DERIVED. THE GIVEN ROWS OF THIS SEAT. 3 by the template 'for every input the law returns true; each argument reads behind the call as it read before'; 0 by the template 'total and deterministic' (their statements: YtmmmgppfmcklpaaTotals.lean).
  GIVEN WITH THE SEED: the statements are not yours to turn. If you find one false, say at which input.
  Laid BY PROGRAM, IN A SANDBOX (cutbox-rows.mjs): the forced cells as the released guide's own fill.sh prints them over the translation 908e70c298205fbe… (all of the seat's roots in one cut). By AI agents, Wed Nov 11 2026. No macro, syntax, notation, axiom, sorry.
-/
import Derived.Test.YtmmmgppfmcklpaaChecked
import GoSem.Claim
import GoSem.ClaimJoined
import GoSem.ClaimMapViews
import Derived.JoinedTies
import Derived.KernelRfl
namespace Go.Proofs.Ytmmmgppfmcklpaa
/- THE CELL 'sum', in the pinned program and in every row, IS THE sha256 OF THE DUMP (.gsa) THAT YtmmmgppfmcklpaaProg.lean LOADS. Nothing in Lean hashes anything: it is a label: what it is worth is what the hold of that sum in a sandbox is worth. -/
noncomputable def Try.pinned : Pinned := { name := "ytmmmgppfmcklpaa", sum := "908e70c298205fbe8ce4b945e40f951608f2dbbaa4d08ec8594786c19fd1bc6f", checked := Try.checked }
namespace Rows
def none {H : Type} : Left H := { results := [], args := [] }

/-- 'laws.FnExactHamiltonSeats': WHATEVER THE INPUT: true; the input reads as it did. -/
def fnExactHamiltonSeatsSpec : ChangeSpec := { name := "fnExactHamiltonSeats", fn := fun _ => fun
  | [d1, d2] => { results := [.lit (.bool true)], args := [d1, d2] }
  | _ => none }
def fnExactHamiltonSeatsRow : OpenClaim := { program := "ytmmmgppfmcklpaa", sum := "908e70c298205fbe8ce4b945e40f951608f2dbbaa4d08ec8594786c19fd1bc6f", func := "loop.example/g03202/laws.FnExactHamiltonSeats", spec := "fnExactHamiltonSeats", unfollowed := true, recurses := true, apart := false }
def FnExactHamiltonSeatsSaid : Prop := fnExactHamiltonSeatsRow.holds Try.pinned (OpenSpec.ofChange fnExactHamiltonSeatsSpec)

/-- ITS FALSE NEIGHBOUR: 'it returns false'. Refute it at one input. -/
def fnExactHamiltonSeatsWrong : ChangeSpec := { name := "fnExactHamiltonSeats", fn := fun _ => fun
  | [d1, d2] => { results := [.lit (.bool false)], args := [d1, d2] }
  | _ => none }
def FnExactHamiltonSeatsWrongFalsely : Prop := fnExactHamiltonSeatsRow.holds Try.pinned (OpenSpec.ofChange fnExactHamiltonSeatsWrong)

/-- 'laws.FnExactDroopSeats': WHATEVER THE INPUT: true; the input reads as it did. -/
def fnExactDroopSeatsSpec : ChangeSpec := { name := "fnExactDroopSeats", fn := fun _ => fun
  | [d1, d2] => { results := [.lit (.bool true)], args := [d1, d2] }
  | _ => none }
def fnExactDroopSeatsRow : OpenClaim := { program := "ytmmmgppfmcklpaa", sum := "908e70c298205fbe8ce4b945e40f951608f2dbbaa4d08ec8594786c19fd1bc6f", func := "loop.example/g03202/laws.FnExactDroopSeats", spec := "fnExactDroopSeats", unfollowed := true, recurses := true, apart := false }
def FnExactDroopSeatsSaid : Prop := fnExactDroopSeatsRow.holds Try.pinned (OpenSpec.ofChange fnExactDroopSeatsSpec)

/-- ITS FALSE NEIGHBOUR: 'it returns false'. Refute it at one input. -/
def fnExactDroopSeatsWrong : ChangeSpec := { name := "fnExactDroopSeats", fn := fun _ => fun
  | [d1, d2] => { results := [.lit (.bool false)], args := [d1, d2] }
  | _ => none }
def FnExactDroopSeatsWrongFalsely : Prop := fnExactDroopSeatsRow.holds Try.pinned (OpenSpec.ofChange fnExactDroopSeatsWrong)

/-- 'laws.FnExactCountFairBy': WHATEVER THE INPUT: true; the input reads as it did. -/
def fnExactCountFairBySpec : ChangeSpec := { name := "fnExactCountFairBy", fn := fun _ => fun
  | [d1, d2, d3] => { results := [.lit (.bool true)], args := [d1, d2, d3] }
  | _ => none }
def fnExactCountFairByRow : OpenClaim := { program := "ytmmmgppfmcklpaa", sum := "908e70c298205fbe8ce4b945e40f951608f2dbbaa4d08ec8594786c19fd1bc6f", func := "loop.example/g03202/laws.FnExactCountFairBy", spec := "fnExactCountFairBy", unfollowed := true, recurses := true, apart := false }
def FnExactCountFairBySaid : Prop := fnExactCountFairByRow.holds Try.pinned (OpenSpec.ofChange fnExactCountFairBySpec)

/-- ITS FALSE NEIGHBOUR: 'it returns false'. Refute it at one input. -/
def fnExactCountFairByWrong : ChangeSpec := { name := "fnExactCountFairBy", fn := fun _ => fun
  | [d1, d2, d3] => { results := [.lit (.bool false)], args := [d1, d2, d3] }
  | _ => none }
def FnExactCountFairByWrongFalsely : Prop := fnExactCountFairByRow.holds Try.pinned (OpenSpec.ofChange fnExactCountFairByWrong)

/- THE SECOND FORM. 'bulk': how many values and letters a reading holds, each counted each time it is reached (what is shared counts as often as it is met; a slice's spare places count too). A statement '..UptoSaid' is the law's where the arguments, and the package variables that the reading takes, are together of bulk at most 1048576: NARROWER than '..Said'. Prove '..Said' where nothing that the law and all that it calls make is longer than what came in: it says more and counts as full. Else prove '..UptoSaid'. A law counts once. -/
mutual
def uptoBulk {H : Type} : DataW H → Nat
  | .lit (.string bytes) => bytes.length + 1
  | .lit _ => 1
  | .nil => 1
  | .ptr d => uptoBulk d + 1
  | .slice elems spare => uptoBulkAll elems + uptoBulkAll spare + 1
  | .agg parts => uptoBulkAll parts + 1
  | .iface _ d => uptoBulk d + 1
  | .map entries => uptoBulkEntries entries + 1
  | .held _ => 1
def uptoBulkAll {H : Type} : List (DataW H) → Nat
  | [] => 0
  | d :: r => uptoBulk d + uptoBulkAll r
def uptoBulkEntries {H : Type} : List (Lit × DataW H) → Nat
  | [] => 0
  | x :: r => uptoBulkEntry x + uptoBulkEntries r
def uptoBulkEntry {H : Type} : Lit × DataW H → Nat
  | (.string bytes, d) => bytes.length + uptoBulk d + 1
  | (_, d) => uptoBulk d + 1
 end
def uptoSmall : (H : Type) → List (DataW H) → Bool := fun _ ds => decide (uptoBulkAll ds ≤ 1048576)
def OpenSpec.upto (s : _root_.Go.ChangeSpec) : _root_.Go.OpenSpec := { _root_.Go.OpenSpec.ofChange s with cond := some uptoSmall }

/-- 'laws.FnExactHamiltonSeats', WHERE WHAT IT READS IS OF BULK AT MOST 1048576: true; the input reads as it did. -/
def fnExactHamiltonSeatsUptoRow : OpenClaim := { program := "ytmmmgppfmcklpaa", sum := "908e70c298205fbe8ce4b945e40f951608f2dbbaa4d08ec8594786c19fd1bc6f", func := "loop.example/g03202/laws.FnExactHamiltonSeats", spec := "fnExactHamiltonSeats", unfollowed := true, recurses := true, apart := false, narrowed := true }
def FnExactHamiltonSeatsUptoSaid : Prop := fnExactHamiltonSeatsUptoRow.holds Try.pinned (OpenSpec.upto fnExactHamiltonSeatsSpec)

/-- 'laws.FnExactDroopSeats', WHERE WHAT IT READS IS OF BULK AT MOST 1048576: true; the input reads as it did. -/
def fnExactDroopSeatsUptoRow : OpenClaim := { program := "ytmmmgppfmcklpaa", sum := "908e70c298205fbe8ce4b945e40f951608f2dbbaa4d08ec8594786c19fd1bc6f", func := "loop.example/g03202/laws.FnExactDroopSeats", spec := "fnExactDroopSeats", unfollowed := true, recurses := true, apart := false, narrowed := true }
def FnExactDroopSeatsUptoSaid : Prop := fnExactDroopSeatsUptoRow.holds Try.pinned (OpenSpec.upto fnExactDroopSeatsSpec)

/-- 'laws.FnExactCountFairBy', WHERE WHAT IT READS IS OF BULK AT MOST 1048576: true; the input reads as it did. -/
def fnExactCountFairByUptoRow : OpenClaim := { program := "ytmmmgppfmcklpaa", sum := "908e70c298205fbe8ce4b945e40f951608f2dbbaa4d08ec8594786c19fd1bc6f", func := "loop.example/g03202/laws.FnExactCountFairBy", spec := "fnExactCountFairBy", unfollowed := true, recurses := true, apart := false, narrowed := true }
def FnExactCountFairByUptoSaid : Prop := fnExactCountFairByUptoRow.holds Try.pinned (OpenSpec.upto fnExactCountFairBySpec)

end Rows
end Go.Proofs.Ytmmmgppfmcklpaa
