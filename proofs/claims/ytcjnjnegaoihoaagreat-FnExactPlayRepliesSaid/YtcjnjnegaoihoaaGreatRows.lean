/-
  No cell of these rows narrows 'for every input' (looked for: loops, veiled, ifaces, maps, wideKeys, modest, calm, conditions, laid).
  DERIVED. THE GIVEN ROWS OF THIS SEAT. 2 by the template 'for every input the law returns true; each argument reads behind the call as it read before'; 0 by the template 'total and deterministic' (their statements: YtcjnjnegaoihoaaGreatTotals.lean).
  GIVEN WITH THE SEED: the statements are not yours to turn. If you find one false, say at which input.
  Laid BY PROGRAM, IN A SANDBOX (cutbox-rows.mjs): the forced cells as the released guide's own fill.sh prints them over the translation 8ff6eb757d3f684e… (all of the seat's roots in one cut). By AI agents, Wed Nov 11 2026. No macro, syntax, notation, axiom, sorry.
-/
import Derived.Test.YtcjnjnegaoihoaaGreatChecked
import GoSem.Claim
import GoSem.ClaimJoined
import GoSem.ClaimMapViews
import Derived.JoinedTies
import Derived.KernelRfl
namespace Go.Proofs.YtcjnjnegaoihoaaGreat
/- THE CELL 'sum', in the pinned program and in every row, IS THE sha256 OF THE DUMP (.gsa) THAT YtcjnjnegaoihoaaGreatProg.lean LOADS. Nothing in Lean hashes anything: it is a label: what it is worth is what the hold of that sum in a sandbox is worth. -/
noncomputable def Tryz.pinned : Pinned := { name := "ytcjnjnegaoihoaagreat", sum := "8ff6eb757d3f684e024294c6546ee5b5ac10203e0e35ae5c996bda5cb0603160", checked := Tryz.checked }
namespace Rows
def none {H : Type} : Left H := { results := [], args := [] }

/-- 'laws.FnExactGainBy': WHATEVER THE INPUT: true; the input reads as it did. -/
def fnExactGainBySpec : ChangeSpec := { name := "fnExactGainBy", fn := fun _ => fun
  | [d1, d2, d3] => { results := [.lit (.bool true)], args := [d1, d2, d3] }
  | _ => none }
def fnExactGainByRow : OpenClaim := { program := "ytcjnjnegaoihoaagreat", sum := "8ff6eb757d3f684e024294c6546ee5b5ac10203e0e35ae5c996bda5cb0603160", func := "loop.example/g03202/laws.FnExactGainBy", spec := "fnExactGainBy", unfollowed := true, recurses := true, apart := false }
def FnExactGainBySaid : Prop := fnExactGainByRow.holds Tryz.pinned (OpenSpec.ofChange fnExactGainBySpec)

/-- ITS FALSE NEIGHBOUR: 'it returns false'. Refute it at one input. -/
def fnExactGainByWrong : ChangeSpec := { name := "fnExactGainBy", fn := fun _ => fun
  | [d1, d2, d3] => { results := [.lit (.bool false)], args := [d1, d2, d3] }
  | _ => none }
def FnExactGainByWrongFalsely : Prop := fnExactGainByRow.holds Tryz.pinned (OpenSpec.ofChange fnExactGainByWrong)

/-- 'laws.FnExactPlayReplies': WHATEVER THE INPUT: true; the input reads as it did. -/
def fnExactPlayRepliesSpec : ChangeSpec := { name := "fnExactPlayReplies", fn := fun _ => fun
  | [d1, d2, d3] => { results := [.lit (.bool true)], args := [d1, d2, d3] }
  | _ => none }
def fnExactPlayRepliesRow : OpenClaim := { program := "ytcjnjnegaoihoaagreat", sum := "8ff6eb757d3f684e024294c6546ee5b5ac10203e0e35ae5c996bda5cb0603160", func := "loop.example/g03202/laws.FnExactPlayReplies", spec := "fnExactPlayReplies", unfollowed := true, recurses := true, apart := false }
def FnExactPlayRepliesSaid : Prop := fnExactPlayRepliesRow.holds Tryz.pinned (OpenSpec.ofChange fnExactPlayRepliesSpec)

/-- ITS FALSE NEIGHBOUR: 'it returns false'. Refute it at one input. -/
def fnExactPlayRepliesWrong : ChangeSpec := { name := "fnExactPlayReplies", fn := fun _ => fun
  | [d1, d2, d3] => { results := [.lit (.bool false)], args := [d1, d2, d3] }
  | _ => none }
def FnExactPlayRepliesWrongFalsely : Prop := fnExactPlayRepliesRow.holds Tryz.pinned (OpenSpec.ofChange fnExactPlayRepliesWrong)

/- THE SECOND FORM. 'bulk': how many values and letters a reading holds, each counted each time it is reached (what is shared counts as often as it is met; a slice's spare places count too). A statement '..UptoSaid' is the law's where the arguments, and the package variables that the reading takes, are together of bulk at most 1048576: NARROWER than '..Said'. Prove '..Said' where nothing that the law and all that it calls make is longer than what came in: it says more and counts as full. Else prove '..UptoSaid'. A law counts once. -/
mutual
def uptoBulk {H : Type} : DataW H → Nat
  | .lit (.string bytes) => bytes.length + 1
  | .lit _ => 1
  | .nil => 1
  | .ptr d => uptoBulk d + 1
  | .slice elems spare => uptoBulkAll elems + uptoBulkAll spare + 1
  | .agg parts => uptoBulkAll parts + 1
  | .iface _ d => uptoBulk d + 1
  | .map entries => uptoBulkEntries entries + 1
  | .held _ => 1
def uptoBulkAll {H : Type} : List (DataW H) → Nat
  | [] => 0
  | d :: r => uptoBulk d + uptoBulkAll r
def uptoBulkEntries {H : Type} : List (Lit × DataW H) → Nat
  | [] => 0
  | x :: r => uptoBulkEntry x + uptoBulkEntries r
def uptoBulkEntry {H : Type} : Lit × DataW H → Nat
  | (.string bytes, d) => bytes.length + uptoBulk d + 1
  | (_, d) => uptoBulk d + 1
 end
def uptoSmall : (H : Type) → List (DataW H) → Bool := fun _ ds => decide (uptoBulkAll ds ≤ 1048576)
def OpenSpec.upto (s : _root_.Go.ChangeSpec) : _root_.Go.OpenSpec := { _root_.Go.OpenSpec.ofChange s with cond := some uptoSmall }

/-- 'laws.FnExactGainBy', WHERE WHAT IT READS IS OF BULK AT MOST 1048576: true; the input reads as it did. -/
def fnExactGainByUptoRow : OpenClaim := { program := "ytcjnjnegaoihoaagreat", sum := "8ff6eb757d3f684e024294c6546ee5b5ac10203e0e35ae5c996bda5cb0603160", func := "loop.example/g03202/laws.FnExactGainBy", spec := "fnExactGainBy", unfollowed := true, recurses := true, apart := false, narrowed := true }
def FnExactGainByUptoSaid : Prop := fnExactGainByUptoRow.holds Tryz.pinned (OpenSpec.upto fnExactGainBySpec)

/-- 'laws.FnExactPlayReplies', WHERE WHAT IT READS IS OF BULK AT MOST 1048576: true; the input reads as it did. -/
def fnExactPlayRepliesUptoRow : OpenClaim := { program := "ytcjnjnegaoihoaagreat", sum := "8ff6eb757d3f684e024294c6546ee5b5ac10203e0e35ae5c996bda5cb0603160", func := "loop.example/g03202/laws.FnExactPlayReplies", spec := "fnExactPlayReplies", unfollowed := true, recurses := true, apart := false, narrowed := true }
def FnExactPlayRepliesUptoSaid : Prop := fnExactPlayRepliesUptoRow.holds Tryz.pinned (OpenSpec.upto fnExactPlayRepliesSpec)

end Rows
end Go.Proofs.YtcjnjnegaoihoaaGreat
