/- The law on IsRoundedTo, walked. -/
import Derived.Test.YtcanmmmlppkamaaSmall
namespace Go.Proofs.Ytcanmmmlppkamaa
open Go.RowKit

theorem law_FnExactIsRoundedTo (x : Int) (_wx : (Lit.int .i64 x).wf = true) (y : Int) (_wy : (Lit.int .i64 y).wf = true) (w : World) :
    Calls Try.prog 3 #[.int .i64 x, .int .i64 y] w fun e w' => e = .returned (.bool true) ∧ Below w.heap.size w w' := by
  go_enter Try.func3, Try.ntmps3
  go_wp2_with (first | (go_at_call 11; refine (specIsRoundedTo _ _ _).mono ?_; rintro e w' ⟨rfl, rfl⟩) | (go_at_call 12; refine (implIsRoundedTo _ _ _).mono ?_; rintro e w' ⟨rfl, rfl⟩))
  go_ret
  exact ⟨rfl, Below.refl _ _⟩
end Go.Proofs.Ytcanmmmlppkamaa
