/- The program's iterator over all lists: what it captures. -/
import Derived.Test.YtoajmckhfnaifaaOdoL
import Derived.Test.YtoajmckhfnaifaaRFC
namespace Go.Proofs.Ytoajmckhfnaifaa
set_option linter.unusedVariables false
open Go.RowKit

/-- what a round is told -/
def toldL (n : Nat) (x : Value × List Nat) (W : World) : Prop := ∃ A d, x.1 = .slice A n d ∧ IntsAt W A n (toI x.2) ∧ ∀ y ∈ x.2, y ≤ 20
theorem lists_any (n lo hi : Int) (w : World) : Calls Try.prog 25 #[.int .i64 n, .int .i64 lo, .int .i64 hi] w fun e w' =>
    e = .returned (.func (.func 40) #[] #[.pointer (some ⟨w.heap.size + 1, 0, none⟩), .pointer (some ⟨w.heap.size, 0, none⟩), .pointer (some ⟨w.heap.size + 2, 0, none⟩)]) ∧
      w' = ((w.alloc (.cells #[.int .i64 n] 3)).alloc (.cells #[.int .i64 lo] 3)).alloc (.cells #[.int .i64 hi] 3) := by
  go_enter Try.func25, Try.ntmps25
  go_wp2
  go_ret
  exact ⟨by simp, rfl⟩
end Go.Proofs.Ytoajmckhfnaifaa
