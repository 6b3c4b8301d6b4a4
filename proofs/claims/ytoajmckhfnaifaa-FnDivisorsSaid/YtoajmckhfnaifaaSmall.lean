/- Small functions on numbers. -/
import Derived.Test.YtoajmckhfnaifaaBase
namespace Go.Proofs.Ytoajmckhfnaifaa
set_option linter.unusedVariables false
open Go.RowKit

/-- lo ≤ n ≤ hi -/
def inB (n lo hi : Int) : Bool := decide (lo ≤ n) && decide (n ≤ hi)
theorem inB_iff {n lo hi : Int} : inB n lo hi = true ↔ lo ≤ n ∧ n ≤ hi := by simp [inB]
theorem inB_not {n lo hi : Int} : inB n lo hi = false ↔ n < lo ∨ hi < n := by simp only [inB, Bool.and_eq_false_iff, decide_eq_false_iff_not]; omega
theorem within_any (n lo hi : Int) (w : World) : Calls Try.prog 21 #[.int .i64 n, .int .i64 lo, .int .i64 hi] w fun e w' => e = .returned (.bool (inB n lo hi)) ∧ w = w' := by
  unfold inB
  by_cases h1 : lo ≤ n
  · go_enter Try.func21, Try.ntmps21
    go_wp2
    all_goals go_ret
    all_goals exact ⟨(ret_b (by first | rfl | (simp; done) | (simp [*]; done) | (rw [Bool.eq_iff_iff]; simp; omega) | (rw [Bool.eq_iff_iff]; simp [*]; omega) | (simp [*]; omega))), rfl⟩
  · have h2 : n < lo := by omega
    go_enter Try.func21, Try.ntmps21
    go_wp2
    all_goals go_ret
    all_goals exact ⟨(ret_b (by first | rfl | (simp; done) | (simp [*]; done) | (rw [Bool.eq_iff_iff]; simp; omega) | (rw [Bool.eq_iff_iff]; simp [*]; omega) | (simp [*]; omega))), rfl⟩

/-- y is a multiple of ten less than ten away from x -/
def isRnd (x y : Int) : Bool := inB x 0 100000 && (y.tmod 10 == 0) && decide (y < x + 10) && decide (x - 10 < y)
end Go.Proofs.Ytoajmckhfnaifaa
