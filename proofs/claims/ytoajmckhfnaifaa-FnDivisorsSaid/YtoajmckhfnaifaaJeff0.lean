/- The range of divisors: plain Lean, no program is walked here. -/
import Derived.Test.YtoajmckhfnaifaaFracOf
import Derived.Test.YtoajmckhfnaifaaTied
namespace Go.Proofs.Ytoajmckhfnaifaa
set_option linter.unusedVariables false
open Go.RowKit

/-- lower bound and upper bound of the divisors, as top and bottom -/
structure JRng where
  lt : Nat
  lb : Nat
  ht : Nat
  hb : Nat
def jLow (s : JRng) (x q : Nat) : JRng := if lessF s.lt s.lb (redTop x (q + 1)) (redBot x (q + 1)) then ⟨redTop x (q + 1), redBot x (q + 1), s.ht, s.hb⟩ else s
def jHigh (s : JRng) (x q : Nat) : JRng := if q ≠ 0 ∧ lessF (redTop x q) (redBot x q) s.ht s.hb then ⟨s.lt, s.lb, redTop x q, redBot x q⟩ else s
/-- after k counts -/
def jTo (xs ys : List Int) : Nat → JRng
  | 0 => ⟨0, 1, 1000000000, 1⟩
  | k + 1 => jHigh (jLow (jTo xs ys k) (ix xs k).toNat (ix ys k).toNat) (ix xs k).toNat (ix ys k).toNat
structure JGood (s : JRng) : Prop where
  l : fracOk s.lt s.lb = true
  h : fracOk s.ht s.hb = true
theorem jGood_start : JGood ⟨0, 1, 1000000000, 1⟩ := ⟨by decide +kernel, by decide +kernel⟩
theorem jGood_low {s : JRng} {x q : Nat} (G : JGood s) (hx : x ≤ 1000000) (hq : q ≤ 1000000) : JGood (jLow s x q) := by
  unfold jLow
  split
  · exact ⟨(red_ok (by omega) (by omega) (by omega)).2, G.h⟩
  · exact G
theorem jGood_high {s : JRng} {x q : Nat} (G : JGood s) (hx : x ≤ 1000000) (hq : q ≤ 1000000) : JGood (jHigh s x q) := by
  unfold jHigh
  split
  · rename_i h
    exact ⟨G.l, (red_ok (by omega) (by omega) (by omega)).2⟩
  · exact G
theorem cmpF_gt {a b c d : Nat} : (0 < cmpF a b c d) ↔ lessF c d a b = true := by
  unfold lessF cmpF cmpI
  rw [beq_iff_eq]
  split <;> split <;> (try split) <;> omega
theorem cmpF_lt {a b c d : Nat} : (cmpF a b c d < 0) ↔ lessF a b c d = true := by
  unfold lessF cmpF cmpI
  rw [beq_iff_eq]
  split <;> (try split) <;> omega
end Go.Proofs.Ytoajmckhfnaifaa
