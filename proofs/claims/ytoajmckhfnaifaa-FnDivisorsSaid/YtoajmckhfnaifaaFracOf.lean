/- A fraction out of two numbers: both sides. -/
import Derived.Test.YtoajmckhfnaifaaFracCmp
namespace Go.Proofs.Ytoajmckhfnaifaa
set_option linter.unusedVariables false
open Go.RowKit

theorem red_ok {t b : Nat} (ht : t ≤ 1000000000) (hb1 : 1 ≤ b) (hb : b ≤ 1000000000) : redOk t b = true ∧ fracOk (redTop t b) (redBot t b) = true := by
  have hg1 : 1 ≤ Nat.gcd t b := Nat.gcd_pos_of_pos_right t hb1
  have q1 : t / Nat.gcd t b ≤ t := Nat.div_le_self _ _
  have q2 : b / Nat.gcd t b ≤ b := Nat.div_le_self _ _
  have q3 : 1 ≤ b / Nat.gcd t b := Nat.div_pos (Nat.le_of_dvd (by omega) (Nat.gcd_dvd_right t b)) hg1
  have q4 : Nat.gcd (t / Nat.gcd t b) (b / Nat.gcd t b) = 1 := Nat.gcd_div_gcd_div_gcd_of_pos_right (by omega)
  have h : fracOk (t / Nat.gcd t b) (b / Nat.gcd t b) = true := by
    unfold fracOk
    rw [q4, Bool.and_eq_true, Bool.and_eq_true, inB_iff, inB_iff]
    generalize t / Nat.gcd t b = x at *
    generalize b / Nat.gcd t b = y at *
    exact ⟨⟨by omega, by omega⟩, rfl⟩
  unfold redOk redTop redBot
  rw [if_pos h, if_pos h]
  exact ⟨h, h⟩
theorem whole_any (n : Nat) (w : World) : Calls Try.prog 28 #[.int .i64 (n : Int)] w fun e w' => e = .returned (.agg #[.int .i64 (n : Int), .int .i64 1]) ∧ Below w.heap.size w w' := by
  have p0 := new_pair w (Value.int IntKind.i64 (n : Int)) (Value.int IntKind.i64 1) 33 rfl
  have hb := (Below.refl w.heap.size w).alloc (Nat.le_refl _) (.cells #[Value.int IntKind.i64 (n : Int), Value.int IntKind.i64 1] 33)
  obtain ⟨e0, e1⟩ := p0
  have E := Lib.hid (And.intro e0 e1)
  clear e0 e1
  go_enter Try.func28, Try.ntmps28
  go_wp2
  obtain ⟨e0, e1⟩ := E.out
  exact bodyPost_ret (v := .agg #[.int .i64 (n : Int), .int .i64 1]) (by simp [results, Try.results28, go_sem, e0, e1]) rfl ⟨rfl, hb⟩
end Go.Proofs.Ytoajmckhfnaifaa
