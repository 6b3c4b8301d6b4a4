/- impl.DivideFractions and impl.FloorOf, for valid fractions that are not negative. -/
import Derived.Test.YtoajmckhfnaifaaFracCmp
import Derived.Deep.DrawnRows
namespace Go.Proofs.Ytoajmckhfnaifaa
set_option linter.unusedVariables false
open Go.RowKit
attribute [local go_sem ↓] Go.wp_at_zero Go.wp_at_succ

set_option maxHeartbeats 1000000 in
theorem implDivideFr (a b c d : Nat) (w : World) (h1 : fracOk a b = true) (h2 : fracOk c d = true) (hc : c ≠ 0) :
    Calls Try.prog 14 #[.agg #[.int .i64 (a : Int), .int .i64 (b : Int)], .agg #[.int .i64 (c : Int), .int .i64 (d : Int)]] w fun e w' =>
      e = .returned (.tuple #[.agg #[.int .i64 (redTop (a * d) (b * c) : Int), .int .i64 (redBot (a * d) (b * c) : Int)], .bool (redOk (a * d) (b * c))]) ∧ Below w.heap.size w w' := by
  obtain ⟨a1, b0, b1⟩ := fracOk_bd h1
  obtain ⟨c1, d0, d1⟩ := fracOk_bd h2
  obtain ⟨p0, p1⟩ := prod_bd a1 d1
  obtain ⟨q0, q1⟩ := prod_bd b1 c1
  have e1 : (a : Int) * (d : Int) = ((a * d : Nat) : Int) := by simp
  have e2 : (b : Int) * (c : Int) = ((b * c : Nat) : Int) := by simp
  have r := fun W => reduced_any (a * d) (b * c) W (by omega) (by omega) (Nat.mul_pos (by omega) (by omega))
  rw [← e1, ← e2] at r
  have R := Lib.hid r
  have c0 : ((c : Int) == 0) = false := by rw [beq_eq_false_iff_ne]; omega
  clear r e1 e2
  generalize redTop (a * d) (b * c) = rt at *
  generalize redBot (a * d) (b * c) = rb at *
  generalize redOk (a * d) (b * c) = ro at *
  have hall0 := two_below w (.int .i64 (a : Int)) (.int .i64 (b : Int)) (.int .i64 (c : Int)) (.int .i64 (d : Int)) 33
  obtain ⟨x0, x1, x2, x3⟩ := two_boxes w (.int .i64 (a : Int)) (.int .i64 (b : Int)) (.int .i64 (c : Int)) (.int .i64 (d : Int)) 33
  obtain ⟨v, hv⟩ : ∃ v, v = (w.alloc (.cells #[.int .i64 (a : Int), .int .i64 (b : Int)] 33)).alloc (.cells #[.int .i64 (c : Int), .int .i64 (d : Int)] 33) := ⟨_, rfl⟩
  have sv : v.heap.size = w.heap.size + 2 := by rw [hv]; simp
  obtain ⟨y0, y1⟩ := new_pair v (.int .i64 0) (.int .i64 0) 33 sv.symm
  have f0 := new_free v #[.int .i64 0, .int .i64 0] 33 sv.symm 0
  have f1 := new_free v #[.int .i64 0, .int .i64 0] 33 sv.symm 1
  rw [← hv] at x0 x1 x2 x3 hall0
  have hbv := pair_below v (.int .i64 0) (.int .i64 0) 33
  have hall := hall0.trans (hbv.mono hall0.size)
  replace x0 := cell_carry hbv x0
  replace x1 := cell_carry hbv x1
  replace x2 := cell_carry hbv x2
  replace x3 := cell_carry hbv x3
  go_enter Try.func14, Try.ntmps14
  go_wp2_with fail
  rw [← hv]
  clear hv hall0 hbv
  generalize v.alloc (.cells #[.int .i64 0, .int .i64 0] 33) = w0 at *
  (with_reducible refine (implFractionOk a b _ (by omega) (by omega)).mono ?_)
  rintro e w1 ⟨rfl, b2⟩
  rw [h1]
  replace f0 := (b2.frozen (p := ⟨w.heap.size + 2, 0, none⟩) (cell_lt y0)).trans f0
  replace f1 := (b2.frozen (p := ⟨w.heap.size + 2, 1, none⟩) (cell_lt y1)).trans f1
  replace x0 := cell_carry b2 x0
  replace x1 := cell_carry b2 x1
  replace x2 := cell_carry b2 x2
  replace x3 := cell_carry b2 x3
  replace y0 := cell_carry b2 y0
  replace y1 := cell_carry b2 y1
  have b3 := hall.trans (b2.mono hall.size)
  clear b2 h1 hall
  go_wp2_with fail
  (with_reducible refine (implFractionOk c d _ (by omega) (by omega)).mono ?_)
  rintro e w2 ⟨rfl, b4⟩
  rw [h2]
  replace f0 := (b4.frozen (p := ⟨w.heap.size + 2, 0, none⟩) (cell_lt y0)).trans f0
  replace f1 := (b4.frozen (p := ⟨w.heap.size + 2, 1, none⟩) (cell_lt y1)).trans f1
  replace x0 := cell_carry b4 x0
  replace x1 := cell_carry b4 x1
  replace x2 := cell_carry b4 x2
  replace x3 := cell_carry b4 x3
  replace y0 := cell_carry b4 y0
  replace y1 := cell_carry b4 y1
  have b5 := b3.trans (b4.mono b3.size)
  clear b4 b3 h2
  go_wp2_with fail
  (with_reducible refine (R.out _).mono ?_)
  rintro e w3 ⟨rfl, b6⟩
  replace f0 := (b6.frozen (p := ⟨w.heap.size + 2, 0, none⟩) (cell_lt y0)).trans f0
  replace f1 := (b6.frozen (p := ⟨w.heap.size + 2, 1, none⟩) (cell_lt y1)).trans f1
  replace y0 := cell_carry b6 y0
  replace y1 := cell_carry b6 y1
  have b7 := b5.trans (b6.mono b5.size)
  clear b6 b5
  obtain ⟨e0, e1⟩ := pair_set (g := w.heap.size + 1 + 1) y0 y1 (.int .i64 (rt : Int)) (.int .i64 (rb : Int))
  have HB := Lib.hid b7
  go_wp2_with fail
  exact bodyPost_ret (v := .tuple #[.agg #[.int .i64 (rt : Int), .int .i64 (rb : Int)], .bool ro]) (by simp [results, Try.results14, go_sem, e0, e1]) rfl ⟨rfl, (HB.out.setCell (by show w.heap.size ≤ w.heap.size + 1 + 1; omega) _).setCell (by show w.heap.size ≤ w.heap.size + 1 + 1; omega) _⟩
set_option maxHeartbeats 1000000 in
theorem implFloorOf (a b : Nat) (w : World) (h1 : fracOk a b = true) :
    Calls Try.prog 15 #[.agg #[.int .i64 (a : Int), .int .i64 (b : Int)]] w fun e w' => e = .returned (.int .i64 ((a / b : Nat) : Int)) ∧ Below w.heap.size w w' := by
  obtain ⟨a1, b0, b1⟩ := fracOk_bd h1
  obtain ⟨x0, x1⟩ := new_pair w (.int .i64 (a : Int)) (.int .i64 (b : Int)) 33 rfl
  have hall := pair_below w (.int .i64 (a : Int)) (.int .i64 (b : Int)) 33
  go_enter Try.func15, Try.ntmps15
  go_wp2_with fail
  generalize w.alloc (.cells #[.int .i64 (a : Int), .int .i64 (b : Int)] 33) = w0 at *
  (with_reducible refine (implFractionOk a b _ (by omega) (by omega)).mono ?_)
  rintro e w1 ⟨rfl, b2⟩
  rw [h1]
  replace x0 := cell_carry b2 x0
  replace x1 := cell_carry b2 x1
  have b3 := hall.trans (b2.mono hall.size)
  clear b2 h1 hall
  have t0 : ((b : Int) == 0) = false := by rw [beq_eq_false_iff_ne]; omega
  have t1 : (a : Int).tdiv (b : Int) = ((a / b : Nat) : Int) := rfl
  have t2 : (a : Int).tmod (b : Int) = ((a % b : Nat) : Int) := rfl
  have t3 : a / b ≤ a := Nat.div_le_self _ _
  have r1 : (a : Int) / (b : Int) = ((a / b : Nat) : Int) := (Int.natCast_ediv _ _).symm
  have r2 : wrap64 ((a : Int) / (b : Int)) = ((a / b : Nat) : Int) := by
    rw [r1]
    generalize a / b = q at *
    unfold wrap64; omega
  have R2 := Lib.hid r2
  clear r1 r2
  go_wp2_with fail
  go_ret
  exact ⟨by rw [R2.out]; rfl, b3⟩
end Go.Proofs.Ytoajmckhfnaifaa
