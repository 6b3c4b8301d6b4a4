/- A fraction out of two numbers: both sides. -/
import Derived.Test.YtoledjljccccaaaFracCmp
namespace Go.Proofs.Ytoledjljccccaaa
set_option linter.unusedVariables false
open Go.RowKit

theorem red_ok {t b : Nat} (ht : t ≤ 1000000000) (hb1 : 1 ≤ b) (hb : b ≤ 1000000000) : redOk t b = true ∧ fracOk (redTop t b) (redBot t b) = true := by
  have hg1 : 1 ≤ Nat.gcd t b := Nat.gcd_pos_of_pos_right t hb1
  have q1 : t / Nat.gcd t b ≤ t := Nat.div_le_self _ _
  have q2 : b / Nat.gcd t b ≤ b := Nat.div_le_self _ _
  have q3 : 1 ≤ b / Nat.gcd t b := Nat.div_pos (Nat.le_of_dvd (by omega) (Nat.gcd_dvd_right t b)) hg1
  have q4 : Nat.gcd (t / Nat.gcd t b) (b / Nat.gcd t b) = 1 := Nat.gcd_div_gcd_div_gcd_of_pos_right (by omega)
  have h : fracOk (t / Nat.gcd t b) (b / Nat.gcd t b) = true := by
    unfold fracOk
    rw [q4, Bool.and_eq_true, Bool.and_eq_true, inB_iff, inB_iff]
    generalize t / Nat.gcd t b = x at *
    generalize b / Nat.gcd t b = y at *
    exact ⟨⟨by omega, by omega⟩, rfl⟩
  unfold redOk redTop redBot
  rw [if_pos h, if_pos h]
  exact ⟨h, h⟩
theorem whole_any (n : Nat) (w : World) : Calls Try.prog 39 #[.int .i64 (n : Int)] w fun e w' => e = .returned (.agg #[.int .i64 (n : Int), .int .i64 1]) ∧ Below w.heap.size w w' := by
  have p0 := new_pair w (Value.int IntKind.i64 (n : Int)) (Value.int IntKind.i64 1) 32 rfl
  have hb := (Below.refl w.heap.size w).alloc (Nat.le_refl _) (.cells #[Value.int IntKind.i64 (n : Int), Value.int IntKind.i64 1] 32)
  obtain ⟨e0, e1⟩ := p0
  have E := Lib.hid (And.intro e0 e1)
  clear e0 e1
  go_enter Try.func39, Try.ntmps39
  go_wp2
  obtain ⟨e0, e1⟩ := E.out
  exact bodyPost_ret (v := .agg #[.int .i64 (n : Int), .int .i64 1]) (by simp [results, Try.results39, go_sem, e0, e1]) rfl ⟨rfl, hb⟩
set_option maxHeartbeats 400000 in
theorem fractionOf_any (t b : Nat) (w : World) (ht : t ≤ 1000000000) (hb : b ≤ 1000000000) (hb1 : 1 ≤ b) :
    Calls Try.prog 37 #[.int .i64 (t : Int), .int .i64 (b : Int)] w fun e w' =>
      e = .returned (.tuple #[.agg #[.int .i64 (redTop t b : Int), .int .i64 (redBot t b : Int)], .bool (redOk t b)]) ∧ Below w.heap.size w w' := by
  have hg1 : 1 ≤ Nat.gcd t b := Nat.gcd_pos_of_pos_right t hb1
  have q1 : t / Nat.gcd t b ≤ t := Nat.div_le_self _ _
  have q2 : b / Nat.gcd t b ≤ b := Nat.div_le_self _ _
  have r1 : (t : Int) / ((Nat.gcd t b : Nat) : Int) = ((t / Nat.gcd t b : Nat) : Int) := (Int.natCast_ediv _ _).symm
  have r2 : (b : Int) / ((Nat.gcd t b : Nat) : Int) = ((b / Nat.gcd t b : Nat) : Int) := (Int.natCast_ediv _ _).symm
  have hc := fun W => l02Gcd_any t b W (by omega) (by omega)
  unfold redTop redBot redOk
  have hgl : Nat.gcd t b ≤ b := Nat.le_of_dvd (by omega) (Nat.gcd_dvd_right t b)
  generalize t / Nat.gcd t b = x at *
  generalize b / Nat.gcd t b = y at *
  generalize Nat.gcd t b = g at *
  have HC := Lib.hid hc
  clear hc
  have hn : -(t : Int) ≤ (t : Int) := by omega
  have b0 : ((g : Int) == 0) = false := by rw [beq_eq_false_iff_ne]; omega
  have i1 : inB (t : Int) (-1000000000000000000) 1000000000000000000 = true := inB_iff.2 (by omega)
  have i2 : inB (b : Int) (-1000000000000000000) 1000000000000000000 = true := inB_iff.2 (by omega)
  have z0 : ((b : Int) == 0) = false := by rw [beq_eq_false_iff_ne]; omega
  cases hf : fracOk x y
  all_goals
    go_enter Try.func37, Try.ntmps37
    go_wp2_with (go_at_call 26; refine (l01In_any _ _ _ _).mono ?_; rintro e w' ⟨rfl, rfl⟩)
    refine (HC.out _).mono ?_
    rintro e w1 ⟨rfl, rfl⟩
    go_wp2
    go_region
    go_wp2_with fail
    refine (specFractionOk x y _ (by omega) (by omega)).mono ?_
    rintro e w2 ⟨rfl, hb2⟩
    rw [hf]
    have hl1 : w.heap.size < ((w.alloc (Obj.cells #[Value.int IntKind.i64 0, Value.int IntKind.i64 0] 32)).alloc (Obj.cells #[Value.int IntKind.i64 (x : Int), Value.int IntKind.i64 (y : Int)] 32)).drew.heap.size := by simp; omega
    have hl2 : w.heap.size + 1 < ((w.alloc (Obj.cells #[Value.int IntKind.i64 0, Value.int IntKind.i64 0] 32)).alloc (Obj.cells #[Value.int IntKind.i64 (x : Int), Value.int IntKind.i64 (y : Int)] 32)).drew.heap.size := by simp
    have p0 := new_pair w (Value.int IntKind.i64 0) (Value.int IntKind.i64 0) 32 rfl
    have p1 := new_pair (w.alloc (Obj.cells #[Value.int IntKind.i64 0, Value.int IntKind.i64 0] 32)) (Value.int IntKind.i64 (x : Int)) (Value.int IntKind.i64 (y : Int)) 32 (g := w.heap.size + 1) (by simp)
    have d0 := (hb2.cell (p := ⟨w.heap.size + 1, 0, none⟩) hl2).trans p1.1
    have d1 := (hb2.cell (p := ⟨w.heap.size + 1, 1, none⟩) hl2).trans p1.2
    have c0 := (hb2.cell (p := ⟨w.heap.size, 0, none⟩) hl1).trans (old_cell (p := ⟨w.heap.size, 0, none⟩) (u := .int .i64 0) p0.1 _)
    have c1 := (hb2.cell (p := ⟨w.heap.size, 1, none⟩) hl1).trans (old_cell (p := ⟨w.heap.size, 1, none⟩) (u := .int .i64 0) p0.2 _)
    have f0 := (hb2.frozen (p := ⟨w.heap.size, 0, none⟩) hl1).trans (old_free (p := ⟨w.heap.size, 0, none⟩) (u := .int .i64 0) p0.1 (new_free w _ _ rfl 0) _)
    have f1 := (hb2.frozen (p := ⟨w.heap.size, 1, none⟩) hl1).trans (old_free (p := ⟨w.heap.size, 1, none⟩) (u := .int .i64 0) p0.2 (new_free w _ _ rfl 1) _)
    have hb3 : Below w.heap.size w w2 := ((((Below.refl _ _).alloc (Nat.le_refl _) _).alloc (by simp) _).drew.trans (hb2.mono (by omega)))
    clear hb2 p0 p1 hl1 hl2
    have HB := Lib.hid hb3
    clear hb3
    go_wp2
  · obtain ⟨e0, e1⟩ := pair_set c0 c1 (.int .i64 0) (.int .i64 0)
    exact bodyPost_ret (v := .tuple #[.agg #[.int .i64 0, .int .i64 0], .bool false]) (by simp [results, Try.results37, go_sem, e0, e1]) rfl ⟨rfl, (HB.out.setCell (Nat.le_refl _) _).setCell (Nat.le_refl _) _⟩
  · obtain ⟨e0, e1⟩ := pair_set c0 c1 (.int .i64 x) (.int .i64 y)
    exact bodyPost_ret (v := .tuple #[.agg #[.int .i64 x, .int .i64 y], .bool true]) (by simp [results, Try.results37, go_sem, e0, e1]) rfl ⟨rfl, (HB.out.setCell (Nat.le_refl _) _).setCell (Nat.le_refl _) _⟩
end Go.Proofs.Ytoledjljccccaaa
