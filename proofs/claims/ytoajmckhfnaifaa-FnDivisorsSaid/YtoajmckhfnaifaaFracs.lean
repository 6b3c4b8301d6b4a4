/- Fractions of two numbers that are not negative. -/
import Derived.Test.YtoajmckhfnaifaaSmall
import Derived.Test.YtoajmckhfnaifaaPair
import Derived.ShutString
namespace Go.Proofs.Ytoajmckhfnaifaa
set_option linter.unusedVariables false
open Go.RowKit

theorem gcd_step (p q : Nat) : Nat.gcd q (p % q) = Nat.gcd p q := by
  rw [Nat.gcd_comm q, ← Nat.gcd_rec, Nat.gcd_comm]

set_option maxHeartbeats 400000 in
theorem gcd_any (p q : Nat) (w : World) (hp : p ≤ 4611686018427387904) (hq : q ≤ 4611686018427387904) :
    Calls Try.prog 42 #[.int .i64 (p : Int), .int .i64 (q : Int)] w fun e w' => e = .returned (.int .i64 ((Nat.gcd p q : Nat) : Int)) ∧ ∃ m, w' = w.drewN m := by
  go_enter Try.func42, Try.ntmps42
  go_wp2
  go_loopw [0, 1] (fun a b wr => ∃ x y m : Nat, a = .int .i64 (x : Int) ∧ b = .int .i64 (y : Int) ∧ Nat.gcd x y = Nat.gcd p q ∧ x ≤ 4611686018427387904 ∧ y ≤ 4611686018427387904 ∧ wr = w.drewN m) (fun _ b _ => (intOf b).toNat)
  case atStart => exact ⟨p, q, 0, rfl, rfl, rfl, hp, hq, rfl⟩
  case round =>
    obtain ⟨x, y, m, rfl, rfl, hg, hx, hy, rfl⟩ := hrel
    have HG := Lib.hid hg
    clear hg
    by_cases h0 : y = 0
    · subst h0
      have hn : -(x : Int) ≤ (x : Int) := by omega
      have e : Nat.gcd x 0 = x := Nat.gcd_zero_right x
      have HE := Lib.hid e
      clear e
      go_wp2
      go_ret
      exact ⟨congrArg (fun k : Nat => Ending.returned (Value.int .i64 (k : Int))) (HE.out.symm.trans HG.out), m, rfl⟩
    · have hy1 : 1 ≤ y := by omega
      have hm : x % y < y := Nat.mod_lt _ (by omega)
      have hm2 : (0 : Int) ≤ (x : Int) % (y : Int) := Int.emod_nonneg _ (by omega)
      have hm3 : (x : Int) % (y : Int) < (y : Int) := Int.emod_lt_of_pos _ (by omega)
      have h0' : ((y : Int) != 0) = true := by rw [bne_iff_ne]; omega
      clear h0
      go_wp2
      go_quiet (fail)
      go_wp2
      go_roundw
      case rel => exact ⟨y, x % y, _, rfl, by rw [Int.natCast_emod], (gcd_step x y).trans HG.out, hy, by omega, World.drewN_drewN _ _ _⟩
      case measure => simp only [intOf]; omega


/-- the fraction of two numbers is in lowest terms, and its terms are small -/
def fracOk (a b : Nat) : Bool := inB (a : Int) (-1000000000) 1000000000 && inB (b : Int) 1 1000000000 && ((Nat.gcd a b : Nat) : Int) == 1

set_option maxHeartbeats 400000 in
theorem implFractionOk (a b : Nat) (w : World) (ha : a ≤ 4611686018427387904) (hb : b ≤ 4611686018427387904) :
    Calls Try.prog 31 #[.agg #[.int .i64 (a : Int), .int .i64 (b : Int)]] w fun e w' => e = .returned (.bool (fracOk a b)) ∧ Below w.heap.size w w' := by
  unfold fracOk
  cases h1 : inB (a : Int) (-1000000000) 1000000000 <;> cases h2 : inB (b : Int) 1 1000000000
  all_goals
    go_enter Try.func31, Try.ntmps31
    go_wp2_with (first | (go_at_call 21; refine (within_any _ _ _ _).mono ?_; rintro e w' ⟨rfl, rfl⟩) | (go_at_call 42; refine (gcd_any _ _ _ ha hb).mono ?_; rintro e w' ⟨rfl, m, rfl⟩))
    go_ret
    first
      | exact ⟨rfl, (Below.refl _ _).alloc (Nat.le_refl _) _⟩
      | exact ⟨rfl, ((Below.refl _ _).alloc (Nat.le_refl _) _).trans (below_of_drewN rfl)⟩
/-- the fraction t / b in lowest terms, and true; else no fraction and false -/
def redTop (t b : Nat) : Nat := if fracOk (t / Nat.gcd t b) (b / Nat.gcd t b) then t / Nat.gcd t b else 0
def redBot (t b : Nat) : Nat := if fracOk (t / Nat.gcd t b) (b / Nat.gcd t b) then b / Nat.gcd t b else 0
def redOk (t b : Nat) : Bool := fracOk (t / Nat.gcd t b) (b / Nat.gcd t b)

set_option maxHeartbeats 400000 in
theorem reduced_any (t b : Nat) (w : World) (ht : t ≤ 4611686018427387904) (hb : b ≤ 4611686018427387904) (hb1 : 1 ≤ b) :
    Calls Try.prog 29 #[.int .i64 (t : Int), .int .i64 (b : Int)] w fun e w' =>
      e = .returned (.tuple #[.agg #[.int .i64 (redTop t b : Int), .int .i64 (redBot t b : Int)], .bool (redOk t b)]) ∧ Below w.heap.size w w' := by
  have hg1 : 1 ≤ Nat.gcd t b := Nat.gcd_pos_of_pos_right t hb1
  have q1 : t / Nat.gcd t b ≤ t := Nat.div_le_self _ _
  have q2 : b / Nat.gcd t b ≤ b := Nat.div_le_self _ _
  have r1 : (t : Int) / ((Nat.gcd t b : Nat) : Int) = ((t / Nat.gcd t b : Nat) : Int) := (Int.natCast_ediv _ _).symm
  have r2 : (b : Int) / ((Nat.gcd t b : Nat) : Int) = ((b / Nat.gcd t b : Nat) : Int) := (Int.natCast_ediv _ _).symm
  have hc := fun W => gcd_any t b W ht hb
  unfold redTop redBot redOk
  have hgl : Nat.gcd t b ≤ b := Nat.le_of_dvd (by omega) (Nat.gcd_dvd_right t b)
  generalize t / Nat.gcd t b = x at *
  generalize b / Nat.gcd t b = y at *
  generalize Nat.gcd t b = g at *
  have HC := Lib.hid hc
  clear hc
  have b0 : ((g : Int) == 0) = false := by rw [beq_eq_false_iff_ne]; omega
  cases hf : fracOk x y
  all_goals
    go_enter Try.func29, Try.ntmps29
    go_wp2_with fail
    refine (HC.out _).mono ?_
    rintro e w1 ⟨rfl, m, rfl⟩
    go_wp2
    go_region
    go_wp2_with fail
    refine (implFractionOk x y _ (by omega) (by omega)).mono ?_
    rintro e w2 ⟨rfl, hb2⟩
    rw [hf]
    have hl1 : w.heap.size < (((w.alloc (Obj.cells #[Value.int IntKind.i64 0, Value.int IntKind.i64 0] 33)).drewN (m + 1)).alloc (Obj.cells #[Value.int IntKind.i64 (x : Int), Value.int IntKind.i64 (y : Int)] 33)).heap.size := by simp; omega
    have hl2 : w.heap.size + 1 < (((w.alloc (Obj.cells #[Value.int IntKind.i64 0, Value.int IntKind.i64 0] 33)).drewN (m + 1)).alloc (Obj.cells #[Value.int IntKind.i64 (x : Int), Value.int IntKind.i64 (y : Int)] 33)).heap.size := by simp
    have p0 := new_pair w (Value.int IntKind.i64 0) (Value.int IntKind.i64 0) 33 rfl
    have p1 := new_pair ((w.alloc (Obj.cells #[Value.int IntKind.i64 0, Value.int IntKind.i64 0] 33)).drewN (m + 1)) (Value.int IntKind.i64 (x : Int)) (Value.int IntKind.i64 (y : Int)) 33 (g := w.heap.size + 1) (by simp)
    have d0 := (hb2.cell (p := ⟨w.heap.size + 1, 0, none⟩) hl2).trans p1.1
    have d1 := (hb2.cell (p := ⟨w.heap.size + 1, 1, none⟩) hl2).trans p1.2
    have c0 := (hb2.cell (p := ⟨w.heap.size, 0, none⟩) hl1).trans (old_cell (p := ⟨w.heap.size, 0, none⟩) (u := .int .i64 0) p0.1 _)
    have c1 := (hb2.cell (p := ⟨w.heap.size, 1, none⟩) hl1).trans (old_cell (p := ⟨w.heap.size, 1, none⟩) (u := .int .i64 0) p0.2 _)
    have f0 := (hb2.frozen (p := ⟨w.heap.size, 0, none⟩) hl1).trans (old_free (p := ⟨w.heap.size, 0, none⟩) (u := .int .i64 0) p0.1 (new_free w _ _ rfl 0) _)
    have f1 := (hb2.frozen (p := ⟨w.heap.size, 1, none⟩) hl1).trans (old_free (p := ⟨w.heap.size, 1, none⟩) (u := .int .i64 0) p0.2 (new_free w _ _ rfl 1) _)
    have hb3 : Below w.heap.size w w2 := (((((Below.refl _ _).alloc (Nat.le_refl _) _).trans (below_of_drewN rfl)).alloc (by simp) _).trans (hb2.mono (by omega)))
    clear hb2 p0 p1 hl1 hl2
    have HB := Lib.hid hb3
    clear hb3
    go_wp2
  · obtain ⟨e0, e1⟩ := pair_set c0 c1 (.int .i64 0) (.int .i64 0)
    exact bodyPost_ret (v := .tuple #[.agg #[.int .i64 0, .int .i64 0], .bool false]) (by simp [results, Try.results29, go_sem, e0, e1]) rfl ⟨rfl, (HB.out.setCell (Nat.le_refl _) _).setCell (Nat.le_refl _) _⟩
  · obtain ⟨e0, e1⟩ := pair_set c0 c1 (.int .i64 x) (.int .i64 y)
    exact bodyPost_ret (v := .tuple #[.agg #[.int .i64 x, .int .i64 y], .bool true]) (by simp [results, Try.results29, go_sem, e0, e1]) rfl ⟨rfl, (HB.out.setCell (Nat.le_refl _) _).setCell (Nat.le_refl _) _⟩
end Go.Proofs.Ytoajmckhfnaifaa
