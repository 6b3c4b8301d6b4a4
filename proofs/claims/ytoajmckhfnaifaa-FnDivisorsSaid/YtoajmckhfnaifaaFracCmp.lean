/- Fractions in lowest terms, compared: both sides. -/
import Derived.Test.YtoajmckhfnaifaaFracs
import Derived.Test.YtoajmckhfnaifaaClaims
import Derived.Test.YtoajmckhfnaifaaPair
namespace Go.Proofs.Ytoajmckhfnaifaa
set_option linter.unusedVariables false
open Go.RowKit

theorem fracOk_bd {a b : Nat} (h : fracOk a b = true) : a ≤ 1000000000 ∧ 1 ≤ b ∧ b ≤ 1000000000 := by
  unfold fracOk at h
  simp only [Bool.and_eq_true, inB_iff] at h
  omega
def cmpF (a b c d : Nat) : Int := cmpI ((a : Int) * (d : Int)) ((c : Int) * (b : Int))
def lessF (a b c d : Nat) : Bool := cmpF a b c d == -1
/-- two structs of two numbers in two blocks, one after the other -/
theorem two_boxes (w : World) (u v x y : Value) (T : TypeId) : ((w.alloc (.cells #[u, v] T)).alloc (.cells #[x, y] T)).cell? ⟨w.heap.size, 0, none⟩ = some u ∧ ((w.alloc (.cells #[u, v] T)).alloc (.cells #[x, y] T)).cell? ⟨w.heap.size, 1, none⟩ = some v ∧
    ((w.alloc (.cells #[u, v] T)).alloc (.cells #[x, y] T)).cell? ⟨w.heap.size + 1, 0, none⟩ = some x ∧ ((w.alloc (.cells #[u, v] T)).alloc (.cells #[x, y] T)).cell? ⟨w.heap.size + 1, 1, none⟩ = some y := by
  have p1 := new_pair w u v T rfl
  have p2 := new_pair (w.alloc (.cells #[u, v] T)) x y T (g := w.heap.size + 1) (by simp)
  exact ⟨old_cell p1.1 _, old_cell p1.2 _, p2.1, p2.2⟩
theorem two_below (w : World) (u v x y : Value) (T : TypeId) : Below w.heap.size w ((w.alloc (.cells #[u, v] T)).alloc (.cells #[x, y] T)) :=
  ((Below.refl _ _).alloc (Nat.le_refl _) _).alloc (by simp) _
theorem prod_bd {a d : Nat} (ha : a ≤ 1000000000) (hd : d ≤ 1000000000) : (0 : Int) ≤ (a : Int) * (d : Int) ∧ (a : Int) * (d : Int) ≤ 1000000000000000000 := by
  have h1 : a * d ≤ 1000000000 * 1000000000 := Nat.mul_le_mul ha hd
  have h2 : ((a * d : Nat) : Int) = (a : Int) * (d : Int) := by simp
  omega
set_option maxHeartbeats 800000 in
theorem implCompareFr (a b c d : Nat) (w : World) (h1 : fracOk a b = true) (h2 : fracOk c d = true) :
    Calls Try.prog 17 #[.agg #[.int .i64 (a : Int), .int .i64 (b : Int)], .agg #[.int .i64 (c : Int), .int .i64 (d : Int)]] w fun e w' => e = .returned (.int .i64 (cmpF a b c d)) ∧ Below w.heap.size w w' := by
  obtain ⟨a1, b0, b1⟩ := fracOk_bd h1
  obtain ⟨c1, d0, d1⟩ := fracOk_bd h2
  obtain ⟨p0, p1⟩ := prod_bd a1 d1
  obtain ⟨q0, q1⟩ := prod_bd c1 b1
  have hall := two_below w (.int .i64 (a : Int)) (.int .i64 (b : Int)) (.int .i64 (c : Int)) (.int .i64 (d : Int)) 33
  obtain ⟨x0, x1, x2, x3⟩ := two_boxes w (.int .i64 (a : Int)) (.int .i64 (b : Int)) (.int .i64 (c : Int)) (.int .i64 (d : Int)) 33
  unfold cmpF
  go_enter Try.func17, Try.ntmps17
  go_wp2_with fail
  generalize (w.alloc (.cells #[.int .i64 (a : Int), .int .i64 (b : Int)] 33)).alloc (.cells #[.int .i64 (c : Int), .int .i64 (d : Int)] 33) = w0 at *
  (with_reducible refine (implFractionOk a b _ (by omega) (by omega)).mono ?_)
  rintro e w1 ⟨rfl, b2⟩
  rw [h1]
  have x0 := cell_carry b2 x0
  have x1 := cell_carry b2 x1
  have x2 := cell_carry b2 x2
  have x3 := cell_carry b2 x3
  have b3 := hall.trans (b2.mono hall.size)
  clear b2 h1
  go_wp2_with fail
  (with_reducible refine (implFractionOk c d _ (by omega) (by omega)).mono ?_)
  rintro e w2 ⟨rfl, b4⟩
  rw [h2]
  have x0 := cell_carry b4 x0
  have x1 := cell_carry b4 x1
  have x2 := cell_carry b4 x2
  have x3 := cell_carry b4 x3
  have b5 := b3.trans (b4.mono b3.size)
  clear b4 b3 h2
  go_wp2_with fail
  (with_reducible refine (compare_any _ _ _).mono ?_)
  rintro e w3 ⟨rfl, rfl⟩
  go_wp2
  go_ret
  exact ⟨rfl, b5⟩
set_option maxHeartbeats 800000 in
theorem less_any (a b c d : Nat) (w : World) (h1 : fracOk a b = true) (h2 : fracOk c d = true) :
    Calls Try.prog 30 #[.agg #[.int .i64 (a : Int), .int .i64 (b : Int)], .agg #[.int .i64 (c : Int), .int .i64 (d : Int)]] w fun e w' => e = .returned (.bool (lessF a b c d)) ∧ Below w.heap.size w w' := by
  have hall := two_below w (.int .i64 (a : Int)) (.int .i64 (b : Int)) (.int .i64 (c : Int)) (.int .i64 (d : Int)) 33
  obtain ⟨x0, x1, x2, x3⟩ := two_boxes w (.int .i64 (a : Int)) (.int .i64 (b : Int)) (.int .i64 (c : Int)) (.int .i64 (d : Int)) 33
  unfold lessF
  have H1 := Lib.hid h1
  have H2 := Lib.hid h2
  clear h1 h2
  go_enter Try.func30, Try.ntmps30
  go_wp2_with fail
  generalize (w.alloc (.cells #[.int .i64 (a : Int), .int .i64 (b : Int)] 33)).alloc (.cells #[.int .i64 (c : Int), .int .i64 (d : Int)] 33) = w0 at *
  (with_reducible refine (implCompareFr a b c d _ H1.out H2.out).mono ?_)
  rintro e w1 ⟨rfl, b2⟩
  have b3 := hall.trans (b2.mono hall.size)
  clear b2
  go_wp2
  go_ret
  exact ⟨rfl, b3⟩
end Go.Proofs.Ytoajmckhfnaifaa
