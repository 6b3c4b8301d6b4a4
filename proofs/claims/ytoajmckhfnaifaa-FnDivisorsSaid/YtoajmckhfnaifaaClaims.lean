/- Claims of two parties, compared. -/
import Derived.Test.YtoajmckhfnaifaaSmall
import Derived.Test.YtoajmckhfnaifaaClosures
namespace Go.Proofs.Ytoajmckhfnaifaa
set_option linter.unusedVariables false
open Go.RowKit

theorem mul_bd {u v U V : Int} (u0 : 0 ≤ u) (u1 : u ≤ U) (v0 : 0 ≤ v) (v1 : v ≤ V) : 0 ≤ u * v ∧ u * v ≤ U * V :=
  ⟨Int.mul_nonneg u0 v0, Int.mul_le_mul u1 v1 v0 (Int.le_trans u0 u1)⟩
def cmpI (a b : Int) : Int := if a < b then -1 else if b < a then 1 else 0
def topC (m x a : Int) : Int := if m = 1 then x else if m = 2 then x * (2 * a + 1) else if m = 3 then x * x else if m = 4 then 2 * x else x
def botC (m a : Int) : Int := if m = 1 then a else if m = 2 then 2 * a * (a + 1) else if m = 3 then a * (a + 1) else if m = 4 then 2 * a + 1 else a + 1
def claimC (m x a y b : Int) : Int :=
  if x = 0 ∨ y = 0 then cmpI x y else if botC m a = 0 ∧ botC m b = 0 then cmpI x y else if botC m a = 0 then 1 else if botC m b = 0 then -1 else cmpI (topC m x a * botC m b) (topC m y b * botC m a)
theorem post_bd {x a : Int} (x0 : 0 ≤ x) (x1 : x ≤ 1000000) (a0 : 0 ≤ a) (a1 : a ≤ 200) :
    (0 ≤ a * (a + 1) ∧ a * (a + 1) ≤ 40200) ∧ (0 ≤ 2 * a * (a + 1) ∧ 2 * a * (a + 1) ≤ 80400) ∧ (0 ≤ x * (2 * a + 1) ∧ x * (2 * a + 1) ≤ 401000000) ∧ (0 ≤ x * x ∧ x * x ≤ 1000000000000) := by
  have h1 := mul_bd a0 a1 (show 0 ≤ a + 1 by omega) (show a + 1 ≤ 201 by omega)
  have h2 := mul_bd (show 0 ≤ 2 * a by omega) (show 2 * a ≤ 400 by omega) (show 0 ≤ a + 1 by omega) (show a + 1 ≤ 201 by omega)
  have h3 := mul_bd x0 x1 (show 0 ≤ 2 * a + 1 by omega) (show 2 * a + 1 ≤ 401 by omega)
  have h4 := mul_bd x0 x1 x0 x1
  exact ⟨by omega, by omega, by omega, by omega⟩
theorem botC_bd {m a : Int} (a0 : 0 ≤ a) (a1 : a ≤ 200) : 0 ≤ botC m a ∧ botC m a ≤ 80400 := by
  obtain ⟨h1, h2, _⟩ := post_bd (x := 0) (by omega) (by omega) a0 a1
  unfold botC
  by_cases e1 : m = 1 <;> by_cases e2 : m = 2 <;> by_cases e3 : m = 3 <;> by_cases e4 : m = 4 <;> simp only [e1, e2, e3, e4, if_true, if_false] <;> omega
theorem topC_bd {m x a : Int} (x0 : 0 ≤ x) (x1 : x ≤ 1000000) (a0 : 0 ≤ a) (a1 : a ≤ 200) : 0 ≤ topC m x a ∧ topC m x a ≤ 1000000000000 := by
  obtain ⟨_, _, h3, h4⟩ := post_bd x0 x1 a0 a1
  unfold topC
  by_cases e1 : m = 1 <;> by_cases e2 : m = 2 <;> by_cases e3 : m = 3 <;> by_cases e4 : m = 4 <;> simp only [e1, e2, e3, e4, if_true, if_false] <;> omega

theorem isNaN_any (x : Int) (w : World) : Calls Try.prog 43 #[.int .i64 x] w fun e w' => e = .returned (.bool false) ∧ w = w' := by
  go_enter Try.func43, Try.ntmps43
  go_wp2
  go_ret
  exact ⟨by simp, rfl⟩
theorem compare_any (a b : Int) (w : World) : Calls Try.prog 32 #[.int .i64 a, .int .i64 b] w fun e w' => e = .returned (.int .i64 (cmpI a b)) ∧ w = w' := by
  unfold cmpI
  by_cases h1 : a < b
  · rw [if_pos h1]
    go_enter Try.func32, Try.ntmps32
    go_wp2_with (go_at_call 43; refine (isNaN_any _ _).mono ?_; rintro e w' ⟨rfl, rfl⟩)
    go_ret
    exact ⟨rfl, rfl⟩
  rw [if_neg h1]
  by_cases h2 : b < a
  · rw [if_pos h2]
    go_enter Try.func32, Try.ntmps32
    go_wp2_with (go_at_call 43; refine (isNaN_any _ _).mono ?_; rintro e w' ⟨rfl, rfl⟩)
    go_ret
    exact ⟨rfl, rfl⟩
  · rw [if_neg h2]
    go_enter Try.func32, Try.ntmps32
    go_wp2_with (go_at_call 43; refine (isNaN_any _ _).mono ?_; rintro e w' ⟨rfl, rfl⟩)
    go_ret
    exact ⟨rfl, rfl⟩
theorem claim1_any (m x a : Int) (B : Nat) (w : World) (m1 : 1 ≤ m) (m5 : m ≤ 5) (x0 : 0 ≤ x) (x1 : x ≤ 1000000) (a0 : 0 ≤ a) (a1 : a ≤ 200) (h : w.cell? ⟨B, 0, none⟩ = some (.int .i64 m)) :
    Calls Try.prog 38 #[.int .i64 x, .int .i64 a, .pointer (some ⟨B, 0, none⟩)] w fun e w' => e = .returned (.tuple #[.int .i64 (topC m x a), .int .i64 (botC m a)]) ∧ w = w' := by
  obtain ⟨h1, h2, h3, h4⟩ := post_bd x0 x1 a0 a1
  obtain rfl | rfl | rfl | rfl | rfl : m = 1 ∨ m = 2 ∨ m = 3 ∨ m = 4 ∨ m = 5 := by omega
  all_goals
    go_enter Try.func38, Try.ntmps38
    go_wp2
    go_ret2
    exact ⟨rfl, rfl⟩
set_option maxHeartbeats 800000 in
theorem compareClaims_any (m x a y b : Int) (w : World) (m1 : 1 ≤ m) (m5 : m ≤ 5) (x0 : 0 ≤ x) (x1 : x ≤ 1000000) (a0 : 0 ≤ a) (a1 : a ≤ 200) (y0 : 0 ≤ y) (y1 : y ≤ 1000000) (b0 : 0 ≤ b) (b1 : b ≤ 200) :
    Calls Try.prog 23 #[.int .i64 m, .int .i64 x, .int .i64 a, .int .i64 y, .int .i64 b] w fun e w' => e = .returned (.int .i64 (claimC m x a y b)) ∧ Below w.heap.size w w' := by
  have hb : Below w.heap.size w (w.alloc (.cells #[.int .i64 m] 3)) := (Below.refl _ _).alloc (Nat.le_refl _) _
  have c1 := new_cell w (.int .i64 m) 3 rfl
  have K1 := Lib.hid (claim1_any m x a w.heap.size _ m1 m5 x0 x1 a0 a1 c1)
  have K2 := Lib.hid (claim1_any m y b w.heap.size _ m1 m5 y0 y1 b0 b1 c1)
  unfold claimC
  obtain ⟨p0, p1⟩ := botC_bd (m := m) a0 a1
  obtain ⟨r0, r1⟩ := botC_bd (m := m) b0 b1
  obtain ⟨s0, s1⟩ := topC_bd (m := m) x0 x1 a0 a1
  obtain ⟨t0, t1⟩ := topC_bd (m := m) y0 y1 b0 b1
  generalize botC m a = P at *
  generalize botC m b = R at *
  generalize topC m x a = S at *
  generalize topC m y b = T at *
  obtain ⟨g0, g1⟩ := mul_bd s0 s1 r0 r1
  obtain ⟨h0, h1⟩ := mul_bd t0 t1 p0 p1
  rcases (show x = 0 ∨ 0 < x by omega) with rfl | hx
  · rw [if_pos (by omega)]
    go_enter Try.func23, Try.ntmps23
    go_wp2_with fail
    (with_reducible refine K1.out.mono ?_)
    rintro e w1 ⟨rfl, rfl⟩
    go_wp2_with fail
    (with_reducible refine K2.out.mono ?_)
    rintro e w1 ⟨rfl, rfl⟩
    go_wp2_with (go_at_call 32; (with_reducible refine (compare_any _ _ _).mono ?_); rintro e w' ⟨rfl, rfl⟩)
    go_ret
    exact ⟨rfl, hb⟩
  rcases (show y = 0 ∨ 0 < y by omega) with rfl | hy
  · rw [if_pos (by omega)]
    have bx : (x == 0) = false := by rw [beq_eq_false_iff_ne]; omega
    go_enter Try.func23, Try.ntmps23
    go_wp2_with fail
    (with_reducible refine K1.out.mono ?_)
    rintro e w1 ⟨rfl, rfl⟩
    go_wp2_with fail
    (with_reducible refine K2.out.mono ?_)
    rintro e w1 ⟨rfl, rfl⟩
    go_wp2_with (go_at_call 32; (with_reducible refine (compare_any _ _ _).mono ?_); rintro e w' ⟨rfl, rfl⟩)
    go_ret
    exact ⟨rfl, hb⟩
  rw [if_neg (by omega)]
  rcases (show P = 0 ∨ 0 < P by omega) with rfl | hp <;> rcases (show R = 0 ∨ 0 < R by omega) with rfl | hr
  · rw [if_pos (by omega)]
    have bx : (x == 0) = false := by rw [beq_eq_false_iff_ne]; omega
    have ey_ : (y == 0) = false := by rw [beq_eq_false_iff_ne]; omega
    go_enter Try.func23, Try.ntmps23
    go_wp2_with fail
    (with_reducible refine K1.out.mono ?_)
    rintro e w1 ⟨rfl, rfl⟩
    go_wp2_with fail
    (with_reducible refine K2.out.mono ?_)
    rintro e w1 ⟨rfl, rfl⟩
    go_wp2_with (go_at_call 32; (with_reducible refine (compare_any _ _ _).mono ?_); rintro e w' ⟨rfl, rfl⟩)
    go_ret
    exact ⟨rfl, hb⟩
  · rw [if_neg (by omega), if_pos (by omega)]
    have bx : (x == 0) = false := by rw [beq_eq_false_iff_ne]; omega
    have ey_ : (y == 0) = false := by rw [beq_eq_false_iff_ne]; omega
    have bR : (R == 0) = false := by rw [beq_eq_false_iff_ne]; omega
    go_enter Try.func23, Try.ntmps23
    go_wp2_with fail
    (with_reducible refine K1.out.mono ?_)
    rintro e w1 ⟨rfl, rfl⟩
    go_wp2_with fail
    (with_reducible refine K2.out.mono ?_)
    rintro e w1 ⟨rfl, rfl⟩
    go_wp2_with (go_at_call 32; (with_reducible refine (compare_any _ _ _).mono ?_); rintro e w' ⟨rfl, rfl⟩)
    go_ret
    exact ⟨rfl, hb⟩
  · rw [if_neg (by omega), if_neg (by omega), if_pos (by omega)]
    have bx : (x == 0) = false := by rw [beq_eq_false_iff_ne]; omega
    have ey_ : (y == 0) = false := by rw [beq_eq_false_iff_ne]; omega
    have bP : (P == 0) = false := by rw [beq_eq_false_iff_ne]; omega
    go_enter Try.func23, Try.ntmps23
    go_wp2_with fail
    (with_reducible refine K1.out.mono ?_)
    rintro e w1 ⟨rfl, rfl⟩
    go_wp2_with fail
    (with_reducible refine K2.out.mono ?_)
    rintro e w1 ⟨rfl, rfl⟩
    go_wp2_with (go_at_call 32; (with_reducible refine (compare_any _ _ _).mono ?_); rintro e w' ⟨rfl, rfl⟩)
    go_ret
    exact ⟨rfl, hb⟩
  · rw [if_neg (by omega), if_neg (by omega), if_neg (by omega)]
    have bx : (x == 0) = false := by rw [beq_eq_false_iff_ne]; omega
    have ey_ : (y == 0) = false := by rw [beq_eq_false_iff_ne]; omega
    have bP : (P == 0) = false := by rw [beq_eq_false_iff_ne]; omega
    have bR : (R == 0) = false := by rw [beq_eq_false_iff_ne]; omega
    go_enter Try.func23, Try.ntmps23
    go_wp2_with fail
    (with_reducible refine K1.out.mono ?_)
    rintro e w1 ⟨rfl, rfl⟩
    go_wp2_with fail
    (with_reducible refine K2.out.mono ?_)
    rintro e w1 ⟨rfl, rfl⟩
    go_wp2_with (go_at_call 32; (with_reducible refine (compare_any _ _ _).mono ?_); rintro e w' ⟨rfl, rfl⟩)
    go_ret
    exact ⟨rfl, hb⟩
/-- the other factor of a signpost -/
def qC (m a : Int) : Int := if m = 1 then 1 else if m = 2 then 2 * a + 1 else if m = 3 then 1 else if m = 4 then 2 else 1
theorem qC_bd {m a : Int} (a0 : 0 ≤ a) (a1 : a ≤ 200) : 0 ≤ qC m a ∧ qC m a ≤ 401 := by
  unfold qC
  by_cases e1 : m = 1 <;> by_cases e2 : m = 2 <;> by_cases e3 : m = 3 <;> by_cases e4 : m = 4 <;> simp only [e1, e2, e3, e4, if_true, if_false] <;> omega
theorem topC_pos {m x a : Int} (x0 : 0 < x) (a0 : 0 ≤ a) : 0 < topC m x a := by
  have h1 := Int.mul_pos x0 (show 0 < 2 * a + 1 by omega)
  have h2 := Int.mul_pos x0 x0
  unfold topC
  by_cases e1 : m = 1 <;> by_cases e2 : m = 2 <;> by_cases e3 : m = 3 <;> by_cases e4 : m = 4 <;> simp only [e1, e2, e3, e4, if_true, if_false] <;> omega
theorem topC_zero {m a : Int} : topC m 0 a = 0 := by unfold topC; simp
theorem topC_q {m x a : Int} (h : m ≠ 3) : topC m x a = x * qC m a := by
  unfold topC qC
  by_cases e1 : m = 1
  · simp [e1]
  by_cases e2 : m = 2
  · simp [e2]
  by_cases e4 : m = 4
  · simp [e4]; omega
  · simp [e1, e2, e4, h]
theorem cmpI_pos {a b : Int} (h : b < a) : cmpI a b = 1 := by unfold cmpI; rw [if_neg (by omega), if_pos h]
theorem cmpI_neg {a b : Int} (h : a < b) : cmpI a b = -1 := by unfold cmpI; rw [if_pos h]
theorem cmpI_same (a : Int) : cmpI a a = 0 := by unfold cmpI; rw [if_neg (by omega), if_neg (by omega)]
/-- the comparison as the reference states it -/
def specC (hill : Bool) (x y P Q R S : Int) : Int :=
  if P = 0 then (if R = 0 then cmpI x y else if x = 0 then cmpI x y else cmpI x 0)
  else if R = 0 then (if y = 0 then cmpI x y else cmpI 0 y) else if hill then cmpI (x * x * R) (y * y * P) else cmpI (x * Q * R) (y * S * P)
theorem specC_eq {m x a y b : Int} (x0 : 0 ≤ x) (a0 : 0 ≤ a) (a1 : a ≤ 200) (y0 : 0 ≤ y) (b0 : 0 ≤ b) (b1 : b ≤ 200) : specC (m == 3) x y (botC m a) (qC m a) (botC m b) (qC m b) = claimC m x a y b := by
  have p0 := (botC_bd (m := m) a0 a1).1
  have r0 := (botC_bd (m := m) b0 b1).1
  have e : (if (m == 3) = true then cmpI (x * x * botC m b) (y * y * botC m a) else cmpI (x * qC m a * botC m b) (y * qC m b * botC m a)) = cmpI (topC m x a * botC m b) (topC m y b * botC m a) := by
    by_cases h : m = 3
    · subst h; rfl
    · rw [if_neg (by simpa using h), topC_q h, topC_q h]
  unfold specC claimC
  rw [e]
  clear e
  have hx := topC_pos (m := m) (x := x) (a := a)
  have hy := topC_pos (m := m) (x := y) (a := b)
  by_cases ex : x = 0
  · subst ex
    by_cases ey : y = 0
    · subst ey
      simp [topC_zero, cmpI_same]
    · have hy' := hy (by omega) b0
      by_cases eP : botC m a = 0
      · simp [eP]
      · by_cases eR : botC m b = 0
        · simp [eP, eR, ey]
        · have := Int.mul_pos hy' (show 0 < botC m a by omega)
          simp only [eP, eR, if_false, if_true, true_or, topC_zero, Int.zero_mul]
          rw [cmpI_neg this, cmpI_neg (by omega)]
  · by_cases ey : y = 0
    · subst ey
      have hx' := hx (by omega) a0
      by_cases eP : botC m a = 0
      · simp [eP, ex]
      · by_cases eR : botC m b = 0
        · simp [eP, eR]
        · have := Int.mul_pos hx' (show 0 < botC m b by omega)
          simp only [eP, eR, if_false, if_true, or_true, topC_zero, Int.zero_mul]
          rw [cmpI_pos this, cmpI_pos (by omega)]
    · by_cases eP : botC m a = 0
      · by_cases eR : botC m b = 0
        · simp [eP, eR]
        · simp only [eP, eR, ex, ey, if_true, if_false, and_false, or_self]
          rw [cmpI_pos (by omega)]
      · by_cases eR : botC m b = 0
        · simp only [eP, eR, ex, ey, if_true, if_false, false_and, or_self]
          rw [cmpI_neg (by omega)]
        · simp [eP, eR, ex, ey]
/-- the comparison of claims with its check -/
def claimsC (m x a y b : Int) : Int := if inB m 1 5 && inB x 0 1000000 && inB y 0 1000000 && inB a 0 100 && inB b 0 100 then claimC m x a y b else -2
set_option maxHeartbeats 400000 in
theorem implCompareClaims (m x a y b : Int) (w : World) :
    Calls Try.prog 16 #[.int .i64 m, .int .i64 x, .int .i64 a, .int .i64 y, .int .i64 b] w fun e w' => e = .returned (.int .i64 (claimsC m x a y b)) ∧ Below w.heap.size w w' := by
  unfold claimsC
  cases h1 : inB m 1 5
  · simp only [Bool.false_and, Bool.and_false, Bool.true_and, Bool.and_true, if_false, Bool.false_eq_true]
    go_enter Try.func16, Try.ntmps16
    go_wp2_with (go_at_call 21; refine (within_any _ _ _ _).mono ?_; rintro e w' ⟨rfl, rfl⟩)
    go_ret
    exact ⟨rfl, Below.refl _ _⟩
  cases h2 : inB x 0 1000000
  · simp only [Bool.false_and, Bool.and_false, Bool.true_and, Bool.and_true, if_false, Bool.false_eq_true]
    go_enter Try.func16, Try.ntmps16
    go_wp2_with (go_at_call 21; refine (within_any _ _ _ _).mono ?_; rintro e w' ⟨rfl, rfl⟩)
    go_ret
    exact ⟨rfl, Below.refl _ _⟩
  cases h3 : inB y 0 1000000
  · simp only [Bool.false_and, Bool.and_false, Bool.true_and, Bool.and_true, if_false, Bool.false_eq_true]
    go_enter Try.func16, Try.ntmps16
    go_wp2_with (go_at_call 21; refine (within_any _ _ _ _).mono ?_; rintro e w' ⟨rfl, rfl⟩)
    go_ret
    exact ⟨rfl, Below.refl _ _⟩
  cases h4 : inB a 0 100
  · simp only [Bool.false_and, Bool.and_false, Bool.true_and, Bool.and_true, if_false, Bool.false_eq_true]
    go_enter Try.func16, Try.ntmps16
    go_wp2_with (go_at_call 21; refine (within_any _ _ _ _).mono ?_; rintro e w' ⟨rfl, rfl⟩)
    go_ret
    exact ⟨rfl, Below.refl _ _⟩
  cases h5 : inB b 0 100
  · simp only [Bool.false_and, Bool.and_false, Bool.true_and, Bool.and_true, if_false, Bool.false_eq_true]
    go_enter Try.func16, Try.ntmps16
    go_wp2_with (go_at_call 21; refine (within_any _ _ _ _).mono ?_; rintro e w' ⟨rfl, rfl⟩)
    go_ret
    exact ⟨rfl, Below.refl _ _⟩
  rw [if_pos (by rfl)]
  obtain ⟨a0, b0⟩ := inB_iff.1 h1
  obtain ⟨a1, b1⟩ := inB_iff.1 h2
  obtain ⟨a2, b2⟩ := inB_iff.1 h3
  obtain ⟨a3, b3⟩ := inB_iff.1 h4
  obtain ⟨a4, b4⟩ := inB_iff.1 h5
  go_enter Try.func16, Try.ntmps16
  go_wp2_with (go_at_call 21; refine (within_any _ _ _ _).mono ?_; rintro e w' ⟨rfl, rfl⟩)
  (with_reducible refine (compareClaims_any _ _ _ _ _ _ a0 b0 a1 b1 a3 (by omega) a2 b2 a4 (by omega)).mono ?_)
  rintro e w1 ⟨rfl, hb⟩
  go_wp2
  go_ret
  exact ⟨rfl, hb⟩
end Go.Proofs.Ytoajmckhfnaifaa
