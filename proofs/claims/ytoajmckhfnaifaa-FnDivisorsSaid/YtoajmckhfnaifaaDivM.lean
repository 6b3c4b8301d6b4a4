/- Claims are ordered; the seats that the method gives are fair. Plain lists: no program is walked here. -/
import Derived.Test.YtoajmckhfnaifaaClaims
namespace Go.Proofs.Ytoajmckhfnaifaa
set_option linter.unusedVariables false
open Go.RowKit

theorem cmpI_le {a b : Int} : cmpI a b ≤ 0 ↔ a ≤ b := by unfold cmpI; split <;> (try split) <;> omega
theorem cmpI_flip (a b : Int) : cmpI b a = -cmpI a b := by unfold cmpI; split <;> split <;> (try split) <;> omega
theorem cmpI_self (a : Int) : cmpI a a = 0 := by unfold cmpI; simp
theorem claim_neg (m x a y b : Int) : claimC m y b x a = -claimC m x a y b := by
  unfold claimC
  by_cases h0 : x = 0 ∨ y = 0
  · rw [if_pos h0, if_pos h0.symm, cmpI_flip]
  · rw [if_neg h0, if_neg (fun h => h0 h.symm)]
    by_cases p : botC m a = 0 <;> by_cases r : botC m b = 0
    · rw [if_pos ⟨r, p⟩, if_pos ⟨p, r⟩, cmpI_flip]
    · rw [if_neg (fun h => r h.1), if_neg r, if_pos p, if_neg (fun h => r h.2), if_pos p]
    · rw [if_neg (fun h => p h.2), if_pos r, if_neg (fun h => p h.1), if_neg p, if_pos r]; rfl
    · rw [if_neg (fun h => r h.1), if_neg r, if_neg p, if_neg (fun h => p h.1), if_neg p, if_neg r, cmpI_flip]
/-- what the order of claims is -/
theorem claim_le {m x a y b : Int} (x0 : 0 ≤ x) (y0 : 0 ≤ y) (p0 : 0 ≤ botC m a) (r0 : 0 ≤ botC m b) : claimC m x a y b ≤ 0 ↔
    x = 0 ∨ (0 < x ∧ 0 < y ∧ ((botC m a = 0 ∧ botC m b = 0 ∧ x ≤ y) ∨ (0 < botC m a ∧ botC m b = 0) ∨ (0 < botC m a ∧ 0 < botC m b ∧ topC m x a * botC m b ≤ topC m y b * botC m a))) := by
  unfold claimC
  by_cases h0 : x = 0 ∨ y = 0
  · rw [if_pos h0, cmpI_le]; omega
  · rw [if_neg h0]
    by_cases p : botC m a = 0 <;> by_cases r : botC m b = 0
    · rw [if_pos ⟨p, r⟩, cmpI_le]; omega
    · rw [if_neg (fun h => r h.2), if_pos p]; omega
    · rw [if_neg (fun h => p h.1), if_neg p, if_pos r]; omega
    · rw [if_neg (fun h => p h.1), if_neg p, if_neg r, cmpI_le]
      constructor
      · intro h; right; exact ⟨by omega, by omega, .inr (.inr ⟨by omega, by omega, h⟩)⟩
      · rintro (h | ⟨_, _, ⟨h, _⟩ | ⟨_, h⟩ | ⟨_, _, h⟩⟩)
        · omega
        · omega
        · omega
        · exact h
theorem cross {A B C D E F : Int} (hD : 0 < D) (hB : 0 ≤ B) (hF : 0 ≤ F) (h1 : A * D ≤ C * B) (h2 : C * F ≤ E * D) : A * F ≤ E * B := by
  have e1 : A * D * F ≤ C * B * F := Int.mul_le_mul_of_nonneg_right h1 hF
  have e2 : C * F * B ≤ E * D * B := Int.mul_le_mul_of_nonneg_right h2 hB
  have e3 : C * B * F = C * F * B := by rw [Int.mul_assoc, Int.mul_comm B F, ← Int.mul_assoc]
  have e4 : A * D * F = A * F * D := by rw [Int.mul_assoc, Int.mul_comm D F, ← Int.mul_assoc]
  have e5 : E * D * B = E * B * D := by rw [Int.mul_assoc, Int.mul_comm D B, ← Int.mul_assoc]
  have : A * F * D ≤ E * B * D := by omega
  exact Int.le_of_mul_le_mul_right this hD
theorem botC_nn {m a : Int} (a0 : 0 ≤ a) : 0 ≤ botC m a := by
  have h1 : 0 ≤ a * (a + 1) := Int.mul_nonneg a0 (by omega)
  have h2 : 0 ≤ 2 * a * (a + 1) := Int.mul_nonneg (by omega) (by omega)
  unfold botC
  by_cases e1 : m = 1 <;> by_cases e2 : m = 2 <;> by_cases e3 : m = 3 <;> by_cases e4 : m = 4 <;> simp only [e1, e2, e3, e4, if_true, if_false] <;> omega
theorem claim_trans {m x a y b z c : Int} (x0 : 0 ≤ x) (y0 : 0 ≤ y) (z0 : 0 ≤ z) (a0 : 0 ≤ a) (b0 : 0 ≤ b) (c0 : 0 ≤ c) (h1 : claimC m x a y b ≤ 0) (h2 : claimC m y b z c ≤ 0) : claimC m x a z c ≤ 0 := by
  have p0 := botC_nn (m := m) a0
  have r0 := botC_nn (m := m) b0
  have s0 := botC_nn (m := m) c0
  rw [claim_le x0 y0 p0 r0] at h1
  rw [claim_le y0 z0 r0 s0] at h2
  rw [claim_le x0 z0 p0 s0]
  rcases h1 with h1 | ⟨hx, hy, h1⟩
  · exact .inl h1
  · rcases h2 with h2 | ⟨_, hz, h2⟩
    · omega
    · refine .inr ⟨hx, hz, ?_⟩
      rcases h1 with ⟨a1, a2, a3⟩ | ⟨a1, a2⟩ | ⟨a1, a2, a3⟩ <;> rcases h2 with ⟨b1, b2, b3⟩ | ⟨b1, b2⟩ | ⟨b1, b2, b3⟩
      · exact .inl ⟨a1, b2, by omega⟩
      · omega
      · omega
      · exact .inr (.inl ⟨a1, b2⟩)
      · omega
      · omega
      · omega
      · exact .inr (.inl ⟨a1, b2⟩)
      · exact .inr (.inr ⟨a1, b2, cross a2 p0 s0 a3 b3⟩)
/-- with one seat more the claim is less, unless there are no votes -/
theorem claim_down {m x a : Int} (m1 : 1 ≤ m) (m5 : m ≤ 5) (x0 : 0 < x) (a0 : 0 ≤ a) : claimC m x (a + 1) x a < 0 := by
  have key : ¬ claimC m x a x (a + 1) ≤ 0 := by
    rw [claim_le (by omega) (by omega) (botC_nn a0) (botC_nn (by omega))]
    rintro (h | ⟨_, _, ⟨h1, h2, _⟩ | ⟨h1, h2⟩ | ⟨h1, h2, h3⟩⟩)
    · omega
    · have p := Int.mul_pos (show 0 < a + 1 by omega) (show 0 < a + 1 + 1 by omega)
      have p2 := Int.mul_pos (show 0 < 2 * (a + 1) by omega) (show 0 < a + 1 + 1 by omega)
      unfold botC at h2
      by_cases e1 : m = 1 <;> by_cases e2 : m = 2 <;> by_cases e3 : m = 3 <;> by_cases e4 : m = 4 <;> simp only [e1, e2, e3, e4, if_true, if_false] at h2 <;> omega
    · have p := Int.mul_pos (show 0 < a + 1 by omega) (show 0 < a + 1 + 1 by omega)
      have p2 := Int.mul_pos (show 0 < 2 * (a + 1) by omega) (show 0 < a + 1 + 1 by omega)
      unfold botC at h2
      by_cases e1 : m = 1 <;> by_cases e2 : m = 2 <;> by_cases e3 : m = 3 <;> by_cases e4 : m = 4 <;> simp only [e1, e2, e3, e4, if_true, if_false] at h2 <;> omega
    · obtain h | h | h | h | h : m = 1 ∨ m = 2 ∨ m = 3 ∨ m = 4 ∨ m = 5 := by omega
      all_goals subst h
      · simp only [topC, botC, if_true] at h3
        have := Int.le_of_mul_le_mul_left h3 x0; omega
      · simp only [topC, botC, if_true, if_false, (by decide : ¬ (2 : Int) = 1)] at h3
        rw [Int.mul_assoc x, Int.mul_assoc x] at h3
        have h4 := Int.le_of_mul_le_mul_left h3 x0
        have e1 : (2 * a + 1) * (2 * (a + 1) * (a + 1 + 1)) = 2 * (a + 1) * ((2 * a + 1) * (a + 2)) := by rw [Int.mul_left_comm]; congr 2; omega
        have e2 : (2 * (a + 1) + 1) * (2 * a * (a + 1)) = 2 * (a + 1) * ((2 * a + 3) * a) := by
          have : 2 * a * (a + 1) = 2 * (a + 1) * a := by rw [Int.mul_assoc, Int.mul_assoc, Int.mul_comm a (a + 1)]
          rw [this, Int.mul_left_comm]; congr 2; omega
        rw [e1, e2] at h4
        have h5 := Int.le_of_mul_le_mul_left h4 (by omega)
        rw [Int.add_mul, Int.mul_add, Int.add_mul] at h5
        omega
      · simp only [topC, botC, if_true, if_false, (by decide : ¬ (3 : Int) = 1), (by decide : ¬ (3 : Int) = 2)] at h3
        have h4 := Int.le_of_mul_le_mul_left h3 (Int.mul_pos x0 x0)
        rw [Int.mul_comm a (a + 1)] at h4
        have h5 := Int.le_of_mul_le_mul_left h4 (by omega); omega
      · simp only [topC, botC, if_true, if_false, (by decide : ¬ (4 : Int) = 1), (by decide : ¬ (4 : Int) = 2), (by decide : ¬ (4 : Int) = 3)] at h3
        have := Int.le_of_mul_le_mul_left h3 (by omega); omega
      · simp only [topC, botC, if_false, (by decide : ¬ (5 : Int) = 1), (by decide : ¬ (5 : Int) = 2), (by decide : ¬ (5 : Int) = 3), (by decide : ¬ (5 : Int) = 4)] at h3
        have := Int.le_of_mul_le_mul_left h3 x0; omega
  have := claim_neg m x a x (a + 1)
  omega
theorem claim_down_le {m x a : Int} (m1 : 1 ≤ m) (m5 : m ≤ 5) (x0 : 0 ≤ x) (a0 : 0 ≤ a) : claimC m x (a + 1) x a ≤ 0 := by
  by_cases h : x = 0
  · subst h; unfold claimC; rw [if_pos (.inl rfl), cmpI_self]; exact Int.le_refl _
  · exact Int.le_of_lt (claim_down m1 m5 (by omega) a0)
theorem claim_mono {m x : Int} (m1 : 1 ≤ m) (m5 : m ≤ 5) (x0 : 0 ≤ x) {a : Int} (a0 : 0 ≤ a) : ∀ d : Nat, claimC m x (a + d) x a ≤ 0
  | 0 => by
    have := claim_neg m x a x a
    rw [Int.natCast_zero, Int.add_zero]; omega
  | d + 1 => by
    have := claim_mono m1 m5 x0 a0 d
    have h := claim_down_le m1 m5 x0 (show 0 ≤ a + (d : Int) by omega)
    rw [Int.natCast_add, Int.natCast_one, ← Int.add_assoc]
    exact claim_trans x0 x0 x0 (by omega) (by omega) a0 h this
theorem claim_mono' {m x a b : Int} (m1 : 1 ≤ m) (m5 : m ≤ 5) (x0 : 0 ≤ x) (a0 : 0 ≤ a) (h : a ≤ b) : claimC m x b x a ≤ 0 := by
  obtain ⟨d, rfl⟩ : ∃ d : Nat, b = a + d := ⟨(b - a).toNat, by omega⟩
  exact claim_mono m1 m5 x0 a0 d
end Go.Proofs.Ytoajmckhfnaifaa
