/- Counts of votes: the check, and quotas. -/
import Derived.Test.YtbhkpingpipdpaaClosures
import Derived.Test.YtbhkpingpipdpaaSums
namespace Go.Proofs.Ytbhkpingpipdpaa
set_option linter.unusedVariables false
open Go.RowKit

theorem max_if (a b : Int) : (if a < b then b else a) = max a b := by split <;> omega
def lmaxTo (xs : List Int) : Nat → Int
  | 0 => ix xs 0
  | k + 1 => max (lmaxTo xs k) (ix xs (k + 1))
def lmax (xs : List Int) : Int := lmaxTo xs (xs.length - 1)
theorem lmaxTo_ge (xs : List Int) (k : Nat) : ∀ j, j ≤ k → ix xs j ≤ lmaxTo xs k := by
  induction k with
  | zero => intro j hj; obtain rfl : j = 0 := by omega
            exact Int.le_refl _
  | succ k ih =>
    intro j hj
    simp only [lmaxTo]
    by_cases e : j = k + 1
    · subst e; omega
    · have := ih j (by omega); omega
theorem lmaxTo_mem (xs : List Int) (k : Nat) (hk : k < xs.length) : lmaxTo xs k ∈ xs := by
  induction k with
  | zero => exact ix_mem hk
  | succ k ih =>
    simp only [lmaxTo]
    rcases Int.le_total (lmaxTo xs k) (ix xs (k + 1)) with h | h
    · rw [Int.max_eq_right h]; exact ix_mem hk
    · rw [Int.max_eq_left h]; exact ih (by omega)


/-- from one to six counts, each up to a million, not all 0 -/
def countsOk (xs : List Int) : Bool := inB xs.length 1 6 && xs.all (inB · 0 1000000) && decide (0 < lsum xs)
theorem lsum_pos {xs : List Int} (h : ∀ x ∈ xs, 0 ≤ x) : 0 < lsum xs ↔ ∃ x ∈ xs, 0 < x := by
  induction xs with
  | nil => simp [lsum]
  | cons y r ih =>
    have h1 := h y (by simp)
    have ih' := ih fun x hx => h x (by simp [hx])
    have h2 : 0 ≤ lsum r := by
      have : ∀ l : List Int, (∀ x ∈ l, 0 ≤ x) → 0 ≤ lsum l := fun l => by
        induction l with
        | nil => simp [lsum]
        | cons z l ih => intro hl; have := ih fun x hx => hl x (by simp [hx]); have := hl z (by simp); simp only [lsum]; omega
      exact this r fun x hx => h x (by simp [hx])
    simp only [lsum, List.mem_cons]
    constructor
    · intro hs
      by_cases hy : 0 < y
      · exact ⟨y, .inl rfl, hy⟩
      · obtain ⟨x, hx, hp⟩ := ih'.1 (by omega)
        exact ⟨x, .inr hx, hp⟩
    · rintro ⟨x, rfl | hx, hp⟩
      · omega
      · have := ih'.2 ⟨x, hx, hp⟩; omega
theorem lmax_pos {xs : List Int} (h0 : 0 < xs.length) (h : ∀ x ∈ xs, 0 ≤ x) : decide (0 < lmax xs) = decide (0 < lsum xs) := by
  rw [decide_eq_decide, lsum_pos h]
  constructor
  · exact fun hp => ⟨_, lmaxTo_mem xs _ (by omega), hp⟩
  · rintro ⟨x, hx, hp⟩
    obtain ⟨j, hj, rfl⟩ := List.getElem_of_mem hx
    have := lmaxTo_ge xs (xs.length - 1) j (by omega)
    rw [ix_lt hj] at this
    unfold lmax
    omega
theorem countsOk_facts {xs : List Int} (h : countsOk xs = true) : 1 ≤ xs.length ∧ xs.length ≤ 6 ∧ (∀ x ∈ xs, 0 ≤ x ∧ x ≤ 1000000) ∧ 1 ≤ lsum xs ∧ lsum xs ≤ 6000000 := by
  unfold countsOk at h
  rw [Bool.and_eq_true, Bool.and_eq_true, inB_iff, List.all_eq_true, decide_eq_true_eq] at h
  have h1 : ∀ x ∈ xs, 0 ≤ x ∧ x ≤ 1000000 := fun x hx => inB_iff.1 (h.1.2 x hx)
  have h2 := lsum_bd xs 1000000 h1
  have h3 : (xs.length : Int) * 1000000 ≤ 6 * 1000000 := by omega
  exact ⟨by omega, by omega, h1, by omega, by omega⟩

end Go.Proofs.Ytbhkpingpipdpaa
