/- Places in a list of numbers: slices.Index, PlaceOf, Prefers. -/
import Derived.Test.YtmmmgppfmcklpaaClosures
namespace Go.Proofs.Ytmmmgppfmcklpaa
set_option linter.unusedVariables false
open Go.RowKit

theorem idxP_bd (p : Int → Bool) (xs : List Int) : ∀ k, idxP p xs k = -1 ∨ ((k : Int) ≤ idxP p xs k ∧ idxP p xs k < xs.length ∧ p (ix xs (idxP p xs k).toNat) = true) := by
  intro k
  generalize hd : xs.length - k = d
  induction d generalizing k with
  | zero => exact .inl (idxP_end p xs k (by omega))
  | succ d ih =>
    have hk : k < xs.length := by omega
    rw [idxP_step p xs k hk]
    cases hp : p (ix xs k)
    · rw [if_neg (by simp)]
      rcases ih (k + 1) (by omega) with h | ⟨h1, h2, h3⟩
      · exact .inl h
      · exact .inr ⟨by omega, h2, h3⟩
    · rw [if_pos rfl]
      exact .inr ⟨Int.le_refl _, by omega, by simpa using hp⟩

/-- the place of a in a list, or -1 -/
def place (xs : List Int) (a : Int) : Int := idxP (· == a) xs 0
theorem place_bd (xs : List Int) (a : Int) : -1 ≤ place xs a ∧ place xs a < xs.length := by
  unfold place
  rcases idxP_bd (· == a) xs 0 with h | ⟨h1, h2, _⟩ <;> omega
theorem place_at {xs : List Int} {a : Int} (h : 0 ≤ place xs a) : ix xs (place xs a).toNat = a := by
  unfold place at *
  rcases idxP_bd (· == a) xs 0 with h' | ⟨_, _, h3⟩
  · omega
  · simpa using h3
theorem place_mem {xs : List Int} {a : Int} : 0 ≤ place xs a ↔ a ∈ xs := by
  have h := idxP_ge (· == a) xs 0
  rw [List.drop_zero] at h
  unfold place
  rw [← decide_eq_true_iff (p := 0 ≤ idxP (· == a) xs 0), ← h, List.any_eq_true]
  constructor
  · rintro ⟨x, hx, e⟩; have : x = a := by simpa using e
    rwa [← this]
  · exact fun hx => ⟨a, hx, beq_self_eq_true a⟩
theorem place_neg {xs : List Int} {a : Int} : place xs a < 0 ↔ a ∉ xs := by
  rw [← place_mem]; omega
/-- a stands in a list -/
def has (xs : List Int) (a : Int) : Bool := decide (0 ≤ place xs a)
theorem has_iff {xs : List Int} {a : Int} : has xs a = true ↔ a ∈ xs := by rw [has, decide_eq_true_iff, place_mem]
theorem has_not {xs : List Int} {a : Int} : has xs a = false ↔ a ∉ xs := by rw [← has_iff]; simp
/-- a and b stand in a list, a ahead of b -/
def pref (xs : List Int) (a b : Int) : Bool := decide (0 ≤ place xs a) && decide (0 ≤ place xs b) && decide (place xs a < place xs b)

theorem IntsAt.take {w : World} {A : Option Addr} {n k : Nat} {xs : List Int} (h : IntsAt w A n xs) (hk : k ≤ n) : IntsAt w A k (xs.take k) := by
  refine ⟨by rw [List.length_take, h.1]; omega, fun h0 => ?_⟩
  obtain ⟨b, o, e, hc⟩ := h.2 (by omega)
  refine ⟨b, o, e, fun j hj => ?_⟩
  rw [hc j (by omega)]
  have h1 : j < (xs.take k).length := by rw [List.length_take, h.1]; omega
  rw [ix_lt h1, ix_lt (by rw [h.1]; omega)]
  simp
end Go.Proofs.Ytmmmgppfmcklpaa
