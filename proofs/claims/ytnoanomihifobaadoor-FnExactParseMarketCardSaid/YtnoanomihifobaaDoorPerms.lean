/- Lists without repetition: plain lemmas. No program is walked here. -/
import Derived.Test.YtnoanomihifobaaDoorRank
namespace Go.Proofs.YtnoanomihifobaaDoor
set_option linter.unusedVariables false
open Go.RowKit

theorem perm_of {α : Type} [DecidableEq α] : ∀ (m l : List α), m.Nodup → m ⊆ l → l.length ≤ m.length → l.Perm m
  | [], l, _, _, hl => by
    have : l = [] := List.eq_nil_of_length_eq_zero (by simpa using hl)
    rw [this]
  | a :: m, l, hn, hs, hl => by
    rw [List.nodup_cons] at hn
    have ha : a ∈ l := hs (by simp)
    have h1 := List.perm_cons_erase ha
    have h2 := perm_of m (l.erase a) hn.2 (fun x hx => by
      have hne : x ≠ a := fun e => hn.1 (e ▸ hx)
      exact (List.mem_erase_of_ne hne).2 (hs (by simp [hx]))) (by
      rw [List.length_erase_of_mem ha]
      simp at hl
      omega)
    exact h1.trans (h2.cons a)

theorem nodup_to {xs : List Int} : ∀ k, k ≤ xs.length → (allN (fun i => !has (xs.take i) (ix xs i)) k = true ↔ (xs.take k).Nodup) := by
  intro k hk
  induction k with
  | zero => simp [allN]
  | succ k ih =>
    rw [take_ix (by omega), List.nodup_append]
    simp only [allN, Bool.and_eq_true, ih (by omega), Bool.not_eq_true', has_not]
    constructor
    · rintro ⟨h1, h2⟩
      exact ⟨h1, by simp, fun a ha b hb e => by simp at hb; subst hb; subst e; exact h2 ha⟩
    · rintro ⟨h1, _, h3⟩
      exact ⟨h1, fun h => h3 _ h _ (by simp) rfl⟩
theorem nodup_iff {xs : List Int} : allN (fun i => !has (xs.take i) (ix xs i)) xs.length = true ↔ xs.Nodup := by
  rw [nodup_to _ (Nat.le_refl _), List.take_length]

/-- the numbers below n but one -/
def othersN (n i : Nat) : List Int := ((List.range n).erase i).map fun (j : Nat) => (j : Int)
theorem othersN_mem {n i : Nat} {x : Int} : x ∈ othersN n i ↔ 0 ≤ x ∧ x < n ∧ x ≠ i := by
  unfold othersN
  rw [List.mem_map]
  constructor
  · rintro ⟨j, hj, rfl⟩
    have h1 := List.mem_of_mem_erase hj
    rw [List.mem_range] at h1
    have h2 : j ≠ i := fun e => by
      subst e
      exact (List.nodup_range.not_mem_erase) hj
    omega
  · rintro ⟨h1, h2, h3⟩
    exact ⟨x.toNat, (List.mem_erase_of_ne (by omega)).2 (by rw [List.mem_range]; omega), by omega⟩
theorem othersN_len {n i : Nat} (h : i < n) : (othersN n i).length = n - 1 := by
  unfold othersN
  rw [List.length_map, List.length_erase_of_mem (by simpa using h), List.length_range]
theorem othersN_nodup (n i : Nat) : (othersN n i).Nodup := by
  unfold othersN
  refine List.Pairwise.map _ (fun a b h e => h (by omega)) ((List.nodup_range).erase i)
end Go.Proofs.YtnoanomihifobaaDoor
