/- Lists of rows that are collected one by one: plain lemmas. -/
import Derived.Test.YtmakbndlobaaaaaBaseR
import Derived.Test.YtmakbndlobaaaaaRank
namespace Go.Proofs.Ytmakbndlobaaaaa
set_option linter.unusedVariables false
open Go.RowKit

/-- the rows g j of all j below k of which f holds -/
def coll (f : Nat → Bool) (g : Nat → List Int) : Nat → List (List Int)
  | 0 => []
  | k + 1 => if f k then coll f g k ++ [g k] else coll f g k
theorem coll_len (f : Nat → Bool) (g : Nat → List Int) (k : Nat) : (coll f g k).length ≤ k := by
  induction k with
  | zero => simp [coll]
  | succ k ih => simp only [coll]; split <;> (try simp) <;> omega
theorem coll_none {f : Nat → Bool} {g : Nat → List Int} {k : Nat} (h : ∀ j, j < k → f j = false) : coll f g k = [] := by
  induction k with
  | zero => rfl
  | succ k ih => rw [coll, h k (by omega), if_neg (by simp)]; exact ih fun j hj => h j (by omega)
theorem coll_yes {f : Nat → Bool} {g : Nat → List Int} {k : Nat} (h : f k = true) : coll f g (k + 1) = coll f g k ++ [g k] := by rw [coll, if_pos h]
theorem coll_no {f : Nat → Bool} {g : Nat → List Int} {k : Nat} (h : f k = false) : coll f g (k + 1) = coll f g k := by rw [coll, h, if_neg (by simp)]
theorem coll_congr {f f' : Nat → Bool} {g : Nat → List Int} {k : Nat} (h : ∀ j, j < k → f j = f' j) : coll f g k = coll f' g k := by
  induction k with
  | zero => rfl
  | succ k ih => rw [coll, coll, h k (by omega), ih fun j hj => h j (by omega)]
/-- the rows g i k of all i below the number and all k below n of which f holds, by i, then by k -/
def collTo (f : Nat → Nat → Bool) (g : Nat → Nat → List Int) (n : Nat) : Nat → List (List Int)
  | 0 => []
  | i + 1 => collTo f g n i ++ coll (f i) (g i) n
theorem collTo_len {f : Nat → Nat → Bool} {g : Nat → Nat → List Int} {n : Nat} (hn : n ≤ 10) (i : Nat) : (collTo f g n i).length ≤ i * 10 := by
  induction i with
  | zero => simp [collTo]
  | succ i ih => have := coll_len (f i) (g i) n; simp [collTo]; omega
theorem collTo_congr {f f' : Nat → Nat → Bool} {g : Nat → Nat → List Int} {n i : Nat} (h : ∀ a b, a < i → b < n → f a b = f' a b) : collTo f g n i = collTo f' g n i := by
  induction i with
  | zero => rfl
  | succ i ih => rw [collTo, collTo, ih (fun a b ha hb => h a b (by omega) hb), coll_congr fun j hj => h i j (by omega) hj]
theorem pref_same (xs : List Int) (a : Int) : pref xs a a = false := by unfold pref; simp
/-- rows that are pairs are no longer than 2 -/
theorem coll_mem {f : Nat → Bool} {g : Nat → List Int} {k : Nat} {x : List Int} (h : x ∈ coll f g k) : ∃ j, j < k ∧ f j = true ∧ x = g j := by
  induction k with
  | zero => simp [coll] at h
  | succ k ih =>
    simp only [coll] at h
    split at h
    · rename_i hf
      rw [List.mem_append, List.mem_singleton] at h
      rcases h with h | h
      · obtain ⟨j, hj, e⟩ := ih h; exact ⟨j, by omega, e⟩
      · exact ⟨k, by omega, hf, h⟩
    · obtain ⟨j, hj, e⟩ := ih h; exact ⟨j, by omega, e⟩
theorem collTo_mem {f : Nat → Nat → Bool} {g : Nat → Nat → List Int} {n i : Nat} {x : List Int} (h : x ∈ collTo f g n i) : ∃ a b, a < i ∧ b < n ∧ f a b = true ∧ x = g a b := by
  induction i with
  | zero => simp [collTo] at h
  | succ i ih =>
    rw [collTo, List.mem_append] at h
    rcases h with h | h
    · obtain ⟨a, b, ha, e⟩ := ih h; exact ⟨a, b, by omega, e⟩
    · obtain ⟨b, hb, e⟩ := coll_mem h; exact ⟨i, b, by omega, hb, e⟩
def pairG (i k : Nat) : List Int := [(i : Int), (k : Int)]
end Go.Proofs.Ytmakbndlobaaaaa
