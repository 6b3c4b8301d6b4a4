/- All rankings: plain Lean, no program is walked here. -/
import Derived.Test.YteglddkeagicmaaBaseR
import Derived.Test.YteglddkeagicmaaRank
namespace Go.Proofs.Yteglddkeagicmaa
set_option linter.unusedVariables false
open Go.RowKit

/-- of all k below the number, one after the other, the lists g k of those k of which p holds -/
def flatP (p : Nat → Bool) (g : Nat → List (List Int)) : Nat → List (List Int)
  | 0 => []
  | k + 1 => if p k then flatP p g k ++ g k else flatP p g k
theorem flatP_yes {p : Nat → Bool} {g : Nat → List (List Int)} {k : Nat} (h : p k = true) : flatP p g (k + 1) = flatP p g k ++ g k := by rw [flatP, if_pos h]
theorem flatP_no {p : Nat → Bool} {g : Nat → List (List Int)} {k : Nat} (h : p k = false) : flatP p g (k + 1) = flatP p g k := by rw [flatP, h, if_neg (by simp)]
theorem flatP_len {p : Nat → Bool} {g : Nat → List (List Int)} {b : Nat} (h : ∀ j, (g j).length ≤ b) (k : Nat) : (flatP p g k).length ≤ k * b := by
  induction k with
  | zero => simp [flatP]
  | succ k ih =>
    have := h k
    rw [Nat.succ_mul]
    cases hp : p k
    · rw [flatP_no hp]; omega
    · rw [flatP_yes hp, List.length_append]; omega
theorem flatP_mem {p : Nat → Bool} {g : Nat → List (List Int)} {k : Nat} {x : List Int} (h : x ∈ flatP p g k) : ∃ j, j < k ∧ p j = true ∧ x ∈ g j := by
  induction k with
  | zero => simp [flatP] at h
  | succ k ih =>
    cases hp : p k
    · rw [flatP_no hp] at h
      obtain ⟨j, hj, e⟩ := ih h
      exact ⟨j, by omega, e⟩
    · rw [flatP_yes hp, List.mem_append] at h
      rcases h with h | h
      · obtain ⟨j, hj, e⟩ := ih h; exact ⟨j, by omega, e⟩
      · exact ⟨k, by omega, hp, h⟩

/-- a list without its place i -/
def cutAt (zs : List Int) (i : Nat) : List Int := zs.take i ++ zs.drop (i + 1)
theorem cutAt_len {zs : List Int} {i : Nat} (h : i < zs.length) : (cutAt zs i).length + 1 = zs.length := by simp [cutAt]; omega
/-- all orders of a list; f bounds the rounds -/
def orders : Nat → List Int → List (List Int)
  | 0, _ => [[]]
  | f + 1, zs => if zs.length = 0 then [[]] else flatP (fun _ => true) (fun i => (orders f (cutAt zs i)).map (ix zs i :: ·)) zs.length
theorem orders_none {f : Nat} {zs : List Int} (h : zs.length = 0) : orders f zs = [[]] := by
  cases f with
  | zero => rfl
  | succ f => rw [orders, if_pos h]
theorem orders_some {f : Nat} {zs : List Int} (h : zs.length ≠ 0) : orders (f + 1) zs = flatP (fun _ => true) (fun i => (orders f (cutAt zs i)).map (ix zs i :: ·)) zs.length := by rw [orders, if_neg h]
theorem orders_len (f : Nat) : ∀ zs : List Int, zs.length ≤ 5 → (orders f zs).length ≤ 5 ^ f := by
  induction f with
  | zero => intro zs _; simp [orders]
  | succ f ih =>
    intro zs h
    rw [orders]
    split
    · have : 0 < 5 ^ (f + 1) := Nat.pow_pos (by omega)
      simp only [List.length_singleton]; omega
    · have h1 : (flatP (fun _ => true) (fun i => (orders f (cutAt zs i)).map (ix zs i :: ·)) zs.length).length ≤ zs.length * 5 ^ f := flatP_len (fun j => by rw [List.length_map]; exact ih _ (by simp [cutAt]; omega)) zs.length
      refine Nat.le_trans h1 ?_
      rw [Nat.pow_succ, Nat.mul_comm]
      exact Nat.mul_le_mul_left _ h
theorem orders_row (f : Nat) : ∀ zs : List Int, zs.length ≤ 5 → ∀ x ∈ orders f zs, x.length ≤ f := by
  induction f with
  | zero => intro zs _ x hx; simp [orders] at hx; rw [hx]; simp
  | succ f ih =>
    intro zs h x hx
    rw [orders] at hx
    split at hx
    · simp at hx; rw [hx]; simp
    · obtain ⟨j, hj, _, hm⟩ := flatP_mem hx
      obtain ⟨y, hy, rfl⟩ := List.mem_map.1 hm
      have := ih _ (by have := cutAt_len hj; omega) y hy
      simpa using this
/-- as the reference has it: the rankings of m that begin with a list -/
def extend (m : Nat) : Nat → List Int → List (List Int)
  | 0, zs => [zs]
  | f + 1, zs => if zs.length = m then [zs] else flatP (fun x => decide (place zs (x : Int) < 0)) (fun x => extend m f (zs ++ [(x : Int)])) m
theorem extend_done {m f : Nat} {zs : List Int} (h : zs.length = m) : extend m f zs = [zs] := by
  cases f with
  | zero => rfl
  | succ f => rw [extend, if_pos h]
theorem extend_more {m f : Nat} {zs : List Int} (h : zs.length ≠ m) : extend m (f + 1) zs = flatP (fun x => decide (place zs (x : Int) < 0)) (fun x => extend m f (zs ++ [(x : Int)])) m := by rw [extend, if_neg h]
theorem extend_len (m : Nat) (hm : m ≤ 5) (f : Nat) : ∀ zs : List Int, (extend m f zs).length ≤ 5 ^ f := by
  induction f with
  | zero => intro zs; simp [extend]
  | succ f ih =>
    intro zs
    rw [extend]
    split
    · have : 0 < 5 ^ (f + 1) := Nat.pow_pos (by omega)
      simp only [List.length_singleton]; omega
    · have h1 : (flatP (fun x => decide (place zs (x : Int) < 0)) (fun x => extend m f (zs ++ [(x : Int)])) m).length ≤ m * 5 ^ f := flatP_len (fun j => ih _) m
      refine Nat.le_trans h1 ?_
      rw [Nat.pow_succ, Nat.mul_comm]
      exact Nat.mul_le_mul_left _ hm
def upTo (m : Nat) : List Int := (List.range m).map fun (j : Nat) => (j : Int)
theorem orders_extend {m : Nat} (h1 : 1 ≤ m) (h5 : m ≤ 5) : orders m (upTo m) = extend m m [] := by
  obtain rfl | rfl | rfl | rfl | rfl : m = 1 ∨ m = 2 ∨ m = 3 ∨ m = 4 ∨ m = 5 := by omega
  all_goals decide +kernel
def allRankings (m : Int) : List (List Int) := if decide (1 ≤ m) && decide (m ≤ 5) then orders m.toNat (upTo m.toNat) else []
theorem allRankings_no {m : Int} (h : m < 1 ∨ 5 < m) : allRankings m = [] := by
  unfold allRankings
  rw [if_neg]
  simp
  omega
theorem allRankings_yes {m : Nat} (h1 : 1 ≤ m) (h5 : m ≤ 5) : allRankings (m : Int) = orders m (upTo m) := by
  unfold allRankings
  rw [if_pos (by simp; omega), Int.toNat_natCast]
theorem allRankings_len {m : Int} : (allRankings m).length ≤ 3125 := by
  unfold allRankings
  split
  · rename_i h
    have h2 : 1 ≤ m ∧ m ≤ 5 := by simpa using h
    have h3 := orders_len m.toNat (upTo m.toNat) (by simp [upTo]; omega)
    have h4 : 5 ^ m.toNat ≤ 5 ^ 5 := Nat.pow_le_pow_right (by omega) (by omega)
    omega
  · simp
theorem allRankings_row {m : Int} : ∀ x ∈ allRankings m, x.length ≤ 5 := by
  intro x hx
  unfold allRankings at hx
  split at hx
  · rename_i h
    have h2 : 1 ≤ m ∧ m ≤ 5 := by simpa using h
    have := orders_row m.toNat (upTo m.toNat) (by simp [upTo]; omega) x hx
    omega
  · simp at hx
end Go.Proofs.Yteglddkeagicmaa
