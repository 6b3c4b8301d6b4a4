/- All ways to pair persons off: plain Lean, no program is walked here. -/
import Derived.Test.YteglddkeagicmaaRooms
import Derived.Test.YteglddkeagicmaaRank
namespace Go.Proofs.Yteglddkeagicmaa
set_option linter.unusedVariables false
open Go.RowKit

/-- the lists g k of all k below the number of which p holds, one after the other -/
def flatTo (p : Nat → Bool) (g : Nat → List (List Int)) : Nat → List (List Int)
  | 0 => []
  | k + 1 => if p k then flatTo p g k ++ g k else flatTo p g k
theorem flatTo_yes {p : Nat → Bool} {g : Nat → List (List Int)} {k : Nat} (h : p k = true) : flatTo p g (k + 1) = flatTo p g k ++ g k := by rw [flatTo, if_pos h]
theorem flatTo_no {p : Nat → Bool} {g : Nat → List (List Int)} {k : Nat} (h : p k = false) : flatTo p g (k + 1) = flatTo p g k := by rw [flatTo, h, if_neg (by simp)]
theorem flatTo_none {p : Nat → Bool} {g : Nat → List (List Int)} {k : Nat} (h : ∀ j, j < k → p j = false) : flatTo p g k = [] := by
  induction k with
  | zero => rfl
  | succ k ih => rw [flatTo_no (h k (by omega))]; exact ih fun j hj => h j (by omega)
theorem flatTo_len {p : Nat → Bool} {g : Nat → List (List Int)} {b : Nat} (h : ∀ j, (g j).length ≤ b) (k : Nat) : (flatTo p g k).length ≤ k * b := by
  induction k with
  | zero => simp [flatTo]
  | succ k ih =>
    have := h k
    rw [Nat.succ_mul]
    cases hp : p k
    · rw [flatTo_no hp]; omega
    · rw [flatTo_yes hp, List.length_append]; omega
theorem flatTo_mem {p : Nat → Bool} {g : Nat → List (List Int)} {k : Nat} {x : List Int} (h : x ∈ flatTo p g k) : ∃ j, j < k ∧ p j = true ∧ x ∈ g j := by
  induction k with
  | zero => simp [flatTo] at h
  | succ k ih =>
    cases hp : p k
    · rw [flatTo_no hp] at h
      obtain ⟨j, hj, e⟩ := ih h
      exact ⟨j, by omega, e⟩
    · rw [flatTo_yes hp, List.mem_append] at h
      rcases h with h | h
      · obtain ⟨j, hj, e⟩ := ih h; exact ⟨j, by omega, e⟩
      · exact ⟨k, by omega, hp, h⟩

def joinAt (zs : List Int) (i k : Nat) : List Int := (zs.set i (k : Int)).set k (i : Int)
/-- all pairings that have the pairs known; f bounds the rounds -/
def pairs : Nat → List Int → List (List Int)
  | 0, zs => [zs]
  | f + 1, zs => if place zs (-1) < 0 then [zs] else flatTo (fun k => decide ((place zs (-1)).toNat < k) && decide (ix zs k < 0)) (fun k => pairs f (joinAt zs (place zs (-1)).toNat k)) zs.length
theorem joinAt_len (zs : List Int) (i k : Nat) : (joinAt zs i k).length = zs.length := by simp [joinAt]
theorem pairs_none {f : Nat} {zs : List Int} (h : place zs (-1) < 0) : pairs f zs = [zs] := by
  cases f with
  | zero => rfl
  | succ f => rw [pairs, if_pos h]
theorem pairs_some {f : Nat} {zs : List Int} {i : Nat} (h : place zs (-1) = (i : Int)) : pairs (f + 1) zs = flatTo (fun k => decide (i < k) && decide (ix zs k < 0)) (fun k => pairs f (joinAt zs i k)) zs.length := by
  rw [pairs, h, if_neg (by omega), Int.toNat_natCast]
theorem pairs_len (f : Nat) : ∀ zs : List Int, zs.length ≤ 6 → (pairs f zs).length ≤ 6 ^ f := by
  induction f with
  | zero => intro zs _; simp [pairs]
  | succ f ih =>
    intro zs h
    rw [pairs]
    split
    · have : 0 < 6 ^ (f + 1) := Nat.pow_pos (by omega)
      simp only [List.length_singleton]; omega
    · have h1 := flatTo_len (p := fun k => decide ((place zs (-1)).toNat < k) && decide (ix zs k < 0)) (g := fun k => pairs f (joinAt zs (place zs (-1)).toNat k)) (b := 6 ^ f) (fun j => ih _ (by rw [joinAt_len]; exact h)) zs.length
      refine Nat.le_trans h1 ?_
      rw [Nat.pow_succ, Nat.mul_comm]
      exact Nat.mul_le_mul_left _ h
theorem pairs_row (f : Nat) : ∀ zs : List Int, ∀ x ∈ pairs f zs, x.length = zs.length := by
  induction f with
  | zero => intro zs x hx; simp [pairs] at hx; rw [hx]
  | succ f ih =>
    intro zs x hx
    rw [pairs] at hx
    split at hx
    · simp at hx; rw [hx]
    · obtain ⟨j, _, _, hj⟩ := flatTo_mem hx
      rw [ih _ x hj, joinAt_len]

theorem ix_set {zs : List Int} {i k : Nat} {x : Int} (h : i < zs.length) : ix (zs.set i x) k = if k = i then x else ix zs k := by
  unfold ix
  simp only [List.getD, List.getElem?_set]
  by_cases e : i = k
  · subst e; simp [h]
  · simp [e, Ne.symm e]
theorem join_back {zs : List Int} {i k : Nat} (hi : i < zs.length) (hk : k < zs.length) (h1 : ix zs i = -1) (h2 : ix zs k = -1) : ((joinAt zs i k).set i (-1)).set k (-1) = zs := by
  refine List.ext_getElem (by simp [joinAt]) fun j h3 h4 => ?_
  have e1 := ix_lt h3
  have e2 := ix_lt h4
  rw [← e1, ← e2, ix_set (by simp [joinAt]; omega), ix_set (by simp [joinAt]; omega)]
  unfold joinAt
  rw [ix_set (by simp; omega), ix_set hi]
  by_cases a : j = k
  · subst a; simp [h2]
  · by_cases b : j = i
    · subst b; simp [h1]
    · simp [a, b]

/-- how many are free -/
def free (zs : List Int) : Nat := zs.count (-1)
theorem free_join {zs : List Int} {i k : Nat} (hi : i < zs.length) (hk : k < zs.length) (h1 : ix zs i = -1) : free (joinAt zs i k) + 1 ≤ free zs := by
  unfold free joinAt
  have e1 : zs[i] = -1 := by rw [← ix_lt hi]; exact h1
  have c1 : 0 < zs.count (-1) := List.count_pos_iff.2 (e1 ▸ List.getElem_mem hi)
  have a := List.count_set (b := (-1 : Int)) (a := (k : Int)) hi
  have b := List.count_set (l := zs.set i (k : Int)) (b := (-1 : Int)) (a := (i : Int)) (i := k) (by simpa using hk)
  have n1 : ((k : Int) == -1) = false := by rw [beq_eq_false_iff_ne]; omega
  have n2 : ((i : Int) == -1) = false := by rw [beq_eq_false_iff_ne]; omega
  rw [n1, e1] at a
  rw [n2] at b
  simp at a b
  rw [b]
  split <;> omega
theorem place_free {zs : List Int} {i : Nat} (h : place zs (-1) = (i : Int)) : i < zs.length ∧ ix zs i = -1 := by
  have h1 := place_bd zs (-1)
  have h2 := place_at (xs := zs) (a := -1) (by omega)
  rw [h, Int.toNat_natCast] at h2
  exact ⟨by omega, h2⟩
theorem free_none {zs : List Int} (h : free zs = 0) : place zs (-1) < 0 := by
  rw [place_neg]
  intro hm
  have := List.count_pos_iff.2 hm
  unfold free at h
  omega
/-- no number below -1 -/
def geM (zs : List Int) : Prop := ∀ j, j < zs.length → -1 ≤ ix zs j
theorem geM_join {zs : List Int} {i k : Nat} (h : geM zs) (hi : i < zs.length) (hk : k < zs.length) : geM (joinAt zs i k) := by
  intro j hj
  rw [joinAt_len] at hj
  unfold joinAt
  rw [ix_set (by simpa using hk), ix_set hi]
  split
  · omega
  · split
    · omega
    · exact h j hj
theorem free_rep (n : Nat) : free (List.replicate n (-1)) = n := by simp [free]
theorem geM_rep (n : Nat) : geM (List.replicate n (-1)) := by
  intro j hj
  rw [ix_lt hj]
  simp
/-- all pairings of n persons -/
def allPairings (n : Int) : List (List Int) := if evenB n then pairs 6 (List.replicate n.toNat (-1)) else []
theorem allPairings_yes {n : Nat} (h : evenB n = true) : allPairings n = pairs 6 (List.replicate n (-1)) := by unfold allPairings; rw [if_pos h, Int.toNat_natCast]
theorem allPairings_no {n : Int} (h : evenB n = false) : allPairings n = [] := by unfold allPairings; rw [h]; rfl
theorem allPairings_len {n : Int} : (allPairings n).length ≤ 46656 := by
  unfold allPairings
  split
  · rename_i h
    have := evenB_yes h
    exact pairs_len 6 _ (by simp; omega)
  · simp
theorem allPairings_row {n : Int} : ∀ x ∈ allPairings n, (x.length : Int) = n ∧ x.length ≤ 6 := by
  intro x hx
  unfold allPairings at hx
  split at hx
  · rename_i h
    have h1 := evenB_yes h
    have := pairs_row 6 _ x hx
    rw [List.length_replicate] at this
    omega
  · simp at hx
end Go.Proofs.Yteglddkeagicmaa
