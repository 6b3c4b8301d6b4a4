/- Seats by Droop's quota: both sides. -/
import Derived.Test.YtmmmgppfmcklpaaHamilton
namespace Go.Proofs.Ytmmmgppfmcklpaa
set_option linter.unusedVariables false
open Go.RowKit

/-- each count divided, and r seats more for each -/
def drS (d : Int) (r : Nat) (xs : List Int) : List Int := xs.map fun x => x / d + r
def drR (d : Int) (xs : List Int) : List Int := xs.map fun x => x % d
/-- the first j have r + 1, the others r -/
def drM (d : Int) (r : Nat) (xs : List Int) (j : Nat) : List Int := drS d (r + 1) (xs.take j) ++ drS d r (xs.drop j)
theorem drS_len (d : Int) (r : Nat) (xs : List Int) : (drS d r xs).length = xs.length := by simp [drS]
theorem drR_len (d : Int) (xs : List Int) : (drR d xs).length = xs.length := by simp [drR]
theorem drS_take {d : Int} {r j : Nat} {xs : List Int} (h : j < xs.length) : drS d r (xs.take (j + 1)) = drS d r (xs.take j) ++ [ix xs j / d + r] := by rw [take_ix h]; simp [drS]
theorem drR_take {d : Int} {j : Nat} {xs : List Int} (h : j < xs.length) : drR d (xs.take (j + 1)) = drR d (xs.take j) ++ [ix xs j % d] := by rw [take_ix h]; simp [drR]
theorem drS_at {d : Int} {r i : Nat} {xs : List Int} (h : i < xs.length) : ix (drS d r xs) i = ix xs i / d + r := by rw [ix_lt (by rw [drS_len]; exact h), ix_lt h]; simp [drS]
theorem drR_at {d : Int} {i : Nat} {xs : List Int} (h : i < xs.length) : ix (drR d xs) i = ix xs i % d := by rw [ix_lt (by rw [drR_len]; exact h), ix_lt h]; simp [drR]
theorem drM_0 (d : Int) (r : Nat) (xs : List Int) : drM d r xs 0 = drS d r xs := by simp [drM, drS]
theorem drM_end (d : Int) (r : Nat) (xs : List Int) : drM d r xs xs.length = drS d (r + 1) xs := by simp [drM, drS]
theorem drM_len {d : Int} {r j : Nat} {xs : List Int} (h : j ≤ xs.length) : (drM d r xs j).length = xs.length := by simp [drM, drS_len]; omega
theorem drM_at {d : Int} {r j : Nat} {xs : List Int} (h : j < xs.length) : ix (drM d r xs j) j = ix xs j / d + r := by
  rw [ix_lt (by rw [drM_len (by omega)]; exact h), ix_lt h]
  unfold drM
  rw [List.getElem_append_right (by simp [drS_len]; omega)]
  simp [drS_len, drS, Nat.min_eq_left (Nat.le_of_lt h)]
theorem drM_step {d : Int} {r j : Nat} {xs : List Int} (h : j < xs.length) : (drM d r xs j).set j (ix xs j / d + r + 1) = drM d r xs (j + 1) := by
  have e1 : xs.drop j = ix xs j :: xs.drop (j + 1) := by rw [ix_lt h]; exact List.drop_eq_getElem_cons h
  have e3 : (drS d (r + 1) (xs.take j)).length = j := by rw [drS_len]; simp; omega
  unfold drM
  rw [drS_take h, e1]
  have e4 : drS d r (ix xs j :: xs.drop (j + 1)) = (ix xs j / d + r) :: drS d r (xs.drop (j + 1)) := rfl
  rw [e4, List.append_assoc]
  generalize drS d (r + 1) (xs.take j) = a at *
  subst e3
  rw [List.set_append_right _ _ (Nat.le_refl _), Nat.sub_self, List.set_cons_zero]
  simp; omega
theorem drS_sum (d : Int) (r : Nat) (xs : List Int) : lsum (drS d r xs) = lsum (drS d 0 xs) + xs.length * r := by
  induction xs with
  | nil => simp [drS, lsum]
  | cons x xs ih =>
    simp only [drS, List.map_cons, lsum, List.length_cons, Int.natCast_add, Int.natCast_one, Int.add_mul] at ih ⊢
    omega
theorem drS_under {d : Int} (hd : 1 ≤ d) (xs : List Int) (hx : ∀ x ∈ xs, 0 ≤ x) : 0 ≤ lsum (drS d 0 xs) ∧ d * lsum (drS d 0 xs) ≤ lsum xs := by
  induction xs with
  | nil => simp [drS, lsum]
  | cons x xs ih =>
    have h1 := ih fun y hy => hx y (by simp [hy])
    have h2 := div_bd (hx x (by simp)) hd
    have h3 : d * (x / d) + x % d = x := Int.mul_ediv_add_emod _ _
    have h4 := mod_bd (t := x) hd
    simp only [drS, List.map_cons, lsum] at h1 ⊢
    rw [Int.mul_add, Int.mul_add]
    omega
def droopD (xs : List Int) (k : Int) : Int := lsum xs / (k + 1) + 1
/-- how often each gets one more ahead of the rests -/
def droopN (xs : List Int) (k : Int) : Nat := ((k - lsum (drS (droopD xs k) 0 xs) - 1) / (xs.length : Int)).toNat
def droopS (xs : List Int) (k : Int) : List Int := drS (droopD xs k) (droopN xs k) xs
def droopR (xs : List Int) (k : Int) : List Int := drR (droopD xs k) xs
def droop (xs : List Int) (k : Int) : List Int :=
  if quotaOk xs k then giveTo (droopS xs k) (sortS (droopR xs k) xs.length) (k - lsum (droopS xs k)).toNat else []
theorem droop_no {xs : List Int} {k : Int} (h : quotaOk xs k = false) : droop xs k = [] := by unfold droop; rw [h]; rfl
theorem droop_yes {xs : List Int} {k : Int} (h : quotaOk xs k = true) : droop xs k = giveTo (droopS xs k) (sortS (droopR xs k) xs.length) (k - lsum (droopS xs k)).toNat := by unfold droop; rw [if_pos h]
structure DrF (xs : List Int) (k d : Int) (N : Nat) : Prop where
  n1 : 1 ≤ xs.length
  n6 : xs.length ≤ 6
  k0 : 0 ≤ k
  k1 : k ≤ 100
  xb : ∀ i, i < xs.length → 0 ≤ ix xs i ∧ ix xs i ≤ 1000000
  d1 : 1 ≤ d
  d2 : d ≤ 10000000
  s0 : 0 ≤ lsum xs
  s1 : lsum xs ≤ 6000000
  t0 : 0 ≤ lsum (drS d 0 xs)
  tk : lsum (drS d 0 xs) ≤ k
  /-- another round is due at r -/
  go : ∀ r : Nat, (lsum (drS d 0 xs) + xs.length * r + xs.length < k ↔ r < N)
  le : lsum (drS d 0 xs) + xs.length * N ≤ k
theorem droop_facts {xs : List Int} {k : Int} (h : quotaOk xs k = true) : DrF xs k (droopD xs k) (droopN xs k) := by
  obtain ⟨hc, k0, k1⟩ := quotaOk_facts h
  obtain ⟨c1, c2, c3, c4, c5⟩ := countsOk_facts hc
  have hdd : 0 ≤ lsum xs / (k + 1) ∧ lsum xs / (k + 1) ≤ lsum xs := div_bd (by omega) (by omega)
  have hd : 1 ≤ droopD xs k := by unfold droopD; omega
  have hd2 : droopD xs k ≤ 10000000 := by unfold droopD; omega
  have hu := drS_under hd xs (fun x hx => (c3 x hx).1)
  have hlt : lsum xs < droopD xs k * (k + 1) := by
    unfold droopD
    have h1 : (k + 1) * (lsum xs / (k + 1)) + lsum xs % (k + 1) = lsum xs := Int.mul_ediv_add_emod _ _
    have h2 := (mod_bd (t := lsum xs) (a := k + 1) (by omega)).2
    rw [Int.add_mul, Int.mul_comm (lsum xs / (k + 1)), Int.one_mul]
    omega
  have htk : lsum (drS (droopD xs k) 0 xs) ≤ k := by
    rcases Int.lt_or_le k (lsum (drS (droopD xs k) 0 xs)) with h0 | h0
    · have := Int.mul_le_mul_of_nonneg_left (show k + 1 ≤ lsum (drS (droopD xs k) 0 xs) by omega) (show 0 ≤ droopD xs k by omega)
      omega
    · exact h0
  have hgo : ∀ r : Nat, (lsum (drS (droopD xs k) 0 xs) + xs.length * r + xs.length < k ↔ r < droopN xs k) := by
    intro r
    unfold droopN
    generalize lsum (drS (droopD xs k) 0 xs) = t at *
    have hl : (0 : Int) < xs.length := by omega
    have e : ((r : Int) + 1 ≤ (k - t - 1) / (xs.length : Int)) ↔ ((r : Int) + 1) * xs.length ≤ k - t - 1 := Int.le_ediv_iff_mul_le hl
    rw [Int.add_mul, Int.one_mul, Int.mul_comm] at e
    omega
  refine ⟨by omega, by omega, k0, k1, fun i hi => c3 _ (ix_mem hi), hd, hd2, by omega, by omega, hu.1, htk, hgo, ?_⟩
  cases hN : droopN xs k with
  | zero => simpa using htk
  | succ r =>
    have := (hgo r).2 (by omega)
    rw [show ((r + 1 : Nat) : Int) = (r : Int) + 1 from rfl, Int.mul_add, Int.mul_one]
    omega
theorem DrF.ham {xs : List Int} {k d : Int} {N : Nat} (F : DrF xs k d N) : HamF xs (drS d N xs) (drR d xs) k (k - lsum (drS d N xs)).toNat := by
  have h1 := F.go N
  have h2 := F.le
  have h3 := drS_sum d N xs
  have hN : (N : Int) ≤ 100 := by
    have h4 := F.t0
    have h5 := F.n1
    have h6 := F.k1
    have := Int.mul_le_mul_of_nonneg_right (show (1 : Int) ≤ xs.length by omega) (show 0 ≤ (N : Int) by omega)
    omega
  refine ⟨F.n1, F.n6, F.k0, F.k1, drS_len _ _ _, drR_len _ _, fun i hi => ?_, fun i hi => ?_, by omega, by omega⟩
  · rw [drS_at hi]
    have h7 := F.xb i hi
    rcases Int.lt_or_le 999000 (ix xs i / d) with h8 | h8
    · have h9 := F.t0
      have := div_bd h7.1 F.d1
      have h10 : ix (drS d 0 xs) i ≤ lsum (drS d 0 xs) := by
        have : ∀ (ys : List Int), (∀ y ∈ ys, 0 ≤ y) → 0 ≤ lsum ys ∧ ∀ y ∈ ys, y ≤ lsum ys := by
          intro ys
          induction ys with
          | nil => intro _; exact ⟨by simp [lsum], fun y h => by cases h⟩
          | cons z zs ih =>
            intro hy
            have h0 := hy z (by simp)
            have h1 := ih fun y h => hy y (by simp [h])
            simp only [lsum]
            refine ⟨by omega, fun y hyy => ?_⟩
            rcases List.mem_cons.1 hyy with rfl | h2
            · omega
            · have := h1.2 y h2; omega
        refine (this (drS d 0 xs) (fun y hy => ?_)).2 _ (ix_mem (by rw [drS_len]; exact hi))
        obtain ⟨j, hj, rfl⟩ := List.getElem_of_mem hy
        rw [drS_len] at hj
        rw [← ix_lt (by rw [drS_len]; exact hj), drS_at hj]
        have := (div_bd (F.xb j hj).1 F.d1).1
        omega
      rw [drS_at hi] at h10
      have := F.tk
      have := F.k1
      omega
    · have := (div_bd h7.1 F.d1).1
      omega
  · rw [drR_at hi]
    have := mod_bd (t := ix xs i) F.d1
    have := F.d2
    omega
theorem DrF.drle {xs : List Int} {k d : Int} {N : Nat} (F : DrF xs k d N) (r : Nat) (hr : r ≤ N) : lsum (drS d r xs) ≤ k ∧ 0 ≤ lsum (drS d r xs) := by
  have h2 := F.le
  have h3 := drS_sum d r xs
  have h4 := F.t0
  have h5 := Int.mul_le_mul_of_nonneg_left (show (r : Int) ≤ N by omega) (show (0 : Int) ≤ xs.length by omega)
  have h6 := Int.mul_le_mul_of_nonneg_left (show (0 : Int) ≤ r by omega) (show (0 : Int) ≤ xs.length by omega)
  omega
theorem DrF.drbd {xs : List Int} {k d : Int} {N : Nat} (F : DrF xs k d N) (r : Nat) (hr : r ≤ N) : ∀ i, i < xs.length → 0 ≤ ix (drS d r xs) i ∧ ix (drS d r xs) i ≤ 1000000 := by
  intro i hi
  have h1 := F.ham.sb i hi
  rw [drS_at hi] at h1 ⊢
  have := (div_bd (F.xb i hi).1 F.d1).1
  omega
end Go.Proofs.Ytmmmgppfmcklpaa
