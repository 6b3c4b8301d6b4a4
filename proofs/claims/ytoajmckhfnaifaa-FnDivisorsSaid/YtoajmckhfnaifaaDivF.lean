/- The seats that a divisor method gives are fair, and no other seats are, unless the last one is tied. Plain lists: no program is walked here. -/
import Derived.Test.YtoajmckhfnaifaaDivM
import Derived.Test.YtoajmckhfnaifaaTied
import Derived.Test.YtoajmckhfnaifaaFair
namespace Go.Proofs.Ytoajmckhfnaifaa
set_option linter.unusedVariables false
open Go.RowKit

/-- no party has a greater claim than another one had to its last seat -/
def FairP (m : Int) (xs s : List Int) : Prop := ∀ i k, i < xs.length → k < xs.length → i ≠ k → 0 < ix s k → claimC m (ix xs i) (ix s i) (ix xs k) (ix s k - 1) ≤ 0
theorem fairAll_iff {m : Int} {xs s : List Int} : fairAll m xs s = true ↔ FairP m xs s := by
  unfold fairAll
  rw [allN_iff]
  constructor
  · intro h i k hi hk hne hp
    have h1 := h i hi
    unfold fairRow at h1
    have h2 := allN_iff.1 h1 k hk
    unfold fairPair at h2
    simp [hne, hp] at h2
    exact h2
  · intro h i hi
    unfold fairRow
    refine allN_iff.2 fun k hk => ?_
    unfold fairPair
    by_cases hne : i = k
    · simp [hne]
    · by_cases hp : 0 < ix s k
      · have := h i k hi hk hne hp
        simp [hne, hp, this]
      · simp [hp]
theorem claim_self (m x a : Int) : claimC m x a x a = 0 := by have := claim_neg m x a x a; omega
theorem bestTo_max {m : Int} {xs ys : List Int} (hx : ∀ i, i < xs.length → 0 ≤ ix xs i) (hy : ∀ i, i < xs.length → 0 ≤ ix ys i) : ∀ k, k ≤ xs.length → ∀ i, i < k → claimC m (ix xs i) (ix ys i) (ix xs (bestTo m xs ys k)) (ix ys (bestTo m xs ys k)) ≤ 0
  | 0, _, i, hi => by omega
  | k + 1, hk, i, hi => by
    have hb := bestTo_lt (m := m) (ys := ys) (show 0 < xs.length by omega) k (by omega)
    have ih := bestTo_max (m := m) hx hy k (by omega)
    simp only [bestTo]
    split
    · rename_i h
      by_cases e : i = k
      · subst e; rw [claim_self]; exact Int.le_refl _
      · refine claim_trans (hx i (by omega)) (hx _ hb) (hx k (by omega)) (hy i (by omega)) (hy _ hb) (hy k (by omega)) (ih i (by omega)) ?_
        rw [claim_neg]; omega
    · rename_i h
      by_cases e : i = k
      · subst e; omega
      · exact ih i (by omega)
structure DivX (m : Int) (xs : List Int) : Prop where
  m1 : 1 ≤ m
  m5 : m ≤ 5
  n1 : 0 < xs.length
  x0 : ∀ i, i < xs.length → 0 ≤ ix xs i
  pos : ∃ i, i < xs.length ∧ 0 < ix xs i
theorem bestA_lt {m : Int} {xs : List Int} (D : DivX m xs) (t : Nat) : bestA m xs t < xs.length := bestTo_lt D.n1 _ (Nat.le_refl _)
theorem seatsA_nn {m : Int} {xs : List Int} (D : DivX m xs) (t : Nat) : ∀ i, i < xs.length → 0 ≤ ix (seatsA m xs t) i := fun i hi => (seatsA_bd D.n1 t i hi).1
theorem seatsA_next {m : Int} {xs : List Int} (D : DivX m xs) (t i : Nat) : ix (seatsA m xs (t + 1)) i = if i = bestA m xs t then ix (seatsA m xs t) i + 1 else ix (seatsA m xs t) i := by
  rw [seatsA, ix_set (by rw [seatsA_len]; exact bestA_lt D t)]
  unfold bestA
  split
  · rename_i h; rw [h]
  · rfl
theorem bestA_max {m : Int} {xs : List Int} (D : DivX m xs) (t i : Nat) (hi : i < xs.length) : claimC m (ix xs i) (ix (seatsA m xs t) i) (ix xs (bestA m xs t)) (ix (seatsA m xs t) (bestA m xs t)) ≤ 0 :=
  bestTo_max D.x0 (seatsA_nn D t) xs.length (Nat.le_refl _) i hi
theorem bestA_pos {m : Int} {xs : List Int} (D : DivX m xs) (t : Nat) : 0 < ix xs (bestA m xs t) := by
  obtain ⟨i, hi, hp⟩ := D.pos
  have := bestA_max D t i hi
  have hb := bestA_lt D t
  rw [claim_le (D.x0 i hi) (D.x0 _ hb) (botC_nn (seatsA_nn D t i hi)) (botC_nn (seatsA_nn D t _ hb))] at this
  omega
theorem seatsA_fair {m : Int} {xs : List Int} (D : DivX m xs) : ∀ t, FairP m xs (seatsA m xs t)
  | 0, i, k, hi, hk, hne, hp => by
    rw [seatsA, ix_lt (by simpa using hk)] at hp
    simp at hp
  | t + 1, i, k, hi, hk, hne, hp => by
    have ih := seatsA_fair D t
    have hb := bestA_lt D t
    have nn := seatsA_nn D t
    rw [seatsA_next D t k] at hp ⊢
    rw [seatsA_next D t i]
    by_cases e : k = bestA m xs t
    · rw [if_pos e, if_neg (by omega), Int.add_sub_cancel, e]
      exact bestA_max D t i hi
    · rw [if_neg e] at hp ⊢
      by_cases e' : i = bestA m xs t
      · rw [if_pos e']
        exact claim_trans (D.x0 i hi) (D.x0 i hi) (D.x0 k hk) (by have := nn i hi; omega) (nn i hi) (by omega) (claim_down_le D.m1 D.m5 (D.x0 i hi) (nn i hi)) (ih i k hi hk hne hp)
      · rw [if_neg e']
        exact ih i k hi hk hne hp
/-- the last seat has the least claim of all seats -/
theorem seatsA_last {m : Int} {xs : List Int} (D : DivX m xs) (t k : Nat) (hk : k < xs.length) (hp : 0 < ix (seatsA m xs (t + 1)) k) :
    claimC m (ix xs (bestA m xs t)) (ix (seatsA m xs (t + 1)) (bestA m xs t) - 1) (ix xs k) (ix (seatsA m xs (t + 1)) k - 1) ≤ 0 := by
  rw [seatsA_next D t k] at hp ⊢
  rw [seatsA_next D t (bestA m xs t), if_pos rfl, Int.add_sub_cancel]
  by_cases e : k = bestA m xs t
  · rw [if_pos e, Int.add_sub_cancel, e, claim_self]; exact Int.le_refl _
  · rw [if_neg e] at hp ⊢
    exact seatsA_fair D t _ k (bestA_lt D t) hk (fun h => e h.symm) hp
/-- other fair seats: the last seat is tied -/
theorem fair_other {m : Int} {xs : List Int} (D : DivX m xs) (t : Nat) {s : List Int} (s0 : ∀ i, i < xs.length → 0 ≤ ix s i) (hf : FairP m xs s) {i j : Nat} (hi : i < xs.length) (hj : j < xs.length)
    (h1 : ix (seatsA m xs (t + 1)) i < ix s i) (h2 : ix s j < ix (seatsA m xs (t + 1)) j) :
    i ≠ bestA m xs t ∧ claimC m (ix xs i) (ix (seatsA m xs (t + 1)) i) (ix xs (bestA m xs t)) (ix (seatsA m xs (t + 1)) (bestA m xs t) - 1) = 0 := by
  have nn := seatsA_nn D (t + 1)
  have hl := bestA_lt D t
  have hij : j ≠ i := fun e => by subst e; omega
  have xi := D.x0 i hi
  have xj := D.x0 j hj
  have xl := D.x0 _ hl
  have si := nn i hi
  have sj := s0 j hj
  have sl : 1 ≤ ix (seatsA m xs (t + 1)) (bestA m xs t) := by rw [seatsA_next D t, if_pos rfl]; have := seatsA_nn D t _ hl; omega
  have c1 := claim_mono' D.m1 D.m5 xj sj (show ix s j ≤ ix (seatsA m xs (t + 1)) j - 1 by omega)
  have c2 := hf j i hj hi hij (by omega)
  have c3 := claim_mono' D.m1 D.m5 xi si (show ix (seatsA m xs (t + 1)) i ≤ ix s i - 1 by omega)
  have c4 := seatsA_last D t j hj (by omega)
  -- the last seat's claim is at most that of i
  have c5 := claim_trans xj xj xi (by omega) sj (by omega) c1 c2
  have c6 := claim_trans xj xi xi (by omega) (by omega) si c5 c3
  have c7 := claim_trans xl xj xi (by omega) (by omega) si c4 c6
  have hne : i ≠ bestA m xs t := fun e => by
    rw [← e] at c7 sl
    have hp : 0 < ix xs i := by rw [e]; exact bestA_pos D t
    have := claim_down (a := ix (seatsA m xs (t + 1)) i - 1) D.m1 D.m5 hp (by omega)
    rw [Int.sub_add_cancel] at this
    have h3 := claim_neg m (ix xs i) (ix (seatsA m xs (t + 1)) i - 1) (ix xs i) (ix (seatsA m xs (t + 1)) i)
    omega
  refine ⟨hne, ?_⟩
  have c8 := seatsA_fair D (t + 1) i _ hi hl hne (by omega)
  have := claim_neg m (ix xs i) (ix (seatsA m xs (t + 1)) i) (ix xs (bestA m xs t)) (ix (seatsA m xs (t + 1)) (bestA m xs t) - 1)
  omega
/-- the last seat is tied: it can go to the other party -/
theorem fair_moved {m : Int} {xs : List Int} (D : DivX m xs) (t : Nat) {i : Nat} (hi : i < xs.length) (hne : i ≠ bestA m xs t)
    (h : claimC m (ix xs i) (ix (seatsA m xs (t + 1)) i) (ix xs (bestA m xs t)) (ix (seatsA m xs (t + 1)) (bestA m xs t) - 1) = 0) :
    FairP m xs ((seatsA m xs t).set i (ix (seatsA m xs t) i + 1)) := by
  have hl := bestA_lt D t
  have nn := seatsA_nn D t
  rw [seatsA_next D t, if_neg hne, seatsA_next D t, if_pos rfl, Int.add_sub_cancel] at h
  have hs : ∀ q, ix ((seatsA m xs t).set i (ix (seatsA m xs t) i + 1)) q = if q = i then ix (seatsA m xs t) i + 1 else ix (seatsA m xs t) q := fun q => ix_set (by rw [seatsA_len]; exact hi)
  have h' := claim_neg m (ix xs i) (ix (seatsA m xs t) i) (ix xs (bestA m xs t)) (ix (seatsA m xs t) (bestA m xs t))
  intro p q hp hq hpq hpos
  rw [hs q] at hpos ⊢
  rw [hs p]
  by_cases e : q = i
  · subst e
    rw [if_pos rfl, if_neg hpq, Int.add_sub_cancel]
    exact claim_trans (D.x0 p hp) (D.x0 _ hl) (D.x0 q hq) (nn p hp) (nn _ hl) (nn q hq) (bestA_max D t p hp) (by omega)
  · rw [if_neg e] at hpos ⊢
    by_cases e' : p = i
    · subst e'
      rw [if_pos rfl]
      exact claim_trans (D.x0 p hp) (D.x0 p hp) (D.x0 q hq) (by have := nn p hp; omega) (nn p hp) (by omega) (claim_down_le D.m1 D.m5 (D.x0 p hp) (nn p hp)) (seatsA_fair D t p q hp hq hpq hpos)
    · rw [if_neg e']
      exact seatsA_fair D t p q hp hq hpq hpos
end Go.Proofs.Ytoajmckhfnaifaa
