/- Places of partners: their lists, sums, and the greatest. -/
import Derived.Test.YtbhkpingpipdpaaMkt
import Derived.Test.YtbhkpingpipdpaaSums
import Derived.Test.YtbhkpingpipdpaaCounts
namespace Go.Proofs.Ytbhkpingpipdpaa
set_option linter.unusedVariables false
open Go.RowKit

/-- for each man the place of his woman, for each woman by her man's number her place for him -/
def menP (xss : List (List Int)) (zs : List Int) (i : Nat) : Int := place (rx xss i) (ix zs i)
def womP (yss : List (List Int)) (zs : List Int) (i : Nat) : Int := place (rx yss (ix zs i).toNat) i
def listF (f : Nat → Int) : Nat → List Int
  | 0 => []
  | k + 1 => listF f k ++ [f k]
theorem listF_len (f : Nat → Int) (k : Nat) : (listF f k).length = k := by
  induction k with
  | zero => rfl
  | succ k ih => simp [listF, ih]
theorem listF_mem {f : Nat → Int} {k : Nat} {x : Int} : x ∈ listF f k ↔ ∃ i, i < k ∧ x = f i := by
  induction k with
  | zero => simp [listF]
  | succ k ih =>
    simp only [listF, List.mem_append, ih, List.mem_singleton]
    constructor
    · rintro (⟨i, h, e⟩ | e)
      · exact ⟨i, by omega, e⟩
      · exact ⟨k, by omega, e⟩
    · rintro ⟨i, h, e⟩
      by_cases hk : i = k
      · subst hk; exact .inr e
      · exact .inl ⟨i, by omega, e⟩
theorem ix_listF {f : Nat → Int} {k j : Nat} (h : j < k) : ix (listF f k) j = f j := by
  induction k with
  | zero => omega
  | succ k ih =>
    have hl := listF_len f k
    rw [listF, ix_lt (by simp [hl]; omega)]
    by_cases e : j < k
    · rw [List.getElem_append_left (by omega), ← ix_lt]
      exact ih e
    · obtain rfl : j = k := by omega
      rw [List.getElem_append_right (by omega)]
      simp [hl]
theorem lsum_listF (f : Nat → Int) (k : Nat) : lsum (listF f (k + 1)) = lsum (listF f k) + f k := by
  rw [listF, lsum_append]; simp [lsum]
theorem men_bd {xss yss : List (List Int)} {zs : List Int} (F : MatchF xss yss zs) {i : Nat} (hi : i < xss.length) : 0 ≤ menP xss zs i ∧ menP xss zs i < xss.length := by
  have z := F.z i hi
  exact rank_place (F.mr i hi) z.1 z.2
theorem wom_bd {xss yss : List (List Int)} {zs : List Int} (F : MatchF xss yss zs) {i : Nat} (hi : i < xss.length) : 0 ≤ womP yss zs i ∧ womP yss zs i < xss.length := by
  have z := F.z i hi
  exact rank_place (F.wr (ix zs i).toNat (by omega)) (by omega) (by omega)

def placeSum (f : Nat → Int) (xss yss : List (List Int)) (zs : List Int) : Int := if matchOk xss yss zs then lsum (listF f zs.length) else -1
end Go.Proofs.Ytbhkpingpipdpaa
