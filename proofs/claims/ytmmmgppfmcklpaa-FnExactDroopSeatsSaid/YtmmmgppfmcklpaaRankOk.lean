/- Rankings: a list of each of the first numbers once. -/
import Derived.Test.YtmmmgppfmcklpaaRank
import Derived.Test.YtmmmgppfmcklpaaBaseB
namespace Go.Proofs.Ytmmmgppfmcklpaa
set_option linter.unusedVariables false
open Go.RowKit

def rankTo (m : Int) (xs : List Int) (k : Nat) : Bool := allN (fun i => inB (ix xs i) 0 (m - 1) && !has (xs.take i) (ix xs i)) k
/-- a list of m numbers, each of the first m once; m from 1 to 5 -/
def rankOk (m : Int) (xs : List Int) : Bool := inB m 1 5 && decide ((xs.length : Int) = m) && rankTo m xs xs.length

theorem rank_no1 {m : Int} {xs : List Int} {k : Nat} (h : k < xs.length) (hv : inB (ix xs k) 0 (m - 1) = false) : rankTo m xs xs.length = false := allN_false h (by rw [hv]; rfl)
theorem rank_no2 {m : Int} {xs : List Int} {k : Nat} (h : k < xs.length) (hv : has (xs.take k) (ix xs k) = true) : rankTo m xs xs.length = false := allN_false h (by simp [hv])
theorem rank_step {m : Int} {xs : List Int} {k : Nat} (h : rankTo m xs k = true) (h1 : inB (ix xs k) 0 (m - 1) = true) (h2 : has (xs.take k) (ix xs k) = false) : rankTo m xs (k + 1) = true :=
  allN_step h (by rw [h1, h2]; rfl)

/-- which numbers below n stand among the first k -/
def seenB (n : Nat) (xs : List Int) (k : Nat) : List Bool := (List.range n).map fun (j : Nat) => has (xs.take k) j
theorem seenB_len (n : Nat) (xs : List Int) (k : Nat) : (seenB n xs k).length = n := by simp [seenB]
theorem bx_seenB {n : Nat} {xs : List Int} {k j : Nat} (hj : j < n) : bx (seenB n xs k) j = has (xs.take k) j := by rw [bx_lt (by rw [seenB_len]; exact hj)]; simp [seenB]
theorem seenB_0 (n : Nat) (xs : List Int) : seenB n xs 0 = List.replicate n false := by
  apply List.ext_getElem
  · simp [seenB]
  · intro i h1 h2
    simp [seenB, has_not]
theorem seenB_set {n : Nat} {xs : List Int} {k j : Nat} (hk : k < xs.length) (hj : ix xs k = (j : Int)) : (seenB n xs k).set j true = seenB n xs (k + 1) := by
  apply List.ext_getElem
  · simp [seenB]
  · intro i h1 h2
    rw [List.getElem_set]
    simp only [seenB, List.getElem_map, List.getElem_range]
    rw [take_ix hk, hj]
    by_cases e : j = i
    · subst e; rw [if_pos rfl]; symm; rw [has_iff]; simp
    · rw [if_neg e, Bool.eq_iff_iff, has_iff, has_iff]
      simp
      omega
end Go.Proofs.Ytmmmgppfmcklpaa
