/- A school whose colleges are split into colleges with one place each: plain lists. No program is walked here. -/
import Derived.Test.YtmakbndlobaaaaaSchool
import Derived.Test.YtmakbndlobaaaaaSums
namespace Go.Proofs.Ytmakbndlobaaaaa
set_option linter.unusedVariables false
open Go.RowKit

def pn (P : List Int) (i : Nat) : Nat := (ix P i).toNat
/-- how many places lie ahead of college k -/
def spO (P : List Int) : Nat → Nat
  | 0 => 0
  | k + 1 => spO P k + pn P k
def spC (C : List (List Int)) (P : List Int) : Nat → List (List Int)
  | 0 => []
  | k + 1 => spC C P k ++ List.replicate (pn P k) (rx C k)
def partTo (P : List Int) (k j : Nat) : List Int := (List.range j).map fun (i : Nat) => ((spO P k + i : Nat) : Int)
def part (P : List Int) (k : Nat) : List Int := partTo P k (pn P k)
/-- a student's list -/
def spL (P : List Int) (l : List Int) : List Int := l.flatMap fun k => part P k.toNat
def spS (P : List Int) (S : List (List Int)) : List (List Int) := S.map (spL P)
def splitB (S C : List (List Int)) (P : List Int) : Bool := schoolOk S C P && inB (lsum P) 1 3
def splitS (S C : List (List Int)) (P : List Int) : List (List Int) := if splitB S C P then spS P S else []
def splitC (S C : List (List Int)) (P : List Int) : List (List Int) := if splitB S C P then spC C P C.length else []
def splitP (S C : List (List Int)) (P : List Int) : List Int := if splitB S C P then List.replicate (spO P C.length) 1 else []
theorem split_yes {S C : List (List Int)} {P : List Int} (h : splitB S C P = true) : splitS S C P = spS P S ∧ splitC S C P = spC C P C.length ∧ splitP S C P = List.replicate (spO P C.length) 1 := by
  unfold splitS splitC splitP; rw [h]; exact ⟨rfl, rfl, rfl⟩
theorem split_no {S C : List (List Int)} {P : List Int} (h : splitB S C P = false) : splitS S C P = [] ∧ splitC S C P = [] ∧ splitP S C P = [] := by
  unfold splitS splitC splitP; rw [h]; exact ⟨rfl, rfl, rfl⟩
theorem spC_len (C : List (List Int)) (P : List Int) : ∀ k, (spC C P k).length = spO P k
  | 0 => rfl
  | k + 1 => by show (spC C P k ++ _).length = _; rw [List.length_append, spC_len C P k, List.length_replicate]; rfl
theorem partTo_len (P : List Int) (k j : Nat) : (partTo P k j).length = j := by simp [partTo]
theorem partTo_succ (P : List Int) (k j : Nat) : partTo P k (j + 1) = partTo P k j ++ [((spO P k + j : Nat) : Int)] := by
  unfold partTo; rw [List.range_succ, List.map_append]; rfl
theorem spO_mono (P : List Int) {a b : Nat} (h : a ≤ b) : spO P a ≤ spO P b := by
  induction h with
  | refl => exact Nat.le_refl _
  | step _ ih => exact Nat.le_trans ih (Nat.le_add_right _ _)
theorem spO_one (P : List Int) {k c : Nat} (h : k < c) : spO P k + pn P k ≤ spO P c := spO_mono P (a := k + 1) h
theorem spO_sum (P : List Int) (h : ∀ i, i < P.length → 0 ≤ ix P i) : ∀ k, k ≤ P.length → (spO P k : Int) = lsum (P.take k)
  | 0, _ => by simp [spO, lsum]
  | k + 1, hk => by
    have h1 := spO_sum P h k (by omega)
    have h2 := h k (by omega)
    rw [take_ix (by omega), lsum_append]
    show ((spO P k + pn P k : Nat) : Int) = _
    unfold pn
    simp [lsum]
    omega
theorem spL_take {P : List Int} {l : List Int} {k : Nat} (h : k < l.length) : spL P (l.take (k + 1)) = spL P (l.take k) ++ part P (ix l k).toNat := by
  rw [take_ix h]; simp [spL]
theorem spS_take {P : List Int} {S : List (List Int)} {k : Nat} (h : k < S.length) : spS P (S.take (k + 1)) = spS P (S.take k) ++ [spL P (rx S k)] := by
  rw [take_rx h]; simp [spS]
/-- the parts of the colleges, while college k is split -/
def prts (P : List Int) (c k j : Nat) : List (List Int) := (List.range c).map fun i => if i < k then part P i else if i = k then partTo P k j else []
theorem prts_len (P : List Int) (c k j : Nat) : (prts P c k j).length = c := by simp [prts]
theorem prts_at {P : List Int} {c k j i : Nat} (h : i < c) : rx (prts P c k j) i = if i < k then part P i else if i = k then partTo P k j else [] := by
  rw [rx_lt (by rw [prts_len]; exact h)]; simp [prts]
theorem prts_k {P : List Int} {c k j : Nat} (h : k < c) : rx (prts P c k j) k = partTo P k j := by rw [prts_at h]; simp
theorem prts_zero (P : List Int) (c : Nat) : prts P c 0 0 = List.replicate c [] := by
  apply List.ext_getElem (by simp [prts])
  intro i h1 h2
  simp [prts, partTo]
theorem prts_next (P : List Int) (c k : Nat) : prts P c k (pn P k) = prts P c (k + 1) 0 := by
  apply List.ext_getElem (by simp [prts])
  intro i h1 h2
  simp only [prts, List.getElem_map, List.getElem_range]
  by_cases e1 : i < k
  · rw [if_pos e1, if_pos (by omega)]
  · rw [if_neg e1]
    by_cases e2 : i = k
    · subst e2; simp [part]
    · rw [if_neg e2, if_neg (by omega)]
      split
      · simp [partTo]
      · rfl
theorem prts_set {P : List Int} {c k j : Nat} : (prts P c k j).set k (partTo P k (j + 1)) = prts P c k (j + 1) := by
  apply List.ext_getElem (by simp [prts])
  intro i h1 h2
  rw [List.getElem_set]
  simp only [prts, List.getElem_map, List.getElem_range]
  by_cases e : k = i
  · subst e; simp
  · rw [if_neg e]
    by_cases e1 : i < k
    · rw [if_pos e1, if_pos e1]
    · rw [if_neg e1, if_neg e1, if_neg (by omega), if_neg (by omega)]
theorem prts_end {P : List Int} {c i : Nat} (h : i < c) : rx (prts P c c 0) i = part P i := by rw [prts_at h, if_pos h]
def colsTo (C : List (List Int)) (P : List Int) (k j : Nat) : List (List Int) := spC C P k ++ List.replicate j (rx C k)
theorem colsTo_len (C : List (List Int)) (P : List Int) (k j : Nat) : (colsTo C P k j).length = spO P k + j := by unfold colsTo; rw [List.length_append, spC_len, List.length_replicate]
theorem colsTo_succ (C : List (List Int)) (P : List Int) (k j : Nat) : colsTo C P k (j + 1) = colsTo C P k j ++ [rx C k] := by unfold colsTo; rw [List.replicate_succ', List.append_assoc]
theorem colsTo_next (C : List (List Int)) (P : List Int) (k : Nat) : colsTo C P k (pn P k) = colsTo C P (k + 1) 0 := by unfold colsTo; simp [spC]
structure SplitF (S C : List (List Int)) (P : List Int) : Prop where
  n1 : 1 ≤ S.length
  n5 : S.length ≤ 5
  c1 : 1 ≤ C.length
  c3 : C.length ≤ 3
  pl : P.length = C.length
  pb : ∀ i, i < C.length → 0 ≤ ix P i ∧ ix P i ≤ 3 ∧ ix P i = (pn P i : Int)
  o1 : 1 ≤ spO P C.length
  o3 : spO P C.length ≤ 3
  cl : ∀ i, i < C.length → (rx C i).length ≤ 5
  sl : ∀ i, i < S.length → (rx S i).length ≤ 3
  sb : ∀ i, i < S.length → ∀ k, k < (rx S i).length → 0 ≤ ix (rx S i) k ∧ ix (rx S i) k < C.length
theorem split_facts {S C : List (List Int)} {P : List Int} (h : splitB S C P = true) : SplitF S C P := by
  unfold splitB at h
  rw [Bool.and_eq_true, inB_iff] at h
  have F := school_facts h.1
  have hs := spO_sum P (fun i hi => (F.pb i (by have := F.pl; omega)).1) C.length (by have := F.pl; omega)
  rw [List.take_of_length_le (by have := F.pl; omega)] at hs
  have h2 := h.2
  refine ⟨F.n1, F.n5, F.c1, F.c3, F.pl, fun i hi => ?_, by omega, by omega, fun i hi => ?_, fun i hi => ?_, fun i hi k hk => ?_⟩
  · have h3 := spO_one P hi
    have h4 := F.pb i hi
    have h5 : ix P i = (pn P i : Int) := by unfold pn; omega
    exact ⟨h4.1, by omega, h5⟩
  · have := (rankOk_facts (F.cr i hi)).2.2.1; have := F.n5; omega
  · have := (rankOk_facts (F.sr i hi)).2.2.1; have := F.c3; omega
  · exact (rankOk_facts (F.sr i hi)).2.2.2 k hk
end Go.Proofs.Ytmakbndlobaaaaa
