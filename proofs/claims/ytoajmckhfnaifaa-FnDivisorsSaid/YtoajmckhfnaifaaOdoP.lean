/- All lists of n entries from 0 to h, in the order of an odometer: plain lists, no program is walked here. -/
import Derived.Test.YtoajmckhfnaifaaBase
namespace Go.Proofs.Ytoajmckhfnaifaa
set_option linter.unusedVariables false
open Go.RowKit

def upN (h : Nat) : Nat → List (List Nat)
  | 0 => [[]]
  | n + 1 => (List.range (h + 1)).flatMap fun j => (upN h n).map (j :: ·)
/-- those from l on -/
def fromN (h : Nat) : List Nat → List (List Nat)
  | [] => [[]]
  | x :: l => (fromN h l).map (x :: ·) ++ (List.range (h - x)).flatMap fun j => (upN h l.length).map ((x + 1 + j) :: ·)
/-- the next one -/
def nextN (h : Nat) : List Nat → Option (List Nat)
  | [] => none
  | x :: l => match nextN h l with
    | some l' => some (x :: l')
    | none => if x < h then some ((x + 1) :: List.replicate l.length 0) else none
theorem nextN_len {h : Nat} : ∀ {l l' : List Nat}, nextN h l = some l' → l'.length = l.length
  | [], _, e => by simp [nextN] at e
  | x :: l, l', e => by
    unfold nextN at e
    cases hl : nextN h l with
    | some l2 =>
      rw [hl] at e
      simp at e
      subst e
      simp [nextN_len hl]
    | none =>
      rw [hl] at e
      simp only at e
      split at e
      · cases e; simp
      · cases e
theorem upN_from (h : Nat) : ∀ n, upN h n = fromN h (List.replicate n 0)
  | 0 => rfl
  | n + 1 => by
    have ih := upN_from h n
    show (List.range (h + 1)).flatMap (fun j => (upN h n).map (j :: ·)) = (fromN h (List.replicate n 0)).map (0 :: ·) ++ (List.range (h - 0)).flatMap fun j => (upN h (List.replicate n 0).length).map ((0 + 1 + j) :: ·)
    rw [← ih, List.length_replicate, List.range_succ_eq_map, List.flatMap_cons, List.flatMap_map, Nat.sub_zero]
    congr 2
    funext j
    rw [Nat.succ_eq_add_one, Nat.zero_add, Nat.add_comm 1 j]
theorem fromN_step (h : Nat) : ∀ l, fromN h l = l :: (match nextN h l with | none => [] | some l' => fromN h l')
  | [] => rfl
  | x :: l => by
    have ih := fromN_step h l
    unfold nextN
    cases hl : nextN h l with
    | some l' =>
      rw [hl] at ih
      simp only at ih ⊢
      show (fromN h l).map (x :: ·) ++ _ = _
      rw [ih]
      show _ = (x :: l) :: ((fromN h l').map (x :: ·) ++ (List.range (h - x)).flatMap fun j => (upN h l'.length).map ((x + 1 + j) :: ·))
      rw [nextN_len hl]
      rfl
    | none =>
      rw [hl] at ih
      simp only at ih ⊢
      show (fromN h l).map (x :: ·) ++ (List.range (h - x)).flatMap (fun j => (upN h l.length).map ((x + 1 + j) :: ·)) = _
      rw [ih]
      by_cases hx : x < h
      · rw [if_pos hx]
        obtain ⟨m, hm⟩ : ∃ m, h - x = m + 1 := ⟨h - x - 1, by omega⟩
        show _ = (x :: l) :: ((fromN h (List.replicate l.length 0)).map ((x + 1) :: ·) ++ (List.range (h - (x + 1))).flatMap fun j => (upN h (List.replicate l.length 0).length).map ((x + 1 + 1 + j) :: ·))
        rw [← upN_from, List.length_replicate, hm, show h - (x + 1) = m by omega, List.range_succ_eq_map, List.flatMap_cons, List.flatMap_map]
        refine congrArg (List.cons (x :: l)) (congrArg (fun z => (upN h l.length).map ((x + 1) :: ·) ++ z) (congrArg (fun f => (List.range m).flatMap f) (funext fun j => ?_)))
        show (upN h l.length).map ((x + 1 + (j + 1)) :: ·) = (upN h l.length).map ((x + 1 + 1 + j) :: ·)
        rw [show x + 1 + (j + 1) = x + 1 + 1 + j by omega]
      · rw [if_neg hx, show h - x = 0 by omega]
        simp
theorem nextN_none {h : Nat} : ∀ z, nextN h (List.replicate z h) = none
  | 0 => rfl
  | z + 1 => by
    show nextN h (h :: List.replicate z h) = none
    unfold nextN
    rw [nextN_none z]
    simp
/-- the trailing entries that equal h go back to 0, the one ahead of them is one more -/
theorem nextN_at {h x : Nat} (z : Nat) (hx : x < h) : ∀ a : List Nat, nextN h (a ++ x :: List.replicate z h) = some (a ++ (x + 1) :: List.replicate z 0)
  | [] => by
    show nextN h (x :: List.replicate z h) = _
    unfold nextN
    rw [nextN_none z]
    simp [hx]
  | y :: a => by
    show nextN h (y :: (a ++ x :: List.replicate z h)) = _
    unfold nextN
    rw [nextN_at z hx a]
    rfl
theorem upN_len (h : Nat) : ∀ n, (upN h n).length = (h + 1) ^ n
  | 0 => rfl
  | n + 1 => by
    show ((List.range (h + 1)).flatMap fun j => (upN h n).map (j :: ·)).length = _
    rw [List.length_flatMap]
    simp only [List.length_map, upN_len h n]
    rw [List.map_const', List.sum_replicate_nat, List.length_range, Nat.pow_succ, Nat.mul_comm]
end Go.Proofs.Ytoajmckhfnaifaa
