/- Counting all lists of a given sum, by recursion and by the odometer: plain lists, no program is walked here. -/
import Derived.Test.YtoajmckhfnaifaaOdoP
namespace Go.Proofs.Ytoajmckhfnaifaa
set_option linter.unusedVariables false
open Go.RowKit

/-- as the reference counts: the last entry is what is left -/
def cntG (ok : List Nat → Bool) : Nat → List Nat → Nat → Nat
  | 0, pre, left => if ok (pre ++ [left]) then 1 else 0
  | k + 1, pre, left => ((List.range (left + 1)).map fun j => cntG ok k (pre ++ [j]) (left - j)).sum
theorem sum_none {f : Nat → Nat} : ∀ {l : List Nat}, (∀ x ∈ l, f x = 0) → (l.map f).sum = 0
  | [], _ => rfl
  | x :: l, h => by
    rw [List.map_cons, List.sum_cons, h x (by simp), sum_none fun y hy => h y (by simp [hy])]
theorem sum_range_cut {f : Nat → Nat} {a b : Nat} (hab : a ≤ b) (h : ∀ x, a ≤ x → f x = 0) : ((List.range b).map f).sum = ((List.range a).map f).sum := by
  obtain ⟨m, rfl⟩ : ∃ m, b = a + m := ⟨b - a, by omega⟩
  rw [List.range_add, List.map_append, List.sum_append, List.map_map, sum_none (f := f ∘ (a + ·)) fun x _ => h _ (Nat.le_add_right a x)]
  rfl
theorem cnt_cons (ok : List Nat → Bool) (h n : Nat) (pre : List Nat) (left : Nat) (hl : left ≤ h) :
    (upN h (n + 1)).countP (fun l => l.sum == left && ok (pre ++ l)) = ((List.range (left + 1)).map fun j => (upN h n).countP (fun l => l.sum == left - j && ok (pre ++ [j] ++ l))).sum := by
  have e : (upN h (n + 1)).countP (fun l => l.sum == left && ok (pre ++ l)) = ((List.range (h + 1)).map fun j => (upN h n).countP (fun l => (j + l.sum) == left && ok (pre ++ [j] ++ l))).sum := by
    show ((List.range (h + 1)).flatMap fun j => (upN h n).map (j :: ·)).countP _ = _
    rw [List.countP_flatMap]
    congr 1
    apply List.map_congr_left
    intro j _
    show List.countP _ ((upN h n).map (j :: ·)) = _
    rw [List.countP_map]
    apply List.countP_congr
    intro l _
    simp
  rw [e, sum_range_cut (a := left + 1) (by omega) fun x hx => by
    rw [List.countP_eq_zero]
    intro l _ hc
    simp at hc
    omega]
  congr 1
  apply List.map_congr_left
  intro j hj
  have hj2 := List.mem_range.1 hj
  apply List.countP_congr
  intro l _
  have : (j + l.sum == left) = (l.sum == left - j) := by rw [Bool.eq_iff_iff, beq_iff_eq, beq_iff_eq]; omega
  rw [this]
theorem cntG_all (ok : List Nat → Bool) (h : Nat) : ∀ (k : Nat) (pre : List Nat) (left : Nat), left ≤ h → cntG ok k pre left = (upN h (k + 1)).countP (fun l => l.sum == left && ok (pre ++ l))
  | 0, pre, left, hl => by
    rw [cnt_cons ok h 0 pre left hl, List.range_succ, List.map_append, List.sum_append, sum_none fun x hx => ?_]
    · simp [upN, cntG, List.countP_cons, List.countP_nil]
    · have := List.mem_range.1 hx
      rw [List.countP_eq_zero]
      intro l hm hc
      simp [upN] at hm
      subst hm
      simp at hc
      omega
  | k + 1, pre, left, hl => by
    rw [cnt_cons ok h (k + 1) pre left hl]
    show ((List.range (left + 1)).map fun j => cntG ok k (pre ++ [j]) (left - j)).sum = _
    congr 1
    apply List.map_congr_left
    intro j _
    rw [cntG_all ok h k (pre ++ [j]) (left - j) (by omega)]
end Go.Proofs.Ytoajmckhfnaifaa
