/- The reference's count of fair lists. -/
import Derived.Test.YtoajmckhfnaifaaOdoC
import Derived.Test.YtoajmckhfnaifaaFair
import Derived.Deep.DeepCutAuto
namespace Go.Proofs.Ytoajmckhfnaifaa
set_option linter.unusedVariables false
open Go.RowKit

def toI (l : List Nat) : List Int := l.map fun (x : Nat) => (x : Int)
theorem toI_append (l : List Nat) (x : Nat) : toI (l ++ [x]) = toI l ++ [(x : Int)] := by simp [toI]
theorem toI_len (l : List Nat) : (toI l).length = l.length := by simp [toI]
theorem toI_sum : ∀ l : List Nat, lsum (toI l) = (l.sum : Int)
  | [] => rfl
  | x :: l => by
    show (x : Int) + lsum (toI l) = _
    rw [toI_sum l, List.sum_cons]; omega
theorem le_sum : ∀ {l : List Nat} {x : Nat}, x ∈ l → x ≤ l.sum
  | y :: l, x, h => by
    rw [List.sum_cons]
    rcases List.mem_cons.1 h with rfl | h
    · omega
    · have := le_sum h; omega
theorem full_ok {xs : List Int} {l : List Nat} (hc : countsOk xs = true) (hl : l.length = xs.length) (hs : l.sum ≤ 20) : seatsOk xs (toI l) = true := by
  unfold seatsOk
  rw [Bool.and_eq_true, Bool.and_eq_true, Bool.and_eq_true, decide_eq_true_eq, List.all_eq_true, decide_eq_true_eq, toI_sum, toI_len, hl]
  refine ⟨⟨⟨hc, rfl⟩, fun y hy => ?_⟩, by omega⟩
  obtain ⟨x, hx, rfl⟩ := List.mem_map.1 hy
  have := le_sum hx
  rw [inB_iff]; omega
theorem sum_le {f : Nat → Nat} {b : Nat} : ∀ {l : List Nat}, (∀ x ∈ l, f x ≤ b) → (l.map f).sum ≤ l.length * b
  | [], _ => by simp
  | x :: l, h => by
    have h1 := h x (by simp)
    have h2 := sum_le (l := l) fun y hy => h y (by simp [hy])
    rw [List.map_cons, List.sum_cons, List.length_cons, Nat.add_mul, Nat.one_mul]; omega
theorem cntG_le (ok : List Nat → Bool) : ∀ (k : Nat) (pre : List Nat) (left : Nat), left ≤ 20 → cntG ok k pre left ≤ 21 ^ k
  | 0, pre, left, _ => by unfold cntG; split <;> simp
  | k + 1, pre, left, h => by
    have := sum_le (f := fun j => cntG ok k (pre ++ [j]) (left - j)) (b := 21 ^ k) (l := List.range (left + 1)) fun x _ => cntG_le ok k _ _ (by omega)
    rw [List.length_range] at this
    have h2 : (left + 1) * 21 ^ k ≤ 21 * 21 ^ k := Nat.mul_le_mul_right _ (by omega)
    rw [Nat.pow_succ, Nat.mul_comm (21 ^ k) 21]
    show ((List.range (left + 1)).map fun j => cntG ok k (pre ++ [j]) (left - j)).sum ≤ _
    omega
def sumTo (ok : List Nat → Bool) (k : Nat) (pre : List Nat) (left j : Nat) : Nat := ((List.range j).map fun i => cntG ok k (pre ++ [i]) (left - i)).sum
theorem sumTo_succ (ok : List Nat → Bool) (k : Nat) (pre : List Nat) (left j : Nat) : sumTo ok k pre left (j + 1) = sumTo ok k pre left j + cntG ok k (pre ++ [j]) (left - j) := by
  unfold sumTo; rw [List.range_succ, List.map_append, List.sum_append]; simp
theorem sumTo_le (ok : List Nat → Bool) (k : Nat) (pre : List Nat) (left j : Nat) (h : left ≤ 20) : sumTo ok k pre left j ≤ j * 21 ^ k := by
  have := sum_le (f := fun i => cntG ok k (pre ++ [i]) (left - i)) (b := 21 ^ k) (l := List.range j) fun x _ => cntG_le ok k _ _ (by omega)
  rw [List.length_range] at this
  exact this
end Go.Proofs.Ytoajmckhfnaifaa
