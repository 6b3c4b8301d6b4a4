/- The numbers below n, in a slice of their own. -/
import Derived.Test.YtmakbndlobaaaaaBase
namespace Go.Proofs.Ytmakbndlobaaaaa
set_option linter.unusedVariables false
open Go.RowKit

def upE (m : Nat) : List Int := (List.range m).map fun (j : Nat) => (j : Int)
theorem upE_len (m : Nat) : (upE m).length = m := by simp [upE]
theorem upE_any (p : Int → Bool) (n : Nat) : (upE n).any p = !allN (fun j => !p (j : Int)) n := by
  induction n with
  | zero => rfl
  | succ n ih =>
    have e : upE (n + 1) = upE n ++ [(n : Int)] := by unfold upE; rw [List.range_succ, List.map_append]; rfl
    rw [e, List.any_append, ih, allN, List.any_cons, List.any_nil]
    generalize allN (fun j => !p (j : Int)) n = a
    generalize p (n : Int) = b
    cases a <;> cases b <;> rfl
theorem upE_mem {n : Nat} {x : Int} (h : x ∈ upE n) : ∃ j : Nat, j < n ∧ x = (j : Int) := by
  unfold upE at h
  obtain ⟨j, hj, e⟩ := List.mem_map.1 h
  exact ⟨j, List.mem_range.1 hj, e.symm⟩
set_option maxHeartbeats 800000 in
theorem upE_set {n k : Nat} (h : k < n) : (upE k ++ List.replicate (n - k) 0).set k (k : Int) = upE (k + 1) ++ List.replicate (n - (k + 1)) 0 := by
  have hl : (upE k).length = k := by simp [upE]
  rw [List.set_append_right _ _ (by omega), hl, Nat.sub_self, show n - k = (n - (k + 1)) + 1 by omega, List.replicate_succ, List.set_cons_zero]
  unfold upE
  rw [List.range_succ, List.map_append, List.append_assoc]
  rfl
set_option maxHeartbeats 800000 in
theorem indicesE_any (n : Nat) (w : World) (hn : n ≤ 1048576) :
    Calls Try.prog 54 #[.int .i64 (n : Int)] w fun e w' => ∃ A' c', e = .returned (.slice A' n c') ∧ OwnI w' w.heap.size w'.heap.size (.slice A' n c') (upE n) ∧ Below w.heap.size w w' := by
  go_enter Try.func54, Try.ntmps54
  go_wp2_with ((with_reducible refine wpList_make_ints _ rfl _ _ rfl n rfl rfl (by omega) ?_))
  intro w2 ho hb hs
  have z := hb.size
  have e0 : List.replicate n (0 : Int) = upE 0 ++ List.replicate (n - 0) 0 := by simp [upE]
  rw [e0] at ho
  have HS := Lib.hid hs
  clear e0 hs
  go_wp2
  go_loopw [4, 9] (fun _ i wr => ∃ k : Nat, k ≤ n ∧ i = .int .i64 k ∧ OwnI wr w.heap.size (w.heap.size + 1) (.slice (some ⟨w.heap.size, 0, none⟩) n n) (upE k ++ List.replicate (n - k) 0) ∧ Below w.heap.size w wr) (fun _ i _ => n - (intOf i).toNat)
  case atStart => exact ⟨0, Nat.zero_le _, rfl, ho, hb⟩
  case round =>
    obtain ⟨k, hk, rfl, hown, hbr⟩ := hrel
    have zr := hbr.size
    by_cases hlt : k < n
    · have ck := hown.cellAt k hlt
      have fk := hown.frozenAt k
      obtain ⟨ho2, hon⟩ := hown.stored k (k : Int)
      rw [upE_set hlt] at ho2
      have hb2 := hbr.trans (hon.toBelow (Nat.le_refl _) zr)
      clear hon hown hbr
      go_wp2
      go_roundw
      case rel => exact ⟨k + 1, by omega, by go_num, ho2, hb2⟩
      case measure => simp [intOf]; omega
    · obtain rfl : k = n := by omega
      have e : upE k ++ List.replicate (k - k) (0 : Int) = upE k := by simp
      rw [e] at hown
      have := hown.num.2.1
      go_wp2
      go_ret
      exact ⟨_, _, rfl, hown.mono (Nat.le_refl _) (by omega), hbr⟩
end Go.Proofs.Ytmakbndlobaaaaa
