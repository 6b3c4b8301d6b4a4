/- All rankings: the program's recursion. -/
import Derived.Test.YteglddkeagicmaaOrders0
import Derived.Test.YteglddkeagicmaaConcat
import Derived.Test.YteglddkeagicmaaRows2
import Derived.Test.YteglddkeagicmaaSmall
import Derived.Deep.RegionWith
namespace Go.Proofs.Yteglddkeagicmaa
set_option linter.unusedVariables false
open Go.RowKit

theorem IntsAt.drop {w : World} {b o n k : Nat} {xs : List Int} (h : IntsAt w (some ⟨b, o, none⟩) n xs) (hk : k ≤ n) : IntsAt w (some ⟨b, o + k, none⟩) (n - k) (xs.drop k) := by
  refine ⟨by rw [List.length_drop, h.1], fun h0 => ?_⟩
  obtain ⟨b', o', e, hc⟩ := h.2 (by omega)
  cases e
  refine ⟨b, o + k, rfl, fun j hj => ?_⟩
  rw [Nat.add_assoc, hc (k + j) (by omega)]
  have h1 : j < (xs.drop k).length := by rw [List.length_drop, h.1]; exact hj
  rw [ix_lt h1, ix_lt (by rw [h.1]; omega)]
  simp
theorem RowsAt.pair {w : World} {A1 A2 : Option Addr} {n1 n2 c1 c2 : Nat} {xs ys : List Int} (h1 : IntsAt w A1 n1 xs) (h2 : IntsAt w A2 n2 ys) (l1 : n1 ≤ c1) (l2 : n2 ≤ c2) (T : TypeId) :
    RowsAt (w.alloc (.cells #[.slice A1 n1 c1, .slice A2 n2 c2] T)) (some ⟨w.heap.size, 0, none⟩) 2 [xs, ys] := by
  have hb := (Below.refl w.heap.size w).alloc (Nat.le_refl _) (.cells #[.slice A1 n1 c1, .slice A2 n2 c2] T)
  refine ⟨rfl, fun _ => ⟨w.heap.size, 0, rfl, fun j hj => ?_⟩⟩
  rw [Nat.zero_add]
  match j, hj with
  | 0, _ => exact ⟨A1, n1, c1, by rw [cell_of_row _ _ 0 #[.slice A1 n1 c1, .slice A2 n2 c2] T (0, 0) (heap_alloc_new w _)]; rfl, l1, h1.below hb⟩
  | 1, _ => exact ⟨A2, n2, c2, by rw [cell_of_row _ _ 1 #[.slice A1 n1 c1, .slice A2 n2 c2] T (0, 0) (heap_alloc_new w _)]; rfl, l2, h2.below hb⟩
theorem RowsAt.drew {w : World} {A : Option Addr} {n : Nat} {xss : List (List Int)} (h : RowsAt w A n xss) : RowsAt w.drew A n xss := h
set_option maxHeartbeats 800000 in
theorem upTo_set {n k : Nat} (h : k < n) : (upTo k ++ List.replicate (n - k) 0).set k (k : Int) = upTo (k + 1) ++ List.replicate (n - (k + 1)) 0 := by
  have hl : (upTo k).length = k := by simp [upTo]
  rw [List.set_append_right _ _ (by omega), hl, Nat.sub_self, show n - k = (n - (k + 1)) + 1 by omega, List.replicate_succ, List.set_cons_zero]
  unfold upTo
  rw [List.range_succ, List.map_append, List.append_assoc]
  rfl
set_option maxHeartbeats 800000 in
theorem indices_any (n : Nat) (w : World) (hn : n ≤ 1048576) :
    Calls Try.prog 71 #[.int .i64 (n : Int)] w fun e w' => ∃ A' c', e = .returned (.slice A' n c') ∧ OwnI w' w.heap.size w'.heap.size (.slice A' n c') (upTo n) ∧ Below w.heap.size w w' := by
  go_enter Try.func71, Try.ntmps71
  go_wp2_with ((with_reducible refine wpList_make_ints _ rfl _ _ rfl n rfl rfl (by omega) ?_))
  intro w2 ho hb hs
  have z := hb.size
  have e0 : List.replicate n (0 : Int) = upTo 0 ++ List.replicate (n - 0) 0 := by simp [upTo]
  rw [e0] at ho
  have HS := Lib.hid hs
  clear e0 hs
  go_wp2
  go_loopw [4, 9] (fun _ i wr => ∃ k : Nat, k ≤ n ∧ i = .int .i64 k ∧ OwnI wr w.heap.size (w.heap.size + 1) (.slice (some ⟨w.heap.size, 0, none⟩) n n) (upTo k ++ List.replicate (n - k) 0) ∧ Below w.heap.size w wr) (fun _ i _ => n - (intOf i).toNat)
  case atStart => exact ⟨0, Nat.zero_le _, rfl, ho, hb⟩
  case round =>
    obtain ⟨k, hk, rfl, hown, hbr⟩ := hrel
    have zr := hbr.size
    by_cases hlt : k < n
    · have ck := hown.cellAt k hlt
      have fk := hown.frozenAt k
      obtain ⟨ho2, hon⟩ := hown.stored k (k : Int)
      rw [upTo_set hlt] at ho2
      have hb2 := hbr.trans (hon.toBelow (Nat.le_refl _) zr)
      clear hon hown hbr
      go_wp2
      go_roundw
      case rel => exact ⟨k + 1, by omega, by go_num, ho2, hb2⟩
      case measure => simp [intOf]; omega
    · obtain rfl : k = n := by omega
      have e : upTo k ++ List.replicate (k - k) (0 : Int) = upTo k := by simp
      rw [e] at hown
      have := hown.num.2.1
      go_wp2
      go_ret
      exact ⟨_, _, rfl, hown.mono (Nat.le_refl _) (by omega), hbr⟩
end Go.Proofs.Yteglddkeagicmaa
