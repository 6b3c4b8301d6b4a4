/- All pairings of n persons. -/
import Derived.Test.YteglddkeagicmaaPairings
namespace Go.Proofs.Yteglddkeagicmaa
set_option linter.unusedVariables false
open Go.RowKit

set_option maxHeartbeats 800000 in
theorem implAllPairings (n : Int) (w : World) :
    Calls Try.prog 22 #[.int .i64 n] w fun e w' => ∃ A' c', e = .returned (.slice A' (allPairings n).length c') ∧ OwnR w' w.heap.size w'.heap.size (.slice A' (allPairings n).length c') (allPairings n) ∧ (allPairings n).length ≤ 1048576 ∧ (∀ xs ∈ allPairings n, xs.length ≤ 1048576) ∧ Below w.heap.size w w' := by
  cases he : evenB n
  · rw [allPairings_no he]
    go_enter Try.func22, Try.ntmps22
    go_wp2_with (go_at_call 44; (with_reducible refine (isEven_any _ _).mono ?_); rintro e w' ⟨rfl, rfl⟩)
    go_ret
    exact ⟨none, 0, rfl, OwnR.nil _ _ _, by simp, by simp, Below.refl _ _⟩
  · obtain ⟨m, rfl, hm1, hm6⟩ : ∃ m : Nat, n = (m : Int) ∧ 1 ≤ m ∧ m ≤ 6 := by
      have := evenB_yes he
      exact ⟨n.toNat, by omega, by omega, by omega⟩
    have hl := allPairings_len (n := (m : Int))
    have hr := allPairings_row (n := (m : Int))
    have HR : Hid (∀ xs ∈ allPairings (m : Int), xs.length ≤ 1048576) := fun x hx => by have := (hr x hx).2; omega
    have HA := Lib.hid (allPairings_yes he)
    clear hr
    have c0 := new_cell w (.int .i64 (-1)) 3 rfl
    have b0 := (Below.refl w.heap.size w).alloc (Nat.le_refl _) (.cells #[.int .i64 (-1)] 3)
    have z0 := World.size_alloc w (.cells #[.int .i64 (-1)] 3)
    go_enter Try.func22, Try.ntmps22
    go_wp2_with (go_at_call 44; (with_reducible refine (isEven_any _ _).mono ?_); rintro e w' ⟨rfl, rfl⟩)
    (with_reducible refine (repeat1_any w.heap.size 0 1 (-1) m _ c0 hm1 hm6).mono ?_)
    rintro e w1 ⟨rfl, o1, b1⟩
    have o2 := o1.tight
    rw [z0] at o2 b1
    have b2 := b0.trans (b1.mono (by omega))
    have hge := geM_rep m
    have hfr := free_rep m
    have HG := Lib.hid hge
    clear o1 b0 b1 hge c0
    go_wp2_with fail
    (with_reducible refine (pairingsOf_any 6 (w.heap.size + 1) m m (List.replicate m (-1)) w1 o2 hm6 (Nat.le_refl _) (by omega) HG.out).mono ?_)
    rintro e w3 ⟨A3, c3, rfl, o3, _, n3⟩
    rw [← HA.out] at o3
    rw [← HA.out]
    have b3 := b2.trans (n3.toBelow (B := w.heap.size) (by omega) b2.size)
    have z2 := b2.size
    clear n3 o2
    go_wp2
    go_ret
    exact ⟨_, _, rfl, o3.mono z2 (Nat.le_refl _), by omega, HR.out, b3⟩
set_option maxHeartbeats 1600000 in
theorem specAllPairings (n : Int) (w : World) :
    Calls Try.prog 21 #[.int .i64 n] w fun e w' => ∃ A' c', e = .returned (.slice A' (allPairings n).length c') ∧ OwnR w' w.heap.size w'.heap.size (.slice A' (allPairings n).length c') (allPairings n) ∧ (allPairings n).length ≤ 1048576 ∧ (∀ xs ∈ allPairings n, xs.length ≤ 1048576) ∧ Below w.heap.size w w' := by
  cases he : evenB n
  · rw [allPairings_no he]
    obtain ⟨h2, h4, h6⟩ := evenB_no he
    have e2 : (n != 2) = true := by simpa using h2
    have e4 : (n != 4) = true := by simpa using h4
    have e6 : (n != 6) = true := by simpa using h6
    clear h2 h4 h6
    go_enter Try.func21, Try.ntmps21
    go_wp2_with fail
    go_ret
    exact ⟨none, 0, rfl, OwnR.nil _ _ _, by simp, by simp, Below.refl _ _⟩
  · obtain ⟨m, rfl, hm1, hm6⟩ : ∃ m : Nat, n = (m : Int) ∧ 1 ≤ m ∧ m ≤ 6 := by
      have := evenB_yes he
      exact ⟨n.toNat, by omega, by omega, by omega⟩
    have hl := allPairings_len (n := (m : Int))
    have hr := allPairings_row (n := (m : Int))
    have HR : Hid (∀ xs ∈ allPairings (m : Int), xs.length ≤ 1048576) := fun x hx => by have := (hr x hx).2; omega
    have HA := Lib.hid (allPairings_yes he)
    clear hr
    have hn6 := evenB_yes he
    have d : ∃ p q r : Bool, ((m : Int) != 2) = p ∧ ((m : Int) != 4) = q ∧ ((m : Int) != 6) = r ∧ ((p && q) && r) = false := by
      rcases hn6 with e | e | e <;> rw [e] <;> exact ⟨_, _, _, rfl, rfl, rfl, rfl⟩
    obtain ⟨p, q, r, d2, d4, d6, dd⟩ := d
    clear hn6 he
    cases p <;> cases q <;> cases r <;> simp at dd
    all_goals
      go_enter Try.func21, Try.ntmps21
      go_wp2
      clear d2 d4 d6
      go_loopw [3, 4] (fun v i wr => ∃ (k : Nat) (A' : Option Addr) (c' : Nat), k ≤ m ∧ i = .int .i64 k ∧ v = .slice A' k c' ∧ OwnI wr w.heap.size wr.heap.size (.slice A' k c') (List.replicate k (-1)) ∧ Below w.heap.size w wr) (fun _ i _ => m - (intOf i).toNat)
      case atStart => exact ⟨0, _, 0, Nat.zero_le _, rfl, rfl, OwnI.empty _ (Nat.le_refl _) (by simp), (Below.refl _ _).alloc (Nat.le_refl _) _⟩
      case round =>
        obtain ⟨k, A1, c1, hk, rfl, rfl, hown, hb⟩ := hrel
        have zr := hb.size
        by_cases hlt : k < m
        · have c0 := new_cell wr (.int .i64 (-1)) 3 rfl
          have b0 := (Below.refl wr.heap.size wr).alloc (Nat.le_refl _) (.cells #[.int .i64 (-1)] 3)
          have z0 := World.size_alloc wr (.cells #[.int .i64 (-1)] 3)
          have o0 := hown.belowW b0
          go_wp2_with (at_builtin; refine wpList_append_int _ rfl _ _ rfl w.heap.size wr.heap.size k c1 A1 _ rfl o0 (-1) wr.heap.size 1 rfl c0 (by omega) (by omega) (by omega) ?_)
          intro A2 c2 w2 ho2 hon
          have e : List.replicate k (-1 : Int) ++ [-1] = List.replicate (k + 1) (-1) := (List.replicate_succ' (n := k)).symm
          rw [e] at ho2
          have b2 := (hb.trans (b0.mono zr)).trans (hon.toBelow (Nat.le_refl _) (by omega))
          clear hon o0 b0 hown hb c0 e
          go_wp2
          go_roundw
          case rel => exact ⟨k + 1, _, _, by omega, by go_num, rfl, ho2, b2⟩
          case measure => simp [intOf]; omega
        · obtain rfl : k = m := by omega
          obtain ⟨g, rfl, hg1, hg2⟩ := hown.head (by omega)
          have ho2 := hown.tight
          have hge := geM_rep k
          have hfr := free_rep k
          have HG := Lib.hid hge
          clear hge hlt
          have b0 := (Below.refl wr.heap.size wr).alloc (Nat.le_refl _) (.cells #[] 22)
          have z0 := World.size_alloc wr (.cells #[] 22)
          have r0 : (wr.alloc (.cells #[] 22)).ownsRow w.heap.size 22 1 (.slice (some ⟨wr.heap.size, 0, none⟩) 0 0) 0 [] := World.ownsRow_lit (e := 22) (size := 1) (base := w.heap.size) wr #[] 0 zr (by unfold maxLen; omega) rfl
          have v0 : RowsV (wr.alloc (.cells #[] 22)) w.heap.size w.heap.size [] [] := RowsV.nil
          have o3 := ho2.belowW b0
          have b3 := hb.trans (b0.mono zr)
          go_wp2_with fail
          (with_reducible refine (l20All_any 6 (some ⟨wr.heap.size, 0, none⟩) 0 0 [] [] w.heap.size w.heap.size g k c1 (List.replicate k (-1)) _ r0 v0 (by omega) o3 hg1 hg1 hm6 (Nat.le_refl _) (by omega) HG.out).mono ?_)
          rintro e w4 ⟨A4, c4, vs4, rfl, o4, v4, g4, hat4⟩
          rw [List.nil_append] at o4 v4
          rw [List.nil_append]
          rw [← HA.out] at o4 v4
          rw [← HA.out]
          have b4 : Below w.heap.size w w4 := below_of_below b3 g4 (fun j e => by simp [Value.ownBlock] at e; omega)
          clear g4 hat4 o3 b3 r0 v0 hown hb ho2 b0
          go_wp2
          go_ret
          exact ⟨_, _, rfl, ownR_iff.2 ⟨vs4, o4, fun j e => (World.ownsRow.lt o4 j e).2, v4⟩, by omega, HR.out, b4⟩
end Go.Proofs.Yteglddkeagicmaa
