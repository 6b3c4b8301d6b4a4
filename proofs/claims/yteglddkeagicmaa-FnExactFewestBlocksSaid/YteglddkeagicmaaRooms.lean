/- Rooms for two: the check of lists and of pairings. -/
import Derived.Test.YteglddkeagicmaaPerms
namespace Go.Proofs.Yteglddkeagicmaa
set_option linter.unusedVariables false
open Go.RowKit

def evenB (n : Int) : Bool := n == 2 || n == 4 || n == 6
theorem evenB_yes {n : Int} (h : evenB n = true) : n = 2 ∨ n = 4 ∨ n = 6 := by
  unfold evenB at h
  simpa [or_assoc] using h
theorem evenB_no {n : Int} (h : evenB n = false) : n ≠ 2 ∧ n ≠ 4 ∧ n ≠ 6 := by
  unfold evenB at h
  simpa [and_assoc] using h
theorem isEven_any (n : Int) (w : World) : Calls Try.prog 44 #[.int .i64 n] w fun e w' => e = .returned (.bool (evenB n)) ∧ w = w' := by
  cases h : evenB n
  · obtain ⟨h2, h4, h6⟩ := evenB_no h
    have e2 : (n == 2) = false := by simpa using h2
    have e4 : (n == 4) = false := by simpa using h4
    have e6 : (n == 6) = false := by simpa using h6
    clear h h2 h4 h6
    go_enter Try.func44, Try.ntmps44
    go_wp2
    go_ret
    exact ⟨rfl, rfl⟩
  · rcases evenB_yes h with rfl | rfl | rfl
    all_goals
      go_enter Try.func44, Try.ntmps44
      go_wp2
      go_ret
      exact ⟨rfl, rfl⟩
def pairAt (xs : List Int) (i : Nat) : Bool := decide (ix xs i ≠ i) && decide (ix xs (ix xs i).toNat = i)
/-- who sleeps with whom -/
def isPairing (n : Int) (xs : List Int) : Bool := evenB n && decide ((xs.length : Int) = n) && xs.all (inB · 0 (n - 1)) && allN (pairAt xs) xs.length
theorem pairAt_yes {xs : List Int} {i j : Nat} (h : ix xs i = (j : Int)) : pairAt xs i = (decide (j ≠ i) && decide (ix xs j = i)) := by
  unfold pairAt
  rw [h, Int.toNat_natCast]
  congr 1
  simp
  omega
set_option maxHeartbeats 800000 in
theorem implIsPairing (n : Int) (A : Option Addr) (l c : Nat) (xs : List Int) (w : World) (h : IntsAt w A l xs) (hn : l ≤ 1048576) :
    Calls Try.prog 14 #[.int .i64 n, .slice A l c] w fun e w' => e = .returned (.bool (isPairing n xs)) ∧ Below w.heap.size w w' := by
  obtain rfl := h.len
  unfold isPairing
  cases he : evenB n
  · simp only [Bool.false_and]
    go_enter Try.func14, Try.ntmps14
    go_wp2_with (go_at_call 44; (with_reducible refine (isEven_any _ _).mono ?_); rintro e w' ⟨rfl, rfl⟩)
    go_ret
    exact ⟨rfl, Below.refl _ _⟩
  have hn6 := evenB_yes he
  by_cases hl : (xs.length : Int) = n
  · rw [decide_eq_true hl]
    obtain rfl := hl
    have hn5 : (1 : Int) ≤ xs.length ∧ (xs.length : Int) ≤ 6 := by omega
    clear hn6
    cases ha : xs.all (inB · 0 ((xs.length : Int) - 1))
    · go_enter Try.func14, Try.ntmps14
      go_wp2_with (first | (go_at_call 44; (with_reducible refine (isEven_any _ _).mono ?_); rintro e w' ⟨rfl, rfl⟩) | (go_at_call 45; (with_reducible refine (allWithin_any _ _ _ _ _ _ _ h (by omega)).mono ?_); rintro e w' ⟨rfl, hb⟩; rw [ha]))
      go_ret
      exact ⟨rfl, hb⟩
    have HV := Lib.hid ha
    go_enter Try.func14, Try.ntmps14
    go_wp2_with (first | (go_at_call 44; (with_reducible refine (isEven_any _ _).mono ?_); rintro e w' ⟨rfl, rfl⟩) | (go_at_call 45; (with_reducible refine (allWithin_any _ _ _ _ _ _ _ h (by omega)).mono ?_); rintro e w1 ⟨rfl, hb⟩; rw [ha]))
    clear ha
    go_loop [5, 6, 25] (fun _ _ i => ∃ k : Nat, k ≤ xs.length ∧ i = .int .i64 k ∧ allN (pairAt xs) k = true) (fun _ _ i => xs.length - (intOf i).toNat)
    case atStart => exact ⟨0, Nat.zero_le _, rfl, rfl⟩
    case round =>
      obtain ⟨k, hk, rfl, hall⟩ := hrel
      have HI := Lib.hid hall
      clear hall
      by_cases hlt : k < xs.length
      · obtain ⟨b, o, rfl, _, hcc⟩ := (h.below hb).at_ hlt
        have hck := hcc k hlt
        have hv := List.all_eq_true.1 HV.out _ (ix_mem hlt)
        obtain ⟨x0, x1⟩ := inB_iff.1 hv
        obtain ⟨j, hj⟩ : ∃ j : Nat, ix xs k = (j : Int) := ⟨(ix xs k).toNat, by omega⟩
        have hjl : j < xs.length := by omega
        have hcj := hcc j hjl
        have HP := Lib.hid (pairAt_yes hj)
        rw [hj] at hck hv
        clear hcc hj x0 x1
        by_cases hjk : j = k
        · subst hjk
          clear hcj
          have HF := Lib.hid (allN_false (p := pairAt xs) hlt (by rw [HP.out]; simp))
          go_wp2_with fail
          go_ret
          exact ⟨ret_b (by simp [HF.out]), hb⟩
        have e1 : ((j : Int) == (k : Int)) = false := by rw [beq_eq_false_iff_ne]; omega
        by_cases hb2 : ix xs j = k
        · have HS := Lib.hid (allN_step (p := pairAt xs) HI.out (by rw [HP.out, hb2]; simp [hjk]))
          rw [hb2] at hcj
          have HB2 := Lib.hid hb2
          clear hb2
          go_wp2_with fail
          go_round
          case rel => exact ⟨k + 1, by omega, by go_num, HS.out⟩
          case measure => simp [intOf]; omega
        · have e2 : (ix xs j != (k : Int)) = true := by rw [bne_iff_ne]; exact hb2
          have HF := Lib.hid (allN_false (p := pairAt xs) hlt (by rw [HP.out]; simp [hb2]))
          clear hb2
          go_wp2_with fail
          go_ret
          exact ⟨ret_b (by simp [HF.out]), hb⟩
      · obtain rfl : k = xs.length := by omega
        go_wp2
        go_ret
        exact ⟨ret_b (by simp [HI.out]), hb⟩

  · rw [decide_eq_false hl]
    have h1 : ((xs.length : Int) != n) = true := by simpa using hl
    have hlt : (xs.length : Int) < n ∨ n < xs.length := by omega
    go_enter Try.func14, Try.ntmps14
    go_wp2_with (go_at_call 44; (with_reducible refine (isEven_any _ _).mono ?_); rintro e w' ⟨rfl, rfl⟩)
    go_ret
    exact ⟨rfl, Below.refl _ _⟩
set_option maxHeartbeats 800000 in
theorem specIsPairing (n : Int) (A : Option Addr) (l c : Nat) (xs : List Int) (w : World) (h : IntsAt w A l xs) (hn : l ≤ 1048576) :
    Calls Try.prog 12 #[.int .i64 n, .slice A l c] w fun e w' => e = .returned (.bool (isPairing n xs)) ∧ w = w' := by
  obtain rfl := h.len
  unfold isPairing
  cases he : evenB n
  · simp only [Bool.false_and]
    obtain ⟨h2, h4, h6⟩ := evenB_no he
    have e2 : (n != 2) = true := by simpa using h2
    have e4 : (n != 4) = true := by simpa using h4
    have e6 : (n != 6) = true := by simpa using h6
    clear h2 h4 h6
    go_enter Try.func12, Try.ntmps12
    go_wp2_with fail
    go_ret
    exact ⟨rfl, rfl⟩
  have hn6 := evenB_yes he
  by_cases hl : (xs.length : Int) = n
  · rw [decide_eq_true hl]
    obtain rfl := hl
    have hn5 : (1 : Int) ≤ xs.length ∧ (xs.length : Int) ≤ 6 := by omega
    have d : ∃ p q r : Bool, ((xs.length : Int) != 2) = p ∧ ((xs.length : Int) != 4) = q ∧ ((xs.length : Int) != 6) = r ∧ ((p && q) && r) = false := by
      rcases hn6 with e | e | e <;> rw [e] <;> exact ⟨_, _, _, rfl, rfl, rfl, rfl⟩
    obtain ⟨p, q, r, d2, d4, d6, dd⟩ := d
    clear hn6
    cases p <;> cases q <;> cases r <;> simp at dd
    all_goals
      go_enter Try.func12, Try.ntmps12
      go_wp2
      clear d2 d4 d6
      go_loop [5, 6, 25] (fun _ _ i => ∃ k : Nat, k ≤ xs.length ∧ i = .int .i64 k ∧ allN (pairAt xs) k = true ∧ (xs.take k).all (inB · 0 ((xs.length : Int) - 1)) = true) (fun _ _ i => xs.length - (intOf i).toNat)
      case atStart => exact ⟨0, Nat.zero_le _, rfl, rfl, by simp⟩
      case round =>
        obtain ⟨k, hk, rfl, hall, hvv⟩ := hrel
        have HI := Lib.hid hall
        clear hall
        by_cases hlt : k < xs.length
        · obtain ⟨b, o, rfl, _, hcc⟩ := (h).at_ hlt
          have hck := hcc k hlt
          have HW := Lib.hid hvv
          clear hvv
          cases hv : inB (ix xs k) 0 ((xs.length : Int) - 1)
          · have HF := Lib.hid (all_ix_false (p := (inB · 0 ((xs.length : Int) - 1))) hlt hv)
            go_wp2_with (go_at_call 43; refine (l01In_any _ _ _ _).mono ?_; rintro e w' ⟨rfl, rfl⟩)
            go_ret
            exact ⟨ret_b (by simp [HF.out]), rfl⟩
          have HN := Lib.hid (all_take_ix (p := (inB · 0 ((xs.length : Int) - 1))) hlt HW.out hv)
          obtain ⟨x0, x1⟩ := inB_iff.1 hv
          obtain ⟨j, hj⟩ : ∃ j : Nat, ix xs k = (j : Int) := ⟨(ix xs k).toNat, by omega⟩
          have hjl : j < xs.length := by omega
          have hcj := hcc j hjl
          have HP := Lib.hid (pairAt_yes hj)
          rw [hj] at hck hv
          clear hcc hj x0 x1
          by_cases hjk : j = k
          · subst hjk
            clear hcj
            have HF := Lib.hid (allN_false (p := pairAt xs) hlt (by rw [HP.out]; simp))
            go_wp2_with (go_at_call 43; refine (l01In_any _ _ _ _).mono ?_; rintro e w' ⟨rfl, rfl⟩)
            go_ret
            exact ⟨ret_b (by simp [HF.out]), rfl⟩
          have e1 : ((j : Int) == (k : Int)) = false := by rw [beq_eq_false_iff_ne]; omega
          by_cases hb2 : ix xs j = k
          · have HS := Lib.hid (allN_step (p := pairAt xs) HI.out (by rw [HP.out, hb2]; simp [hjk]))
            rw [hb2] at hcj
            have HB2 := Lib.hid hb2
            clear hb2
            go_wp2_with (go_at_call 43; refine (l01In_any _ _ _ _).mono ?_; rintro e w' ⟨rfl, rfl⟩)
            go_round
            case rel => exact ⟨k + 1, by omega, by go_num, HS.out, HN.out⟩
            case measure => simp [intOf]; omega
          · have e2 : (ix xs j != (k : Int)) = true := by rw [bne_iff_ne]; exact hb2
            have HF := Lib.hid (allN_false (p := pairAt xs) hlt (by rw [HP.out]; simp [hb2]))
            clear hb2
            go_wp2_with (go_at_call 43; refine (l01In_any _ _ _ _).mono ?_; rintro e w' ⟨rfl, rfl⟩)
            go_ret
            exact ⟨ret_b (by simp [HF.out]), rfl⟩
        · obtain rfl : k = xs.length := by omega
          go_wp2
          go_ret
          exact ⟨ret_b (by have := hvv; rw [List.take_length] at this; simp [HI.out, this]), rfl⟩

  · rw [decide_eq_false hl]
    have h1 : ((xs.length : Int) != n) = true := by simpa using hl
    have hlt : (xs.length : Int) < n ∨ n < xs.length := by omega
    have d : ∃ p q r : Bool, (n != 2) = p ∧ (n != 4) = q ∧ (n != 6) = r ∧ ((p && q) && r) = false := by
      rcases hn6 with e | e | e <;> rw [e] <;> exact ⟨_, _, _, rfl, rfl, rfl, rfl⟩
    obtain ⟨p, q, r, d2, d4, d6, dd⟩ := d
    clear hn6
    cases p <;> cases q <;> cases r <;> simp at dd
    all_goals
      go_enter Try.func12, Try.ntmps12
      go_wp2_with fail
      go_ret
      exact ⟨rfl, rfl⟩

end Go.Proofs.Yteglddkeagicmaa
