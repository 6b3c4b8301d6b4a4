/- Rooms for two: the check of the lists. -/
import Derived.Test.YteglddkeagicmaaRooms
namespace Go.Proofs.Yteglddkeagicmaa
set_option linter.unusedVariables false
open Go.RowKit

/-- row i names each other person once -/
def roomRow (n i : Nat) (xs : List Int) : Bool := decide ((xs.length : Int) = (n : Int) - 1) && xs.all (inB · 0 ((n : Int) - 1)) && !has xs i && allN (fun k => !has (xs.take k) (ix xs k)) xs.length
def roomAt (xss : List (List Int)) (i : Nat) : Bool := roomRow xss.length i (rx xss i)
def roomsOk (xss : List (List Int)) : Bool := evenB xss.length && allN (roomAt xss) xss.length
/-- as the reference has it -/
def roomRowS (n i : Nat) (xs : List Int) : Bool := decide ((xs.length : Int) = (n : Int) - 1) && allN (fun k => decide (k = i) || has xs k) n
theorem roomRow_eq {n i : Nat} {xs : List Int} (hi : i < n) : roomRow n i xs = roomRowS n i xs := by
  unfold roomRow roomRowS
  by_cases hl : (xs.length : Int) = (n : Int) - 1
  · rw [decide_eq_true hl, Bool.true_and, Bool.true_and, Bool.eq_iff_iff, Bool.and_eq_true, Bool.and_eq_true, List.all_eq_true, nodup_iff, Bool.not_eq_true', has_not, allN_iff]
    have hlen := othersN_len hi
    constructor
    · rintro ⟨⟨h1, h2⟩, h3⟩ k hk
      have hp := perm_of xs (othersN n i) h3 (fun x hx => by
        have := inB_iff.1 (h1 x hx)
        exact othersN_mem.2 ⟨by omega, by omega, fun e => h2 (e ▸ hx)⟩) (by omega)
      by_cases e : k = i
      · simp [e]
      · rw [Bool.or_eq_true]
        exact .inr (has_iff.2 (hp.mem_iff.1 (othersN_mem.2 ⟨by omega, by omega, by omega⟩)))
    · intro h
      have hp := perm_of (othersN n i) xs (othersN_nodup n i) (fun x hx => by
        obtain ⟨h1, h2, h3⟩ := othersN_mem.1 hx
        have := h x.toNat (by omega)
        rw [Bool.or_eq_true, decide_eq_true_eq, has_iff] at this
        rcases this with h4 | h4
        · omega
        · rwa [show ((x.toNat : Nat) : Int) = x by omega] at h4) (by omega)
      refine ⟨⟨fun x hx => ?_, fun hx => ?_⟩, hp.nodup_iff.2 (othersN_nodup n i)⟩
      · have := othersN_mem.1 (hp.mem_iff.1 hx)
        exact inB_iff.2 (by omega)
      · have := othersN_mem.1 (hp.mem_iff.1 hx)
        omega
  · rw [decide_eq_false hl]; rfl
structure RoomsF (xss : List (List Int)) : Prop where
  len : xss.length = 2 ∨ xss.length = 4 ∨ xss.length = 6
  row : ∀ i, i < xss.length → roomRow xss.length i (rx xss i) = true
theorem rooms_facts {xss : List (List Int)} (h : roomsOk xss = true) : RoomsF xss := by
  unfold roomsOk at h
  rw [Bool.and_eq_true, allN_iff] at h
  have := evenB_yes h.1
  exact ⟨by omega, h.2⟩
theorem roomRow_len {n i : Nat} {xs : List Int} (h : roomRow n i xs = true) : (xs.length : Int) = (n : Int) - 1 := by
  unfold roomRow at h
  rw [Bool.and_eq_true, Bool.and_eq_true, Bool.and_eq_true, decide_eq_true_eq] at h
  exact h.1.1.1
set_option maxHeartbeats 2000000 in
theorem implRoomsOk (A : Option Addr) (n c : Nat) (xss : List (List Int)) (w : World) (h : RowsAt w A n xss) (hn : n ≤ 1048576) (hx : ∀ xs ∈ xss, xs.length ≤ 1048576) :
    Calls Try.prog 19 #[.slice A n c] w fun e w' => e = .returned (.bool (roomsOk xss)) ∧ Below w.heap.size w w' := by
  obtain rfl := h.len
  have HX := Lib.hid hx
  clear hx
  unfold roomsOk
  cases he : evenB xss.length
  · go_enter Try.func19, Try.ntmps19
    go_wp2_with (go_at_call 44; (with_reducible refine (isEven_any _ _).mono ?_); rintro e w' ⟨rfl, rfl⟩; rw [he])
    go_ret
    exact ⟨rfl, Below.refl _ _⟩
  have hev := evenB_yes he
  have n0 : (2 : Int) ≤ xss.length := by omega
  have n1 : (xss.length : Int) ≤ 6 := by omega
  clear hev
  go_enter Try.func19, Try.ntmps19
  go_wp2_with (go_at_call 44; (with_reducible refine (isEven_any _ _).mono ?_); rintro e w' ⟨rfl, rfl⟩; rw [he])
  go_loopw [4, 5, 6, 7, 15, 39] (fun _ _ _ _ i _ wr => ∃ k : Nat, k ≤ xss.length ∧ i = .int .i64 k ∧ allN (roomAt xss) k = true ∧ Below w.heap.size w wr) (fun _ _ _ _ i _ _ => xss.length - (intOf i).toNat)
  case atStart => exact ⟨0, Nat.zero_le _, rfl, rfl, Below.refl _ _⟩
  case round =>
    obtain ⟨i, hi, rfl, hall, hbo⟩ := hrel
    have HA := Lib.hid hall
    clear hall
    obtain ⟨wo, rfl⟩ : ∃ wo, wo = wr := ⟨_, rfl⟩
    by_cases hlt : i < xss.length
    · obtain ⟨b, o, A', c', rfl, _, hck, hcc, hin⟩ := (h.below hbo).at_ hlt
      have hml := HX.out _ (rx_mem hlt)
      have hso := hbo.size
      have hrow : roomAt xss i = roomRow xss.length i (rx xss i) := rfl
      have HR := Lib.hid hrow
      clear hrow
      generalize rx xss i = row at *
      by_cases hl : (row.length : Int) = (xss.length : Int) - 1
      case neg =>
        have e1 : ((row.length : Int) != (xss.length : Int) - 1) = true := by rw [bne_iff_ne]; exact hl
        have HF := Lib.hid (allN_false (p := roomAt xss) hlt (by rw [HR.out]; unfold roomRow; rw [decide_eq_false hl]; rfl))
        clear hl
        go_wp2
        go_ret
        exact ⟨ret_b (by simp [HF.out]), hbo⟩
      have e1 : ((row.length : Int) != (xss.length : Int) - 1) = false := by rw [bne_eq_false_iff_eq]; exact hl
      have HL := Lib.hid hl
      clear hl
      cases ha : row.all (inB · 0 ((xss.length : Int) - 1))
      · have HF := Lib.hid (allN_false (p := roomAt xss) hlt (by rw [HR.out]; unfold roomRow; rw [ha]; simp))
        go_wp2_with fail
        (with_reducible refine (allWithin_any _ _ _ _ _ _ _ hin (by omega)).mono ?_)
        rintro e w1 ⟨rfl, hb1⟩
        rw [ha]
        have hb2 := hbo.trans (hb1.mono hso)
        clear hb1 hbo
        go_wp2
        go_ret
        exact ⟨ret_b (by simp [HF.out]), hb2⟩
      cases hh : has row i
      case true =>
        have HF := Lib.hid (allN_false (p := roomAt xss) hlt (by rw [HR.out]; unfold roomRow; rw [hh]; simp))
        go_wp2_with fail
        (with_reducible refine (allWithin_any _ _ _ _ _ _ _ hin (by omega)).mono ?_)
        rintro e w1 ⟨rfl, hb1⟩
        rw [ha]
        have hb2 := hbo.trans (hb1.mono hso)
        have hin1 := hin.below hb1
        clear hb1 hbo
        go_wp2_with (go_at_call 48; (with_reducible refine (contains_any _ _ _ _ _ _ hin1 (by omega)).mono ?_); rintro e w' ⟨rfl, rfl⟩; rw [hh])
        go_ret
        exact ⟨ret_b (by simp [HF.out]), hb2⟩
      have HG := Lib.hid (show allN (fun k => !has (row.take k) (ix row k)) row.length = roomAt xss i by rw [HR.out]; unfold roomRow; rw [ha, hh, decide_eq_true HL.out]; rfl)
      go_wp2_with fail
      (with_reducible refine (allWithin_any _ _ _ _ _ _ _ hin (by omega)).mono ?_)
      rintro e w1 ⟨rfl, hb1⟩
      rw [ha]
      have hb2 := hbo.trans (hb1.mono hso)
      have hin1 := hin.below hb1
      clear hb1 hbo ha
      go_wp2_with (go_at_call 48; (with_reducible refine (contains_any _ _ _ _ _ _ hin1 (by omega)).mono ?_); rintro e w' ⟨rfl, rfl⟩; rw [hh])
      clear hh
      go_loop [6, 7, 39] (fun _ _ i => ∃ k : Nat, k ≤ row.length ∧ i = .int .i64 k ∧ allN (fun k => !has (row.take k) (ix row k)) k = true) (fun _ _ i => row.length - (intOf i).toNat)
      case atStart => exact ⟨0, Nat.zero_le _, rfl, rfl⟩
      case round =>
        obtain ⟨k, hk, rfl, hpa⟩ := hrel
        have HP := Lib.hid hpa
        clear hpa
        by_cases hkl : k < row.length
        · have ht := hin1.take hk
          obtain ⟨b1, o1, rfl, _, hc1⟩ := hin1.at_ hkl
          have k1 := hc1 k hkl
          clear hc1
          cases hz : has (row.take k) (ix row k)
          · have HN := Lib.hid (allN_step (p := fun k => !has (row.take k) (ix row k)) HP.out (by rw [hz]; rfl))
            go_wp2_with (go_at_call 48; (with_reducible refine (contains_any _ _ _ _ _ _ ht (by omega)).mono ?_); rintro e w' ⟨rfl, rfl⟩; rw [hz])
            go_round
            case rel => exact ⟨k + 1, by omega, by go_num, HN.out⟩
            case measure => simp [intOf]; omega
          · have HF := Lib.hid (allN_false (p := roomAt xss) hlt (by rw [← HG.out]; exact allN_false (p := fun k => !has (row.take k) (ix row k)) hkl (by rw [hz]; rfl)))
            go_wp2_with (go_at_call 48; (with_reducible refine (contains_any _ _ _ _ _ _ ht (by omega)).mono ?_); rintro e w' ⟨rfl, rfl⟩; rw [hz])
            go_ret
            exact ⟨ret_b (by simp [HF.out]), hb2⟩
        · obtain rfl : k = row.length := by omega
          have HN := Lib.hid (allN_step HA.out (HG.out.symm.trans HP.out))
          go_wp2
          go_roundw
          case rel => exact ⟨i + 1, by omega, by go_num, HN.out, hb2⟩
          case measure => simp [intOf]; omega
    · obtain rfl : i = xss.length := by omega
      go_wp2
      go_ret
      exact ⟨ret_b (by simp [HA.out]), hbo⟩
set_option maxHeartbeats 2000000 in
theorem specRoomsOk (A : Option Addr) (n c : Nat) (xss : List (List Int)) (w : World) (h : RowsAt w A n xss) (hn : n ≤ 1048576) (hx : ∀ xs ∈ xss, xs.length ≤ 1048576) :
    Calls Try.prog 17 #[.slice A n c] w fun e w' => e = .returned (.bool (roomsOk xss)) ∧ w = w' := by
  obtain rfl := h.len
  have HX := Lib.hid hx
  clear hx
  unfold roomsOk
  cases he : evenB xss.length
  · obtain ⟨h2, h4, h6⟩ := evenB_no he
    have e2 : ((xss.length : Int) != 2) = true := by simpa using h2
    have e4 : ((xss.length : Int) != 4) = true := by simpa using h4
    have e6 : ((xss.length : Int) != 6) = true := by simpa using h6
    clear h2 h4 h6
    go_enter Try.func17, Try.ntmps17
    go_wp2
    go_ret
    exact ⟨rfl, rfl⟩
  have hev := evenB_yes he
  have n0 : (2 : Int) ≤ xss.length := by omega
  have n1 : (xss.length : Int) ≤ 6 := by omega
  have d : ∃ p q r : Bool, ((xss.length : Int) != 2) = p ∧ ((xss.length : Int) != 4) = q ∧ ((xss.length : Int) != 6) = r ∧ ((p && q) && r) = false := by
    rcases hev with e | e | e <;> rw [e] <;> exact ⟨_, _, _, rfl, rfl, rfl, rfl⟩
  obtain ⟨p, q, r, d2, d4, d6, dd⟩ := d
  clear hev
  cases p <;> cases q <;> cases r <;> simp at dd
  all_goals
    go_enter Try.func17, Try.ntmps17
    go_wp2
    clear d2 d4 d6
    go_loop [4, 5, 6, 21] (fun _ _ _ i => ∃ k : Nat, k ≤ xss.length ∧ i = .int .i64 k ∧ allN (roomAt xss) k = true) (fun _ _ _ i => xss.length - (intOf i).toNat)
    case atStart => exact ⟨0, Nat.zero_le _, rfl, rfl⟩
    case round =>
      obtain ⟨i, hi, rfl, hall⟩ := hrel
      have HA := Lib.hid hall
      clear hall
      by_cases hlt : i < xss.length
      · obtain ⟨b, o, A', c', e, _, hck, hcc, hin⟩ := h.at_ hlt
        cases e
        have hml := HX.out _ (rx_mem hlt)
        have hrow : roomAt xss i = roomRowS xss.length i (rx xss i) := roomRow_eq hlt
        have HR := Lib.hid hrow
        clear hrow
        generalize rx xss i = row at *
        by_cases hl : (row.length : Int) = (xss.length : Int) - 1
        case neg =>
          have e1 : ((row.length : Int) != (xss.length : Int) - 1) = true := by rw [bne_iff_ne]; exact hl
          have HF := Lib.hid (allN_false (p := roomAt xss) hlt (by rw [HR.out]; unfold roomRowS; rw [decide_eq_false hl]; rfl))
          clear hl
          go_wp2
          go_ret
          exact ⟨ret_b (by simp [HF.out]), rfl⟩
        have e1 : ((row.length : Int) != (xss.length : Int) - 1) = false := by rw [bne_eq_false_iff_eq]; exact hl
        have HG := Lib.hid (show allN (fun k => decide (k = i) || has row k) xss.length = roomAt xss i by rw [HR.out]; unfold roomRowS; rw [decide_eq_true hl]; rfl)
        clear hl
        go_wp2
        go_loop [6] (fun i_ => ∃ k : Nat, k ≤ xss.length ∧ i_ = .int .i64 k ∧ allN (fun k => decide (k = i) || has row k) k = true) (fun i_ => xss.length - (intOf i_).toNat)
        case atStart => exact ⟨0, Nat.zero_le _, rfl, rfl⟩
        case round =>
          obtain ⟨k, hk, rfl, hpa⟩ := hrel
          have HP := Lib.hid hpa
          clear hpa
          by_cases hkl : k < xss.length
          · by_cases hki : k = i
            · have HN := Lib.hid (allN_step (p := fun k => decide (k = i) || has row k) HP.out (by simp [hki]))
              have e2 : ((k : Int) != (i : Int)) = false := by rw [bne_eq_false_iff_eq]; omega
              clear hki
              go_wp2
              go_round
              case rel => exact ⟨k + 1, by omega, by go_num, HN.out⟩
              case measure => simp [intOf]; omega
            · have e2 : ((k : Int) != (i : Int)) = true := by rw [bne_iff_ne]; omega
              cases hz : has row k
              · have HF := Lib.hid (allN_false (p := roomAt xss) hlt (by rw [← HG.out]; exact allN_false (p := fun k => decide (k = i) || has row k) hkl (by rw [hz]; simp [hki])))
                have hp0 : place row k < 0 := place_neg.2 (has_not.1 hz)
                clear hz hki
                go_wp2_with (go_at_call 47; (with_reducible refine (specPlaceOf_any _ _ _ _ _ _ hin (by omega)).mono ?_); rintro e w' ⟨rfl, rfl⟩)
                go_ret
                exact ⟨ret_b (by simp [HF.out]), rfl⟩
              · have HN := Lib.hid (allN_step (p := fun k => decide (k = i) || has row k) HP.out (by simp [hz]))
                have hp0 : 0 ≤ place row k := place_mem.2 (has_iff.1 hz)
                clear hz hki
                go_wp2_with (go_at_call 47; (with_reducible refine (specPlaceOf_any _ _ _ _ _ _ hin (by omega)).mono ?_); rintro e w' ⟨rfl, rfl⟩)
                go_round
                case rel => exact ⟨k + 1, by omega, by go_num, HN.out⟩
                case measure => simp [intOf]; omega
          · obtain rfl : k = xss.length := by omega
            have HN := Lib.hid (allN_step HA.out (HG.out.symm.trans HP.out))
            go_wp2
            go_round
            case rel => exact ⟨i + 1, by omega, by go_num, HN.out⟩
            case measure => simp [intOf]; omega
      · obtain rfl : i = xss.length := by omega
        go_wp2
        go_ret
        exact ⟨ret_b (by simp [HA.out]), rfl⟩
end Go.Proofs.Yteglddkeagicmaa
