/- The least number of blocking pairs. -/
import Derived.Test.YteglddkeagicmaaStabPair
namespace Go.Proofs.Yteglddkeagicmaa
set_option linter.unusedVariables false
open Go.RowKit

theorem collTo_sq {f : Nat → Nat → Bool} {g : Nat → Nat → List Int} {n : Nat} (i : Nat) : (collTo f g n i).length ≤ i * n := by
  induction i with
  | zero => simp [collTo]
  | succ i ih => have := coll_len (f i) (g i) n; rw [Nat.succ_mul]; simp [collTo]; omega
theorem roomBl_sq {xss : List (List Int)} {zs : List Int} (h : zs.length = xss.length) : (roomBl xss zs).length ≤ xss.length * xss.length := by
  have := collTo_sq (f := roomF xss zs) (g := pairG) (n := zs.length) zs.length
  unfold roomBl
  rw [← h]
  exact this
/-- the least number of blocking pairs of the first k pairings, no more than the square -/
def minTo (xss : List (List Int)) (ys : List (List Int)) : Nat → Int
  | 0 => ((xss.length * xss.length : Nat) : Int)
  | k + 1 => min (minTo xss ys k) ((roomBl xss (rx ys k)).length : Int)
theorem minTo_succ (xss ys : List (List Int)) (k : Nat) : minTo xss ys (k + 1) = min (minTo xss ys k) ((roomBl xss (rx ys k)).length : Int) := rfl
def bestTo (xss ys : List (List Int)) (k : Nat) : Int := if k = 0 then -1 else minTo xss ys k
theorem minTo_if (xss ys : List (List Int)) (k : Nat) : (if ((roomBl xss (rx ys k)).length : Int) < minTo xss ys k then ((roomBl xss (rx ys k)).length : Int) else minTo xss ys k) = minTo xss ys (k + 1) := by
  rw [minTo_succ]
  split <;> omega
theorem minTo_bd (xss ys : List (List Int)) (k : Nat) : 0 ≤ minTo xss ys k ∧ minTo xss ys k ≤ ((xss.length * xss.length : Nat) : Int) := by
  induction k with
  | zero =>
    have e : minTo xss ys 0 = ((xss.length * xss.length : Nat) : Int) := rfl
    exact ⟨by rw [e]; exact Int.natCast_nonneg _, Int.le_of_eq e⟩
  | succ k ih => rw [minTo_succ]; omega
def fewest (xss : List (List Int)) : Int := if roomsOk xss then minTo xss (allPairings (xss.length : Int)) (allPairings (xss.length : Int)).length else -1
theorem fewest_no {xss : List (List Int)} (h : roomsOk xss = false) : fewest xss = -1 := by unfold fewest; rw [h]; rfl
theorem fewest_yes {xss : List (List Int)} (h : roomsOk xss = true) : fewest xss = minTo xss (allPairings (xss.length : Int)) (allPairings (xss.length : Int)).length := by unfold fewest; rw [h]; rfl
theorem allPairings_pos {n : Nat} (h : n = 2 ∨ n = 4 ∨ n = 6) : 0 < (allPairings (n : Int)).length := by
  rcases h with rfl | rfl | rfl
  · rw [show (allPairings ((2 : Nat) : Int)).length = 1 by decide +kernel]; omega
  · rw [show (allPairings ((4 : Nat) : Int)).length = 3 by decide +kernel]; omega
  · rw [show (allPairings ((6 : Nat) : Int)).length = 15 by decide +kernel]; omega
set_option maxHeartbeats 1600000 in
theorem implFewestBlocks (A : Option Addr) (n c : Nat) (xss : List (List Int)) (w : World) (h : RowsAt w A n xss) (hn : n ≤ 1048576) (hx : ∀ xs ∈ xss, xs.length ≤ 1048576) :
    Calls Try.prog 31 #[.slice A n c] w fun e w' => e = .returned (.int .i64 (fewest xss)) ∧ Below w.heap.size w w' := by
  obtain rfl := h.len
  have HX := Lib.hid hx
  clear hx
  cases hok : roomsOk xss
  · have HF := Lib.hid (fewest_no hok)
    go_enter Try.func31, Try.ntmps31
    go_wp2_with fail
    (with_reducible refine (implRoomsOk _ _ _ _ _ h hn HX.out).mono ?_)
    rintro e w1 ⟨rfl, b1⟩
    rw [hok]
    go_wp2
    go_ret
    exact ⟨ret_i HF.out.symm, b1⟩
  have HF := Lib.hid (fewest_yes hok)
  have hf := (rooms_facts hok).len
  have hr := allPairings_row (n := (xss.length : Int))
  have hal := allPairings_len (n := (xss.length : Int))
  have hpos := allPairings_pos (n := xss.length) hf
  have HR : Hid (∀ k, k < (allPairings (xss.length : Int)).length → (rx (allPairings (xss.length : Int)) k).length = xss.length) := fun k hk => by have := (hr _ (rx_mem hk)).1; omega
  have hn6 : xss.length ≤ 6 := by omega
  have hn2 : 2 ≤ xss.length := by omega
  clear hr hf
  have hsq : xss.length * xss.length ≤ 36 := Nat.mul_le_mul hn6 hn6
  have HSQ : Hid ((xss.length : Int) * (xss.length : Int) = ((xss.length * xss.length : Nat) : Int)) := by show _ = _; simp
  have hbl : ∀ zs : List Int, zs.length = xss.length → (roomBl xss zs).length ≤ xss.length * xss.length := fun zs hz => roomBl_sq (by omega)
  have HBL := Lib.hid hbl
  clear hbl
  go_enter Try.func31, Try.ntmps31
  go_wp2_with fail
  (with_reducible refine (implRoomsOk _ _ _ _ _ h hn HX.out).mono ?_)
  rintro e w1 ⟨rfl, b1⟩
  rw [hok]
  have z0 := b1.size
  have h1 := h.below b1
  clear hok
  have E2 : IntKind.i64.wrap ((xss.length : Int) * (xss.length : Int)) = ((xss.length * xss.length : Nat) : Int) := by rw [HSQ.out, IntKind.wrap_i64]; omega
  go_wp2_with fail
  (with_reducible refine (implAllPairings (xss.length : Int) _).mono ?_)
  rintro e w2 ⟨Aa, ca, rfl, oa, _, _, b2⟩
  have z2 := b2.size
  generalize allPairings (xss.length : Int) = ys at *
  have b3 := b1.trans (b2.mono z0)
  have HFB : Hid (fewest xss = minTo xss ys ys.length) := HF.out
  clear HF b2
  go_wp2
  go_loopw [3, 5, 18] (fun v _ i wr => ∃ k : Nat, k ≤ ys.length ∧ i = .int .i64 k ∧ v = .int .i64 (minTo xss ys k) ∧ Below w.heap.size w wr ∧ OwnR wr w1.heap.size w2.heap.size (.slice Aa ys.length ca) ys) (fun _ _ i _ => ys.length - (intOf i).toNat)
  case atStart => exact ⟨0, Nat.zero_le _, rfl, by show Value.int .i64 ((xss.length : Int) * (xss.length : Int)) = .int .i64 ((xss.length * xss.length : Nat) : Int); rw [HSQ.out], b3, oa⟩
  case round =>
    obtain ⟨k, hk, rfl, rfl, hb, hoa⟩ := hrel
    have zr := hb.size
    clear b3 oa h1
    by_cases hlt : k < ys.length
    · obtain ⟨g, rfl, hg1, hg2, hg3⟩ := hoa.head (by omega)
      obtain ⟨_, Ak, ck, hck, hok2⟩ := hoa.row k hlt
      have hkl := HR.out k hlt
      have rk := hok2.at_
      have hr3 := h.below hb
      have HKL := Lib.hid hkl
      have hble := HBL.out _ hkl
      obtain ⟨m0, m1⟩ := minTo_bd xss ys k
      have HM := Lib.hid (minTo_succ xss ys k)
      have HMI := Lib.hid (minTo_if xss ys k)
      clear hkl
      go_wp2_with fail
      (with_reducible refine (roomBlocks_any _ _ _ _ _ _ _ _ _ hr3 rk HKL.out hn6 HX.out).mono ?_)
      rintro e w5 ⟨A5, c5, rfl, _, b5⟩
      have hb5 := hb.trans (b5.mono zr)
      have ho5 := hoa.belowW b5
      clear b5 hb hoa hck hr3
      go_wp2
      go_roundw
      case rel => exact ⟨k + 1, by omega, by go_num, by rw [HMI.out], hb5, ho5⟩
      case measure => simp [intOf]; omega
    · obtain rfl : k = ys.length := by omega
      go_wp2
      go_ret
      exact ⟨ret_i HFB.out.symm, hb⟩
set_option maxHeartbeats 1600000 in
theorem specFewestBlocks (A : Option Addr) (n c : Nat) (xss : List (List Int)) (w : World) (h : RowsAt w A n xss) (hn : n ≤ 1048576) (hx : ∀ xs ∈ xss, xs.length ≤ 1048576) :
    Calls Try.prog 30 #[.slice A n c] w fun e w' => e = .returned (.int .i64 (fewest xss)) ∧ Below w.heap.size w w' := by
  obtain rfl := h.len
  have HX := Lib.hid hx
  clear hx
  cases hok : roomsOk xss
  · have HF := Lib.hid (fewest_no hok)
    go_enter Try.func30, Try.ntmps30
    go_wp2_with fail
    (with_reducible refine (specRoomsOk _ _ _ _ _ h hn HX.out).mono ?_)
    rintro e w1 ⟨rfl, rfl⟩
    rw [hok]
    go_wp2
    go_ret
    exact ⟨ret_i HF.out.symm, Below.refl _ _⟩
  have HF := Lib.hid (fewest_yes hok)
  have hf := (rooms_facts hok).len
  have hr := allPairings_row (n := (xss.length : Int))
  have hal := allPairings_len (n := (xss.length : Int))
  have hpos := allPairings_pos (n := xss.length) hf
  have HR : Hid (∀ k, k < (allPairings (xss.length : Int)).length → (rx (allPairings (xss.length : Int)) k).length = xss.length) := fun k hk => by have := (hr _ (rx_mem hk)).1; omega
  have hn6 : xss.length ≤ 6 := by omega
  have hn2 : 2 ≤ xss.length := by omega
  clear hr hf
  have hsq : xss.length * xss.length ≤ 36 := Nat.mul_le_mul hn6 hn6
  have HSQ : Hid ((xss.length : Int) * (xss.length : Int) = ((xss.length * xss.length : Nat) : Int)) := by show _ = _; simp
  have hbl : ∀ zs : List Int, zs.length = xss.length → (roomBl xss zs).length ≤ xss.length * xss.length := fun zs hz => roomBl_sq (by omega)
  have HBL := Lib.hid hbl
  clear hbl
  go_enter Try.func30, Try.ntmps30
  go_wp2_with fail
  (with_reducible refine (specRoomsOk _ _ _ _ _ h hn HX.out).mono ?_)
  rintro e w1 ⟨rfl, rfl⟩
  rw [hok]
  have b1 : Below w.heap.size w w := Below.refl _ _
  have z0 := b1.size
  have h1 := h.below b1
  clear hok
  go_wp2_with fail
  (with_reducible refine (specAllPairings (xss.length : Int) _).mono ?_)
  rintro e w2 ⟨Aa, ca, rfl, oa, _, _, b2⟩
  have z2 := b2.size
  generalize allPairings (xss.length : Int) = ys at *
  have b3 := b1.trans (b2.mono z0)
  have HFB : Hid (fewest xss = minTo xss ys ys.length) := HF.out
  clear HF b2
  go_wp2
  go_loopw [3, 5, 6, 14] (fun v _ _ i wr => ∃ k : Nat, k ≤ ys.length ∧ i = .int .i64 k ∧ v = .int .i64 (bestTo xss ys k) ∧ Below w.heap.size w wr ∧ OwnR wr w.heap.size w2.heap.size (.slice Aa ys.length ca) ys) (fun _ _ _ i _ => ys.length - (intOf i).toNat)
  case atStart => exact ⟨0, Nat.zero_le _, rfl, rfl, b3, oa⟩
  case round =>
    obtain ⟨k, hk, rfl, rfl, hb, hoa⟩ := hrel
    have zr := hb.size
    clear b3 oa h1
    by_cases hlt : k < ys.length
    · obtain ⟨g, rfl, hg1, hg2, hg3⟩ := hoa.head (by omega)
      obtain ⟨_, Ak, ck, hck, hok2⟩ := hoa.row k hlt
      have hkl := HR.out k hlt
      have rk := hok2.at_
      have hr3 := h.below hb
      have HKL := Lib.hid hkl
      have hble := HBL.out _ hkl
      obtain ⟨m0, m1⟩ := minTo_bd xss ys k
      have HM := Lib.hid (minTo_succ xss ys k)
      have HMI := Lib.hid (minTo_if xss ys k)
      clear hkl
      go_wp2_with fail
      (with_reducible refine (l20Blocks_any _ _ _ _ _ _ _ _ _ hr3 rk HKL.out hn6 HX.out).mono ?_)
      rintro e w5 ⟨A5, c5, rfl, _, b5⟩
      have hb5 := hb.trans (b5.mono zr)
      have ho5 := hoa.belowW b5
      clear b5 hb hoa hck hr3
      by_cases hk0 : k = 0
      · have e1 : (bestTo xss ys k) = -1 := (by unfold bestTo; exact if_pos hk0)
        rw [e1]
        have HE := Lib.hid (show bestTo xss ys (k + 1) = ((roomBl xss (rx ys k)).length : Int) by
          unfold bestTo; rw [if_neg (by omega), HM.out]
          have e : minTo xss ys k = ((xss.length * xss.length : Nat) : Int) := by rw [hk0]; rfl
          omega)
        clear e1 hk0
        go_wp2
        go_roundw
        case rel => exact ⟨k + 1, by omega, by go_num, by rw [HE.out], hb5, ho5⟩
        case measure => simp [intOf]; omega
      · have e1 : (bestTo xss ys k) = minTo xss ys k := (by unfold bestTo; exact if_neg hk0)
        rw [e1]
        clear e1 hk0
        by_cases hl : ((roomBl xss (rx ys k)).length : Int) < minTo xss ys k
        · have HE := Lib.hid (show bestTo xss ys (k + 1) = ((roomBl xss (rx ys k)).length : Int) by
            unfold bestTo; rw [if_neg (by omega), HM.out]
            omega)
          go_wp2
          go_roundw
          case rel => exact ⟨k + 1, by omega, by go_num, by rw [HE.out], hb5, ho5⟩
          case measure => simp [intOf]; omega
        · have HE := Lib.hid (show bestTo xss ys (k + 1) = minTo xss ys k by
            unfold bestTo; rw [if_neg (by omega), HM.out]
            omega)
          go_wp2
          go_roundw
          case rel => exact ⟨k + 1, by omega, by go_num, by rw [HE.out], hb5, ho5⟩
          case measure => simp [intOf]; omega
    · obtain rfl : k = ys.length := by omega
      have e1 : bestTo xss ys ys.length = minTo xss ys ys.length := (by unfold bestTo; exact if_neg (by omega))
      rw [e1]
      clear e1
      go_wp2
      go_ret
      exact ⟨ret_i HFB.out.symm, hb⟩
end Go.Proofs.Yteglddkeagicmaa
