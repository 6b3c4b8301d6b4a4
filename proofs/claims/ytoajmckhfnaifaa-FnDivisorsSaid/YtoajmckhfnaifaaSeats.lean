/- Seats by a divisor: how often each party stands in the order. -/
import Derived.Test.YtoajmckhfnaifaaOrder
namespace Go.Proofs.Ytoajmckhfnaifaa
set_option linter.unusedVariables false
open Go.RowKit

/-- how often each of n numbers stands among the first j -/
def cntTo (n : Nat) (os : List Int) : Nat → List Int
  | 0 => List.replicate n 0
  | j + 1 => (cntTo n os j).set (ix os j).toNat (ix (cntTo n os j) (ix os j).toNat + 1)
theorem cntTo_len (n : Nat) (os : List Int) (j : Nat) : (cntTo n os j).length = n := by
  induction j with
  | zero => simp [cntTo]
  | succ j ih => simp [cntTo, ih]
theorem cntTo_bd {n : Nat} {os : List Int} (j : Nat) (h : ∀ i, i < j → 0 ≤ ix os i ∧ ix os i < n) : ∀ i, i < n → 0 ≤ ix (cntTo n os j) i ∧ ix (cntTo n os j) i ≤ j := by
  induction j with
  | zero => intro i hi; rw [cntTo, ix_lt (by simpa using hi)]; simp
  | succ j ih =>
    intro i hi
    have h0 := h j (by omega)
    rw [cntTo, ix_set (by rw [cntTo_len]; omega)]
    have h1 := ih (fun i hi => h i (by omega)) i hi
    have h2 := ih (fun i hi => h i (by omega)) (ix os j).toNat (by omega)
    split <;> omega
def seatsBy (m : Int) (xs : List Int) (k : Int) : List Int := if seatsAskedB m xs k then cntTo xs.length (seatOrder m xs k) (seatOrder m xs k).length else []
theorem seatsBy_no {m : Int} {xs : List Int} {k : Int} (h : seatsAskedB m xs k = false) : seatsBy m xs k = [] := by unfold seatsBy; rw [h]; rfl
theorem seatsBy_yes {m : Int} {xs : List Int} {k : Int} (h : seatsAskedB m xs k = true) : seatsBy m xs k = cntTo xs.length (seatOrder m xs k) (seatOrder m xs k).length := by unfold seatsBy; rw [if_pos h]
theorem seatOrder_bd {m : Int} {xs : List Int} {k : Int} (h : seatsAskedB m xs k = true) : ((seatOrder m xs k).length : Int) = k ∧ ∀ i, i < (seatOrder m xs k).length → 0 ≤ ix (seatOrder m xs k) i ∧ ix (seatOrder m xs k) i < xs.length := by
  obtain ⟨m1, m5, k0, k1, n1, n6, hx⟩ := asked_facts h
  rw [seatOrder_yes h, orderA_len]
  exact ⟨by omega, orderA_bd (by omega) _⟩
set_option maxHeartbeats 800000 in
theorem implSeatsBy (m : Int) (A : Option Addr) (n c : Nat) (xs : List Int) (k : Int) (w : World) (h : IntsAt w A n xs) (hn : n ≤ 1048576) :
    Calls Try.prog 6 #[.int .i64 m, .slice A n c, .int .i64 k] w fun e w' => ∃ A' c', e = .returned (.slice A' (seatsBy m xs k).length c') ∧ OwnI w' w.heap.size w'.heap.size (.slice A' (seatsBy m xs k).length c') (seatsBy m xs k) ∧ (seatsBy m xs k).length ≤ 1048576 ∧ Below w.heap.size w w' := by
  obtain rfl := h.len
  cases hq : seatsAskedB m xs k
  · rw [seatsBy_no hq]
    have hq2 := hq
    unfold seatsAskedB at hq2
    cases hm : inB m 1 5
    · go_enter Try.func6, Try.ntmps6
      go_wp2_with (go_at_call 21; refine (within_any _ _ _ _).mono ?_; rintro e w' ⟨rfl, rfl⟩)
      go_ret
      exact ⟨none, 0, rfl, OwnI.nil _ _ _, by simp, Below.refl _ _⟩
    · rw [hm, Bool.true_and] at hq2
      clear hq
      go_enter Try.func6, Try.ntmps6
      go_wp2_with (go_at_call 21; refine (within_any _ _ _ _).mono ?_; rintro e w' ⟨rfl, rfl⟩)
      (with_reducible refine (quotaAsked_any _ _ _ _ _ _ h hn).mono ?_)
      rintro e w1 ⟨rfl, hb⟩
      rw [hq2]
      go_wp2
      go_ret
      exact ⟨none, 0, rfl, OwnI.nil _ _ _, by simp, hb⟩
  rw [seatsBy_yes hq, cntTo_len]
  obtain ⟨m1, m5, k0, k1, n1, n6, hx⟩ := asked_facts hq
  have HQ := Lib.hid hq
  obtain ⟨hol, hob⟩ := seatOrder_bd hq
  have HOB := Lib.hid hob
  have HS := Lib.hid (fun W hW => implSeatOrder m A xs.length c xs k W hW hn)
  generalize seatOrder m xs k = os at *
  have ol : os.length ≤ 100 := by omega
  clear hx hq hol hob
  have hm : inB m 1 5 = true := inB_iff.2 ⟨m1, m5⟩
  have hq2 : quotaOk xs k = true := by have := HQ.out; unfold seatsAskedB at this; rw [hm] at this; simpa using this
  go_enter Try.func6, Try.ntmps6
  go_wp2_with (go_at_call 21; refine (within_any _ _ _ _).mono ?_; rintro e w' ⟨rfl, rfl⟩)
  (with_reducible refine (quotaAsked_any _ _ _ _ _ _ h hn).mono ?_)
  rintro e w1 ⟨rfl, hb⟩
  rw [hq2]
  clear hq2 hm
  have h1 := h.below hb
  have s1 := hb.size
  go_wp2_with ((with_reducible refine wpList_make_ints _ rfl _ _ rfl xs.length rfl rfl (by omega) ?_); intro w2 ho hb1 hs1)
  have hb2 := hb.trans (hb1.mono s1)
  have z2 := hb2.size
  have h2 := h1.below hb1
  clear hb hb1 h1
  (with_reducible refine (HS.out _ h2).mono ?_)
  rintro e w3 ⟨Ao, co, rfl, oo, _, hb3⟩
  have ho3 := ho.belowW hb3
  have hb4 := hb2.trans (hb3.mono z2)
  have z4 := hb4.size
  clear ho hb2 hb3 h2
  rw [show List.replicate xs.length 0 = cntTo xs.length os 0 from rfl] at ho3
  go_wp2
  have zs : w1.heap.size + 1 ≤ w2.heap.size := by omega
  go_loopw [9, 27] (fun _ i wr => ∃ j : Nat, j ≤ os.length ∧ i = .int .i64 j ∧ OwnI wr w1.heap.size (w1.heap.size + 1) (.slice (some ⟨w1.heap.size, 0, none⟩) xs.length xs.length) (cntTo xs.length os j) ∧ OwnI wr w2.heap.size w3.heap.size (.slice Ao os.length co) os ∧ Below w.heap.size w wr) (fun _ i _ => os.length - (intOf i).toNat)
  case atStart => exact ⟨0, Nat.zero_le _, rfl, ho3, oo, hb4⟩
  case round =>
    obtain ⟨j, hj, rfl, hown, hoo, hb⟩ := hrel
    have zr := hb.size
    by_cases hjl : j < os.length
    · obtain ⟨bo, oo, eo, _, hco⟩ := (hoo.at_).at_ hjl
      cases eo
      have cj := hco j hjl
      clear hco
      obtain ⟨x0, x1⟩ := HOB.out j hjl
      obtain ⟨p, hp⟩ : ∃ p : Nat, ix os j = (p : Int) := ⟨(ix os j).toNat, by omega⟩
      have hpl : p < xs.length := by omega
      have HNX : Hid (cntTo xs.length os (j + 1) = (cntTo xs.length os j).set p (ix (cntTo xs.length os j) p + 1)) := by show cntTo xs.length os (j + 1) = _; rw [cntTo, hp]; rfl
      have bp := cntTo_bd (n := xs.length) (os := os) j (fun i hi => HOB.out i (by omega)) p hpl
      have cp := hown.cellAt p hpl
      have fp := hown.frozenAt p
      rw [hp] at cj
      obtain ⟨o1, n1'⟩ := hown.stored p (ix (cntTo xs.length os j) p + 1)
      have o1 : OwnI _ _ _ _ _ := o1
      rw [← HNX.out] at o1
      have o2 := Lib.hid (hoo.only n1' (by omega))
      have b1 := hb.trans (n1'.toBelow (B := w.heap.size) (by omega) zr)
      have O1 := Lib.hid o1
      have B1 := Lib.hid b1
      clear o1 b1 n1' hown hoo hp x0 x1
      generalize ix (cntTo xs.length os j) p = cc at *
      go_wp2
      go_roundw
      case rel => exact ⟨j + 1, by omega, by go_num, O1.out, o2.out, B1.out⟩
      case measure => simp [intOf]; omega
    · obtain rfl : j = os.length := by omega
      go_wp2
      go_ret
      exact ⟨_, _, rfl, hown.mono (by omega) (by have := hown.num; omega), by omega, hb⟩
end Go.Proofs.Ytoajmckhfnaifaa
