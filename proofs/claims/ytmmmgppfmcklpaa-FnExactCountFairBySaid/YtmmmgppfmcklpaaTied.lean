/- The last seat is tied. -/
import Derived.Test.YtmmmgppfmcklpaaSeats
import Derived.WalkSpells
namespace Go.Proofs.Ytmmmgppfmcklpaa
set_option linter.unusedVariables false
open Go.RowKit

def tiedAt (m : Int) (xs ys : List Int) (l i : Nat) : Bool := decide (i ≠ l) && (claimC m (ix xs i) (ix ys i) (ix xs l) (ix ys l - 1) == 0)
def tiedOn (m : Int) (xs : List Int) (k : Int) : Bool := seatsAskedB m xs k && decide (0 < k)
def lastOfI (os : List Int) : Nat := (ix os (os.length - 1)).toNat
/-- another party claims the last seat as well as the one that has it -/
def isTied (m : Int) (xs : List Int) (k : Int) : Bool := tiedOn m xs k && !allN (fun i => !tiedAt m xs (seatsBy m xs k) (lastOfI (seatOrder m xs k)) i) xs.length
theorem tied_no {m : Int} {xs : List Int} {k : Int} (h : tiedOn m xs k = false) : isTied m xs k = false := by unfold isTied; rw [h]; rfl
theorem tied_yes {m : Int} {xs : List Int} {k : Int} (h : tiedOn m xs k = true) : isTied m xs k = !allN (fun i => !tiedAt m xs (seatsBy m xs k) (lastOfI (seatOrder m xs k)) i) xs.length := by unfold isTied; rw [h]; rfl
structure TiedF (m : Int) (xs ys os : List Int) (l : Nat) : Prop where
  m1 : 1 ≤ m
  m5 : m ≤ 5
  n1 : 1 ≤ xs.length
  n6 : xs.length ≤ 6
  xb : ∀ x ∈ xs, 0 ≤ x ∧ x ≤ 1000000
  ol : 1 ≤ os.length
  ol2 : os.length ≤ 100
  ob : ∀ i, i < os.length → 0 ≤ ix os i ∧ ix os i < xs.length
  lo : ix os (os.length - 1) = (l : Int)
  ll : l < xs.length
  yl : ys.length = xs.length
  yb : ∀ i, i < xs.length → 0 ≤ ix ys i ∧ ix ys i ≤ 100
  y1 : 1 ≤ ix ys l
theorem tied_facts {m : Int} {xs : List Int} {k : Int} (h : tiedOn m xs k = true) : TiedF m xs (seatsBy m xs k) (seatOrder m xs k) (lastOfI (seatOrder m xs k)) := by
  unfold tiedOn at h
  rw [Bool.and_eq_true, decide_eq_true_eq] at h
  obtain ⟨h1, h2⟩ := h
  obtain ⟨m1, m5, k0, k1, n1, n6, hx⟩ := asked_facts h1
  obtain ⟨hol, hob⟩ := seatOrder_bd h1
  have hlast := hob ((seatOrder m xs k).length - 1) (by omega)
  have hb := cntTo_bd (n := xs.length) (os := seatOrder m xs k) (seatOrder m xs k).length hob
  refine ⟨m1, m5, n1, n6, hx, by omega, by omega, hob, by unfold lastOfI; omega, by unfold lastOfI; omega, ?_, ?_, ?_⟩
  · rw [seatsBy_yes h1, cntTo_len]
  · intro i hi
    rw [seatsBy_yes h1]
    have := hb i hi
    omega
  · rw [seatsBy_yes h1]
    obtain ⟨j, hj⟩ : ∃ j, (seatOrder m xs k).length = j + 1 := ⟨(seatOrder m xs k).length - 1, by omega⟩
    have hb2 := cntTo_bd (n := xs.length) (os := seatOrder m xs k) j (fun i hi => hob i (by omega))
    have hl : lastOfI (seatOrder m xs k) = (ix (seatOrder m xs k) j).toNat := by unfold lastOfI; rw [hj]; rfl
    have hj2 := hob j (by omega)
    rw [hj, cntTo, hl, ix_set (by rw [cntTo_len]; omega), if_pos rfl]
    have := hb2 (ix (seatOrder m xs k) j).toNat (by omega)
    omega
theorem tiedAt_same {m : Int} {xs ys : List Int} {l i : Nat} (h : i = l) : (!tiedAt m xs ys l i) = true := by unfold tiedAt; simp [h]
theorem tiedAt_ne {m : Int} {xs ys : List Int} {l i : Nat} (h : claimC m (ix xs i) (ix ys i) (ix xs l) (ix ys l - 1) ≠ 0) : (!tiedAt m xs ys l i) = true := by unfold tiedAt; simp [h]
theorem tiedAt_eq {m : Int} {xs ys : List Int} {l i : Nat} (h0 : i ≠ l) (h : claimC m (ix xs i) (ix ys i) (ix xs l) (ix ys l - 1) = 0) : (!tiedAt m xs ys l i) = false := by unfold tiedAt; simp [h0, h]
theorem implSeatsBy_nil (m : Int) (A : Option Addr) (n c : Nat) (xs : List Int) (k : Int) (w : World) (h : IntsAt w A n xs) (hn : n ≤ 1048576) (hq : seatsAskedB m xs k = false) :
    Calls Try.prog 28 #[.int .i64 m, .slice A n c, .int .i64 k] w fun e w' => e = .returned (.slice none 0 0) ∧ Below w.heap.size w w' := by
  have hq2 := hq
  unfold seatsAskedB at hq2
  cases hm : inB m 1 5
  · go_enter Try.func28, Try.ntmps28
    go_wp2_with (go_at_call 34; refine (within_any _ _ _ _).mono ?_; rintro e w' ⟨rfl, rfl⟩)
    go_ret
    exact ⟨rfl, Below.refl _ _⟩
  · rw [hm, Bool.true_and] at hq2
    clear hq
    go_enter Try.func28, Try.ntmps28
    go_wp2_with (go_at_call 34; refine (within_any _ _ _ _).mono ?_; rintro e w' ⟨rfl, rfl⟩)
    (with_reducible refine (quotaAsked_any _ _ _ _ _ _ h hn).mono ?_)
    rintro e w1 ⟨rfl, hb⟩
    rw [hq2]
    go_wp2
    go_ret
    exact ⟨rfl, hb⟩
end Go.Proofs.Ytmmmgppfmcklpaa
