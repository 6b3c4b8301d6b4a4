/- Seats that keep the quota. -/
import Derived.Test.YtoajmckhfnaifaaQuotas
namespace Go.Proofs.Ytoajmckhfnaifaa
set_option linter.unusedVariables false
open Go.RowKit

def seatsOk (xs ys : List Int) : Bool := countsOk xs && decide ((ys.length : Int) = xs.length) && ys.all (inB · 0 100) && decide (lsum ys ≤ 100)
theorem seatsOk_facts {xs ys : List Int} (h : seatsOk xs ys = true) : countsOk xs = true ∧ ys.length = xs.length ∧ (∀ y ∈ ys, 0 ≤ y ∧ y ≤ 1000000000) ∧ (∀ y ∈ ys, 0 ≤ y ∧ y ≤ 100) ∧ 0 ≤ lsum ys ∧ lsum ys ≤ 100 := by
  unfold seatsOk at h
  rw [Bool.and_eq_true, Bool.and_eq_true, Bool.and_eq_true, decide_eq_true_eq, List.all_eq_true, decide_eq_true_eq] at h
  have h1 : ∀ y ∈ ys, 0 ≤ y ∧ y ≤ 100 := fun y hy => inB_iff.1 (h.1.2 y hy)
  have h2 := lsum_bd ys 100 h1
  exact ⟨h.1.1.1, by omega, fun y hy => by have := h1 y hy; omega, h1, h2.1, h.2⟩
theorem calls_drew {P : Program} {f : FuncId} {args : Array Value} {w : World} {v : Value} (h : Calls P f args w fun e w' => e = .returned v ∧ w = w') :
    Calls P f args w fun e w' => e = .returned v ∧ ∃ m, w' = w.drewN m := h.mono fun _ _ ⟨he, hw⟩ => ⟨he, 0, hw ▸ rfl⟩

set_option maxHeartbeats 400000 in
theorem seatsAsked_any (A : Option Addr) (n c : Nat) (xs : List Int) (B : Option Addr) (m d : Nat) (ys : List Int) (w : World) (h : IntsAt w A n xs) (hn : n ≤ 1048576) (g : IntsAt w B m ys) (hm : m ≤ 1048576) :
    Calls Try.prog 24 #[.slice A n c, .slice B m d] w fun e w' => e = .returned (.bool (seatsOk xs ys)) ∧ Below w.heap.size w w' := by
  obtain rfl := h.len
  obtain rfl := g.len
  unfold seatsOk
  cases hc : countsOk xs
  · go_enter Try.func24, Try.ntmps24
    go_wp2_with fail
    refine (implCountsOk _ _ _ _ _ h hn).mono ?_
    rintro e w1 ⟨rfl, hb⟩
    rw [hc]
    go_wp2
    go_ret
    exact ⟨rfl, hb⟩
  by_cases hl : (ys.length : Int) = xs.length
  · rw [decide_eq_true hl]
    cases ha : ys.all (inB · 0 100)
    · go_enter Try.func24, Try.ntmps24
      go_wp2_with fail
      refine (implCountsOk _ _ _ _ _ h hn).mono ?_
      rintro e w1 ⟨rfl, hb⟩
      rw [hc]
      go_wp2_with fail
      refine (allWithin_any _ _ _ _ _ _ _ (g.below hb) (by omega)).mono ?_
      rintro e w2 ⟨rfl, hb2⟩
      rw [ha]
      have hb3 := hb.trans (hb2.mono hb.size)
      clear hb hb2
      go_wp2
      go_ret
      exact ⟨rfl, hb3⟩
    · have HX := Lib.hid (fun y (hy : y ∈ ys) => (show 0 ≤ y ∧ y ≤ 1000000000 by have := inB_iff.1 (List.all_eq_true.1 ha y hy); omega))
      go_enter Try.func24, Try.ntmps24
      go_wp2_with fail
      refine (implCountsOk _ _ _ _ _ h hn).mono ?_
      rintro e w1 ⟨rfl, hb⟩
      rw [hc]
      go_wp2_with fail
      refine (allWithin_any _ _ _ _ _ _ _ (g.below hb) (by omega)).mono ?_
      rintro e w2 ⟨rfl, hb2⟩
      rw [ha]
      have hb3 := hb.trans (hb2.mono hb.size)
      clear hb hb2
      go_wp2_with fail
      refine (sumOf_any _ _ _ _ _ (g.below hb3) hm HX.out).mono ?_
      rintro e w3 ⟨rfl, rfl⟩
      go_wp2
      go_ret
      exact ⟨rfl, hb3⟩
  · rw [decide_eq_false hl]
    have hlt : ys.length < xs.length ∨ xs.length < ys.length := by omega
    rcases hlt with hlt | hlt
    all_goals
      go_enter Try.func24, Try.ntmps24
      go_wp2_with fail
      refine (implCountsOk _ _ _ _ _ h hn).mono ?_
      rintro e w1 ⟨rfl, hb⟩
      rw [hc]
      go_wp2
      go_ret
      exact ⟨rfl, hb⟩

/-- each party has no fewer seats than its lower quota and no more than its upper one -/
def keeps (xs ys : List Int) : Bool := seatsOk xs ys && allN (fun j => inB (ix ys j) (ix (quotasOf lowF xs (lsum ys)) j) (ix (quotasOf upF xs (lsum ys)) j)) ys.length
theorem quotasOf_len {xs ys : List Int} (f : Int → Int → Int) (h : seatsOk xs ys = true) : (quotasOf f xs (lsum ys)).length = ys.length := by
  obtain ⟨h1, h2, _, _, h5, h6⟩ := seatsOk_facts h
  rw [quotasOf_yes (by unfold quotaOk; rw [h1, inB_iff.2 ⟨h5, h6⟩]; rfl), mapQ_len, h2]

end Go.Proofs.Ytoajmckhfnaifaa
