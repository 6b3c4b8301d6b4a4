/- Quotas of seats. -/
import Derived.Test.YtoajmckhfnaifaaCounts
namespace Go.Proofs.Ytoajmckhfnaifaa
set_option linter.unusedVariables false
open Go.RowKit

def quotaOk (xs : List Int) (k : Int) : Bool := countsOk xs && inB k 0 100
theorem quotaOk_facts {xs : List Int} {k : Int} (h : quotaOk xs k = true) : countsOk xs = true ∧ 0 ≤ k ∧ k ≤ 100 := by
  unfold quotaOk at h
  rw [Bool.and_eq_true, inB_iff] at h
  exact h
def lowF (t a : Int) : Int := t / a
def upF (t a : Int) : Int := (t + a - 1) / a
def remF (t a : Int) : Int := t % a
/-- of each count a number made of its claim and of all counts -/
def mapQ (f : Int → Int → Int) (s k : Int) (xs : List Int) : List Int := xs.map fun x => f (x * k) s
theorem mapQ_len (f : Int → Int → Int) (s k : Int) (xs : List Int) : (mapQ f s k xs).length = xs.length := by simp [mapQ]
theorem mapQ_take (f : Int → Int → Int) (s k : Int) {xs : List Int} {j : Nat} (h : j < xs.length) : mapQ f s k (xs.take (j + 1)) = mapQ f s k (xs.take j) ++ [f (ix xs j * k) s] := by
  rw [take_ix h]; simp [mapQ]
def quotasOf (f : Int → Int → Int) (xs : List Int) (k : Int) : List Int := if quotaOk xs k then mapQ f (lsum xs) k xs else []
theorem quotasOf_yes {f : Int → Int → Int} {xs : List Int} {k : Int} (h : quotaOk xs k = true) : quotasOf f xs k = mapQ f (lsum xs) k xs := by unfold quotasOf; rw [if_pos h]
theorem quotasOf_no {f : Int → Int → Int} {xs : List Int} {k : Int} (h : quotaOk xs k = false) : quotasOf f xs k = [] := by unfold quotasOf; rw [h]; rfl
theorem claim_bd {x k : Int} (h1 : 0 ≤ x ∧ x ≤ 1000000) (h2 : 0 ≤ k) (h3 : k ≤ 100) : 0 ≤ x * k ∧ x * k ≤ 100000000 := by
  have a1 := Int.mul_nonneg h1.1 h2
  have a2 := Int.mul_le_mul h1.2 h3 h2 (by omega)
  exact ⟨a1, by omega⟩
theorem counts_bd {xs : List Int} (h : countsOk xs = true) : ∀ x ∈ xs, 0 ≤ x ∧ x ≤ 1000000000 := fun x hx => by have := (countsOk_facts h).2.2.1 x hx; omega
theorem div_bd {t a : Int} (h0 : 0 ≤ t) (h1 : 1 ≤ a) : 0 ≤ t / a ∧ t / a ≤ t := ⟨Int.ediv_nonneg h0 (by omega), Int.ediv_le_self a h0⟩
theorem mod_bd {t a : Int} (h1 : 1 ≤ a) : 0 ≤ t % a ∧ t % a < a := ⟨Int.emod_nonneg t (by omega), Int.emod_lt_of_pos t (by omega)⟩

theorem quotaAsked_any (A : Option Addr) (n c : Nat) (xs : List Int) (k : Int) (w : World) (h : IntsAt w A n xs) (hn : n ≤ 1048576) :
    Calls Try.prog 22 #[.slice A n c, .int .i64 k] w fun e w' => e = .returned (.bool (quotaOk xs k)) ∧ Below w.heap.size w w' := by
  unfold quotaOk
  cases hc : countsOk xs
  all_goals
    go_enter Try.func22, Try.ntmps22
    go_wp2_with fail
    refine (implCountsOk _ _ _ _ _ h hn).mono ?_
    rintro e w' ⟨rfl, hb⟩
    rw [hc]
    go_wp2_with (go_at_call 21; refine (within_any _ _ _ _).mono ?_; rintro e w' ⟨rfl, rfl⟩)
    go_ret
    exact ⟨rfl, hb⟩
end Go.Proofs.Ytoajmckhfnaifaa
