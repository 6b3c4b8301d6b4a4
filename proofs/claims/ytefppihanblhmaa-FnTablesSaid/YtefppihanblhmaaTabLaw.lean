/- The law on tables: plain facts, and the calls as the law meets them. -/
import Derived.Test.YtefppihanblhmaaRoundM
import Derived.Test.YtefppihanblhmaaCurT
import Derived.Test.YtefppihanblhmaaLawTR
import Derived.Test.YtefppihanblhmaaRoundTW
import Derived.Test.YtefppihanblhmaaCountW
import Derived.Test.YtefppihanblhmaaTab2
import Derived.Test.YtefppihanblhmaaTab3
import Derived.Test.YtefppihanblhmaaIsRnd
namespace Go.Proofs.Ytefppihanblhmaa
set_option linter.unusedVariables false
open Go.RowKit

/-- what the law is told of the table that is drawn -/
structure TF (t : List (List Int)) (L k N : Nat) (S : Int) : Prop where
  ok : tableOk t = true
  len : t.length = L
  l1 : 1 ≤ L
  l3 : L ≤ 3
  k1 : 1 ≤ k
  k3 : k ≤ 3
  row : ∀ xs ∈ t, xs.length = k
  ent : ∀ xs ∈ t, ∀ x ∈ xs, 0 ≤ x ∧ x ≤ 44
  n1 : 1 ≤ N
  cnt : cntR t = N
  cntU : cntR (turnR t) = N
  has : hasR t = true
  rnd : isRounding t (rndT t) = true
  rl : (rndT t).length = L
  rrow : ∀ xs ∈ rndT t, xs.length = k
  uok : tableOk (turnR t) = true
  ul : (turnR t).length = k
  urow : ∀ xs ∈ turnR t, xs.length = L
  uu : turnR (turnR t) = t
  erow : ∀ xs ∈ roundR t, xs.length = k
  tot : lsum (rsums t) = S
theorem TF.of {k : Nat} {t : List (List Int)} (hl : 1 ≤ t.length ∧ t.length ≤ 3) (hk : 1 ≤ k ∧ k ≤ 3) (hD : DrT k t) : ∃ N S, TF t t.length k N S := by
  have h0 : (rx t 0).length = k := (hD _ (rx_mem (by omega))).1
  have ok : tableOk t = true := by
    unfold tableOk rect
    rw [Bool.and_eq_true, Bool.and_eq_true, inB_iff, inB_iff, List.all_eq_true, h0]
    refine ⟨⟨by omega, by omega⟩, fun xs hx => ?_⟩
    unfold rowOk
    rw [Bool.and_eq_true, List.all_eq_true]
    refine ⟨by simpa using (hD xs hx).1, fun x hxx => inB_iff.2 (by have := (hD xs hx).2 x hxx; omega)⟩
  have some_ := rndAll_some ok hl.2 (by omega) fun xs hx x hxx => by have := (hD xs hx).2 x hxx; omega
  have e1 : allR t = rndAll t := allR_yes ok
  have uok := turn_ok ok
  have e2 : allR (turnR t) = rndAll (turnR t) := allR_yes uok
  obtain ⟨m, q, hmq⟩ : ∃ m q, allR t = m :: q := by
    rw [e1]
    cases h : rndAll t with
    | nil => exact absurd h some_
    | cons m q => exact ⟨m, q, rfl⟩
  obtain ⟨r1, r2⟩ := rndT_yes hmq
  have hm : m ∈ rndAll t := by rw [← e1, hmq]; simp
  have hm2 := goF_mem _ _ _ _ _ m hm
  have hR : isRounding t (rndT t) = true := by rw [r1]; exact hm2.1
  obtain ⟨a3, a4, a5, _⟩ := (isRounding_iff ok).1 hR
  have e : (rx (turnR t) 0).length = t.length := by rw [rx_turnR t 0 (by omega), colOf_len]
  refine ⟨(allR t).length, lsum (rsums t), ⟨ok, rfl, hl.1, hl.2, hk.1, hk.2, fun xs hx => (hD xs hx).1, fun xs hx => (hD xs hx).2, by rw [hmq]; simp, cntR_yes ok, ?_, r2, hR, a4, fun xs hx => ?_, uok, by rw [turnR_len, h0], fun xs hx => ?_, turn_turn ok, fun xs hx => ?_, rfl⟩⟩
  · rw [cntR_yes uok, e2, e1, rndAll_turn ok]
  · rw [rows_same a3 xs hx, a5, h0]
  · rw [rows_same uok xs hx, e]
  · unfold roundR at hx
    obtain ⟨y, hy, rfl⟩ := List.mem_map.1 hx
    rw [roundRow_len]; exact (hD y hy).1
end Go.Proofs.Ytefppihanblhmaa
