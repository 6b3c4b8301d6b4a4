/- The reference's CountRoundings and RoundTable. -/
import Derived.Test.YtmkfahcffeegeaaSrchW
import Derived.Test.YtmkfahcffeegeaaCountW
import Derived.Test.YtmkfahcffeegeaaCopy
namespace Go.Proofs.Ytmkfahcffeegeaa
set_option linter.unusedVariables false
open Go.RowKit

/-- the first rounding, or nothing -/
def rndT (t : List (List Int)) : List (List Int) := match allR t with
  | [] => []
  | m :: _ => rowsF (rx t 0).length m t.length
def hasR (t : List (List Int)) : Bool := !(allR t).isEmpty
theorem rndT_no {t : List (List Int)} (h : allR t = []) : rndT t = [] ∧ hasR t = false := by unfold rndT hasR; rw [h]; exact ⟨rfl, rfl⟩
theorem rndT_yes {t : List (List Int)} {m : List Int} {q : List (List Int)} (h : allR t = m :: q) : rndT t = rowsF (rx t 0).length m t.length ∧ hasR t = true := by unfold rndT hasR; rw [h]; exact ⟨rfl, rfl⟩
set_option maxRecDepth 100000 in
set_option maxHeartbeats 2000000 in
theorem specCountRoundings (A : Option Addr) (n cA : Nat) (t : List (List Int)) (w : World) (h : RowsAt w A n t) (hn : n ≤ 1048576) (hx : ∀ xs ∈ t, xs.length ≤ 1048576) :
    Calls Try.prog 6 #[.slice A n cA] w fun e w' => e = .returned (.int .i64 (cntR t)) ∧ Below w.heap.size w w' := by
  obtain rfl := h.len
  have HX := Lib.hid hx; clear hx
  go_enter Try.func6, Try.ntmps6
  go_wp2_with fail
  (with_reducible refine (specTableOk A _ cA t w h hn HX.out).mono ?_)
  rintro e W2 ⟨rfl, hW2⟩
  have hb2 : Below w.heap.size w W2 := by rw [← hW2]; exact Below.refl _ _
  clear hW2
  have h2 := h.below hb2
  have hz2 := hb2.size
  cases htk : tableOk t
  · have HR := Lib.hid (cntR_no htk)
    clear htk
    go_wp2
    go_ret
    exact ⟨by rw [HR.out]; rfl, hb2⟩
  · have HR := Lib.hid (cntR_yes htk)
    have HL := Lib.hid (allR_len t)
    have HA := Lib.hid (allR_yes htk)
    have F := tab_facts htk
    have ha3 := (Below.refl W2.heap.size W2).alloc (Nat.le_refl _) (.cells #[] 3)
    have K := Lib.hid (srch_any F A cA (t.length * (rx t 0).length) [] (some ⟨W2.heap.size, 0, none⟩) 0 100000 (W2.alloc (.cells #[] 3)) (by simp) (h2.below ha3) (IntsAt.nil _ _) (by simp) (by omega) (by omega) (by simp))
    clear htk F
    go_wp2_with fail
    refine K.out.mono ?_
    rintro e W4 ⟨v, rfl, _, hb4⟩
    have hmn : min (goF t (rx t 0).length t.length (t.length * (rx t 0).length) []).length 100000 = (allR t).length := by rw [← HA.out]; have := HL.out; omega
    rw [hmn]
    have hb5 := hb2.trans ((ha3.trans (hb4.mono ha3.size)).mono hz2)
    clear hmn K hb4 ha3
    go_wp2
    go_ret
    exact ⟨by rw [HR.out]; rfl, hb5⟩
set_option maxRecDepth 100000 in
set_option maxHeartbeats 2000000 in
theorem specRoundTable (A : Option Addr) (n cA : Nat) (t : List (List Int)) (w : World) (h : RowsAt w A n t) (hn : n ≤ 1048576) (hx : ∀ xs ∈ t, xs.length ≤ 1048576) :
    Calls Try.prog 10 #[.slice A n cA] w fun e w' => ∃ A' c', e = .returned (.tuple #[.slice A' (rndT t).length c', .bool (hasR t)]) ∧ OwnR w' w.heap.size w'.heap.size (.slice A' (rndT t).length c') (rndT t) ∧ (rndT t).length ≤ 1048576 ∧ (∀ xs ∈ rndT t, xs.length ≤ 1048576) ∧ Below w.heap.size w w' := by
  obtain rfl := h.len
  have HX := Lib.hid hx; clear hx
  go_enter Try.func10, Try.ntmps10
  go_wp2_with fail
  (with_reducible refine (specTableOk A _ cA t w h hn HX.out).mono ?_)
  rintro e W2 ⟨rfl, hW2⟩
  have hb2 : Below w.heap.size w W2 := by rw [← hW2]; exact Below.refl _ _
  clear hW2
  have h2 := h.below hb2
  have hz2 := hb2.size
  cases htk : tableOk t
  · have HR := Lib.hid (rndT_no (allR_no htk))
    clear htk
    go_wp2
    go_ret2
    rw [HR.out.1, HR.out.2]
    exact ⟨none, 0, rfl, OwnR.nil _ _ _, by simp, by simp, hb2⟩
  · have HA := Lib.hid (allR_yes htk)
    have F := tab_facts htk
    have HF := Lib.hid F
    have ha3 := (Below.refl W2.heap.size W2).alloc (Nat.le_refl _) (.cells #[] 3)
    have K := Lib.hid (srch_any F A cA (t.length * (rx t 0).length) [] (some ⟨W2.heap.size, 0, none⟩) 0 1 (W2.alloc (.cells #[] 3)) (by simp) (h2.below ha3) (IntsAt.nil _ _) (by simp) (by omega) (by omega) (by simp))
    clear htk F
    go_wp2_with fail
    refine K.out.mono ?_
    rw [← HA.out]
    rintro e W4 ⟨v, rfl, hf, hb4⟩
    have hb5 := hb2.trans ((ha3.trans (hb4.mono ha3.size)).mono hz2)
    clear K hb4 ha3
    cases hq : allR t with
    | nil =>
      rw [hq] at hf
      have hv : v = .slice none 0 0 := hf
      subst hv
      have HR := Lib.hid (rndT_no hq)
      clear hq hf
      go_wp2_with fail
      (with_reducible refine (l17Copy_any none 0 0 [] W4 (OwnR.nil W4 0 0).at_ (by omega) (by simp)).mono ?_)
      rintro e W6 ⟨A', c', rfl, o6, hb6⟩
      have hb7 := hb5.trans (hb6.mono hb5.size)
      go_wp2
      go_ret2
      rw [HR.out.1, HR.out.2]
      exact ⟨A', c', rfl, o6.mono hb5.size (Nat.le_refl _), by simp, by simp, hb7⟩
    | cons m q =>
      rw [hq] at hf
      obtain ⟨Av, dv, rfl, hdv, hrv⟩ := hf
      have HR := Lib.hid (rndT_yes hq)
      have hl : Hid ((rndT t).length = t.length) := by show _ = _; rw [HR.out.1, rowsF_len]
      have hmn : min (m :: q).length 1 = 1 := by simp
      rw [hmn]
      clear hq hmn
      rw [← HR.out.1] at hrv
      have hsm : ∀ xs ∈ rndT t, xs.length ≤ 1048576 := by rw [HR.out.1]; exact rowsF_small _ _ _ HF.out.c4
      have K := Lib.hid (l17Copy_any Av t.length dv (rndT t) W4 hrv hn hsm)
      have HSM := Lib.hid hsm
      clear hsm hrv
      go_wp2_with fail
      refine K.out.mono ?_
      rintro e W6 ⟨A', c', rfl, o6, hb6⟩
      have hb7 := hb5.trans (hb6.mono hb5.size)
      go_wp2
      go_ret2
      have HS := hl.out
      exact ⟨A', c', by rw [HS, HR.out.2]; rfl, by rw [HS]; exact o6.mono hb5.size (Nat.le_refl _), by omega, HSM.out, hb7⟩
end Go.Proofs.Ytmkfahcffeegeaa
