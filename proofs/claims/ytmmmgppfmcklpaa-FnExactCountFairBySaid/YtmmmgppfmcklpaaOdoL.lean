/- The reference's CountFairBy. -/
import Derived.Test.YtmmmgppfmcklpaaOdoS
import Derived.Test.YtmmmgppfmcklpaaOrder
namespace Go.Proofs.Ytmmmgppfmcklpaa
set_option linter.unusedVariables false
open Go.RowKit

def fairAsk (m : Int) (xs : List Int) (k : Int) : Bool := seatsAskedB m xs k && decide (xs.length ≤ 3) && decide (k ≤ 20)
def cntAll (m : Int) (xs : List Int) (k : Int) : Nat := (upN k.toNat xs.length).countP fun l => l.sum == k.toNat && fairAll m xs (toI l)
def cntF (m : Int) (xs : List Int) (k : Int) : Int := if fairAsk m xs k then (cntAll m xs k : Int) else -1
theorem cntF_no {m : Int} {xs : List Int} {k : Int} (h : fairAsk m xs k = false) : cntF m xs k = -1 := by unfold cntF; rw [h]; rfl
theorem cntF_yes {m : Int} {xs : List Int} {k : Int} (h : fairAsk m xs k = true) : cntF m xs k = (cntAll m xs k : Int) := by unfold cntF; rw [h]; rfl
set_option maxHeartbeats 2000000 in
theorem specCountFairBy (m : Int) (A : Option Addr) (n c : Nat) (xs : List Int) (k : Int) (w : World) (h : IntsAt w A n xs) (hn : n ≤ 1048576) :
    Calls Try.prog 14 #[.int .i64 m, .slice A n c, .int .i64 k] w fun e w' => e = .returned (.int .i64 (cntF m xs k)) ∧ Below w.heap.size w w' := by
  obtain rfl := h.len
  have hbr := Below.refl w.heap.size w
  go_enter Try.func14, Try.ntmps14
  go_wp2_with fail
  (with_reducible refine (l14Ok_any m A _ c xs k w h hn).mono ?_)
  rintro e w2 ⟨rfl, rfl⟩
  cases hq : seatsAskedB m xs k
  · have HR := Lib.hid (cntF_no (m := m) (xs := xs) (k := k) (by unfold fairAsk; rw [hq]; rfl))
    clear hq
    go_wp2
    go_ret
    exact ⟨by rw [HR.out]; rfl, hbr⟩
  · obtain ⟨m1, m5, k0, k100, n1, n6, hv⟩ := asked_facts hq
    by_cases h3 : xs.length ≤ 3
    · by_cases h20 : k ≤ 20
      · have hask : fairAsk m xs k = true := by unfold fairAsk; rw [hq, decide_eq_true h3, decide_eq_true h20]; rfl
        have HR := Lib.hid (cntF_yes hask)
        have hcok : countsOk xs = true := by
          have := hq
          unfold seatsAskedB at this
          rw [Bool.and_eq_true] at this
          exact (quotaOk_facts this.2).1
        obtain ⟨kn, rfl⟩ : ∃ kn : Nat, k = (kn : Int) := ⟨k.toNat, by omega⟩
        obtain ⟨n', hn'⟩ : ∃ n', xs.length = n' + 1 := ⟨xs.length - 1, by omega⟩
        have ha := (Below.refl w.heap.size w).alloc (Nat.le_refl _) (.cells #[] 3)
        have K := Lib.hid (l14Lists_any m A xs.length c xs m1 m5 hcok h3 n' [] (some ⟨w.heap.size, 0, none⟩) 0 0 kn (w.alloc (.cells #[] 3)) (by omega) (h.below ha) (IntsAt.nil _ _) (by simp; omega))
        have hcc : Hid (cntG (fun l => fairAll m xs (toI l)) n' [] kn = cntAll m xs (kn : Int)) := by
          show _ = _
          rw [cntG_all _ kn n' [] kn (Nat.le_refl _)]
          unfold cntAll
          rw [hn']; rfl
        have h3' : (xs.length : Int) ≤ 3 := by omega
        clear hask hq hv hn'
        go_wp2_with fail
        refine K.out.mono ?_
        rintro e w3 ⟨rfl, hb3⟩
        have hb4 := ha.trans (hb3.mono ha.size)
        rw [hcc.out]
        clear K hb3 ha
        go_wp2
        go_ret
        exact ⟨by rw [HR.out]; rfl, hb4⟩
      · have HR := Lib.hid (cntF_no (m := m) (xs := xs) (k := k) (by unfold fairAsk; rw [decide_eq_false h20]; simp))
        have h3' : (xs.length : Int) ≤ 3 := by omega
        have h20' : (20 : Int) < k := by omega
        clear hq hv
        go_wp2
        go_ret
        exact ⟨by rw [HR.out]; rfl, hbr⟩
    · have HR := Lib.hid (cntF_no (m := m) (xs := xs) (k := k) (by unfold fairAsk; rw [decide_eq_false h3]; simp))
      have h3' : (3 : Int) < (xs.length : Int) := by omega
      clear hq hv
      go_wp2
      go_ret
      exact ⟨by rw [HR.out]; rfl, hbr⟩
end Go.Proofs.Ytmmmgppfmcklpaa
