/- Markets: the check of a market, matchings, a matching turned round. -/
import Derived.Test.YtnoanomihifobaaDoorRankOk
import Derived.Test.YtnoanomihifobaaDoorPair
namespace Go.Proofs.YtnoanomihifobaaDoor
set_option linter.unusedVariables false
open Go.RowKit

theorem rankTo_iff {m : Int} {xs : List Int} {k : Nat} : rankTo m xs k = true ↔ ∀ i, i < k → (0 ≤ ix xs i ∧ ix xs i < m) ∧ ix xs i ∉ xs.take i := by
  unfold rankTo
  rw [allN_iff]
  constructor
  · intro h i hi
    have := h i hi
    rw [Bool.and_eq_true, inB_iff, Bool.not_eq_true', has_not] at this
    exact ⟨by omega, this.2⟩
  · intro h i hi
    rw [Bool.and_eq_true, inB_iff, Bool.not_eq_true', has_not]
    exact ⟨by have := h i hi; omega, (h i hi).2⟩
theorem rankOk_facts {m : Int} {xs : List Int} (h : rankOk m xs = true) : 1 ≤ m ∧ m ≤ 5 ∧ (xs.length : Int) = m ∧ ∀ i, i < xs.length → 0 ≤ ix xs i ∧ ix xs i < m := by
  unfold rankOk at h
  rw [Bool.and_eq_true, Bool.and_eq_true, inB_iff, decide_eq_true_eq, rankTo_iff] at h
  exact ⟨h.1.1.1, h.1.1.2, h.1.2, fun i hi => (h.2 i hi).1⟩

theorem isRanking_any (A : Option Addr) (n c : Nat) (xs : List Int) (w : World) (h : IntsAt w A n xs) (hn : n ≤ 1048576) (hc : n ≤ c) :
    Calls Tryd.prog 25 #[.slice A n c] w fun e w' => e = .returned (.bool (rankOk n xs)) ∧ w = w' := by
  go_enter Tryd.func25, Tryd.ntmps25
  go_wp2_with (go_at_call 39; (with_reducible refine (implRankingOk _ _ _ _ _ _ h hn hc).mono ?_); rintro e w' ⟨rfl, rfl⟩)
  go_ret
  exact ⟨rfl, rfl⟩
/-- all lists are rankings of m -/
def listsOk (m : Int) (xss : List (List Int)) : Bool := xss.all (rankOk m)
theorem any_not_lists (m : Int) (l : List (List Int)) : (!(l.any fun x => !rankOk m x)) = listsOk m l := by
  unfold listsOk
  rw [List.not_any_eq_all_not]
  congr 1
  funext x
  simp
theorem areRankings1 (A : Option Addr) (c : Nat) (xs : List Int) (m : Int) (B : Nat) (W : World) (h : IntsAt W A xs.length xs) (hn : xs.length ≤ 1048576) (hc : xs.length ≤ c) (h1 : W.cell? ⟨B, 0, none⟩ = some (.int .i64 m)) :
    Calls Tryd.prog 41 #[.slice A xs.length c, .pointer (some ⟨B, 0, none⟩)] W fun e W' => e = .returned (.bool (!rankOk m xs)) ∧ W = W' := by
  go_enter Tryd.func41, Tryd.ntmps41
  go_wp2_with (go_at_call 39; (with_reducible refine (implRankingOk _ _ _ _ _ _ h hn hc).mono ?_); rintro e w' ⟨rfl, rfl⟩)
  go_ret
  exact ⟨rfl, rfl⟩
set_option maxHeartbeats 400000 in
theorem areRankings_any (m : Int) (A : Option Addr) (n c : Nat) (xss : List (List Int)) (w : World) (h : RowsAt w A n xss) (hn : n ≤ 1048576) (hx : ∀ xs ∈ xss, xs.length ≤ 1048576) :
    Calls Tryd.prog 27 #[.int .i64 m, .slice A n c] w fun e w' => e = .returned (.bool (listsOk m xss)) ∧ Below w.heap.size w w' := by
  have hb2 : Below w.heap.size w (w.alloc (.cells #[.int .i64 m] 3)) := (Below.refl _ _).alloc (Nat.le_refl _) _
  have c1 := new_cell w (.int .i64 m) 3 rfl
  have hcf := containsFuncR_any 41 #[.pointer (some ⟨w.heap.size, 0, none⟩)] (fun r => !rankOk m r) A n c xss _ (h.below hb2) (by omega)
    (enters Tryd.func41 (by kernel_rfl) rfl)
    (fun A' c' xs W hxs hin hcc hbb => (areRankings1 A' c' xs m w.heap.size W hin (hx xs hxs) hcc ((hbb.cell (p := ⟨w.heap.size, 0, none⟩) (by simp)).trans c1)).mono fun e w' ⟨h1, h2⟩ => ⟨h1, h2 ▸ Below.refl _ _⟩)
  have hz : (w.alloc (.cells #[.int .i64 m] 3)).heap.size = w.heap.size + 1 := by simp
  rw [← any_not_lists]
  have HC := Lib.hid hcf
  clear hcf hx c1
  go_enter Tryd.func27, Tryd.ntmps27
  go_wp2_with fail
  refine HC.out.mono ?_
  rintro e w' ⟨rfl, hbw⟩
  have hfin := hb2.trans (hbw.mono (by omega))
  clear hbw hb2 hz
  go_wp2
  go_ret
  exact ⟨rfl, hfin⟩
set_option maxHeartbeats 400000 in
theorem l17Lists_any (m : Int) (A : Option Addr) (n c : Nat) (xss : List (List Int)) (w : World) (h : RowsAt w A n xss) (hn : n ≤ 1048576) (hx : ∀ xs ∈ xss, xs.length ≤ 1048576) :
    Calls Tryd.prog 22 #[.slice A n c, .int .i64 m] w fun e w' => e = .returned (.bool (decide ((n : Int) = m) && listsOk m xss)) ∧ Below w.heap.size w w' := by
  obtain rfl := h.len
  have HX := Lib.hid hx
  clear hx
  by_cases hl : (xss.length : Int) = m
  · rw [decide_eq_true hl, Bool.true_and]
    obtain rfl := hl
    go_enter Tryd.func22, Tryd.ntmps22
    go_wp2
    go_loopw [6, 13] (fun _ i wr => ∃ k : Nat, k ≤ xss.length ∧ i = .int .i64 k ∧ (xss.take k).all (rankOk xss.length) = true ∧ Below w.heap.size w wr) (fun _ i _ => xss.length - (intOf i).toNat)
    case atStart => exact ⟨0, Nat.zero_le _, rfl, by simp, Below.refl _ _⟩
    case round =>
      obtain ⟨k, hk, rfl, hall, hb⟩ := hrel
      have HA := Lib.hid hall
      clear hall
      by_cases hlt : k < xss.length
      · obtain ⟨b, o, A', c', rfl, _, hck, hcc, hin⟩ := (h.below hb).at_ hlt
        have hlen := HX.out _ (rx_mem hlt)
        cases hv : rankOk xss.length (rx xss k)
        · have HS := Lib.hid (all_rx_false (p := rankOk xss.length) hlt hv)
          go_wp2_with fail
          (with_reducible refine (specRankingOk _ _ _ _ _ _ hin hlen hcc).mono ?_)
          rintro e w' ⟨rfl, hb'⟩
          have hb2 := hb.trans (hb'.mono hb.size)
          clear hb hb'
          rw [hv]
          go_wp2
          go_ret
          exact ⟨ret_b (by unfold listsOk; rw [HS.out]), hb2⟩
        · have HN := Lib.hid (all_take_rx hlt HA.out hv)
          go_wp2_with fail
          (with_reducible refine (specRankingOk _ _ _ _ _ _ hin hlen hcc).mono ?_)
          rintro e w' ⟨rfl, hb'⟩
          have hb2 := hb.trans (hb'.mono hb.size)
          clear hb hb'
          rw [hv]
          go_wp2
          go_roundw
          case rel => exact ⟨k + 1, by omega, by go_num, HN.out, hb2⟩
          case measure => simp [intOf]; omega
      · obtain rfl : k = xss.length := by omega
        go_wp2
        go_ret
        exact ⟨ret_b (by unfold listsOk; have := HA.out; rw [List.take_length] at this; rw [this]), hb⟩
  · rw [decide_eq_false hl, Bool.false_and]
    have h1 : ((xss.length : Int) != m) = true := by simpa using hl
    go_enter Tryd.func22, Tryd.ntmps22
    go_wp2
    go_ret
    exact ⟨rfl, Below.refl _ _⟩
/-- as many men as women, from 1 to 5, and each list a ranking -/
def marketOk (xss yss : List (List Int)) : Bool := inB xss.length 1 5 && decide ((yss.length : Int) = xss.length) && listsOk xss.length xss && listsOk xss.length yss
def matchOk (xss yss : List (List Int)) (zs : List Int) : Bool := marketOk xss yss && rankOk xss.length zs
set_option maxHeartbeats 800000 in
theorem implMarketOk (A : Option Addr) (n c : Nat) (xss : List (List Int)) (B : Option Addr) (m d : Nat) (yss : List (List Int)) (w : World) (h : RowsAt w A n xss) (hn : n ≤ 1048576) (hx : ∀ xs ∈ xss, xs.length ≤ 1048576)
    (g : RowsAt w B m yss) (hm : m ≤ 1048576) (hy : ∀ xs ∈ yss, xs.length ≤ 1048576) :
    Calls Tryd.prog 15 #[.agg #[.slice A n c, .slice B m d]] w fun e w' => e = .returned (.bool (marketOk xss yss)) ∧ Below w.heap.size w w' := by
  obtain rfl := h.len
  obtain rfl := g.len
  have HX := Lib.hid hx
  have HY := Lib.hid hy
  clear hx hy
  unfold marketOk
  have hall := pair_below w (.slice A xss.length c) (.slice B yss.length d) 24
  have hs0 := pair_size w (.slice A xss.length c) (.slice B yss.length d) 24
  have h0 := h.below hall
  have g0 := g.below hall
  cases h1 : inB xss.length 1 5
  · go_enter Tryd.func15, Tryd.ntmps15
    go_wp2_with (go_at_call 26; refine (within_any _ _ _ _).mono ?_; rintro e w' ⟨rfl, rfl⟩)
    go_ret
    exact ⟨rfl, hall⟩
  by_cases hl : (yss.length : Int) = xss.length
  · rw [decide_eq_true hl]
    have h2 : ((yss.length : Int) == xss.length) = true := by simpa using hl
    clear hl
    cases h3 : listsOk xss.length xss
    · go_enter Tryd.func15, Tryd.ntmps15
      go_wp2_with (go_at_call 26; refine (within_any _ _ _ _).mono ?_; rintro e w' ⟨rfl, rfl⟩)
      (with_reducible refine (areRankings_any _ _ _ _ _ _ h0 hn HX.out).mono ?_)
      rintro e w1 ⟨rfl, hb⟩
      rw [h3]
      have hb2 := hall.trans (hb.mono (by omega))
      clear hb hall hs0
      go_wp2
      go_ret
      exact ⟨rfl, hb2⟩
    go_enter Tryd.func15, Tryd.ntmps15
    go_wp2_with (go_at_call 26; refine (within_any _ _ _ _).mono ?_; rintro e w' ⟨rfl, rfl⟩)
    (with_reducible refine (areRankings_any _ _ _ _ _ _ h0 hn HX.out).mono ?_)
    rintro e w1 ⟨rfl, hb⟩
    rw [h3]
    have g1 := g0.below hb
    rw [hs0] at hb
    obtain ⟨c0, c1, f0, f1⟩ := pair_later hb
    have hb2 := hall.trans (hb.mono (by omega))
    clear hb hall hs0
    go_wp2_with fail
    (with_reducible refine (areRankings_any _ _ _ _ _ _ g1 hm HY.out).mono ?_)
    rintro e w2 ⟨rfl, hb⟩
    have hb3 := hb2.trans (hb.mono hb2.size)
    clear hb hb2
    go_wp2
    go_ret
    exact ⟨rfl, hb3⟩
  · rw [decide_eq_false hl]
    have h2 : ((yss.length : Int) == xss.length) = false := by simpa using hl
    go_enter Tryd.func15, Tryd.ntmps15
    go_wp2_with (go_at_call 26; refine (within_any _ _ _ _).mono ?_; rintro e w' ⟨rfl, rfl⟩)
    go_ret
    exact ⟨rfl, hall⟩
set_option maxHeartbeats 800000 in
theorem specMarketOk (A : Option Addr) (n c : Nat) (xss : List (List Int)) (B : Option Addr) (m d : Nat) (yss : List (List Int)) (w : World) (h : RowsAt w A n xss) (hn : n ≤ 1048576) (hx : ∀ xs ∈ xss, xs.length ≤ 1048576)
    (g : RowsAt w B m yss) (hm : m ≤ 1048576) (hy : ∀ xs ∈ yss, xs.length ≤ 1048576) :
    Calls Tryd.prog 11 #[.agg #[.slice A n c, .slice B m d]] w fun e w' => e = .returned (.bool (marketOk xss yss)) ∧ Below w.heap.size w w' := by
  obtain rfl := h.len
  obtain rfl := g.len
  have HX := Lib.hid hx
  have HY := Lib.hid hy
  clear hx hy
  have hall := pair_below w (.slice A xss.length c) (.slice B yss.length d) 24
  have hs0 := pair_size w (.slice A xss.length c) (.slice B yss.length d) 24
  have h0 := h.below hall
  have g0 := g.below hall
  cases h1 : inB xss.length 1 5
  · have e : marketOk xss yss = false := by unfold marketOk; rw [h1]; rfl
    rw [e]
    clear e
    go_enter Tryd.func11, Tryd.ntmps11
    go_wp2_with (go_at_call 21; refine (l01In_any _ _ _ _).mono ?_; rintro e w' ⟨rfl, rfl⟩)
    go_ret
    exact ⟨rfl, hall⟩
  have e : marketOk xss yss = (listsOk xss.length xss && (decide ((yss.length : Int) = xss.length) && listsOk xss.length yss)) := by
    unfold marketOk; rw [h1]; cases listsOk xss.length xss <;> cases decide ((yss.length : Int) = xss.length) <;> rfl
  rw [e]
  clear e
  cases h3 : listsOk xss.length xss
  · go_enter Tryd.func11, Tryd.ntmps11
    go_wp2_with (go_at_call 21; refine (l01In_any _ _ _ _).mono ?_; rintro e w' ⟨rfl, rfl⟩)
    (with_reducible refine (l17Lists_any _ _ _ _ _ _ h0 hn HX.out).mono ?_)
    rintro e w1 ⟨rfl, hb⟩
    rw [h3, Bool.and_false]
    have hb2 := hall.trans (hb.mono (by omega))
    clear hb hall hs0
    go_wp2
    go_ret
    exact ⟨rfl, hb2⟩
  rw [Bool.true_and]
  obtain ⟨r, hr⟩ : ∃ r : Bool, (decide ((yss.length : Int) = xss.length) && listsOk xss.length yss) = r := ⟨_, rfl⟩
  rw [hr]
  have HR := Lib.hid hr
  clear hr
  go_enter Tryd.func11, Tryd.ntmps11
  go_wp2_with (go_at_call 21; refine (l01In_any _ _ _ _).mono ?_; rintro e w' ⟨rfl, rfl⟩)
  (with_reducible refine (l17Lists_any _ _ _ _ _ _ h0 hn HX.out).mono ?_)
  rintro e w1 ⟨rfl, hb⟩
  rw [h3, show (decide ((xss.length : Int) = xss.length) && true) = true from by simp]
  have g1 := g0.below hb
  rw [hs0] at hb
  obtain ⟨c0, c1, f0, f1⟩ := pair_later hb
  have hb2 := hall.trans (hb.mono (by omega))
  clear hb hall hs0
  go_wp2_with fail
  (with_reducible refine (l17Lists_any _ _ _ _ _ _ g1 hm HY.out).mono ?_)
  rintro e w2 ⟨rfl, hb⟩
  rw [HR.out]
  have hb3 := hb2.trans (hb.mono hb2.size)
  clear hb hb2
  go_wp2
  go_ret
  exact ⟨rfl, hb3⟩
end Go.Proofs.YtnoanomihifobaaDoor
