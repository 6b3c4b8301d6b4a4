/- A table and its rounding. -/
import Derived.Test.YtefppihanblhmaaTab3
import Derived.Test.YtefppihanblhmaaRnd
import Derived.Deep.DrawnRows
namespace Go.Proofs.Ytefppihanblhmaa
set_option linter.unusedVariables false
open Go.RowKit
attribute [local go_sem ↓] Go.wp_at_zero Go.wp_at_succ

/-- the second half: rows, sums of rows and columns, the total -/
def rndRest (t r : List (List Int)) : Bool := allRnd (rowSumsOf t) (rowSumsOf r) && allRnd (colSumsOf t) (colSumsOf r) && isRnd (totalOf t) (totalOf r)
def rndRows (t r : List (List Int)) : Bool := allN (fun i => allRnd (rx t i) (rx r i)) t.length
def rndSame (t r : List (List Int)) : Bool := tableOk t && tableOk r && (t.length == r.length) && ((rx t 0).length == (rx r 0).length)
def isRounding (t r : List (List Int)) : Bool := rndSame t r && rndRows t r && rndRest t r
theorem isRounding_no {t r : List (List Int)} (h : rndSame t r = false) : isRounding t r = false := by unfold isRounding; rw [h]; rfl
theorem isRounding_rows {t r : List (List Int)} (h : rndRows t r = false) : isRounding t r = false := by unfold isRounding; rw [h]; simp
theorem isRounding_yes {t r : List (List Int)} (h : rndSame t r = true) (h2 : rndRows t r = true) : isRounding t r = rndRest t r := by unfold isRounding; rw [h, h2]; rfl



set_option maxRecDepth 100000 in
set_option maxHeartbeats 2000000 in
theorem implIsRounding (A : Option Addr) (n c : Nat) (xss : List (List Int)) (B : Option Addr) (m d : Nat) (yss : List (List Int)) (w : World) (h : RowsAt w A n xss) (hn : n ≤ 1048576) (hx : ∀ xs ∈ xss, xs.length ≤ 1048576)
    (h' : RowsAt w B m yss) (hm : m ≤ 1048576) (hy : ∀ xs ∈ yss, xs.length ≤ 1048576) :
    Calls Try.prog 10 #[.slice A n c, .slice B m d] w fun e w' => e = .returned (.bool (isRounding xss yss)) ∧ Below w.heap.size w w' := by
  have HX := Lib.hid hx
  have HY := Lib.hid hy
  clear hx hy
  obtain rfl := h.len
  obtain rfl := h'.len
  have K1 : Hid (∀ L : Later w, Calls Try.prog 9 #[.slice A xss.length c] L.W fun e W' => e = .returned (.bool (tableOk xss)) ∧ ∃ L' : Later w, W' = L'.W) := fun L => L.call (implTableOk A xss.length c xss L.W (h.below L.h) hn HX.out)
  have K2 : Hid (∀ L : Later w, Calls Try.prog 9 #[.slice B yss.length d] L.W fun e W' => e = .returned (.bool (tableOk yss)) ∧ ∃ L' : Later w, W' = L'.W) := fun L => L.call (implTableOk B yss.length d yss L.W (h'.below L.h) hm HY.out)
  cases ht : tableOk xss
  · rw [isRounding_no (by unfold rndSame; rw [ht]; rfl)]
    rw [ht] at K1
    go_enter Try.func10, Try.ntmps10
    go_wp2
    refine wp_region_later (by kernel_rfl) (by kernel_rfl) ?_
    repeat (go_big_quiet_step ((exact K1.out _)))
    (refine wpQuiet_nil ?_; rintro _ ⟨⟨wl, hbl⟩, rfl⟩)
    go_wp2
    go_ret
    exact ⟨rfl, hbl⟩
  cases ht' : tableOk yss
  · rw [isRounding_no (by unfold rndSame; rw [ht, ht']; rfl)]
    rw [ht] at K1
    rw [ht'] at K2
    go_enter Try.func10, Try.ntmps10
    go_wp2
    refine wp_region_later (by kernel_rfl) (by kernel_rfl) ?_
    repeat (go_big_quiet_step ((first | (with_reducible exact K1.out _) | (with_reducible exact K2.out _))))
    (refine wpQuiet_nil ?_; rintro _ ⟨⟨wl, hbl⟩, rfl⟩)
    go_wp2
    go_ret
    exact ⟨rfl, hbl⟩
  have p1 : 0 < xss.length := by have := tableOk_facts ht; omega
  have p2 : 0 < yss.length := by have := tableOk_facts ht'; omega
  obtain ⟨b1, o1, A1, c1, rfl, hb1, hc1, _, _⟩ := h.at_ p1
  obtain ⟨b2, o2, A2, c2, rfl, hb2, hc2, _, _⟩ := h'.at_ p2
  rw [Nat.add_zero] at hc1 hc2
  have q1 : ∀ L : Later w, L.W.cell? ⟨b1, o1, none⟩ = some (.slice A1 (rx xss 0).length c1) := fun L => L.cell hc1
  have q2 : ∀ L : Later w, L.W.cell? ⟨b2, o2, none⟩ = some (.slice A2 (rx yss 0).length c2) := fun L => L.cell hc2
  have HC := Lib.hid (And.intro hc1 hc2)
  clear hc1 hc2
  by_cases e1 : xss.length = yss.length
  case neg =>
    rw [isRounding_no (by unfold rndSame; rw [ht, ht']; simp [e1])]
    rw [ht] at K1
    rw [ht'] at K2
    have e2 : ((xss.length : Int) != (yss.length : Int)) = true := by rw [bne_iff_ne]; omega
    clear e1
    go_enter Try.func10, Try.ntmps10
    go_wp2
    refine wp_region_later (by kernel_rfl) (by kernel_rfl) ?_
    repeat (go_big_quiet_step ((first | (with_reducible exact K1.out _) | (with_reducible exact K2.out _))))
    (refine wpQuiet_nil ?_; rintro _ ⟨⟨wl, hbl⟩, rfl⟩)
    go_wp2
    go_ret
    exact ⟨rfl, hbl⟩
  have e2 : ((xss.length : Int) != (yss.length : Int)) = false := by rw [bne_eq_false_iff_eq]; omega
  have E1 := Lib.hid e1
  clear e1
  by_cases e3 : (rx xss 0).length = (rx yss 0).length
  case neg =>
    rw [isRounding_no (by unfold rndSame; rw [ht, ht', E1.out]; simp [e3])]
    rw [ht] at K1
    rw [ht'] at K2
    have e4 : (((rx xss 0).length : Int) != ((rx yss 0).length : Int)) = true := by rw [bne_iff_ne]; omega
    clear e3
    go_enter Try.func10, Try.ntmps10
    go_wp2
    refine wp_region_later (by kernel_rfl) (by kernel_rfl) ?_
    repeat (go_big_quiet_step ((first | (with_reducible exact K1.out _) | (with_reducible exact K2.out _))))
    (refine wpQuiet_nil ?_; rintro _ ⟨⟨wl, hbl⟩, rfl⟩)
    go_wp2
    go_ret
    exact ⟨rfl, hbl⟩
  have e4 : (((rx xss 0).length : Int) != ((rx yss 0).length : Int)) = false := by rw [bne_eq_false_iff_eq]; omega
  have E3 := Lib.hid e3
  clear e3
  have HS : Hid (rndSame xss yss = true) := by show rndSame xss yss = true; unfold rndSame; rw [ht, ht', E1.out, E3.out]; simp
  have F1 := Lib.hid (tableOk_facts ht)
  have F2 := Lib.hid (tableOk_facts ht')
  have HT := Lib.hid ht
  have HT' := Lib.hid ht'
  rw [ht] at K1
  rw [ht'] at K2
  have n1 : xss.length ≤ yss.length := by have := E1.out; omega
  have nl1 : (rowSumsOf xss).length ≤ (rowSumsOf yss).length := by rw [rowSumsOf_yes HT.out, rowSumsOf_yes HT'.out, rsums_len, rsums_len]; exact n1
  have nl2 : (colSumsOf xss).length ≤ (colSumsOf yss).length := by rw [colSumsOf_yes HT.out, colSumsOf_yes HT'.out, rsums_len, rsums_len, turnR_len, turnR_len]; exact Nat.le_of_eq E3.out
  go_enter Try.func10, Try.ntmps10
  go_wp2
  refine wp_region_later (by kernel_rfl) (by kernel_rfl) ?_
  repeat (go_big_quiet_step ((first | (with_reducible exact K1.out _) | (with_reducible exact K2.out _))))
  (refine wpQuiet_nil ?_; rintro _ ⟨⟨wl, hbl⟩, rfl⟩)
  clear q1 q2 ht ht' e2 e4
  go_wp2
  go_loopw [5, 6, 35] (fun _ _ i wr => ∃ k : Nat, k ≤ xss.length ∧ i = .int .i64 k ∧ allN (fun i => allRnd (rx xss i) (rx yss i)) k = true ∧ Below w.heap.size w wr) (fun _ _ i _ => xss.length - (intOf i).toNat)
  case atStart => exact ⟨0, Nat.zero_le _, rfl, rfl, hbl⟩
  case round =>
    obtain ⟨k, hk, rfl, hall, hb⟩ := hrel
    clear hbl
    have HA := Lib.hid hall
    clear hall
    by_cases hlt : k < xss.length
    · obtain ⟨g1, r1, A3, c3, e, hg1, hck, hcc, hin⟩ := (h.below hb).at_ hlt
      cases e
      obtain ⟨g2, r2, A4, c4, e, hg2, hck2, hcc2, hin2⟩ := (h'.below hb).at_ (k := k) (by omega)
      cases e
      have hxl := HX.out _ (rx_mem hlt)
      have hle : (rx xss k).length ≤ (rx yss k).length := by
        have a1 := (F1.out.2.2.2.2 _ (rx_mem hlt)).1
        have a2 := (F2.out.2.2.2.2 _ (rx_mem (xss := yss) (j := k) (by omega))).1
        have a3 := E3.out
        omega
      cases hr : allRnd (rx xss k) (rx yss k)
      · have HF : Hid (isRounding xss yss = false) := isRounding_rows (allN_false (p := fun i => allRnd (rx xss i) (rx yss i)) hlt hr)
        go_wp2_with (go_at_call 23; refine (areRounded_any _ _ _ _ _ _ _ _ _ hin hin2 hxl hle).mono ?_; rintro e w' ⟨rfl, rfl⟩)
        go_ret
        exact ⟨ret_b HF.out.symm, hb⟩
      · have HN := Lib.hid (allN_step HA.out hr)
        go_wp2_with (go_at_call 23; refine (areRounded_any _ _ _ _ _ _ _ _ _ hin hin2 hxl hle).mono ?_; rintro e w' ⟨rfl, rfl⟩)
        go_roundw
        case rel => exact ⟨k + 1, by omega, by go_num, HN.out, hb⟩
        case measure => simp [intOf]; omega
    · obtain rfl : k = xss.length := by omega
      have HY1 : Hid (isRounding xss yss = rndRest xss yss) := isRounding_yes HS.out HA.out
      go_wp2_with fail
      refine (implRowSums _ _ _ _ _ (h.below hb) hn HX.out).mono ?_
      rintro e w3 ⟨A3, c3, rfl, o3, q3, b3⟩
      have s3 := hb.size
      replace hb := hb.trans (b3.mono s3)
      clear b3
      go_wp2_with fail
      refine (implRowSums _ _ _ _ _ (h'.below hb) hm HY.out).mono ?_
      rintro e w4 ⟨A4, c4, rfl, o4, q4, b4⟩
      have s4 := hb.size
      replace o3 := o3.belowW b4
      replace hb := hb.trans (b4.mono s4)
      clear b4
      go_wp2_with fail
      refine (areRounded_any _ _ _ _ _ _ _ _ _ o3.at_ o4.at_ q3 nl1).mono ?_
      rintro e w5 ⟨rfl, rfl⟩
      clear o3 o4
      cases z1 : allRnd (rowSumsOf xss) (rowSumsOf yss)
      · have HZ : Hid (isRounding xss yss = false) := by show _ = _; rw [HY1.out]; unfold rndRest; rw [z1]; rfl
        go_wp2
        go_ret
        exact ⟨ret_b HZ.out.symm, hb⟩
      go_wp2_with fail
      refine (implColumnSums _ _ _ _ _ (h.below hb) hn HX.out).mono ?_
      rintro e w3 ⟨A3, c3, rfl, o3, q3, b3⟩
      have s3 := hb.size
      replace hb := hb.trans (b3.mono s3)
      clear b3
      go_wp2_with fail
      refine (implColumnSums _ _ _ _ _ (h'.below hb) hm HY.out).mono ?_
      rintro e w4 ⟨A4, c4, rfl, o4, q4, b4⟩
      have s4 := hb.size
      replace o3 := o3.belowW b4
      replace hb := hb.trans (b4.mono s4)
      clear b4
      go_wp2_with fail
      refine (areRounded_any _ _ _ _ _ _ _ _ _ o3.at_ o4.at_ q3 nl2).mono ?_
      rintro e w5 ⟨rfl, rfl⟩
      clear o3 o4
      cases z2 : allRnd (colSumsOf xss) (colSumsOf yss)
      · have HZ : Hid (isRounding xss yss = false) := by show _ = _; rw [HY1.out]; unfold rndRest; rw [z1, z2]; rfl
        go_wp2
        go_ret
        exact ⟨ret_b HZ.out.symm, hb⟩
      have HZ : Hid (isRounding xss yss = isRnd (totalOf xss) (totalOf yss)) := by show _ = _; rw [HY1.out]; unfold rndRest; rw [z1, z2]; rfl
      go_wp2_with fail
      refine (implTotalOf _ _ _ _ _ (h.below hb) hn HX.out).mono ?_
      rintro e w6 ⟨rfl, b6⟩
      have s6 := hb.size
      replace hb := hb.trans (b6.mono s6)
      clear b6
      go_wp2_with fail
      refine (implTotalOf _ _ _ _ _ (h'.below hb) hm HY.out).mono ?_
      rintro e w7 ⟨rfl, b7⟩
      have s7 := hb.size
      replace hb := hb.trans (b7.mono s7)
      clear b7
      go_wp2_with fail
      refine (implIsRoundedTo _ _ _).mono ?_
      rintro e w8 ⟨rfl, rfl⟩
      go_wp2
      go_ret
      exact ⟨ret_b HZ.out.symm, hb⟩
end Go.Proofs.Ytefppihanblhmaa
