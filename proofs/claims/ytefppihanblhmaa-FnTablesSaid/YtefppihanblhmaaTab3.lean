/- A table turned; sums of columns. -/
import Derived.Test.YtefppihanblhmaaTabSums
import Derived.Deep.DrawnRows
import Derived.Deep.RegionLaw
namespace Go.Proofs.Ytefppihanblhmaa
set_option linter.unusedVariables false
open Go.RowKit
attribute [local go_sem ↓] Go.wp_at_zero Go.wp_at_succ

def colOf (xss : List (List Int)) (k : Nat) : List Int := xss.map fun r => ix r k
def turnTo (xss : List (List Int)) (k : Nat) : List (List Int) := (List.range k).map (colOf xss)
def turnR (xss : List (List Int)) : List (List Int) := turnTo xss (rx xss 0).length
def turnOf (xss : List (List Int)) : List (List Int) := if tableOk xss then turnR xss else []
theorem turnOf_yes {xss : List (List Int)} (h : tableOk xss = true) : turnOf xss = turnR xss := by unfold turnOf; rw [if_pos h]
theorem turnOf_no {xss : List (List Int)} (h : tableOk xss = false) : turnOf xss = [] := by unfold turnOf; rw [h]; rfl
theorem colOf_take {xss : List (List Int)} {j k : Nat} (h : j < xss.length) : colOf (xss.take (j + 1)) k = colOf (xss.take j) k ++ [ix (rx xss j) k] := by
  rw [take_rx h]; simp [colOf]
theorem colOf_len (xss : List (List Int)) (k : Nat) : (colOf xss k).length = xss.length := by simp [colOf]
theorem turnTo_len (xss : List (List Int)) (k : Nat) : (turnTo xss k).length = k := by simp [turnTo]
theorem turnTo_succ (xss : List (List Int)) (k : Nat) : turnTo xss (k + 1) = turnTo xss k ++ [colOf xss k] := by simp [turnTo, List.range_succ]
theorem turnR_len (xss : List (List Int)) : (turnR xss).length = (rx xss 0).length := turnTo_len _ _
theorem turnR_rows {xss : List (List Int)} (hn : xss.length ≤ 1048576) : ∀ xs ∈ turnR xss, xs.length ≤ 1048576 := fun xs h => by
  unfold turnR turnTo at h
  obtain ⟨r, hr, rfl⟩ := List.mem_map.1 h
  rw [colOf_len]
  exact hn

/-- what 'out' holds when k columns are made and j numbers of the next -/
def turnMid (xss : List (List Int)) (k j : Nat) : List (List Int) := (turnTo xss k ++ List.replicate ((rx xss 0).length - k) []).set k (colOf (xss.take j) k)
theorem turnMid_zero (xss : List (List Int)) (k : Nat) (hk : k < (rx xss 0).length) : turnMid xss k 0 = turnTo xss k ++ List.replicate ((rx xss 0).length - k) [] := by
  unfold turnMid
  refine set_same (by simp [turnTo_len]; omega) ?_
  have e : ∀ m : Nat, rx (turnTo xss k ++ List.replicate m []) k = [] := fun m => by
    unfold rx
    simp only [List.getD]
    rw [List.getElem?_append_right (by rw [turnTo_len]; exact Nat.le_refl _), turnTo_len, Nat.sub_self]
    cases m <;> simp [List.replicate_succ]
  rw [e]
  simp [colOf]
theorem turnMid_row (xss : List (List Int)) (k j : Nat) (hk : k < (rx xss 0).length) : rx (turnMid xss k j) k = colOf (xss.take j) k := by
  unfold turnMid
  rw [rx_set (by simp [turnTo_len]; omega), if_pos rfl]
theorem turnMid_set (xss : List (List Int)) (k j : Nat) (hj : j < xss.length) : (turnMid xss k j).set k (colOf (xss.take j) k ++ [ix (rx xss j) k]) = turnMid xss k (j + 1) := by
  unfold turnMid
  rw [List.set_set, colOf_take hj]
theorem turnMid_end (xss : List (List Int)) (k : Nat) (hk : k < (rx xss 0).length) : turnMid xss k xss.length = turnTo xss (k + 1) ++ List.replicate ((rx xss 0).length - (k + 1)) [] := by
  unfold turnMid
  have e : (rx xss 0).length - k = ((rx xss 0).length - (k + 1)) + 1 := by omega
  rw [List.take_length, turnTo_succ, e, List.replicate_succ, List.set_append_right _ _ (by rw [turnTo_len]; omega), turnTo_len, Nat.sub_self]
  simp
theorem turnMid_len (xss : List (List Int)) (k j : Nat) (hk : k ≤ (rx xss 0).length) : (turnMid xss k j).length = (rx xss 0).length := by
  unfold turnMid
  simp [turnTo_len]
  omega

set_option maxRecDepth 100000 in
set_option maxHeartbeats 4000000 in
theorem implTurnTable (A : Option Addr) (n c : Nat) (xss : List (List Int)) (w : World) (h : RowsAt w A n xss) (hn : n ≤ 1048576) (hx : ∀ xs ∈ xss, xs.length ≤ 1048576) :
    Calls Try.prog 7 #[.slice A n c] w fun e w' => ∃ A' c', e = .returned (.slice A' (turnOf xss).length c') ∧
      OwnR w' w.heap.size w'.heap.size (.slice A' (turnOf xss).length c') (turnOf xss) ∧ (turnOf xss).length ≤ 1048576 ∧ (∀ xs ∈ turnOf xss, xs.length ≤ 1048576) ∧ Below w.heap.size w w' := by
  have HX := Lib.hid hx
  clear hx
  obtain rfl := h.len
  cases ht : tableOk xss
  · rw [turnOf_no ht]
    go_enter Try.func7, Try.ntmps7
    go_wp2_with fail
    refine (implTableOk _ _ _ _ _ h hn HX.out).mono ?_
    rintro e w1 ⟨rfl, hb⟩
    go_wp2
    go_ret
    exact ⟨none, 0, rfl, OwnR.nil _ _ _, by simp, by simp, hb⟩
  · rw [turnOf_yes ht, turnR_len]
    obtain ⟨t1, t2, t3, t4, t5⟩ := tableOk_facts ht
    have HB := Lib.hid t5
    clear t5
    have HR := Lib.hid (turnR_rows hn)
    go_enter Try.func7, Try.ntmps7
    go_wp2_with fail
    refine (implTableOk _ _ _ _ _ h hn HX.out).mono ?_
    rintro e w1 ⟨rfl, hb1⟩
    have hs1 := hb1.size
    obtain ⟨b0, o0, A0, c0, rfl, hb0, hc0, hl0, _⟩ := (h.below hb1).at_ (k := 0) (by omega)
    rw [Nat.add_zero] at hc0
    go_wp2_with (first | (at_make; refine wpList_make_rows _ rfl _ _ rfl (rx xss 0).length rfl rfl (by omega) ?_) | fail)
    intro w2 hown2 hb2 hz2
    have hbt := hb1.trans (hb2.mono hs1)
    clear hc0 hb1 hb2
    go_wp2
    go_loopw [4, 6, 17, 22] (fun _ _ i _ wr => ∃ k : Nat, k ≤ (rx xss 0).length ∧ i = .int .i64 k ∧ OwnR wr w.heap.size wr.heap.size (.slice (some ⟨w1.heap.size, 0, none⟩) (rx xss 0).length (rx xss 0).length) (turnTo xss k ++ List.replicate ((rx xss 0).length - k) []) ∧ Below w.heap.size w wr)
      (fun _ _ i _ _ => (rx xss 0).length - (intOf i).toNat)
    case atStart => exact ⟨0, Nat.zero_le _, rfl, by simpa [turnTo] using hown2.mono hs1 (by omega), hbt⟩
    case round =>
      obtain ⟨k, hk, rfl, hown, hb⟩ := hrel
      obtain ⟨wo, rfl⟩ : ∃ wo : World, wo = wr := ⟨_, rfl⟩
      clear hown2 hbt hz2
      by_cases hlt : k < (rx xss 0).length
      · rw [← turnMid_zero xss k hlt] at hown
        go_wp2
        go_loopw [6, 22] (fun _ i wi => ∃ j : Nat, j ≤ xss.length ∧ i = .int .i64 j ∧ OwnR wi w.heap.size wi.heap.size (.slice (some ⟨w1.heap.size, 0, none⟩) (rx xss 0).length (rx xss 0).length) (turnMid xss k j) ∧ Below w.heap.size w wi)
          (fun _ i _ => xss.length - (intOf i).toNat)
        case atStart => exact ⟨0, Nat.zero_le _, rfl, hown, hb⟩
        case round =>
          obtain ⟨j, hj, rfl, hol, hbi⟩ := hrel
          clear hown hb
          by_cases hjl : j < xss.length
          · obtain ⟨b2, o2, A3, c3, e, hb3, hck0, hcc, hin⟩ := h.at_ hjl
            cases e
            have hck := (hbi.cell (by exact hb3)).trans hck0
            clear hck0
            have hrl := (HB.out _ (rx_mem hjl)).1
            obtain ⟨b4, o4, rfl, hb4, hcj⟩ := hin.at_ (k := k) (by omega)
            have hcj' := (hbi.cell (p := ⟨b4, o4 + k, none⟩) hb4).trans (hcj k (by omega))
            have hkr : k < (rx xss j).length := by omega
            clear hcj
            have HRL := Lib.hid hrl
            clear hrl
            have hsi := hbi.size
            obtain ⟨hfz, A2, c2, hc2, ho2⟩ := hol.row k hlt
            have e1 : (rx (turnMid xss k j) k).length = j := by rw [turnMid_row xss k j hlt, colOf_len]; simp; omega
            have e2 := turnMid_row xss k j hlt
            rw [e1, e2] at ho2
            rw [e1] at hc2
            clear e1 e2
            obtain ⟨l2, h2, ho3, hl2, hh2, hlw, hA⟩ := ho2.tight_any
            have hnot := hol.not_inner k hlt hc2 hA
            have HAA := Lib.hid hA
            clear hA
            have hc2a := old_cell hc2 (.cells #[.int .i64 (ix (rx xss j) k)] 3)
            have hcja := old_cell hcj' (.cells #[.int .i64 (ix (rx xss j) k)] 3)
            have hfza := old_free hc2 hfz (.cells #[.int .i64 (ix (rx xss j) k)] 3)
            have hlo : l2 ≤ wr.heap.size + 1 := by omega
            have hnb4 : ¬ (l2 ≤ b4 ∧ b4 < h2) := by omega
            have hg1 : (0 : Int) ≤ (k : Int) := by omega
            have hg2 : (k : Int) < ((rx xss 0).length : Int) := by omega
            have hg3 : (k : Int) < ((rx xss j).length : Int) := by omega
            go_wp2
            go_region_law (refine step_append_int _ (by rfl) _ _ (by rfl) l2 h2 j c2 A2 _ (by rfl) (ho3.alloc _) (ix (rx xss j) k) _ 1 (by rfl) (new_cell _ _ _ rfl) (by omega) (by simpa using hlo) ?_; intro A5 c5 w5 ho5 hon5 hat5; have hfz5 := hon5.frozen (p := ⟨w1.heap.size, k, none⟩) (u := .slice A2 j c2) (old_cell hc2 _) (old_free hc2 hfz _) hnot; have hc5 := hon5.cell (p := ⟨w1.heap.size, k, none⟩) (u := .slice A2 j c2) (old_cell hc2 _) hnot; have hd5 := hon5.cell (p := ⟨b4, o4 + k, none⟩) (u := .int .i64 (ix (rx xss j) k)) (old_cell hcj' _) hnb4)
            all_goals
              have hsz5 := hon5.size
              have ez : (wr.alloc (.cells #[.int .i64 (ix (rx xss j) k)] 3)).drew.heap.size = wr.heap.size + 1 := World.size_alloc _ _
              rw [ez] at hsz5 hat5
              have hov := OwnR.over (w := (wr.alloc (.cells #[.int .i64 (ix (rx xss j) k)] 3)).drew) (hol.alloc _) k hlt hc2a hon5 HAA.out (ho5.mono hl2 (Nat.le_refl _))
                (hat5.imp id fun e k' e' => by rw [e] at e'; cases e'; omega) (by omega)
              rw [turnMid_set xss k j hjl] at hov
              have HO := Lib.hid hov.1
              have hb5 : Below w.heap.size w w5 := ((hbi.alloc hsi _).drew).trans (hon5.toBelow hl2 (by simp; omega))
              clear hov hon5 hat5 hc5 hd5 hfz5 hol hc2 hck hcj' hcja hc2a hfza ho3 ho2 ho5
              go_wp2
              go_roundw
              case rel => exact ⟨j + 1, by omega, by go_num, by simpa using HO.out, hb5.setCell (p := ⟨w1.heap.size, k, none⟩) hs1 _⟩
              case measure => simp [intOf]; omega
          · obtain rfl : j = xss.length := by omega
            rw [turnMid_end xss k hlt] at hol
            go_wp2
            go_roundw
            case rel => exact ⟨k + 1, by omega, by go_num, hol, hbi⟩
            case measure => simp [intOf]; omega
      · obtain rfl : k = (rx xss 0).length := by omega
        rw [Nat.sub_self, List.replicate_zero, List.append_nil] at hown
        go_wp2
        go_ret
        exact ⟨_, _, rfl, hown, by omega, HR.out, hb⟩
theorem rx_turnR (xss : List (List Int)) (k : Nat) (h : k < (rx xss 0).length) : rx (turnR xss) k = colOf xss k := by
  rw [rx_lt (by rw [turnR_len]; exact h)]
  simp [turnR, turnTo]
theorem turn_ok {xss : List (List Int)} (h : tableOk xss = true) : tableOk (turnR xss) = true := by
  obtain ⟨h1, h2, h3, h4, h5⟩ := tableOk_facts h
  have e0 : (rx (turnR xss) 0).length = xss.length := by rw [rx_turnR xss 0 (by omega), colOf_len]
  unfold tableOk rect
  rw [Bool.and_eq_true, Bool.and_eq_true, inB_iff, inB_iff, List.all_eq_true, turnR_len, e0]
  refine ⟨⟨by omega, by omega⟩, fun r hr => ?_⟩
  unfold turnR turnTo at hr
  obtain ⟨k, hk, rfl⟩ := List.mem_map.1 hr
  have hk' : k < (rx xss 0).length := by simpa using hk
  unfold rowOk
  rw [Bool.and_eq_true, List.all_eq_true, colOf_len]
  refine ⟨by simp, fun x hx => ?_⟩
  unfold colOf at hx
  obtain ⟨q, hq, rfl⟩ := List.mem_map.1 hx
  have h6 := h5 q hq
  exact inB_iff.2 (h6.2 _ (ix_mem (by omega)))
def colSumsOf (xss : List (List Int)) : List Int := rowSumsOf (turnOf xss)
theorem colSumsOf_yes {xss : List (List Int)} (h : tableOk xss = true) : colSumsOf xss = rsums (turnR xss) := by
  unfold colSumsOf; rw [turnOf_yes h, rowSumsOf_yes (turn_ok h)]
theorem colSumsOf_no {xss : List (List Int)} (h : tableOk xss = false) : colSumsOf xss = [] := by
  unfold colSumsOf; rw [turnOf_no h]; rfl

theorem implColumnSums (A : Option Addr) (n c : Nat) (xss : List (List Int)) (w : World) (h : RowsAt w A n xss) (hn : n ≤ 1048576) (hx : ∀ xs ∈ xss, xs.length ≤ 1048576) :
    Calls Try.prog 14 #[.slice A n c] w fun e w' => ∃ A' c', e = .returned (.slice A' (colSumsOf xss).length c') ∧ OwnI w' w.heap.size w'.heap.size (.slice A' (colSumsOf xss).length c') (colSumsOf xss) ∧ (colSumsOf xss).length ≤ 1048576 ∧ Below w.heap.size w w' := by
  have HX := Lib.hid hx
  clear hx
  unfold colSumsOf
  go_enter Try.func14, Try.ntmps14
  go_wp2_with fail
  refine (implTurnTable _ _ _ _ _ h hn HX.out).mono ?_
  rintro e w1 ⟨A1, c1, rfl, o1, q1, r1, hb1⟩
  have R1 := Lib.hid r1
  clear r1
  go_wp2_with fail
  refine (implRowSums _ _ _ _ _ o1.at_ q1 R1.out).mono ?_
  rintro e w2 ⟨A2, c2, rfl, o2, q2, hb2⟩
  have hs := hb1.size
  have hbt := hb1.trans (hb2.mono hs)
  clear hb1 hb2
  go_wp2
  go_ret
  exact ⟨_, _, rfl, o2.mono hs (Nat.le_refl _), q2, hbt⟩
end Go.Proofs.Ytefppihanblhmaa
