/- Rows in pieces are marked. -/
import Derived.Test.YtnoanomihifobaaDoorPieces2
import Derived.Test.YtnoanomihifobaaDoorLawRow
namespace Go.Proofs.YtnoanomihifobaaDoor
set_option linter.unusedVariables false
open Go.RowKit

set_option maxHeartbeats 800000 in
theorem markIntSSL_any (A : Option Addr) (c lo hi : Nat) (us : List Value) (xss : List (List Int)) (P0 P1 : List Pc) (k0 : Int) (w : World) (hm : pR (.slice A xss.length c) us ∈ P0) (hl : us.length = xss.length) (h : OwnL w lo hi (P0 ++ (rowsL us xss ++ P1))) (hs : hi ≤ w.heap.size) (hn : xss.length ≤ 1048576) (hx : ∀ xs ∈ xss, xs.length ≤ 1048576) (h0 : 0 ≤ k0) (h1 : k0 ≤ 576460752303423488) :
    Calls Tryd.prog 18 #[.slice A xss.length c, .int .i64 k0] w fun e w' => e = .returned (.int .i64 (endR k0 xss)) ∧ OwnL w' lo hi (P0 ++ (rowsL us (marksR k0 xss) ++ P1)) ∧ Only lo hi w w' ∧ 0 ≤ endR k0 xss ∧ endR k0 xss ≤ k0 + 1099511627776 := by
  have hE : 0 ≤ endR k0 xss ∧ endR k0 xss ≤ k0 + 1099511627776 := by
    have h3 := endR_ge k0 xss
    have h4 := endR_le k0 xss 1048576 hx
    have h5 : (xss.length : Int) * 1048576 ≤ 1048576 * 1048576 := by omega
    exact ⟨by omega, by omega⟩
  have HE0 := Lib.hid hE
  have HM := Lib.hid hm
  have HL := Lib.hid hl
  have HX := Lib.hid hx
  clear hE hm hl hx
  go_enter Tryd.func18, Tryd.ntmps18
  go_wp2
  go_loopw [1, 5] (fun kk i wr => ∃ k : Nat, k ≤ xss.length ∧ i = .int .i64 k ∧ kk = .int .i64 (endR k0 (xss.take k)) ∧ OwnL wr lo hi (P0 ++ (rowsL us (marksR k0 (xss.take k) ++ xss.drop k) ++ P1)) ∧ Only lo hi w wr)
    (fun _ i _ => xss.length - (intOf i).toNat)
  case atStart => exact ⟨0, Nat.zero_le _, rfl, by simp [endR], by simpa [marksR] using h, Only.refl _ _ _⟩
  case round =>
    obtain ⟨k, hk, rfl, rfl, hown, hg⟩ := hrel
    by_cases hlt : k < xss.length
    · have hpr := hown.1 _ (List.mem_append_left _ HM.out)
      obtain ⟨u, huk⟩ : ∃ u, us[k]? = some u := ⟨_, List.getElem?_eq_getElem (by rw [HL.out]; exact hlt)⟩
      have hll : us.length = (marksR k0 (xss.take k) ++ xss.drop k).length := by rw [HL.out, List.length_append, marksR_len]; simp; omega
      have er : rx (marksR k0 (xss.take k) ++ xss.drop k) k = rx xss k := by
        unfold rx
        have hl : (marksR k0 (xss.take k)).length = k := by rw [marksR_len]; simp; omega
        simp only [List.getD]
        rw [List.getElem?_append_right (by omega), hl]
        simp
      have hat := rowsL_at hll huk
      rw [er] at hat
      have hidx : (P0 ++ (rowsL us (marksR k0 (xss.take k) ++ xss.drop k) ++ P1))[P0.length + k]? = some (pI u (rx xss k)) := by
        rw [List.getElem?_append_right (by omega), Nat.add_sub_cancel_left, List.getElem?_append_left (by rw [rowsL_len hll, ← hll, HL.out]; exact hlt)]
        exact hat
      have hou := pI_own (hown.at_ hidx) (hown.inB hidx)
      obtain ⟨A2, c2, eu, _⟩ := hou.len
      subst eu
      have hA0 : ∃ g, A = some ⟨g, 0, none⟩ ∧ wr.cell? ⟨g, k, none⟩ = some (.slice A2 (rx xss k).length c2) := by
        rcases hpr.1.2 with ⟨e1, e2⟩ | ⟨g, cap, cur, hv, _⟩
        · change us.length = 0 at e2; rw [HL.out] at e2; omega
        · change Value.slice A xss.length c = .slice (some ⟨g, 0, none⟩) us.length cap at hv
          have hv2 : A = some ⟨g, 0, none⟩ := by injection hv
          subst hv2
          refine ⟨g, rfl, ?_⟩
          have ho : wr.ownsRow 0 32 1 (.slice (some ⟨g, 0, none⟩) us.length c) us.length us := by have := hpr.1; unfold Pc.ok pR at this; rw [← HL.out] at this; exact this
          rw [World.ownsRow.cellAt ho k (by rw [HL.out]; omega)]
          exact huk
      obtain ⟨g, rfl, hc2⟩ := hA0
      have hxk := HX.out _ (rx_mem hlt)
      have b1 := endR_ge k0 (xss.take k)
      have b2 : endR k0 (xss.take k) ≤ k0 + 1048576 * 1048576 := by
        have := endR_le k0 (xss.take k) 1048576 (fun xs h => HX.out xs (List.mem_of_mem_take h))
        have h3 : (xss.take k).length ≤ 1048576 := by simp; omega
        have h4 : ((xss.take k).length : Int) * 1048576 ≤ 1048576 * 1048576 := by omega
        omega
      have hset := marksR_set k0 xss k hlt
      have hend := endR_snoc k0 (xss.take k) (rx xss k)
      rw [← take_rx hlt] at hend
      have HE := Lib.hid hend
      clear hend
      generalize hq : endR k0 (xss.take k) = q at *
      have HQ := Lib.hid hq
      have HUK := Lib.hid huk
      have HLL := Lib.hid hll
      have HID := Lib.hid hidx
      clear hq huk hll hat er
      obtain ⟨l2, h2, ho3, hl2, hh2, hlw, hA⟩ := hou.tight_any
      have hsz := hg.size
      go_wp2_with fail
      refine (markIntS_any A2 (rx xss k).length c2 l2 h2 (rx xss k) q wr ho3 (by omega) (by omega) (by omega)).mono ?_
      rintro e w' ⟨rfl, ho4, hon⟩
      have hR : OwnL w' lo hi (P0 ++ (rowsL us (marksR k0 (xss.take (k + 1)) ++ xss.drop (k + 1)) ++ P1)) := by
        have h5 := hown.upd (hi' := hi) (p' := pI (.slice A2 (rx xss k).length c2) (marks q (rx xss k).length)) HID.out (fun j hj hne => hon.block j hj (fun e5 => by
            rcases hA with ⟨_, e6⟩ | ⟨b, rfl, rfl, rfl⟩
            · omega
            · exact hne (show some l2 = some j from by congr 1; omega))) (pI_of ho4).1 (Nat.le_refl _) (by omega) (.inl rfl)
        rw [List.set_append_right _ _ (by omega), Nat.add_sub_cancel_left, List.set_append_left _ _ (by rw [rowsL_len HLL.out, ← HLL.out, HL.out]; exact hlt), rowsL_set _ _ HLL.out, hset] at h5
        rw [show us.set k (.slice A2 (rx xss k).length c2) = us from by
          obtain ⟨hl3, e3⟩ := List.getElem?_eq_some_iff.1 HUK.out
          rw [← e3, List.set_getElem_self]] at h5
        exact h5
      have hO := hg.trans (hon.sub hl2 hh2)
      have HR := Lib.hid hR
      clear hR hown hc2 hou ho3 ho4 hA hset hon HID hidx hpr
      go_wp2
      go_roundw
      case rel => exact ⟨k + 1, by omega, by go_num, by rw [HE.out], HR.out, hO⟩
      case measure => simp [intOf]; omega
    · obtain rfl : k = xss.length := by omega
      rw [List.take_length, List.drop_length, List.append_nil] at hown
      have HW := Lib.hid hown
      clear hown
      go_wp2
      go_ret
      exact ⟨ret_i (by simp), HW.out, hg, HE0.out⟩
theorem marksR_rows {k0 : Int} {xss : List (List Int)} {b : Nat} (h : ∀ xs ∈ xss, xs.length ≤ b) : ∀ xs ∈ marksR k0 xss, xs.length ≤ b := fun xs hxs => by
  obtain ⟨j, hj, rfl⟩ := List.getElem_of_mem hxs
  rw [marksR_len] at hj
  have e := rx_marksR k0 xss j hj
  rw [rx_lt (by rw [marksR_len]; exact hj)] at e
  rw [e, marks_len]
  exact h _ (rx_mem hj)
end Go.Proofs.YtnoanomihifobaaDoor
