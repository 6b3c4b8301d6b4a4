/- The exact laws' own helpers on profiles, further: the walks of the marks. -/
import Derived.Test.YtcjnjnegaoihoaaGreatW30
namespace Go.Proofs.YtcjnjnegaoihoaaGreat
set_option linter.unusedSimpArgs false
set_option linter.unusedVariables false
open Go.RowKit

set_option maxRecDepth 100000 in
set_option maxHeartbeats 800000 in
theorem markVotes_any (A : Option Addr) (n c lo hi : Nat) (vs : List Vt) (k0 : Int) (w : World) (h : OwnV w lo hi (.slice A n c) vs) (hn : n ≤ 1048576) (hx : ∀ v ∈ vs, v.r.length ≤ 1048576) (h0 : 0 ≤ k0) (h1 : k0 ≤ 288230376151711744) :
    Calls Tryz.prog 29 #[.slice A n c, .int .i64 k0] w fun e w' => e = .returned (.int .i64 (endV k0 vs)) ∧ OwnV w' lo hi (.slice A n c) (marksV k0 vs) ∧ Only lo hi w w' ∧ 0 ≤ endV k0 vs ∧ endV k0 vs ≤ k0 + 1099512676352 := by
  obtain rfl := h.num.1
  have MB := Lib.hid (marksV_bd (k0 := k0) hn hx)
  have HX := Lib.hid hx
  have HE0 := Lib.hid (show 0 ≤ endV k0 vs ∧ endV k0 vs ≤ k0 + 1099512676352 by have := MB.out vs.length; rw [List.take_length] at this; omega)
  clear hx
  go_enter Tryz.func29, Tryz.ntmps29
  go_wp2
  go_loopw [1, 5] (fun kk i wr => ∃ k : Nat, k ≤ vs.length ∧ i = .int .i64 k ∧ kk = .int .i64 (endV k0 (vs.take k)) ∧ OwnV wr lo hi (.slice A vs.length c) (marksV k0 (vs.take k) ++ vs.drop k) ∧ Only lo hi w wr)
    (fun _ i _ => vs.length - (intOf i).toNat)
  case atStart => exact ⟨0, Nat.zero_le _, rfl, by simp [endV], by simpa [marksV] using h, Only.refl _ _ _⟩
  case round =>
    obtain ⟨k, hk, rfl, rfl, hown, hg⟩ := hrel
    by_cases hlt : k < vs.length
    · obtain ⟨g, rfl, hg1, hg2, hg3⟩ := hown.head (by omega)
      obtain ⟨A2, c2, hc2, ho2⟩ := hown.row k hlt
      have hd := List.drop_eq_getElem_cons hlt
      have er : vx (marksV k0 (vs.take k) ++ vs.drop k) k = vx vs k := by
        have hl : (marksV k0 (vs.take k)).length = k := by rw [marksV_len]; simp; omega
        unfold vx
        simp only [List.getD]
        rw [List.getElem?_append_right (by omega), hl]
        simp
      rw [er] at hc2 ho2
      have hxk := HX.out _ (vx_mem hlt)
      have MBk := MB.out k
      obtain ⟨q, hq⟩ : ∃ q, endV k0 (vs.take k) = q := ⟨_, rfl⟩
      have hset := marksV_set k0 vs k hlt q hq.symm
      have hend := endV_snoc k0 (vs.take k) (vx vs k)
      rw [← take_vx hlt, hq] at hend
      rw [hq] at MBk ⊢
      have HE := Lib.hid hend
      have HQ := Lib.hid hq
      have ER := Lib.hid er
      clear hend hq er hd
      generalize hL : marksV k0 (vs.take k) ++ vs.drop k = L at *
      have HL := Lib.hid hL
      clear hL
      generalize hv : vx vs k = v at *
      have HV := Lib.hid hv
      clear hv
      obtain ⟨l2, h2, ho3, hl2, hh2, hlw, hA⟩ := ho2.tight_any
      have KM := Lib.hid (markIntS_any A2 v.r.length c2 l2 h2 v.r q wr ho3 (by omega) (by omega) (by omega))
      go_wp2_with fail
      (with_reducible refine KM.out.mono ?_)
      rintro e w' ⟨rfl, ho4, hon⟩
      have hR := hown.inner_any k hlt hc2 hon ho4 hA
      obtain ⟨cc, fc⟩ := hR.ccell k hlt
      obtain ⟨hst, on2⟩ := hR.counted k hlt (q + v.r.length)
      rw [hset] at hst
      have HO := Lib.hid ((hg.trans (hon.sub hl2 hh2)).trans (on2.mono hg1 (by omega)))
      have HS := Lib.hid hst
      clear hst hR hown ho2 ho3 ho4 hon on2 hset hA hc2 hg KM ER
      go_wp2
      go_roundw
      case rel => exact ⟨k + 1, by omega, by go_num, by rw [HE.out], HS.out, HO.out⟩
      case measure => simp [intOf]; omega
    · obtain rfl : k = vs.length := by omega
      rw [List.take_length, List.drop_length, List.append_nil] at hown
      have HW := Lib.hid hown
      clear hown
      go_wp2
      go_ret
      exact ⟨ret_i (by simp), HW.out, hg, HE0.out⟩
theorem markProfile_any (m : Int) (A : Option Addr) (n c lo hi : Nat) (vs : List Vt) (k0 : Int) (w : World) (h : OwnV w lo hi (.slice A n c) vs) (hn : n ≤ 1048576) (hx : ∀ v ∈ vs, v.r.length ≤ 1048576) (hd1 : lo ≤ hi) (hd2 : hi ≤ w.heap.size) (h0 : 0 ≤ k0) (h1 : k0 ≤ 288230376151711744) :
    Calls Tryz.prog 11 #[.agg #[.int .i64 m, .slice A n c], .int .i64 k0] w fun e w' => e = .returned (.int .i64 (endV k0 vs)) ∧ OwnV w' lo hi (.slice A n c) (marksV k0 vs) ∧ Only lo hi w w' ∧ 0 ≤ endV k0 vs ∧ endV k0 vs ≤ k0 + 1099512676352 := by
  have a1 := pair_below w (.int .i64 m) (.slice A n c) 31
  have p1 := new_pair w (.int .i64 m) (.slice A n c) 31 rfl
  have h2 := h.belowW a1
  have n1 : Only lo hi w (w.alloc (.cells #[.int .i64 m, .slice A n c] 31)) := Only.of_below a1 (Nat.le_refl _)
  have K := Lib.hid (markVotes_any A n c lo hi vs k0 _ h2 hn hx h0 h1)
  clear hx
  go_enter Tryz.func11, Tryz.ntmps11
  go_wp2_with fail
  (with_reducible refine K.out.mono ?_)
  rintro er w1 ⟨rfl, o1, ho, ge, le⟩
  have n2 := n1.trans ho
  clear ho n1 p1 a1 h2
  go_wp2
  go_ret
  exact ⟨rfl, o1, n2, ge, le⟩
set_option maxRecDepth 100000 in
set_option maxHeartbeats 800000 in
theorem heldVotes_any (A : Option Addr) (n c : Nat) (vs : List Vt) (k0 : Int) (w : World) (h : VotesAt w A n (marksV k0 vs)) (hn : n ≤ 1048576) (hx : ∀ v ∈ vs, v.r.length ≤ 1048576) (h0 : 0 ≤ k0) (h1 : k0 ≤ 288230376151711744) :
    Calls Tryz.prog 35 #[.slice A n c, .int .i64 k0] w fun e w' => e = .returned (.int .i64 (endV k0 vs)) ∧ w = w' := by
  obtain rfl : vs.length = n := by rw [← h.len, marksV_len]
  have MB := Lib.hid (marksV_bd (k0 := k0) hn hx)
  have HX := Lib.hid hx
  clear hx
  go_enter Tryz.func35, Tryz.ntmps35
  go_wp2
  go_loop [1, 5] (fun kk i => ∃ k : Nat, k ≤ vs.length ∧ i = .int .i64 k ∧ kk = .int .i64 (endV k0 (vs.take k))) (fun _ i => vs.length - (intOf i).toNat)
  case atStart => exact ⟨0, Nat.zero_le _, rfl, by simp [endV]⟩
  case round =>
    obtain ⟨k, hk, rfl, rfl⟩ := hrel
    by_cases hlt : k < vs.length
    · obtain ⟨b, o, A', c', rfl, hbl, hck, hck2, hcc, hin⟩ := h.at_ hlt
      rw [vx_marksV k0 vs k hlt] at hck hck2 hcc hin
      simp only [marks_len] at hck hcc hin
      have hxk := HX.out _ (vx_mem hlt)
      have MBk := MB.out k
      have hend := endV_snoc k0 (vs.take k) (vx vs k)
      rw [← take_vx hlt] at hend
      have HE := Lib.hid hend
      clear hend
      generalize hq : endV k0 (vs.take k) = q at *
      have HQ := Lib.hid hq
      clear hq
      generalize vx vs k = v at *
      have KM := Lib.hid (heldIntS_any A' v.r.length c' q w hin (by omega) (by omega) (by omega))
      clear hin
      go_wp2_with fail
      (with_reducible refine KM.out.mono ?_)
      rintro e w' ⟨rfl, rfl⟩
      have hnn : 0 ≤ q + v.r.length := by omega
      clear KM
      go_wp2
      go_round
      case rel => exact ⟨k + 1, by omega, by go_num, by rw [HE.out]⟩
      case measure => simp [intOf]; omega
    · obtain rfl : k = vs.length := by omega
      go_wp2
      go_ret
      exact ⟨ret_i (by simp), rfl⟩
theorem heldProfile_any (m : Int) (A : Option Addr) (n c : Nat) (vs : List Vt) (k0 : Int) (w : World) (h : VotesAt w A n (marksV k0 vs)) (hn : n ≤ 1048576) (hx : ∀ v ∈ vs, v.r.length ≤ 1048576) (h0 : 0 ≤ k0) (h1 : k0 ≤ 288230376151711744) :
    Calls Tryz.prog 16 #[.agg #[.int .i64 m, .slice A n c], .int .i64 k0] w fun e w' => e = .returned (.int .i64 (endV k0 vs)) ∧ Below w.heap.size w w' := by
  have a1 := pair_below w (.int .i64 m) (.slice A n c) 31
  have hnn : 0 ≤ endV k0 vs := by have := endV_ge k0 vs; omega
  have K := Lib.hid (heldVotes_any A n c vs k0 _ (h.below a1) hn hx h0 h1)
  clear hx
  go_enter Tryz.func16, Tryz.ntmps16
  go_wp2_with fail
  (with_reducible refine K.out.mono ?_)
  rintro er w1 ⟨rfl, rfl⟩
  go_wp2
  go_ret
  exact ⟨rfl, a1⟩
end Go.Proofs.YtcjnjnegaoihoaaGreat
