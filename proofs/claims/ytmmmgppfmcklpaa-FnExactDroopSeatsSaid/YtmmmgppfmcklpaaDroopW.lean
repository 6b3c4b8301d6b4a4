/- Seats by Droop's quota: the program's side. -/
import Derived.Test.YtmmmgppfmcklpaaDroop
namespace Go.Proofs.Ytmmmgppfmcklpaa
set_option linter.unusedVariables false
open Go.RowKit

set_option maxRecDepth 100000 in
set_option maxHeartbeats 4000000 in
theorem implDroop (A : Option Addr) (n c : Nat) (xs : List Int) (k : Int) (w : World) (h : IntsAt w A n xs) (hn : n ≤ 1048576) :
    Calls Try.prog 13 #[.slice A n c, .int .i64 k] w fun e w' => ∃ A' c', e = .returned (.slice A' (droop xs k).length c') ∧ OwnI w' w.heap.size w'.heap.size (.slice A' (droop xs k).length c') (droop xs k) ∧ (droop xs k).length ≤ 1048576 ∧ Below w.heap.size w w' := by
  obtain rfl := h.len
  cases hq : quotaOk xs k
  · rw [droop_no hq]
    go_enter Try.func13, Try.ntmps13
    go_wp2_with fail
    (with_reducible refine (quotaAsked_any _ _ _ _ _ _ h hn).mono ?_)
    rintro e w1 ⟨rfl, hb⟩
    rw [hq]
    go_wp2
    go_ret
    exact ⟨none, 0, rfl, OwnI.nil _ _ _, by simp, hb⟩
  rw [droop_yes hq, giveTo_len, show (droopS xs k).length = xs.length from drS_len _ _ _]
  have F := Lib.hid (droop_facts hq)
  have G := Lib.hid (droop_facts hq).ham
  have HQ := Lib.hid hq
  have HCB := Lib.hid (counts_bd (quotaOk_facts hq).1)
  have HD : Hid (lsum xs / (k + 1) + 1 = droopD xs k) := rfl
  rw [show droopS xs k = drS (droopD xs k) (droopN xs k) xs from rfl, show droopR xs k = drR (droopD xs k) xs from rfl]
  generalize (k - lsum (drS (droopD xs k) (droopN xs k) xs)).toNat = m at *
  generalize droopD xs k = d at *
  generalize droopN xs k = N at *
  have n1 := F.out.n1
  have n6 := F.out.n6
  have k0 := F.out.k0
  have k1 := F.out.k1
  have d1 := F.out.d1
  have d2 := F.out.d2
  have s0 := F.out.s0
  have s1 := F.out.s1
  clear hq
  go_enter Try.func13, Try.ntmps13
  go_wp2_with fail
  (with_reducible refine (quotaAsked_any _ _ _ _ _ _ h hn).mono ?_)
  rintro e w1 ⟨rfl, hb1⟩
  rw [HQ.out]
  have z1 := hb1.size
  have h1 := h.below hb1
  go_wp2_with fail
  (with_reducible refine (sumOf_any _ _ _ _ _ h1 hn HCB.out).mono ?_)
  rintro e w2 ⟨rfl, rfl⟩
  have q1 := div_bd s0 (show 1 ≤ k + 1 by omega)
  go_wp2
  rw [HD.out]
  clear q1
  go_loopw [6, 7, 9, 23] (fun a_ b_ _ i_ wr => ∃ (j : Nat) (A1 : Option Addr) (c1 l1 h1 : Nat) (A2 : Option Addr) (c2 l2 h2 : Nat), j ≤ xs.length ∧ i_ = .int .i64 j ∧ a_ = .slice A1 j c1 ∧ b_ = .slice A2 j c2 ∧ OwnI wr l1 h1 (.slice A1 j c1) (drS d 0 (xs.take j)) ∧ OwnI wr l2 h2 (.slice A2 j c2) (drR d (xs.take j)) ∧
      (h1 ≤ l2 ∨ h2 ≤ l1) ∧ (w.heap.size ≤ l1 ∧ w.heap.size ≤ l2) ∧ (h1 ≤ wr.heap.size ∧ l1 ≤ wr.heap.size ∧ h2 ≤ wr.heap.size ∧ l2 ≤ wr.heap.size) ∧ Below w.heap.size w wr) (fun _ _ _ i_ _ => xs.length - (intOf i_).toNat)
  case atStart => exact ⟨0, none, 0, w.heap.size, w.heap.size, none, 0, w.heap.size, w.heap.size, Nat.zero_le _, rfl, rfl, rfl, OwnI.nil _ _ _, OwnI.nil _ _ _, .inl (Nat.le_refl _), ⟨Nat.le_refl _, Nat.le_refl _⟩, ⟨z1, z1, z1, z1⟩, hb1⟩
  case round =>
    obtain ⟨j, A1, c1, l1, h1_, A2, c2, l2, h2_, hj, rfl, rfl, rfl, o1, o2, hsep, ⟨hl1, hl2⟩, ⟨hh1, hhl1, hh2, hhl2⟩, hb⟩ := hrel
    have zr := hb.size
    by_cases hlt : j < xs.length
    · obtain ⟨bx_, ox, ex, _, hcx⟩ := (h.below hb).at_ hlt
      cases ex
      have cx := hcx j hlt
      clear hcx
      have xb := F.out.xb j hlt
      have q1 := div_bd xb.1 d1
      have q2 := mod_bd (t := ix xs j) d1
      have HS := Lib.hid (drS_take (d := d) (r := 0) hlt)
      have HR := Lib.hid (drR_take (d := d) hlt)
      have e0 : ix xs j / d + ((0 : Nat) : Int) = ix xs j / d := by simp
      rw [e0] at HS
      clear e0
      generalize hqq : ix xs j / d = qq at *
      generalize hrr : ix xs j % d = rr at *
      have HQQ := Lib.hid hqq
      have HRR := Lib.hid hrr
      clear hqq hrr
      generalize ix xs j = x at *
      go_wp2_with (at_builtin; (try rw [HQQ.out]); refine wpList_append_int2 _ rfl _ _ rfl l1 h1_ j _ _ _ rfl (o1.alloc _) qq _ 1 rfl (new_cell _ _ _ rfl) (by omega) (by simp; omega) (by simp; omega) ?_)
      intro A3 c3 w3 l3 h3 o3 on1 hs3 hat1
      rw [← HS.out] at o3
      have hba := (hb.alloc zr (.cells #[.int .i64 qq] 3)).trans (on1.toBelow (B := w.heap.size) hl1 (by simp; omega))
      have o2a := (o2.alloc (.cells #[.int .i64 qq] 3)).only on1 (by omega)
      have hat1' : (l3 = l1 ∧ h3 = h1_) ∨ (l3 = wr.heap.size + 1 ∧ h3 = w3.heap.size) := by simpa using hat1
      have hs3' : wr.heap.size + 1 ≤ w3.heap.size := by simpa using hs3
      clear on1 hat1 hs3 o1 o2 hb
      go_wp2_with (at_builtin; (try rw [HRR.out]); refine wpList_append_int2 _ rfl _ _ rfl l2 h2_ j _ _ _ rfl (o2a.alloc _) rr _ 1 rfl (new_cell _ _ _ rfl) (by omega) (by simp; omega) (by simp; omega) ?_)
      intro A4 c4 w4 l4 h4 o4 on2 hs4 hat2
      rw [← HR.out] at o4
      have hbb := (hba.alloc (by omega) (.cells #[.int .i64 rr] 3)).trans (on2.toBelow (B := w.heap.size) hl2 (by simp; omega))
      have o3a := (o3.alloc (.cells #[.int .i64 rr] 3)).only on2 (by omega)
      have hat2' : (l4 = l2 ∧ h4 = h2_) ∨ (l4 = w3.heap.size + 1 ∧ h4 = w4.heap.size) := by simpa using hat2
      have hs4' : w3.heap.size + 1 ≤ w4.heap.size := by simpa using hs4
      have hfin : (h3 ≤ l4 ∨ h4 ≤ l3) ∧ (w.heap.size ≤ l3 ∧ w.heap.size ≤ l4) ∧ (h3 ≤ w4.heap.size ∧ l3 ≤ w4.heap.size ∧ h4 ≤ w4.heap.size ∧ l4 ≤ w4.heap.size) := by omega
      clear on2 hat2 hs4 o3 o2a hba
      go_wp2
      go_roundw
      case rel => exact ⟨j + 1, A3, c3, l3, h3, A4, c4, l4, h4, by omega, by go_num, rfl, rfl, o3a, o4, hfin.1, hfin.2.1, hfin.2.2, hbb⟩
      case measure => simp [intOf]; omega
    · obtain rfl : j = xs.length := by omega
      rw [List.take_length] at o1 o2
      obtain ⟨g1, rfl, hg1, hg1h⟩ := o1.head (by omega)
      have hne : ∀ a, A2 = some a → 0 < xs.length → a.block ≠ g1 := fun a e hl => by
        obtain ⟨g3, e3, h3, h4⟩ := o2.head hl
        rw [e] at e3
        cases e3
        show g3 ≠ g1
        omega
      have HNE := Lib.hid hne
      have o2t := o2
      replace o1 := o1.tightH
      clear hne
      have hzz : g1 < wr.heap.size := by omega
      go_wp2
      obtain ⟨wo, rfl⟩ : ∃ wo, wo = wr := ⟨_, rfl⟩
      go_loopw [10, 49] (fun _ _ wr => ∃ r : Nat, r ≤ N ∧ OwnI wr g1 (g1 + 1) (.slice (some ⟨g1, 0, none⟩) xs.length c1) (drS d r xs) ∧ Only g1 (g1 + 1) wo wr) (fun _ _ wr => (k - sumC wr g1 xs.length).toNat)
      case atStart => exact ⟨0, Nat.zero_le _, o1, Only.refl _ _ _⟩
      case round =>
        obtain ⟨r, hrN, o5, hon⟩ := hrel
        have esum := sumC_own o5
        have HSB := Lib.hid (F.out.drbd r hrN)
        have hsm := drS_sum d r xs
        have hgo := F.out.go r
        have t0 := F.out.t0
        have hle : lsum (drS d r xs) ≤ k ∧ 0 ≤ lsum (drS d r xs) := F.out.drle r hrN
        have HX := Lib.hid (fun x (hx : x ∈ drS d r xs) => show 0 ≤ x ∧ x ≤ 1000000000 from by obtain ⟨j, hj, rfl⟩ := List.getElem_of_mem hx; rw [drS_len] at hj; have := HSB.out j hj; rw [ix_lt (by rw [drS_len]; exact hj)] at this; omega)
        rw [← hsm] at hgo
        clear hsm
        go_wp2_with fail
        (with_reducible refine (sumOf_any _ _ _ _ _ o5.at_ (by omega) HX.out).mono ?_)
        rintro e w5 ⟨rfl, rfl⟩
        by_cases hrl : r < N
        · have hgo2 := hgo.2 hrl
          have HGS : Hid (lsum (drS d (r + 1) xs) = lsum (drS d r xs) + xs.length) := by
            have e1 := drS_sum d r xs
            have e2 := drS_sum d (r + 1) xs
            show _ = _
            rw [e1, e2, show ((r + 1 : Nat) : Int) = (r : Int) + 1 from rfl, Int.mul_add, Int.mul_one]
            omega
          generalize lsum (drS d r xs) = su at *
          have tt : (xs.length : Int) < k - su := by omega
          clear hgo
          go_wp2
          rw [← drM_0] at o5
          obtain ⟨w6, rfl⟩ : ∃ w6, w6 = wr := ⟨_, rfl⟩
          go_loopw [10, 49] (fun _ i_ wr => ∃ j : Nat, j ≤ xs.length ∧ i_ = .int .i64 j ∧ OwnI wr g1 (g1 + 1) (.slice (some ⟨g1, 0, none⟩) xs.length c1) (drM d r xs j) ∧ Only g1 (g1 + 1) wo wr) (fun _ i_ _ => xs.length - (intOf i_).toNat)
          case atStart => exact ⟨0, Nat.zero_le _, rfl, o5, hon⟩
          case round =>
            obtain ⟨j, hj, rfl, o7, hon⟩ := hrel
            by_cases hjl : j < xs.length
            · have cj := o7.cellAt j hjl
              rw [drM_at hjl] at cj
              have fj := o7.frozenAt j
              obtain ⟨o8, n8⟩ := o7.stored j (ix xs j / d + r + 1)
              rw [drM_step hjl] at o8
              have O8 := Lib.hid o8
              have ON := Lib.hid (hon.trans n8)
              have hb8 := HSB.out j hjl
              rw [drS_at hjl] at hb8
              have j1 : (0 : Int) ≤ (j : Int) := by omega
              have j2 : (j : Int) < (xs.length : Int) := by omega
              clear o7 hon o8 n8
              generalize ix xs j / d + (r : Int) = v at *
              go_wp2
              go_roundw
              case rel => exact ⟨j + 1, by omega, by go_num, O8.out, ON.out⟩
              case measure => simp [intOf]; omega
            · obtain rfl : j = xs.length := by omega
              rw [drM_end] at o7
              have hes := sumC_own o7
              rw [HGS.out] at hes
              have HES := Lib.hid hes
              clear hes
              go_wp2
              go_roundw
              case rel => exact ⟨r + 1, by omega, o7, hon⟩
              case measure => first | (rw [HES.out]; omega) | (rw [HES.out, esum]; omega) | (simp only [HES.out, esum]; omega)
        · obtain rfl : r = N := by omega
          have hgo2 : ¬ (lsum (drS d r xs) + xs.length < k) := fun h => hrl (hgo.1 h)
          clear hgo
          generalize lsum (drS d r xs) = su at *
          have tt : ¬ ((xs.length : Int) < k - su) := by omega
          have o6 := o2t.only hon (by omega)
          have hbz := hb.trans (hon.toBelow (B := w.heap.size) (by omega) (by omega))
          have zz := hbz.size
          go_wp2_with fail
          (with_reducible refine (filledH_any g1 c1 xs.length g1 (g1 + 1) (drS d r xs) A2 c2 (drR d xs) k m _ o5 o6.at_ HNE.out n1 n6 G.out.rb G.out.sb G.out.hm G.out.ml ⟨k0, by omega⟩).mono ?_)
          rintro e w9 ⟨rfl, o9, hon9⟩
          have hb9 := hbz.trans (hon9.toBelow (B := w.heap.size) (by omega) zz)
          have z9 := hb9.size
          have hg9 := o9.num.2.1
          clear o5 o6 hon hon9 hbz hb
          go_wp2
          go_ret
          exact ⟨_, _, rfl, o9.mono (by omega) (by omega), hn, hb9⟩
end Go.Proofs.Ytmmmgppfmcklpaa
