/- l08Way and LockedPairs, the reference's side. LockedPairs, the reference's side. PairsRanking, the reference's side. -/
import Derived.Test.YtaanppihgldeaaaGreatDoorW24
import Derived.Test.YtaanppihgldeaaaGreatDoorW25
import Derived.Test.YtaanppihgldeaaaGreatDoorW17
import Derived.Test.YtaanppihgldeaaaGreatDoorW16
namespace Go.Proofs.YtaanppihgldeaaaGreatDoor
set_option linter.unusedSimpArgs false
set_option linter.unusedVariables false
set_option linter.unusedVariables false
open Go.RowKit

theorem nodup_fits {M : Nat} {S : List Int} (hn : S.Nodup) (hr : ∀ x ∈ S, 0 ≤ x ∧ x < (M : Int)) : S.length ≤ M := by
  by_cases h : (upE M).length ≤ S.length
  · have := perm_of S (upE M) hn (fun x hx => by
      have := hr x hx
      unfold upE
      exact List.mem_map.2 ⟨x.toNat, List.mem_range.2 (by omega), by omega⟩) h
    have := this.length_eq
    rw [upE_len] at this
    omega
  · rw [upE_len] at h; omega
theorem ix_app {S : List Int} {y : Int} {j : Nat} (h : j < S.length) : ix (S ++ [y]) j = ix S j := by
  rw [ix_lt (by simp; omega), ix_lt h, List.getElem_append_left h]
/-- what the search has seen: all of it is led to from a; what the first i lead to is seen; none of the first i is b -/
structure SeenF (rows : List (List Int)) (M : Nat) (a b : Int) (S : List Int) (i : Nat) : Prop where
  nd : S.Nodup
  rg : ∀ x ∈ S, 0 ≤ x ∧ x < (M : Int)
  ha : a ∈ S
  ld : ∀ x ∈ S, Reach rows x a
  cl : ∀ j, j < i → ∀ r ∈ rows, ix r 0 = ix S j → ix r 1 ∈ S
  nb : ∀ j, j < i → ix S j ≠ b
theorem SeenF.start {rows : List (List Int)} {M : Nat} {a b : Int} (h : 0 ≤ a ∧ a < (M : Int)) : SeenF rows M a b [a] 0 :=
  ⟨by simp, fun x hx => by simp at hx; subst hx; exact h, by simp, fun x hx => by simp at hx; subst hx; exact .refl, fun j hj => by omega, fun j hj => by omega⟩
theorem SeenF.add {rows : List (List Int)} {M : Nat} {a b : Int} {S : List Int} {i : Nat} (h : SeenF rows M a b S i) {r : List Int} (hr : r ∈ rows) (hi : i < S.length) (h0 : ix r 0 = ix S i) (hy : 0 ≤ ix r 1 ∧ ix r 1 < (M : Int)) (hn : ix r 1 ∉ S) : SeenF rows M a b (S ++ [ix r 1]) i := by
  refine ⟨?_, fun x hx => ?_, List.mem_append_left _ h.ha, fun x hx => ?_, fun j hj q hq e => ?_, fun j hj => ?_⟩
  · rw [List.nodup_append]
    refine ⟨h.nd, by simp, fun x hx y hy e => ?_⟩
    rw [List.mem_singleton] at hy
    subst hy; subst e; exact hn hx
  · rw [List.mem_append, List.mem_singleton] at hx
    rcases hx with hx | rfl
    · exact h.rg x hx
    · exact hy
  · rw [List.mem_append, List.mem_singleton] at hx
    rcases hx with hx | rfl
    · exact h.ld x hx
    · refine Reach.tail hr ?_
      rw [h0]
      exact h.ld _ (ix_mem hi)
  · rw [ix_app (by omega)] at e
    exact List.mem_append_left _ (h.cl j hj q hq e)
  · rw [ix_app (by omega)]; exact h.nb j hj
theorem SeenF.next {rows : List (List Int)} {M : Nat} {a b : Int} {S : List Int} {i : Nat} (h : SeenF rows M a b S i) (hb : ix S i ≠ b) (hc : ∀ r ∈ rows, ix r 0 = ix S i → ix r 1 ∈ S) : SeenF rows M a b S (i + 1) :=
  ⟨h.nd, h.rg, h.ha, h.ld, fun j hj r hr e => by
    by_cases e2 : j = i
    · subst e2; exact hc r hr e
    · exact h.cl j (by omega) r hr e, fun j hj => by
    by_cases e2 : j = i
    · subst e2; exact hb
    · exact h.nb j (by omega)⟩
theorem SeenF.yes {rows : List (List Int)} {M : Nat} {a b : Int} {S : List Int} {i : Nat} (h : SeenF rows M a b S i) (hi : i < S.length) (hb : ix S i = b) : leadC rows a b = true := by
  rw [leadC_iff, ← hb]; exact h.ld _ (ix_mem hi)
theorem SeenF.no {rows : List (List Int)} {M : Nat} {a b : Int} {S : List Int} (h : SeenF rows M a b S S.length) : leadC rows a b = false := by
  cases e : leadC rows a b
  · rfl
  · exfalso
    have h1 := leadC_iff.1 e
    have key : ∀ x, Reach rows b x → x ∈ S → b ∈ S := by
      intro x hx
      induction hx with
      | refl => exact id
      | step hr _ ih =>
        intro hm
        obtain ⟨j, hj, e⟩ := List.getElem_of_mem hm
        exact ih (h.cl j hj _ hr (by rw [ix_lt hj, e]))
    have hm := key a h1 h.ha
    obtain ⟨j, hj, e⟩ := List.getElem_of_mem hm
    exact h.nb j hj (by rw [ix_lt hj, e])
set_option maxRecDepth 100000 in
set_option maxHeartbeats 2000000 in
theorem specWay (M : Nat) (M5 : M ≤ 5) (rows : List (List Int)) (hp : ∀ r ∈ rows, PairOk M r) (A : Option Addr) (n c : Nat) (hn : n ≤ 1048576) (a b : Int) (ha : 0 ≤ a ∧ a < (M : Int)) (w : World) (h : RowsAt w A n rows) :
    Calls Tryz.prog 216 #[.slice A n c, .int .i64 a, .int .i64 b] w fun e w' => e = .returned (.bool (leadC rows a b)) ∧ Below w.heap.size w w' := by
  obtain rfl := h.len
  have HP := Lib.hid hp
  have HS0 := Lib.hid (SeenF.start (rows := rows) (b := b) ha)
  have b3 := alloc_below w (.cells #[.int .i64 a] 3)
  have o3 := (OwnI.lit1 w a).mono (Nat.le_refl _) (show w.heap.size + 1 ≤ (w.alloc (.cells #[.int .i64 a] 3)).heap.size by simp)
  have YES := Lib.hid (fun S i (hs : SeenF rows M a b S i) hi hb => hs.yes hi hb)
  have NO := Lib.hid (fun S (hs : SeenF rows M a b S S.length) => hs.no)
  obtain ⟨T, hT⟩ : ∃ T, leadC rows a b = T := ⟨_, rfl⟩
  rw [hT] at YES NO ⊢
  clear hp ha hT
  go_enter Tryz.func216, Tryz.ntmps216
  go_wp2
  go_loopw [7, 8] (fun v i wr => ∃ (k : Nat) (S : List Int) (A' : Option Addr) (c' : Nat), k ≤ S.length ∧ i = .int .i64 k ∧ v = .slice A' S.length c' ∧ OwnI wr w.heap.size wr.heap.size (.slice A' S.length c') S ∧ Hid (SeenF rows M a b S k) ∧ Below w.heap.size w wr) (fun _ i _ => M - (intOf i).toNat)
  case atStart => exact ⟨0, [a], _, 1, by simp, rfl, rfl, o3, HS0, b3⟩
  case round =>
    clear o3 b3 HS0
    obtain ⟨k, S, A1, c1, hk, rfl, rfl, ho, HF, hb⟩ := hrel
    have sl := nodup_fits HF.out.nd HF.out.rg
    have z0 := hb.size
    by_cases hlt : k < S.length
    · obtain ⟨g, rfl, g1, g2⟩ := ho.head (by omega)
      have d0 := ho.cellAt k hlt
      have i0 : (k : Int) < (S.length : Int) := by omega
      by_cases hkb : ix S k = b
      · have HE := Lib.hid (YES.out S k HF.out hlt hkb)
        have e0 : (ix S k == b) = true := by rw [beq_iff_eq]; exact hkb
        clear hkb
        generalize ix S k = x at *
        go_wp2
        go_ret
        exact ⟨ret_b (by rw [HE.out]), hb⟩
      · have e0 : (ix S k == b) = false := by rw [beq_eq_false_iff_ne]; exact hkb
        have HX : Hid (ix S k = ix S k) := rfl
        obtain ⟨x, hx⟩ : ∃ x, x = ix S k := ⟨_, rfl⟩
        rw [← hx] at e0 d0
        have HXE := Lib.hid hx
        have HNB : Hid (x ≠ b) := by rw [hx]; exact hkb
        clear hkb hx HX
        go_wp2
        clear d0
        go_loopw [7, 27] (fun v i wr => ∃ (j : Nat) (S : List Int) (A' : Option Addr) (c' : Nat), j ≤ rows.length ∧ i = .int .i64 j ∧ v = .slice A' S.length c' ∧ OwnI wr w.heap.size wr.heap.size (.slice A' S.length c') S ∧ Hid (SeenF rows M a b S k) ∧ k < S.length ∧ Hid (x = ix S k) ∧ Hid (∀ q, q < j → ix (rx rows q) 0 = x → ix (rx rows q) 1 ∈ S) ∧ Below w.heap.size w wr) (fun _ i _ => rows.length - (intOf i).toNat)
        case atStart => exact ⟨0, S, _, c1, Nat.zero_le _, rfl, rfl, ho, HF, hlt, HXE, (fun q hq => by omega), hb⟩
        case round =>
          clear HF HXE ho hb hlt hk sl z0 i0 e0
          obtain ⟨j, S, A1, c1, hj, rfl, rfl, ho, HF, hks, HXE, HQ, hb⟩ := hrel
          have sl := nodup_fits HF.out.nd HF.out.rg
          have z0 := hb.size
          by_cases hlj : j < rows.length
          · obtain ⟨bq, oq, Aq, cq, rfl, _, hcq, hcc, hin⟩ := (h.below hb).at_ hlj
            have hpq := HP.out _ (rx_mem hlj)
            have HMQ := Lib.hid (rx_mem hlj)
            obtain ⟨g', rfl, g1', g2'⟩ := ho.head (by omega)
            have dS := ho.cellAt k hks
            rw [← HXE.out] at dS
            have HADD := Lib.hid (fun hi h0 hn => HF.out.add HMQ.out hi h0 hpq.2.2 hn)
            have HQN := Lib.hid (fun (S2 : List Int) (hsub : ∀ y ∈ S, y ∈ S2) (hh : ix (rx rows j) 0 = x → ix (rx rows j) 1 ∈ S2) (q : Nat) (hq : q < j + 1) (e : ix (rx rows q) 0 = x) => (show ix (rx rows q) 1 ∈ S2 from by
              by_cases e2 : q = j
              · subst e2; exact hh e
              · exact hsub _ (HQ.out q (by omega) e)))
            have l2 := hpq.1
            obtain ⟨r, hr⟩ : ∃ r, rx rows j = r := ⟨_, rfl⟩
            rw [hr] at hin hcq l2 HADD HQN hcc
            clear hpq hr HMQ HQ
            obtain ⟨bx, oo, rfl, _, cr⟩ := hin.at_ (show 0 < r.length by omega)
            have d0 := cr 0 (by omega)
            have d1 := cr 1 (by omega)
            rw [Nat.add_zero] at d0
            have i1 : (1 : Int) < (r.length : Int) := by omega
            have i2 : (0 : Int) < (r.length : Int) := by omega
            have i3 : (k : Int) < (S.length : Int) := by omega
            have i4 : (j : Int) < (rows.length : Int) := by omega
            have K1 := Lib.hid (fun n => Calls.quiet_of_same (n := n) ((specPlaceOf_any (some ⟨g', 0, none⟩) S.length c1 S (ix r 1) (wr.drewN n) (ho.at_.drewN n) (by omega)).mono fun _ _ ⟨he, hw⟩ => ⟨he, hw.symm⟩))
            have PN : Hid (place S (ix r 1) < 0 → ix r 1 ∉ S) := place_neg.1
            have PM : Hid (¬ place S (ix r 1) < 0 → ix r 1 ∈ S) := fun hh => place_mem.1 (by omega)
            generalize place S (ix r 1) = p at *
            generalize ix r 0 = y0 at *
            generalize hy1 : ix r 1 = y1 at *
            clear cr l2 hin
            by_cases hxy : y0 = x
            · have e0 : (y0 == x) = true := by rw [beq_iff_eq]; exact hxy
              have HXY := Lib.hid hxy
              clear hxy
              by_cases hpl : p < 0
              · have t0 : decide (p < 0) = true := decide_eq_true hpl
                have HS2 := Lib.hid (HADD.out hks (HXY.out.trans HXE.out) (PN.out hpl))
                have HQ2 := Lib.hid (HQN.out (S ++ [y1]) (fun y hy => List.mem_append_left _ hy) (fun _ => by simp))
                have HX2 : Hid (x = ix (S ++ [y1]) k) := by show _ = _; rw [ix_app hks]; exact HXE.out
                have hl2 : (S ++ [y1]).length = S.length + 1 := by simp
                have HL2 := Lib.hid hl2
                clear HADD HQN hpl hl2 PN PM HF HXE
                go_upto_region 10 with fail
                go_quiet ((with_reducible exact K1.out _))
                have ho5 : OwnI (wr.drewN nq) w.heap.size (wr.drewN nq).heap.size (.slice (some ⟨g', 0, none⟩) S.length c1) S := ho.drewN nq
                have hb5 : Below w.heap.size w (wr.drewN nq) := below_drewN hb nq
                have d15 : (wr.drewN nq).cell? ⟨bx, oo + 1, none⟩ = some (.int .i64 y1) := d1
                have zq : (wr.drewN nq).heap.size = wr.heap.size := rfl
                have ZQ := Lib.hid zq
                clear ho hb d1 d0 dS hcq K1 zq e0 t0
                generalize wr.drewN nq = w5 at *
                have z5 := hb5.size
                go_wp2_with (at_builtin; refine wpList_append_int _ rfl _ _ rfl w.heap.size w5.heap.size S.length c1 _ _ rfl (ho5.alloc _) y1 _ 1 rfl (new_cell _ _ _ rfl) (by omega) (by simp; omega) (by simp; omega) ?_)
                intro A7 c7 w7 ho7 hon
                have hb7 := (hb5.alloc z5 _).trans (hon.toBelow (Nat.le_refl _) (by simp; omega))
                rw [← HL2.out] at ho7
                clear hon ho5 hb5 d15
                go_wp2
                go_roundw
                case rel => exact ⟨j + 1, S ++ [y1], A7, c7, by omega, by go_num, by rw [HL2.out], ho7, HS2, by rw [HL2.out]; omega, HX2, HQ2, hb7⟩
                case measure => simp [intOf]; omega
              · have t0 : decide (p < 0) = false := decide_eq_false hpl
                have HQ2 := Lib.hid (HQN.out S (fun y hy => hy) (fun _ => PM.out hpl))
                clear HADD HQN hpl PN PM
                go_upto_region 10 with fail
                go_quiet ((with_reducible exact K1.out _))
                have ho5 : OwnI (wr.drewN nq) w.heap.size (wr.drewN nq).heap.size (.slice (some ⟨g', 0, none⟩) S.length c1) S := ho.drewN nq
                have hb5 : Below w.heap.size w (wr.drewN nq) := below_drewN hb nq
                clear ho hb d1 d0 dS hcq K1 e0 t0
                go_wp2
                go_roundw
                case rel => exact ⟨j + 1, S, _, c1, by omega, by go_num, rfl, ho5, HF, hks, HXE, HQ2, hb5⟩
                case measure => simp [intOf]; omega
            · have e0 : (y0 == x) = false := by rw [beq_eq_false_iff_ne]; exact hxy
              have HQ2 := Lib.hid (HQN.out S (fun y hy => hy) (fun e => absurd e hxy))
              clear HADD HQN hxy PN PM K1
              go_upto_region 10 with fail
              go_quiet (fail)
              have ho5 : OwnI (wr.drewN nq) w.heap.size (wr.drewN nq).heap.size (.slice (some ⟨g', 0, none⟩) S.length c1) S := ho.drewN nq
              have hb5 : Below w.heap.size w (wr.drewN nq) := below_drewN hb nq
              clear ho hb d1 d0 dS hcq e0
              go_wp2
              go_roundw
              case rel => exact ⟨j + 1, S, _, c1, by omega, by go_num, rfl, ho5, HF, hks, HXE, HQ2, hb5⟩
              case measure => simp [intOf]; omega
          · obtain rfl : j = rows.length := by omega
            have HF2 := Lib.hid (HF.out.next (by rw [← HXE.out]; exact HNB.out) (fun r hr e => by
              obtain ⟨q, hq, rfl⟩ := List.getElem_of_mem hr
              have := HQ.out q hq
              rw [rx_lt hq] at this
              exact this (by rw [HXE.out]; exact e)))
            go_wp2
            go_roundw
            case rel => exact ⟨k + 1, S, A1, c1, by omega, by go_num, rfl, ho, HF2, hb⟩
            case measure => simp [intOf]; omega
    · obtain rfl : k = S.length := by omega
      have HE := Lib.hid (NO.out S HF.out)
      go_wp2
      go_ret
      exact ⟨ret_b (by rw [HE.out]), hb⟩
end Go.Proofs.YtaanppihgldeaaaGreatDoor
namespace Go.Proofs.YtaanppihgldeaaaGreatDoor
set_option linter.unusedSimpArgs false
set_option linter.unusedVariables false
set_option linter.unusedVariables false
open Go.RowKit

set_option maxRecDepth 100000 in
set_option maxHeartbeats 2000000 in
theorem specLocked (M : Nat) (A : Option Addr) (n c : Nat) (vs : List Vt) (w : World) (h : VotesAt w A n vs) (hp : profOk (M : Int) vs = true) :
    Calls Tryz.prog 190 #[.agg #[.int .i64 (M : Int), .slice A n c]] w fun e w' => ∃ A' c', e = .returned (.slice A' (lockedP vs M).length c') ∧ RowsAt w' A' (lockedP vs M).length (lockedP vs M) ∧ Below w.heap.size w w' := by
  obtain ⟨m, hm⟩ : ∃ m : Int, m = (M : Int) := ⟨_, rfl⟩
  rw [← hm] at hp ⊢
  obtain rfl := h.len
  have hB := alloc_below w (.cells #[.int .i64 m, .slice A vs.length c] 24)
  obtain ⟨x0, x1⟩ := PBox.new w m A vs.length c 24 rfl
  replace h := h.below hB
  generalize hw0 : w.alloc (.cells #[.int .i64 m, .slice A vs.length c] 24) = w0 at *
  have F := Lib.hid (pf_of hp)
  have K := Lib.hid (specProfileOk m A vs.length c vs _ h (by have := F.out.n; omega) (fun v hv => by have := F.out.l v hv; have := F.out.m5; omega))
  rw [hp] at K
  subst hm
  have M5 : M ≤ 5 := by have := F.out.m5; omega
  have KP := Lib.hid (fun W hW => specPairs M A vs.length c vs W hW hp)
  have SM := Lib.hid (fun r (hr : r ∈ sortedR (keyR vs) (pairsOf vs M)) => (pairsOf_mem (sortedR_mem hr) : PairOk M r))
  have HL : Hid (lockedP vs M = lockR (sortedR (keyR vs) (pairsOf vs M)) (sortedR (keyR vs) (pairsOf vs M)).length) := rfl
  have SL := sortedR_len (keyR vs) (pairsOf vs M)
  have PL := pairs_lt vs M5
  generalize sortedR (keyR vs) (pairsOf vs M) = S at *
  generalize (pairsOf vs M).length = np at *
  clear hp F
  go_enter Tryz.func190, Tryz.ntmps190
  go_wp2_with fail
  (with_reducible refine (K.out).mono ?_)
  rintro e w1 ⟨rfl, b1⟩
  replace x0 := cell_carry b1 x0
  replace x1 := cell_carry b1 x1
  replace h := h.below b1
  replace hB := hB.trans (b1.mono hB.size)
  clear b1
  clear K
  have b3 := alloc_below w1 (.cells #[] 27)
  have e3 := World.size_alloc w1 (.cells #[] 27)
  have r3 : (w1.alloc (.cells #[] 27)).ownsRow w1.heap.size 27 1 (.slice (some ⟨w1.heap.size, 0, none⟩) 0 0) 0 [] := World.ownsRow_lit (e := 27) (size := 1) (base := w1.heap.size) w1 #[] 0 (Nat.le_refl _) (by unfold maxLen; omega) rfl
  have x03 := cell_carry b3 x0
  have x13 := cell_carry b3 x1
  have h3 := h.below b3
  have z1 := hB.size
  generalize hw2 : w1.alloc (.cells #[] 27) = w2 at *
  clear x0 x1 h
  go_wp2_with fail
  (with_reducible refine (KP.out _ h3).mono ?_)
  rintro e w3 ⟨A2, c2, Zs, rfl, ho2, hr2, hZs, b2⟩
  clear x03 x13 h3 KP hw2 hw0
  have hb3 := b3.trans (b2.mono b3.size)
  have ro3 := ownsRow_below r3 b2
  have z2 := b2.size
  have HZS := Lib.hid hZs
  have zl : Zs.length = np := by rw [← SL, ← hZs, List.length_map]
  clear hZs b3 b2 r3
  have SM2 := Lib.hid (fun p (hp : p ∈ Zs) => SM.out p.2 (by rw [← HZS.out]; exact List.mem_map_of_mem hp))
  have SB := Lib.hid (fun i (hi : i ≤ Zs.length) => (lockZ_sub Zs i hi).trans (List.take_sublist i Zs))
  have HEND : Hid ((lockZ Zs Zs.length).map Prod.snd = lockedP vs M) := by show _ = _; rw [lockZ_snd, HZS.out, HL.out, SL, zl]
  clear HL SM SL
  go_wp2
  go_loopw [3, 13] (fun v i wr => ∃ (q : Nat) (A' : Option Addr) (c' : Nat), q ≤ Zs.length ∧ i = .int .i64 q ∧ v = .slice A' (lockZ Zs q).length c' ∧ wr.ownsRow w1.heap.size 27 1 (.slice A' (lockZ Zs q).length c') (lockZ Zs q).length ((lockZ Zs q).map Prod.fst) ∧ Hid (∀ k, (Value.slice A' (lockZ Zs q).length c').ownBlock = some k → k = w1.heap.size ∨ w3.heap.size ≤ k) ∧ wr.ownsRow w2.heap.size 27 1 (.slice A2 Zs.length c2) Zs.length (Zs.map Prod.fst) ∧ RowsZ wr w2.heap.size w3.heap.size Zs ∧ Below w1.heap.size w1 wr ∧ w3.heap.size ≤ wr.heap.size) (fun _ i _ => Zs.length - (intOf i).toNat)
  case atStart => exact ⟨0, _, 0, Nat.zero_le _, rfl, rfl, ro3, (fun k e => by left; simp [Value.ownBlock] at e; omega), ho2, hr2, hb3, Nat.le_refl _⟩
  case round =>
    have HO2 := Lib.hid (fun k e => World.ownsRow.lt ho2 k e)
    clear ro3 ho2 hr2 hb3
    obtain ⟨q, A3, c3, hq, rfl, rfl, hown, HBK, hop, hrz, hb, zw⟩ := hrel
    have kl : (lockZ Zs q).length ≤ 20 := by have := (lockZ_sub Zs q (by omega)).length_le; rw [List.length_take] at this; omega
    by_cases hlq : q < Zs.length
    · obtain ⟨gp, rfl⟩ := ownsRow_some' hop (by omega)
      have hcq := World.ownsRow.cellAt hop q (by omega)
      rw [gz_map (by omega)] at hcq
      have hm := gz_mem (S := Zs) (j := q) (by omega)
      have oq := hrz.1 _ hm
      have l2 := SM2.out _ hm
      have HRA := rowsAt_of hown (hrz.sub (SB.out q (by omega)))
      have KL := Lib.hid (fun (L : Later wr) => L.call (specWay M M5 ((lockZ Zs q).map Prod.snd) (fun r hr => by
        obtain ⟨p, hp, rfl⟩ := List.mem_map.1 hr
        exact SM2.out p ((SB.out q (by omega)).subset hp)) A3 (lockZ Zs q).length c3 (by omega) (ix (gz Zs q).2 1) (ix (gz Zs q).2 0) l2.2.2 L.W (HRA.below L.h)))
      have HS : Hid (lockZ Zs (q + 1) = if leadC ((lockZ Zs q).map Prod.snd) (ix (gz Zs q).2 1) (ix (gz Zs q).2 0) then lockZ Zs q else lockZ Zs q ++ [gz Zs q]) := rfl
      have HSUB : Hid ((lockZ Zs q ++ [gz Zs q]).Sublist Zs) := by
        have h1 := (lockZ_sub Zs q (by omega)).append (List.Sublist.refl [gz Zs q])
        rw [← take_gz (by omega)] at h1
        exact h1.trans (List.take_sublist _ _)
      generalize leadC ((lockZ Zs q).map Prod.snd) (ix (gz Zs q).2 1) (ix (gz Zs q).2 0) = bl at *
      generalize gz Zs q = x at *
      generalize lockZ Zs q = Kz at *
      obtain ⟨xv, xr⟩ := x
      obtain ⟨Ax, cx, ex, hcx⟩ := oq.len
      simp only at ex l2
      subst ex
      have oq2 := oq.at_
      have l22 := l2.1
      obtain ⟨bx, ox, rfl, _, hcx2⟩ := oq2.at_ (show 0 < xr.length by omega)
      have d0 := hcx2 0 (by omega)
      have d1 := hcx2 1 (by omega)
      rw [Nat.add_zero] at d0
      have q0 : ∀ L : Later wr, L.W.cell? ⟨bx, ox, none⟩ = some (.int .i64 (ix xr 0)) := fun L => L.cell d0
      have q1 : ∀ L : Later wr, L.W.cell? ⟨bx, ox + 1, none⟩ = some (.int .i64 (ix xr 1)) := fun L => L.cell d1
      have i0 : (0 : Int) < (xr.length : Int) := by omega
      have i1 : (1 : Int) < (xr.length : Int) := by omega
      have z0 := hb.size
      clear l2 l22
      clear HRA d0 d1 hcx2 oq2 oq hm
      simp only at KL HS
      generalize ix xr 0 = X0 at *
      generalize ix xr 1 = X1 at *
      cases bl
      · rw [if_neg (by simp)] at HS
        go_upto_region 7 with fail
        refine wp_region_later (by kernel_rfl) (by kernel_rfl) ?_
        repeat (go_big_quiet_step (first | (with_reducible exact KL.out _)))
        (refine wpQuiet_nil ?_; rintro wl ⟨L_, hwl_⟩; have hbl := L_.h; rw [← hwl_] at hbl; clear hwl_ L_)
        have ho5 := ownsRow_below hown hbl
        have hop5 := ownsRow_below hop hbl
        have hrz5 := hrz.belowW hbl
        have hb5 := hb.trans (hbl.mono hb.size)
        have zb := hb5.size
        have zwl := hbl.size
        clear KL q0 q1 hcq hbl hown hb hop hrz
        have b6 := alloc_below wl (.cells #[.slice (some ⟨bx, ox, none⟩) xr.length cx] 27)
        have e6 := World.size_alloc wl (.cells #[.slice (some ⟨bx, ox, none⟩) xr.length cx] 27)
        have hb6 := hb5.trans (b6.mono hb5.size)
        have ho6 := ownsRow_below ho5 b6
        have hop6 := ownsRow_below hop5 b6
        have hrz6 := hrz5.belowW b6
        have HV : Hid (RowsV (wl.alloc (.cells #[.slice (some ⟨bx, ox, none⟩) xr.length cx] 27)) w2.heap.size w3.heap.size (Kz.map Prod.fst ++ [.slice (some ⟨bx, ox, none⟩) xr.length cx]) ((Kz ++ [((.slice (some ⟨bx, ox, none⟩) xr.length cx : Value), xr)]).map Prod.snd)) := by
          have h1 := (hrz6.sub HSUB.out).toV
          rw [List.map_append (f := Prod.fst)] at h1
          exact h1
        have HC : Hid (∀ j, j < 1 → ∃ b o, (some ⟨wl.heap.size, 0, none⟩ : Option Addr) = some ⟨b, o, none⟩ ∧ (wl.alloc (.cells #[.slice (some ⟨bx, ox, none⟩) xr.length cx] 27)).cell? ⟨b, o + j, none⟩ = [Value.slice (some ⟨bx, ox, none⟩) xr.length cx][j]?) := by
          intro j hj
          obtain rfl : j = 0 := by omega
          exact ⟨wl.heap.size, 0, rfl, new_cell _ _ _ rfl⟩
        clear b6 ho5 hop5 hrz5
        go_wp2_with (at_builtin; refine wpList_append_rowsV _ rfl _ _ rfl w1.heap.size Kz.length c3 A3 (Kz.map Prod.fst) rfl ho6 (some ⟨wl.heap.size, 0, none⟩) 1 1 [Value.slice (some ⟨bx, ox, none⟩) xr.length cx] _ w2.heap.size w3.heap.size rfl HC.out HV.out rfl (by omega) (by omega) ?_)
        intro A9 c9 w9 o9 v9 g9 hat9
        have hb9 := below_of_below hb6 g9 (fun j e => (World.ownsRow.lt ho6 j e).1)
        have el : Kz.length + 1 = (Kz ++ [((.slice (some ⟨bx, ox, none⟩) xr.length cx : Value), xr)]).length := by simp
        have o9' : w9.ownsRow w1.heap.size 27 1 (.slice A9 (Kz ++ [((.slice (some ⟨bx, ox, none⟩) xr.length cx : Value), xr)]).length c9) (Kz ++ [((.slice (some ⟨bx, ox, none⟩) xr.length cx : Value), xr)]).length ((Kz ++ [((.slice (some ⟨bx, ox, none⟩) xr.length cx : Value), xr)]).map Prod.fst) := by
          rw [← el, List.map_append]; exact o9
        have hop9 := ownsRow_grownZ hop6 g9 (fun k e e2 => by
          have a1 := HBK.out k e
          have a2 := HO2.out k e2
          omega)
        have hrz9 := hrz6.grown g9 (fun k ys e u ho => no_mix ho6 ho e)
        have HBK9 : Hid (∀ k, (Value.slice A9 (Kz ++ [((.slice (some ⟨bx, ox, none⟩) xr.length cx : Value), xr)]).length c9).ownBlock = some k → k = w1.heap.size ∨ w3.heap.size ≤ k) := fun k e => by
          rw [← el] at e
          rcases hat9 with h | h
          · rw [h] at e; exact HBK.out k e
          · rw [h] at e; have := Option.some.inj e; omega
        have z9 := g9.size
        have EL := Lib.hid el
        clear el o9 v9 g9 hat9 HC HV ho6 hb6 hb5 hop6 hrz6
        go_wp2
        go_roundw
        case rel => exact ⟨q + 1, A9, c9, by omega, by go_num, by rw [HS.out, ← EL.out], by rw [HS.out]; exact o9', by rw [HS.out]; exact HBK9, hop9, hrz9, hb9, by omega⟩
        case measure => simp [intOf]; omega
      · rw [if_pos rfl] at HS
        go_upto_region 7 with fail
        refine wp_region_later (by kernel_rfl) (by kernel_rfl) ?_
        repeat (go_big_quiet_step (first | (with_reducible exact KL.out _)))
        (refine wpQuiet_nil ?_; rintro wl ⟨L_, hwl_⟩; have hbl := L_.h; rw [← hwl_] at hbl; clear hwl_ L_)
        have ho5 := ownsRow_below hown hbl
        have hop5 := ownsRow_below hop hbl
        have hrz5 := hrz.belowW hbl
        have hb5 := hb.trans (hbl.mono hb.size)
        have zwl := hbl.size
        clear KL q0 q1 hcq hbl hown hb hop hrz
        go_wp2
        go_roundw
        case rel => exact ⟨q + 1, A3, c3, by omega, by go_num, by rw [HS.out], by rw [HS.out]; exact ho5, by rw [HS.out]; exact HBK, hop5, hrz5, hb5, by omega⟩
        case measure => simp [intOf]; omega
    · obtain rfl : q = Zs.length := by omega
      have HRA := rowsAt_of hown (hrz.sub (SB.out _ (by omega)))
      have hB5 := hB.trans (hb.mono hB.size)
      have e1 := HEND.out
      rw [e1] at HRA
      have e2 : (lockZ Zs Zs.length).length = (lockedP vs M).length := by rw [← e1, List.length_map]
      rw [e2] at HRA ⊢
      clear e1 e2
      go_wp2
      go_ret
      exact ⟨_, _, rfl, HRA, hB5⟩
end Go.Proofs.YtaanppihgldeaaaGreatDoor
namespace Go.Proofs.YtaanppihgldeaaaGreatDoor
set_option linter.unusedSimpArgs false
set_option linter.unusedVariables false
set_option linter.unusedVariables false
open Go.RowKit

/-- a is not out, and of the first j pairs none has a number that is not out ahead of a -/
def frTo (kept : List (List Int)) (out : List Int) (a : Int) : Nat → Bool
  | 0 => !has out a
  | j + 1 => frTo kept out a j && ((ix (rx kept j) 1 != a) || has out (ix (rx kept j) 0))
theorem frTo_iff {kept : List (List Int)} {out : List Int} {a : Int} : ∀ {j : Nat}, frTo kept out a j = true ↔ a ∉ out ∧ ∀ q, q < j → ix (rx kept q) 1 ≠ a ∨ ix (rx kept q) 0 ∈ out
  | 0 => by rw [frTo, Bool.not_eq_true', has_not]; simp
  | j + 1 => by
    rw [frTo, Bool.and_eq_true, frTo_iff, Bool.or_eq_true, bne_iff_ne, has_iff]
    constructor
    · rintro ⟨⟨h1, h2⟩, h3⟩
      refine ⟨h1, fun q hq => ?_⟩
      by_cases e : q = j
      · subst e; exact h3
      · exact h2 q (by omega)
    · rintro ⟨h1, h2⟩
      exact ⟨⟨h1, fun q hq => h2 q (by omega)⟩, h2 j (by omega)⟩
theorem fr_free {M : Nat} {kept : List (List Int)} {out : List Int} {a : Int} (hp : ∀ r ∈ kept, PairOk M r) : frTo kept out a kept.length = true ↔ a ∉ out ∧ freeB kept (leftO M out) a = true := by
  rw [frTo_iff]
  refine and_congr_right fun _ => ?_
  unfold freeB
  rw [Bool.not_eq_true', List.any_eq_false]
  constructor
  · intro h r hr
    obtain ⟨q, hq, rfl⟩ := List.getElem_of_mem hr
    have := h q hq
    rw [rx_lt hq] at this
    rw [Bool.and_eq_true, beq_iff_eq, has_iff]
    rintro ⟨h1, h2⟩
    rcases this with h3 | h3
    · exact h3 h1
    · exact (leftO_mem h2).2 h3
  · intro h q hq
    have := h _ (rx_mem hq)
    rw [Bool.and_eq_true, beq_iff_eq, has_iff] at this
    by_cases e : ix (rx kept q) 1 = a
    · right
      have hk := hp _ (rx_mem hq)
      by_cases h2 : ix (rx kept q) 0 ∈ out
      · exact h2
      · exact absurd ⟨e, leftO_in hk.2.1.1 hk.2.1.2 h2⟩ this
    · exact .inl e
theorem upE_inc (M : Nat) : (upE M).Pairwise (· < ·) := by
  unfold upE
  rw [List.pairwise_map]
  exact List.pairwise_lt_range.imp fun h => by omega
theorem leftO_inc (M : Nat) (out : List Int) : (leftO M out).Pairwise (· < ·) := (upE_inc M).filter _
theorem idxP_first {p : Int → Bool} {xs : List Int} : ∀ (d k j : Nat), j = k + d → j < xs.length → p (ix xs j) = true → idxP p xs k ≤ (j : Int)
  | 0, k, j, e, hj, hp => by
    have : j = k := by omega
    subst this
    rw [idxP_step p xs j hj, if_pos hp]; exact Int.le_refl _
  | d + 1, k, j, e, hj, hp => by
    rw [idxP_step p xs k (by omega)]
    split
    · omega
    · exact idxP_first d (k + 1) j (by omega) hj hp
theorem fr_first {M : Nat} {kept : List (List Int)} {out : List Int} {a : Nat} (ha : Acyc kept) (hp : ∀ r ∈ kept, PairOk M r) (haM : a < M) (hf : frTo kept out (a : Int) kept.length = true) (hm : ∀ b : Nat, b < a → frTo kept out (b : Int) kept.length = false) :
    freeAt kept (leftO M out) < (leftO M out).length ∧ ix (leftO M out) (freeAt kept (leftO M out)) = (a : Int) := by
  have h1 := (fr_free hp).1 hf
  have hin : (a : Int) ∈ leftO M out := leftO_in (by omega) (by omega) h1.1
  obtain ⟨i, hi, e⟩ := List.getElem_of_mem hin
  obtain ⟨p0, p1, p2, p3⟩ := freeAt_ok ha (show 0 < (leftO M out).length by omega)
  have h4 := idxP_first (p := freeB kept (leftO M out)) i 0 i (by omega) hi (by rw [ix_lt hi, e]; exact h1.2)
  rw [p2] at h4
  refine ⟨p1, ?_⟩
  have hmem := leftO_mem (ix_mem p1)
  have hfr : frTo kept out (ix (leftO M out) (freeAt kept (leftO M out))) kept.length = true := (fr_free hp).2 ⟨hmem.2, p3⟩
  generalize freeAt kept (leftO M out) = f at *
  have hle : ix (leftO M out) f ≤ (a : Int) := by
    by_cases e2 : f = i
    · subst e2; rw [ix_lt hi, e]; exact Int.le_refl _
    · have := (List.pairwise_iff_getElem.1 (leftO_inc M out)) f i p1 hi (by omega)
      rw [ix_lt p1]; rw [e] at this; omega
  by_cases e2 : ix (leftO M out) f = (a : Int)
  · exact e2
  · exfalso
    have := hm (ix (leftO M out) f).toNat (by omega)
    rw [Int.toNat_of_nonneg hmem.1.1, hfr] at this
    cases this
theorem fr_some {M : Nat} {kept : List (List Int)} {out : List Int} (ha : Acyc kept) (hp : ∀ r ∈ kept, PairOk M r) (hn : out.Nodup) (hr : ∀ x ∈ out, 0 ≤ x ∧ x < (M : Int)) (hl : out.length < M) : ∃ a : Nat, a < M ∧ frTo kept out (a : Int) kept.length = true := by
  obtain ⟨p0, p1, p2, p3⟩ := freeAt_ok ha (leftO_pos hn hr hl)
  have hmem := leftO_mem (ix_mem p1)
  refine ⟨(ix (leftO M out) (freeAt kept (leftO M out))).toNat, by omega, ?_⟩
  rw [Int.toNat_of_nonneg hmem.1.1]
  exact (fr_free hp).2 ⟨hmem.2, p3⟩
/-- what is out so far, and what the ranking will be -/
structure OutF (kept : List (List Int)) (M : Nat) (out : List Int) : Prop where
  nd : out.Nodup
  rg : ∀ x ∈ out, 0 ≤ x ∧ x < (M : Int)
  ln : out.length ≤ M
  eq : out ++ prk kept (M - out.length) (leftO M out) = prk kept M (upE M)
theorem OutF.start (kept : List (List Int)) (M : Nat) : OutF kept M [] := ⟨by simp, fun x hx => by simp at hx, Nat.zero_le _, by rw [leftO_nil]; rfl⟩
theorem OutF.next {kept : List (List Int)} {M : Nat} {out : List Int} {a : Nat} (h : OutF kept M out) (ha : Acyc kept) (hp : ∀ r ∈ kept, PairOk M r) (hl : out.length < M) (haM : a < M) (hf : frTo kept out (a : Int) kept.length = true) (hm : ∀ b : Nat, b < a → frTo kept out (b : Int) kept.length = false) : OutF kept M (out ++ [(a : Int)]) := by
  obtain ⟨h1, h2⟩ := fr_first ha hp haM hf hm
  have h3 := ((fr_free hp).1 hf).1
  refine ⟨?_, fun x hx => ?_, by simp; omega, ?_⟩
  · rw [List.nodup_append]
    refine ⟨h.nd, by simp, fun x hx y hy e => ?_⟩
    rw [List.mem_singleton] at hy
    subst hy; subst e; exact h3 hx
  · rw [List.mem_append, List.mem_singleton] at hx
    rcases hx with hx | rfl
    · exact h.rg x hx
    · omega
  · rw [← h.eq, List.length_append, show M - out.length = (M - (out.length + [(a : Int)].length)) + 1 by simp; omega, prk, h2, leftO_next h1, h2]
    simp
theorem OutF.done {kept : List (List Int)} {M : Nat} {out : List Int} (h : OutF kept M out) (hl : ¬ out.length < M) : out = prk kept M (upE M) := by
  have h1 := h.eq
  have h2 := h.ln
  rw [show M - out.length = 0 by omega, prk, List.append_nil] at h1
  exact h1
set_option maxRecDepth 100000 in
set_option maxHeartbeats 2000000 in
theorem specPairsRanking (m : Int) (A : Option Addr) (n c : Nat) (vs : List Vt) (w : World) (h : VotesAt w A n vs) (hn : n ≤ 1048576) (hx : ∀ v ∈ vs, v.r.length ≤ 1048576) (hp : profOk m vs = true) :
    Calls Tryz.prog 142 #[.agg #[.int .i64 m, .slice A n c]] w fun e w' => ∃ A' c', e = .returned (.slice A' (pairsRank m vs).length c') ∧ OwnI w' w.heap.size w'.heap.size (.slice A' (pairsRank m vs).length c') (pairsRank m vs) ∧ Below w.heap.size w w' := by
  obtain rfl := h.len
  have hB := alloc_below w (.cells #[.int .i64 m, .slice A vs.length c] 24)
  obtain ⟨x0, x1⟩ := PBox.new w m A vs.length c 24 rfl
  replace h := h.below hB
  generalize hw0 : w.alloc (.cells #[.int .i64 m, .slice A vs.length c] 24) = w0 at *
  have K := Lib.hid (specProfileOk m A vs.length c vs _ h hn hx)
  rw [hp] at K
  have F := pf_of hp
  obtain ⟨M, rfl⟩ : ∃ M : Nat, m = (M : Int) := ⟨m.toNat, by have := F.m1; omega⟩
  have M5 : M ≤ 5 := by have := F.m5; omega
  have KL := Lib.hid (fun W hW => specLocked M A vs.length c vs W hW hp)
  have HT : Hid (pairsRank (M : Int) vs = prk (lockedP vs M) M (upE M)) := rfl
  have pl : (pairsRank (M : Int) vs).length = M := by rw [HT.out, prk_len]
  rw [pl]
  have kl : (lockedP vs M).length ≤ 1048576 := by
    have h1 := (lockZ_sub (zr (sortedR (keyR vs) (pairsOf vs M))) _ (Nat.le_refl _)).length_le
    rw [List.take_length, ← List.length_map (f := Prod.snd), lockZ_snd, zr_snd, zr_len] at h1
    have := pairs_lt vs M5
    have e := sortedR_len (keyR vs) (pairsOf vs M)
    unfold lockedP
    omega
  have AC := Lib.hid (lockedP_acyc vs M)
  have L2 := Lib.hid (fun r (hr : r ∈ lockedP vs M) => (lockedP_mem hr : PairOk M r))
  generalize lockedP vs M = kept at *
  clear hx hp F pl
  go_enter Tryz.func142, Tryz.ntmps142
  go_wp2_with fail
  (with_reducible refine (K.out).mono ?_)
  rintro e w1 ⟨rfl, b1⟩
  replace x0 := cell_carry b1 x0
  replace x1 := cell_carry b1 x1
  replace h := h.below b1
  replace hB := hB.trans (b1.mono hB.size)
  clear b1
  clear K hw0
  go_wp2_with fail
  (with_reducible refine (KL.out _ h).mono ?_)
  rintro e w2 ⟨A2, c2, rfl, hk, b2⟩
  replace x0 := cell_carry b2 x0
  replace hB := hB.trans (b2.mono hB.size)
  clear b2 KL x1 h
  have b3 := alloc_below w2 (.cells #[] 3)
  have o3 := OwnI.empty w2 (lo := w2.heap.size) (hi := (w2.alloc (.cells #[] 3)).heap.size) (Nat.le_refl _) (by simp)
  have z2 := hB.size
  have x03 := cell_carry b3 x0
  go_wp2
  clear x03
  go_loopw [4] (fun v wr => ∃ (out : List Int) (A' : Option Addr) (c' : Nat), v = .slice A' out.length c' ∧ OwnI wr w2.heap.size wr.heap.size (.slice A' out.length c') out ∧ Hid (OutF kept M out) ∧ Below w2.heap.size w2 wr) (fun v _ => M - lenOf v)
  case atStart => exact ⟨[], _, 0, rfl, o3, OutF.start _ _, b3⟩
  case round =>
    clear o3 b3
    obtain ⟨out, A1, c1, rfl, ho, HF, hb⟩ := hrel
    have x0' := cell_carry hb x0
    have ln := HF.out.ln
    have z0 := hb.size
    by_cases hlt : out.length < M
    · have i0 : (out.length : Int) < (M : Int) := by omega
      go_wp2
      clear x0'
      go_loopw [4, 5] (fun v i wr => ∃ a : Nat, a ≤ M ∧ i = .int .i64 a ∧ v = .slice A1 out.length c1 ∧ OwnI wr w2.heap.size wr.heap.size (.slice A1 out.length c1) out ∧ Hid (∀ b : Nat, b < a → frTo kept out (b : Int) kept.length = false) ∧ Below w2.heap.size w2 wr) (fun _ i _ => M - (intOf i).toNat)
      case atStart => exact ⟨0, Nat.zero_le _, rfl, rfl, ho, (fun b hb => by omega), hb⟩
      case round =>
        clear ho hb z0
        obtain ⟨a, haM, rfl, rfl, ho, HM, hb⟩ := hrel
        have x0' := cell_carry hb x0
        have z0 := hb.size
        by_cases hla : a < M
        · have i1 : (a : Int) < (M : Int) := by omega
          have KO := Lib.hid (specOut A1 out.length c1 out (a : Int) wr ho.at_ (by omega))
          go_wp2_with fail
          (with_reducible refine KO.out.mono ?_)
          rintro e w5 ⟨rfl, rfl⟩
          obtain ⟨wo, rfl⟩ : ∃ wo, wo = wr := ⟨_, rfl⟩
          clear KO x0'
          go_wp2
          go_loopw [6, 32] (fun v i wr => ∃ j : Nat, j ≤ kept.length ∧ i = .int .i64 j ∧ v = .bool (frTo kept out (a : Int) j) ∧ wr = wo) (fun _ i _ => kept.length - (intOf i).toNat)
          case atStart => exact ⟨0, Nat.zero_le _, rfl, rfl, rfl⟩
          case round =>
            obtain ⟨j, hj, rfl, rfl, rfl⟩ := hrel
            by_cases hlj : j < kept.length
            · obtain ⟨bq, oq, Aq, cq, rfl, _, hcq, hcc, hin⟩ := (hk.below hb).at_ hlj
              have hpq := L2.out _ (rx_mem hlj)
              have HS : Hid (frTo kept out (a : Int) (j + 1) = (frTo kept out (a : Int) j && ((ix (rx kept j) 1 != (a : Int)) || has out (ix (rx kept j) 0)))) := rfl
              have l2 := hpq.1
              generalize rx kept j = r at *
              obtain ⟨bx, oo, rfl, _, cr⟩ := hin.at_ (show 0 < r.length by omega)
              have d0 := cr 0 (by omega)
              have d1 := cr 1 (by omega)
              rw [Nat.add_zero] at d0
              have i1 : (1 : Int) < (r.length : Int) := by omega
              have i2 : (0 : Int) < (r.length : Int) := by omega
              have i4 : (j : Int) < (kept.length : Int) := by omega
              have KO := Lib.hid (specOut A1 out.length c1 out (ix r 0) wr ho.at_ (by omega))
              clear hpq cr l2 hin
              generalize ix r 0 = y0 at *
              generalize ix r 1 = y1 at *
              generalize frTo kept out (a : Int) j = q at *
              generalize has out y0 = q2 at *
              cases q
              · rw [Bool.false_and] at HS
                clear KO
                go_wp2
                go_roundw
                case rel => exact ⟨j + 1, by omega, by go_num, by rw [HS.out], by trivial⟩
                case measure => simp [intOf]; omega
              · rw [Bool.true_and] at HS
                by_cases hya : y1 = (a : Int)
                · have e0 : (y1 != (a : Int)) = false := by rw [bne_eq_false_iff_eq]; exact hya
                  rw [e0, Bool.false_or] at HS
                  clear hya
                  go_wp2_with fail
                  (with_reducible refine KO.out.mono ?_)
                  rintro e w6 ⟨rfl, rfl⟩
                  clear KO
                  go_wp2
                  go_roundw
                  case rel => exact ⟨j + 1, by omega, by go_num, by rw [HS.out], by trivial⟩
                  case measure => simp [intOf]; omega
                · have e0 : (y1 != (a : Int)) = true := by rw [bne_iff_ne]; exact hya
                  rw [e0, Bool.true_or] at HS
                  clear hya KO
                  go_wp2
                  go_roundw
                  case rel => exact ⟨j + 1, by omega, by go_num, by rw [HS.out], by trivial⟩
                  case measure => simp [intOf]; omega
            · obtain rfl : j = kept.length := by omega
              have HNX := Lib.hid (fun hf => HF.out.next AC.out L2.out hlt hla hf HM.out)
              have HMN : Hid (frTo kept out (a : Int) kept.length = false → ∀ b : Nat, b < a + 1 → frTo kept out (b : Int) kept.length = false) := fun hh b hb => by
                by_cases e : b = a
                · subst e; exact hh
                · exact HM.out b (by omega)
              generalize frTo kept out (a : Int) kept.length = q at *
              cases q
              · have HM2 := Lib.hid (HMN.out rfl)
                clear HNX HMN
                go_wp2
                go_roundw
                case rel => exact ⟨a + 1, by omega, by go_num, rfl, ho, HM2, hb⟩
                case measure => simp [intOf]; omega
              · have HF2 := Lib.hid (HNX.out rfl)
                have hl2 : (out ++ [(a : Int)]).length = out.length + 1 := by simp
                have HL2 := Lib.hid hl2
                clear HNX HMN hl2
                go_wp2_with (at_builtin; refine wpList_append_int _ rfl _ _ rfl w2.heap.size wr.heap.size out.length c1 A1 _ rfl (ho.alloc _) (a : Int) _ 1 rfl (new_cell _ _ _ rfl) (by omega) (by simp; omega) (by simp; omega) ?_)
                intro A7 c7 w7 ho7 hon
                have hb7 := (hb.alloc z0 _).trans (hon.toBelow (Nat.le_refl _) (by simp; omega))
                rw [← HL2.out] at ho7
                clear hon ho hb
                go_wp2
                go_roundw
                case rel => exact ⟨out ++ [(a : Int)], A7, c7, by rw [HL2.out], ho7, HF2, hb7⟩
                case measure => simp [lenOf]; omega
        · obtain ⟨b, hbM, hbf⟩ := fr_some AC.out L2.out HF.out.nd HF.out.rg hlt
          have := HM.out b (by omega)
          rw [hbf] at this
          cases this
    · have HE := Lib.hid (HF.out.done hlt)
      have hln : out.length = M := by omega
      have HPR : Hid (out = pairsRank (M : Int) vs) := by show _ = _; rw [HT.out]; exact HE.out
      have hB5 := hB.trans (hb.mono hB.size)
      have ho5 := ho.mono z2 (Nat.le_refl _)
      rw [hln] at ho5
      have HO5 : Hid (OwnI wr w.heap.size wr.heap.size (.slice A1 M c1) (pairsRank (M : Int) vs)) := by rw [← HPR.out]; exact ho5
      have i0 : ¬ (out.length : Int) < (M : Int) := by omega
      have HLN := Lib.hid hln
      clear hln ho5 ho hlt ln
      go_wp2
      rw [HLN.out]
      go_ret
      exact ⟨_, _, rfl, HO5.out, hB5⟩
end Go.Proofs.YtaanppihgldeaaaGreatDoor
