/- All rankings: the program's recursion. All rankings of m: both sides. -/
import Derived.Test.YtaanppihgldeaaaGreatDoorW12
import Derived.Test.YtaanppihgldeaaaGreatDoorW05
import Derived.Test.YtaanppihgldeaaaGreatDoorW02
import Derived.Deep.RegionWith
namespace Go.Proofs.YtaanppihgldeaaaGreatDoor
set_option linter.unusedSimpArgs false
set_option linter.unusedVariables false
set_option linter.unusedVariables false
open Go.RowKit

theorem IntsAt.drop {w : World} {b o n k : Nat} {xs : List Int} (h : IntsAt w (some ⟨b, o, none⟩) n xs) (hk : k ≤ n) : IntsAt w (some ⟨b, o + k, none⟩) (n - k) (xs.drop k) := by
  refine ⟨by rw [List.length_drop, h.1], fun h0 => ?_⟩
  obtain ⟨b', o', e, hc⟩ := h.2 (by omega)
  cases e
  refine ⟨b, o + k, rfl, fun j hj => ?_⟩
  rw [Nat.add_assoc, hc (k + j) (by omega)]
  have h1 : j < (xs.drop k).length := by rw [List.length_drop, h.1]; exact hj
  rw [ix_lt h1, ix_lt (by rw [h.1]; omega)]
  simp
theorem RowsAt.pair {w : World} {A1 A2 : Option Addr} {n1 n2 c1 c2 : Nat} {xs ys : List Int} (h1 : IntsAt w A1 n1 xs) (h2 : IntsAt w A2 n2 ys) (l1 : n1 ≤ c1) (l2 : n2 ≤ c2) (T : TypeId) :
    RowsAt (w.alloc (.cells #[.slice A1 n1 c1, .slice A2 n2 c2] T)) (some ⟨w.heap.size, 0, none⟩) 2 [xs, ys] := by
  have hb := (Below.refl w.heap.size w).alloc (Nat.le_refl _) (.cells #[.slice A1 n1 c1, .slice A2 n2 c2] T)
  refine ⟨rfl, fun _ => ⟨w.heap.size, 0, rfl, fun j hj => ?_⟩⟩
  rw [Nat.zero_add]
  match j, hj with
  | 0, _ => exact ⟨A1, n1, c1, by rw [cell_of_row _ _ 0 #[.slice A1 n1 c1, .slice A2 n2 c2] T (0, 0) (heap_alloc_new w _)]; rfl, l1, h1.below hb⟩
  | 1, _ => exact ⟨A2, n2, c2, by rw [cell_of_row _ _ 1 #[.slice A1 n1 c1, .slice A2 n2 c2] T (0, 0) (heap_alloc_new w _)]; rfl, l2, h2.below hb⟩
theorem RowsAt.drew {w : World} {A : Option Addr} {n : Nat} {xss : List (List Int)} (h : RowsAt w A n xss) : RowsAt w.drew A n xss := h
set_option maxHeartbeats 800000 in
theorem upTo_set {n k : Nat} (h : k < n) : (upTo k ++ List.replicate (n - k) 0).set k (k : Int) = upTo (k + 1) ++ List.replicate (n - (k + 1)) 0 := by
  have hl : (upTo k).length = k := by simp [upTo]
  rw [List.set_append_right _ _ (by omega), hl, Nat.sub_self, show n - k = (n - (k + 1)) + 1 by omega, List.replicate_succ, List.set_cons_zero]
  unfold upTo
  rw [List.range_succ, List.map_append, List.append_assoc]
  rfl
set_option maxHeartbeats 800000 in
theorem indices_any (n : Nat) (w : World) (hn : n ≤ 1048576) :
    Calls Tryz.prog 118 #[.int .i64 (n : Int)] w fun e w' => ∃ A' c', e = .returned (.slice A' n c') ∧ OwnI w' w.heap.size w'.heap.size (.slice A' n c') (upTo n) ∧ Below w.heap.size w w' := by
  go_enter Tryz.func118, Tryz.ntmps118
  go_wp2_with ((with_reducible refine wpList_make_ints _ rfl _ _ rfl n rfl rfl (by omega) ?_))
  intro w2 ho hb hs
  have z := hb.size
  have e0 : List.replicate n (0 : Int) = upTo 0 ++ List.replicate (n - 0) 0 := by simp [upTo]
  rw [e0] at ho
  have HS := Lib.hid hs
  clear e0 hs
  go_wp2
  go_loopw [4, 9] (fun _ i wr => ∃ k : Nat, k ≤ n ∧ i = .int .i64 k ∧ OwnI wr w.heap.size (w.heap.size + 1) (.slice (some ⟨w.heap.size, 0, none⟩) n n) (upTo k ++ List.replicate (n - k) 0) ∧ Below w.heap.size w wr) (fun _ i _ => n - (intOf i).toNat)
  case atStart => exact ⟨0, Nat.zero_le _, rfl, ho, hb⟩
  case round =>
    obtain ⟨k, hk, rfl, hown, hbr⟩ := hrel
    have zr := hbr.size
    by_cases hlt : k < n
    · have ck := hown.cellAt k hlt
      have fk := hown.frozenAt k
      obtain ⟨ho2, hon⟩ := hown.stored k (k : Int)
      rw [upTo_set hlt] at ho2
      have hb2 := hbr.trans (hon.toBelow (Nat.le_refl _) zr)
      clear hon hown hbr
      go_wp2
      go_roundw
      case rel => exact ⟨k + 1, by omega, by go_num, ho2, hb2⟩
      case measure => simp [intOf]; omega
    · obtain rfl : k = n := by omega
      have e : upTo k ++ List.replicate (k - k) (0 : Int) = upTo k := by simp
      rw [e] at hown
      have := hown.num.2.1
      go_wp2
      go_ret
      exact ⟨_, _, rfl, hown.mono (Nat.le_refl _) (by omega), hbr⟩
set_option maxHeartbeats 8000000 in
theorem orders_any (f : Nat) : ∀ (A : Option Addr) (n c : Nat) (zs : List Int) (w : World) (h : IntsAt w A n zs) (hn : n ≤ 5) (hnf : n ≤ f) (hf : f ≤ 5) (hc : n ≤ c),
    Calls Tryz.prog 210 #[.slice A n c] w fun e w' => ∃ A' c', e = .returned (.slice A' (orders f zs).length c') ∧ OwnR w' w.heap.size w'.heap.size (.slice A' (orders f zs).length c') (orders f zs) ∧ Below w.heap.size w w' := by
  have hnone : ∀ (f : Nat) (A : Option Addr) (c : Nat) (zs : List Int) (w : World) (h : IntsAt w A 0 zs),
      Calls Tryz.prog 210 #[.slice A 0 c] w fun e w' => ∃ A' c', e = .returned (.slice A' (orders f zs).length c') ∧ OwnR w' w.heap.size w'.heap.size (.slice A' (orders f zs).length c') (orders f zs) ∧ Below w.heap.size w w' := by
    intro f A c zs w h
    have e := orders_none (f := f) h.len
    rw [e]
    have o1 := OwnR.lit1 (OwnI.nil w w.heap.size w.heap.size) (Nat.le_refl _) (Nat.le_refl _)
    have b1 := (Below.refl w.heap.size w).alloc (Nat.le_refl _) (.cells #[.slice none 0 0] 27)
    have z1 := World.size_alloc w (.cells #[.slice none 0 0] 27)
    have Z1 := Lib.hid z1
    clear e z1
    go_enter Tryz.func210, Tryz.ntmps210
    go_wp2
    go_ret
    exact ⟨_, _, rfl, o1.mono (Nat.le_refl _) (Nat.le_of_eq Z1.out.symm), b1⟩
  induction f with
  | zero =>
    intro A n c zs w h hn hnf hf hc
    obtain rfl : n = 0 := by omega
    exact hnone 0 A c zs w h
  | succ f ih =>
    intro A n c zs w h hn hnf hf hc
    by_cases h0 : n = 0
    · subst h0
      exact hnone (f + 1) A c zs w h
    obtain rfl := h.len
    rw [orders_some h0]
    have hln : ∀ k, k ≤ zs.length → (flatP (fun _ => true) (fun i => (orders f (cutAt zs i)).map (ix zs i :: ·)) k).length ≤ 20000 := by
      intro k hk
      have h1 := flatP_len (p := fun _ => true) (g := fun i => (orders f (cutAt zs i)).map (ix zs i :: ·)) (b := 5 ^ f) (fun j => by rw [List.length_map]; exact orders_len f _ (by simp [cutAt]; omega)) k
      have h2 : 5 ^ f ≤ 5 ^ 5 := Nat.pow_le_pow_right (by omega) (by omega)
      have h3 : k * 5 ^ f ≤ 5 * 5 ^ 5 := Nat.mul_le_mul (by omega) h2
      omega
    have HT := Lib.hid (fun k => flatP_yes (p := fun _ => true) (g := fun i => (orders f (cutAt zs i)).map (ix zs i :: ·)) (k := k) rfl)
    have H00 : Hid (flatP (fun _ => true) (fun i => (orders f (cutAt zs i)).map (ix zs i :: ·)) 0 = []) := rfl
    have HL := Lib.hid hln
    clear hln hnone
    generalize flatP (fun _ => true) (fun i => (orders f (cutAt zs i)).map (ix zs i :: ·)) = T at *
    have hp : 0 < zs.length := by omega
    have e0 : ((zs.length : Int) == 0) = false := by rw [beq_eq_false_iff_ne]; omega
    clear h0
    go_enter Tryz.func210, Tryz.ntmps210
    go_wp2
    go_loopw [3, 4, 5, 7, 14] (fun v _ _ _ i wr => ∃ (k : Nat) (A' : Option Addr) (c' : Nat), k ≤ zs.length ∧ i = .int .i64 k ∧ v = .slice A' (T k).length c' ∧ OwnR wr w.heap.size wr.heap.size (.slice A' (T k).length c') (T k) ∧ Below w.heap.size w wr) (fun _ _ _ _ i _ => zs.length - (intOf i).toNat)
    case atStart => exact ⟨0, none, 0, Nat.zero_le _, rfl, by rw [H00.out]; rfl, by rw [H00.out]; exact OwnR.nil _ _ _, Below.refl _ _⟩
    case round =>
      obtain ⟨k, A1, c1, hk, rfl, rfl, hown, hb⟩ := hrel
      obtain ⟨wo, rfl⟩ : ∃ wo, wo = wr := ⟨_, rfl⟩
      have zr := hb.size
      by_cases hlt : k < zs.length
      · obtain ⟨b, o, rfl, _, hcs⟩ := (h.below hb).at_ hlt
        have hin := h.below hb
        have hck := hcs k hlt
        have E1 : IntKind.i64.wrap ((k : Int) + 1) = (k : Int) + 1 := by rw [IntKind.wrap_i64]; omega
        have k1 : (0 : Int) ≤ (k : Int) := by omega
        have k2 : (k : Int) < (zs.length : Int) := by omega
        have k3 : (k : Int) ≤ (c : Int) := by omega
        have k4 : (k : Int) + 1 ≤ (zs.length : Int) := by omega
        have k5 : (k : Int) + 1 ≤ (c : Int) := by omega
        clear hcs
        have HCU := Lib.hid (flatL_2 (zs.take k) (zs.drop (k + 1)))
        have HCUT : Hid (flatL [zs.take k, zs.drop (k + 1)] = cutAt zs k) := HCU.out
        have hcl := cutAt_len hlt
        have hc1 : (cutAt zs k).length ≤ f := by omega
        have hc2 : (cutAt zs k).length ≤ 5 := by omega
        have HFL : Hid ((flatL [zs.take k, zs.drop (k + 1)]).length ≤ 1048576) := by show _ ≤ _; rw [HCUT.out]; omega
        have hf5 : f ≤ 5 := by omega
        have hin1 := hin.take (k := k) (by omega)
        have HTK := Lib.hid (HT.out k)
        have hlT := HL.out (k + 1) (by omega)
        have hlT0 := HL.out k (by omega)
        clear HCU hcl
        by_cases hcap : c = k + 1
        · have hdr : zs.drop (k + 1) = [] := List.drop_eq_nil_of_le (by omega)
          have HDR := Lib.hid hdr
          subst hcap
          clear hdr
          have bA := (Below.refl wo.heap.size wo).alloc (Nat.le_refl _) (.cells #[.slice (some ⟨b, o, none⟩) k (k + 1), .slice (some ⟨b, o, none⟩) 0 0] 27)
          have zA := World.size_alloc wo (.cells #[.slice (some ⟨b, o, none⟩) k (k + 1), .slice (some ⟨b, o, none⟩) 0 0] 27)
          have hq0 : ∀ j, (Value.slice A1 (T k).length c1).ownBlock = some j → j < wo.heap.size := fun j e => (hown.block_ge j e).2
          have hownW : OwnR (wo.alloc (.cells #[.slice (some ⟨b, o, none⟩) k (k + 1), .slice (some ⟨b, o, none⟩) 0 0] 27)).drew w.heap.size wo.heap.size (.slice A1 (T k).length c1) (T k) := hown.belowW bA.drew
          have bW : Below wo.heap.size wo (wo.alloc (.cells #[.slice (some ⟨b, o, none⟩) k (k + 1), .slice (some ⟨b, o, none⟩) 0 0] 27)).drew := bA.drew
          have HR : Hid (RowsAt (wo.alloc (.cells #[.slice (some ⟨b, o, none⟩) k (k + 1), .slice (some ⟨b, o, none⟩) 0 0] 27)).drew (some ⟨wo.heap.size, 0, none⟩) 2 [zs.take k, zs.drop (k + 1)]) := by rw [HDR.out]; exact (RowsAt.pair hin1 (IntsAt.nil wo _) (by omega) (Nat.le_refl 0) 27).drew
          have hbW := hb.trans (bW.mono zr)
          clear bA hown hb zA
          go_wp2_with fail
          go_region_with (first
            | (go_at_call 233; (with_reducible refine (concat_any _ 2 2 [zs.take k, zs.drop (k + 1)] _ HR.out ?_ HFL.out).mono ?_); (· omega); rintro e w2 ⟨A2, c2, rfl, o2, b2⟩; rw [HCUT.out] at o2 ⊢)
            | (go_at_call 210; (with_reducible refine (ih A2 _ c2 (cutAt zs k) _ o2.at_ hc2 hc1 hf5 o2.ints.2.2.1).mono ?_); rintro e w4 ⟨A4, c4, rfl, o4, b4⟩))
          all_goals
            simp only [List.getElem_toArray, List.getElem_cons_succ, List.getElem_cons_zero]
            go_frame
            generalize (wo.alloc (.cells #[.slice (some ⟨b, o, none⟩) k (k + 1), .slice (some ⟨b, o, none⟩) 0 0] 27)).drew = wA at *
            have z2 := b2.size
            have z4 := b4.size
            have zW := bW.size
            have hown4 := ((hownW.belowW b2).belowW b4).mono (lo' := w.heap.size) (hi' := w4.heap.size) (Nat.le_refl _) (by omega)
            have hb4 := (hbW.trans (b2.mono hbW.size)).trans (b4.mono (by omega))
            have HQ0 : Hid (∀ j, (Value.slice A1 (T k).length c1).ownBlock = some j → j < w2.heap.size ∨ w4.heap.size ≤ j) := fun j e => .inl (by have := hq0 j e; omega)
            obtain ⟨R, hR⟩ : ∃ R, R = orders f (cutAt zs k) := ⟨_, rfl⟩
            rw [← hR] at o4 HTK ⊢
            have hRl : R.length ≤ 20000 := by
              have h1 := HTK.out
              have h2 := congrArg List.length h1
              rw [List.length_append, List.length_map] at h2
              omega
            have HRR : Hid (∀ x ∈ R, x.length ≤ f) := by rw [hR]; exact orders_row f _ hc2
            clear hR b2 b4 o2 HR hownW bW hbW hc1 hc2 HFL HCUT hq0
            obtain ⟨U, hU⟩ : ∃ U : Nat → List (List Int), ∀ j, U j = T k ++ (R.take j).map (ix zs k :: ·) := ⟨_, fun _ => rfl⟩
            have HU0 : Hid (U 0 = T k) := by show _ = _; rw [hU]; simp
            have HUS : Hid (∀ j, j < R.length → U (j + 1) = U j ++ [ix zs k :: rx R j]) := fun j hj => by rw [hU, hU, take_rx hj, List.map_append, List.append_assoc]; rfl
            have HUE : Hid (U R.length = T (k + 1)) := by show _ = _; rw [hU, List.take_length, HTK.out]
            have HUL : Hid (∀ j, (U j).length ≤ 20000 + j) := fun j => by rw [hU, List.length_append, List.length_map, List.length_take]; omega
            clear hU
            go_wp2
            go_loopw [3, 7, 30] (fun v _ i wr => ∃ (j : Nat) (A' : Option Addr) (c' : Nat), j ≤ R.length ∧ i = .int .i64 j ∧ v = .slice A' (U j).length c' ∧ OwnR wr w.heap.size wr.heap.size (.slice A' (U j).length c') (U j) ∧ OwnR wr w2.heap.size w4.heap.size (.slice A4 R.length c4) R ∧ Below w.heap.size w wr ∧ w4.heap.size ≤ wr.heap.size ∧ (∀ q, (Value.slice A' (U j).length c').ownBlock = some q → q < w2.heap.size ∨ w4.heap.size ≤ q)) (fun _ _ i _ => R.length - (intOf i).toNat)
            case atStart => exact ⟨0, _, _, Nat.zero_le _, rfl, by rw [HU0.out], by rw [HU0.out]; exact hown4, o4, hb4, Nat.le_refl _, by rw [HU0.out]; exact HQ0.out⟩
            case round =>
              obtain ⟨j, A6, c6, hj, rfl, rfl, ho6, hO6, hb6, hz64, hq6⟩ := hrel
              have hR6 := hO6.at_
              have HQ6 := Lib.hid hq6
              have z6 := hb6.size
              clear hown4 hb4 o4 z2 zW hq6
              by_cases hjl : j < R.length
              · obtain ⟨bb, oo, Ar, cr, rfl, _, hcj, hcr, hir⟩ := hR6.at_ hjl
                have hrl := HRR.out _ (rx_mem hjl)
                have hul := HUL.out j
                have HUJ := Lib.hid (HUS.out j hjl)
                have b7 := (Below.refl wr.heap.size wr).alloc (Nat.le_refl _) (.cells #[.int .i64 (ix zs k)] 3)
                have z7 := World.size_alloc wr (.cells #[.int .i64 (ix zs k)] 3)
                have i7 : IntsAt (wr.alloc (.cells #[.int .i64 (ix zs k)] 3)) (some ⟨wr.heap.size, 0, none⟩) 1 [ix zs k] := by
                  refine ⟨rfl, fun _ => ⟨wr.heap.size, 0, rfl, fun q hq => ?_⟩⟩
                  obtain rfl : q = 0 := by omega
                  exact new_cell wr (.int .i64 (ix zs k)) 3 rfl
                have hp7 := RowsAt.pair i7 (hir.below b7) (Nat.le_refl 1) hcr 27
                have b8 := (Below.refl (wr.alloc (.cells #[.int .i64 (ix zs k)] 3)).heap.size (wr.alloc (.cells #[.int .i64 (ix zs k)] 3))).alloc (Nat.le_refl _) (.cells #[.slice (some ⟨wr.heap.size, 0, none⟩) 1 1, .slice Ar (rx R j).length cr] 27)
                have HP7 := Lib.hid hp7
                have bB := b7.trans (b8.mono (by omega))
                have HZ7 := Lib.hid z7
                have hoB := ho6.belowW bB
                have hOB := hO6.belowW bB
                have hbB := hb6.trans (bB.mono z6)
                have HF7 : Hid ((flatL [[ix zs k], rx R j]).length ≤ 1048576) := by show _ ≤ _; rw [flatL_2]; simp; omega
                have HFE : Hid (flatL [[ix zs k], rx R j] = ix zs k :: rx R j) := by show _ = _; rw [flatL_2]; rfl
                have hzB := bB.size
                clear hp7 b7 b8 i7 z7 ho6 hR6 hO6 hir bB hb6
                go_wp2_with fail
                rw [← HZ7.out]
                (with_reducible refine (concat_any _ 2 2 [[ix zs k], rx R j] _ HP7.out (by omega) HF7.out).mono ?_)
                rintro e w9 ⟨A9, c9, rfl, o9, b9⟩
                rw [HFE.out] at o9 ⊢
                have z9 := b9.size
                have ho9 := hoB.belowW b9
                have hO9 := hOB.belowW b9
                have hb9 := hbB.trans (b9.mono hbB.size)
                clear hoB hOB hbB b9 HP7 HF7 HFE
                have bC := (Below.refl w9.heap.size w9).alloc (Nat.le_refl _) (.cells #[.slice A9 (ix zs k :: rx R j).length c9] 27)
                have zC := World.size_alloc w9 (.cells #[.slice A9 (ix zs k :: rx R j).length c9] 27)
                have hOC := hO9.belowW bC
                have hoC := ho9.belowW bC
                have hbC := hb9.trans (bC.mono hb9.size)
                have hV := rowsV_one (o9.belowW bC)
                have hcC := new_cell w9 (.slice A9 (ix zs k :: rx R j).length c9) 27 rfl
                have HCC : Hid (∀ q, q < 1 → ∃ b o, (some ⟨w9.heap.size, 0, none⟩ : Option Addr) = some ⟨b, o, none⟩ ∧ (w9.alloc (.cells #[.slice A9 (ix zs k :: rx R j).length c9] 27)).cell? ⟨b, o + q, none⟩ = [Value.slice A9 (ix zs k :: rx R j).length c9][q]?) := by
                  intro q hq
                  obtain rfl : q = 0 := by omega
                  exact ⟨w9.heap.size, 0, rfl, hcC⟩
                have HZC := Lib.hid zC
                have zC1 : w9.heap.size ≤ (w9.alloc (.cells #[.slice A9 (ix zs k :: rx R j).length c9] 27)).heap.size := by omega
                have q1 : (U j).length + 1 ≤ 1000000000000 := by omega
                have q2 : w.heap.size ≤ (w9.alloc (.cells #[.slice A9 (ix zs k :: rx R j).length c9] 27)).heap.size := hbC.size
                have q3 := Nat.le_trans z6 hzB
                clear hcC ho9 hO9 hb9 bC o9 zC
                go_wp2_with (at_builtin; refine wpList_append_rows _ rfl _ _ rfl w.heap.size wr.heap.size _ _ _ _ rfl hoC (some ⟨w9.heap.size, 0, none⟩) 1 1 [Value.slice A9 (ix zs k :: rx R j).length c9] [ix zs k :: rx R j] _ _ rfl HCC.out hV rfl hzB q1 q2 q3 ?_)
                intro Af cf wf hof hgf hatf
                have zf := hgf.size
                have q4 := Nat.le_trans hz64 (Nat.le_trans hzB (Nat.le_trans z9 (Nat.le_trans zC1 zf)))
                have hOf := hOC.grownBy hgf (fun q e => by have := HQ6.out q e; omega)
                have hbf := below_of_below hbC hgf (fun q e => (hoC.block_ge q e).1)
                have el : (U j).length + 1 = (U (j + 1)).length := by rw [HUJ.out]; simp
                have HEL := Lib.hid el
                have HQf : Hid (∀ q, (Value.slice Af (U (j + 1)).length cf).ownBlock = some q → q < w2.heap.size ∨ w4.heap.size ≤ q) := by
                  rw [← HEL.out]
                  intro q e
                  rcases hatf with h | h
                  · rw [h] at e; exact HQ6.out q e
                  · rw [h] at e; have e2 := Option.some.inj e; right; have := HZC.out; omega
                rw [← HUJ.out, HEL.out] at hof
                clear hatf hgf hOC hoC hbC hV el
                go_wp2
                go_roundw
                case rel => first | exact ⟨j + 1, _, _, by omega, by go_num, by rw [← HEL.out], hof, hOf, hbf, q4, HQf.out⟩ | ((repeat apply Exists.intro); exact ⟨⟨j + 1, _, _, by omega, by go_num, by rw [← HEL.out], hof, hOf, hbf, q4, HQf.out⟩, rfl⟩)
                case measure => simp [intOf]; omega
              · obtain rfl : j = R.length := by omega
                rw [HUE.out] at ho6 ⊢
                go_wp2
                go_roundw
                case rel => first | exact ⟨k + 1, _, _, by omega, by go_num, rfl, ho6, hb6⟩ | ((repeat apply Exists.intro); exact ⟨⟨k + 1, _, _, by omega, by go_num, rfl, ho6, hb6⟩, rfl⟩)
                case measure => simp [intOf]; omega
        · have hcap2 : ¬ (k + 1 = c) := fun e => hcap e.symm
          have hin2 := hin.drop (k := k + 1) (by omega)
          have bA := (Below.refl wo.heap.size wo).alloc (Nat.le_refl _) (.cells #[.slice (some ⟨b, o, none⟩) k c, .slice (some ⟨b, o + (k + 1), none⟩) (zs.length - (k + 1)) (c - (k + 1))] 27)
          have zA := World.size_alloc wo (.cells #[.slice (some ⟨b, o, none⟩) k c, .slice (some ⟨b, o + (k + 1), none⟩) (zs.length - (k + 1)) (c - (k + 1))] 27)
          have hq0 : ∀ j, (Value.slice A1 (T k).length c1).ownBlock = some j → j < wo.heap.size := fun j e => (hown.block_ge j e).2
          have hownW : OwnR (wo.alloc (.cells #[.slice (some ⟨b, o, none⟩) k c, .slice (some ⟨b, o + (k + 1), none⟩) (zs.length - (k + 1)) (c - (k + 1))] 27)).drew w.heap.size wo.heap.size (.slice A1 (T k).length c1) (T k) := hown.belowW bA.drew
          have bW : Below wo.heap.size wo (wo.alloc (.cells #[.slice (some ⟨b, o, none⟩) k c, .slice (some ⟨b, o + (k + 1), none⟩) (zs.length - (k + 1)) (c - (k + 1))] 27)).drew := bA.drew
          have HR : Hid (RowsAt (wo.alloc (.cells #[.slice (some ⟨b, o, none⟩) k c, .slice (some ⟨b, o + (k + 1), none⟩) (zs.length - (k + 1)) (c - (k + 1))] 27)).drew (some ⟨wo.heap.size, 0, none⟩) 2 [zs.take k, zs.drop (k + 1)]) := (RowsAt.pair hin1 hin2 (by omega) (by omega) 27).drew
          have hbW := hb.trans (bW.mono zr)
          clear bA hown hb zA
          go_wp2_with fail
          go_region_with (first
            | (go_at_call 233; (with_reducible refine (concat_any _ 2 2 [zs.take k, zs.drop (k + 1)] _ HR.out ?_ HFL.out).mono ?_); (· omega); rintro e w2 ⟨A2, c2, rfl, o2, b2⟩; rw [HCUT.out] at o2 ⊢)
            | (go_at_call 210; (with_reducible refine (ih A2 _ c2 (cutAt zs k) _ o2.at_ hc2 hc1 hf5 o2.ints.2.2.1).mono ?_); rintro e w4 ⟨A4, c4, rfl, o4, b4⟩))
          simp only [List.getElem_toArray, List.getElem_cons_succ, List.getElem_cons_zero]
          go_frame
          generalize (wo.alloc (.cells #[.slice (some ⟨b, o, none⟩) k c, .slice (some ⟨b, o + (k + 1), none⟩) (zs.length - (k + 1)) (c - (k + 1))] 27)).drew = wA at *
          have z2 := b2.size
          have z4 := b4.size
          have zW := bW.size
          have hown4 := ((hownW.belowW b2).belowW b4).mono (lo' := w.heap.size) (hi' := w4.heap.size) (Nat.le_refl _) (by omega)
          have hb4 := (hbW.trans (b2.mono hbW.size)).trans (b4.mono (by omega))
          have HQ0 : Hid (∀ j, (Value.slice A1 (T k).length c1).ownBlock = some j → j < w2.heap.size ∨ w4.heap.size ≤ j) := fun j e => .inl (by have := hq0 j e; omega)
          obtain ⟨R, hR⟩ : ∃ R, R = orders f (cutAt zs k) := ⟨_, rfl⟩
          rw [← hR] at o4 HTK ⊢
          have hRl : R.length ≤ 20000 := by
            have h1 := HTK.out
            have h2 := congrArg List.length h1
            rw [List.length_append, List.length_map] at h2
            omega
          have HRR : Hid (∀ x ∈ R, x.length ≤ f) := by rw [hR]; exact orders_row f _ hc2
          clear hR b2 b4 o2 HR hownW bW hbW hc1 hc2 HFL HCUT hq0
          obtain ⟨U, hU⟩ : ∃ U : Nat → List (List Int), ∀ j, U j = T k ++ (R.take j).map (ix zs k :: ·) := ⟨_, fun _ => rfl⟩
          have HU0 : Hid (U 0 = T k) := by show _ = _; rw [hU]; simp
          have HUS : Hid (∀ j, j < R.length → U (j + 1) = U j ++ [ix zs k :: rx R j]) := fun j hj => by rw [hU, hU, take_rx hj, List.map_append, List.append_assoc]; rfl
          have HUE : Hid (U R.length = T (k + 1)) := by show _ = _; rw [hU, List.take_length, HTK.out]
          have HUL : Hid (∀ j, (U j).length ≤ 20000 + j) := fun j => by rw [hU, List.length_append, List.length_map, List.length_take]; omega
          clear hU
          go_wp2
          go_loopw [3, 7, 30] (fun v _ i wr => ∃ (j : Nat) (A' : Option Addr) (c' : Nat), j ≤ R.length ∧ i = .int .i64 j ∧ v = .slice A' (U j).length c' ∧ OwnR wr w.heap.size wr.heap.size (.slice A' (U j).length c') (U j) ∧ OwnR wr w2.heap.size w4.heap.size (.slice A4 R.length c4) R ∧ Below w.heap.size w wr ∧ w4.heap.size ≤ wr.heap.size ∧ (∀ q, (Value.slice A' (U j).length c').ownBlock = some q → q < w2.heap.size ∨ w4.heap.size ≤ q)) (fun _ _ i _ => R.length - (intOf i).toNat)
          case atStart => exact ⟨0, _, _, Nat.zero_le _, rfl, by rw [HU0.out], by rw [HU0.out]; exact hown4, o4, hb4, Nat.le_refl _, by rw [HU0.out]; exact HQ0.out⟩
          case round =>
            obtain ⟨j, A6, c6, hj, rfl, rfl, ho6, hO6, hb6, hz64, hq6⟩ := hrel
            have hR6 := hO6.at_
            have HQ6 := Lib.hid hq6
            have z6 := hb6.size
            clear hown4 hb4 o4 z2 zW hq6
            by_cases hjl : j < R.length
            · obtain ⟨bb, oo, Ar, cr, rfl, _, hcj, hcr, hir⟩ := hR6.at_ hjl
              have hrl := HRR.out _ (rx_mem hjl)
              have hul := HUL.out j
              have HUJ := Lib.hid (HUS.out j hjl)
              have b7 := (Below.refl wr.heap.size wr).alloc (Nat.le_refl _) (.cells #[.int .i64 (ix zs k)] 3)
              have z7 := World.size_alloc wr (.cells #[.int .i64 (ix zs k)] 3)
              have i7 : IntsAt (wr.alloc (.cells #[.int .i64 (ix zs k)] 3)) (some ⟨wr.heap.size, 0, none⟩) 1 [ix zs k] := by
                refine ⟨rfl, fun _ => ⟨wr.heap.size, 0, rfl, fun q hq => ?_⟩⟩
                obtain rfl : q = 0 := by omega
                exact new_cell wr (.int .i64 (ix zs k)) 3 rfl
              have hp7 := RowsAt.pair i7 (hir.below b7) (Nat.le_refl 1) hcr 27
              have b8 := (Below.refl (wr.alloc (.cells #[.int .i64 (ix zs k)] 3)).heap.size (wr.alloc (.cells #[.int .i64 (ix zs k)] 3))).alloc (Nat.le_refl _) (.cells #[.slice (some ⟨wr.heap.size, 0, none⟩) 1 1, .slice Ar (rx R j).length cr] 27)
              have HP7 := Lib.hid hp7
              have bB := b7.trans (b8.mono (by omega))
              have HZ7 := Lib.hid z7
              have hoB := ho6.belowW bB
              have hOB := hO6.belowW bB
              have hbB := hb6.trans (bB.mono z6)
              have HF7 : Hid ((flatL [[ix zs k], rx R j]).length ≤ 1048576) := by show _ ≤ _; rw [flatL_2]; simp; omega
              have HFE : Hid (flatL [[ix zs k], rx R j] = ix zs k :: rx R j) := by show _ = _; rw [flatL_2]; rfl
              have hzB := bB.size
              clear hp7 b7 b8 i7 z7 ho6 hR6 hO6 hir bB hb6
              go_wp2_with fail
              rw [← HZ7.out]
              (with_reducible refine (concat_any _ 2 2 [[ix zs k], rx R j] _ HP7.out (by omega) HF7.out).mono ?_)
              rintro e w9 ⟨A9, c9, rfl, o9, b9⟩
              rw [HFE.out] at o9 ⊢
              have z9 := b9.size
              have ho9 := hoB.belowW b9
              have hO9 := hOB.belowW b9
              have hb9 := hbB.trans (b9.mono hbB.size)
              clear hoB hOB hbB b9 HP7 HF7 HFE
              have bC := (Below.refl w9.heap.size w9).alloc (Nat.le_refl _) (.cells #[.slice A9 (ix zs k :: rx R j).length c9] 27)
              have zC := World.size_alloc w9 (.cells #[.slice A9 (ix zs k :: rx R j).length c9] 27)
              have hOC := hO9.belowW bC
              have hoC := ho9.belowW bC
              have hbC := hb9.trans (bC.mono hb9.size)
              have hV := rowsV_one (o9.belowW bC)
              have hcC := new_cell w9 (.slice A9 (ix zs k :: rx R j).length c9) 27 rfl
              have HCC : Hid (∀ q, q < 1 → ∃ b o, (some ⟨w9.heap.size, 0, none⟩ : Option Addr) = some ⟨b, o, none⟩ ∧ (w9.alloc (.cells #[.slice A9 (ix zs k :: rx R j).length c9] 27)).cell? ⟨b, o + q, none⟩ = [Value.slice A9 (ix zs k :: rx R j).length c9][q]?) := by
                intro q hq
                obtain rfl : q = 0 := by omega
                exact ⟨w9.heap.size, 0, rfl, hcC⟩
              have HZC := Lib.hid zC
              have zC1 : w9.heap.size ≤ (w9.alloc (.cells #[.slice A9 (ix zs k :: rx R j).length c9] 27)).heap.size := by omega
              have q1 : (U j).length + 1 ≤ 1000000000000 := by omega
              have q2 : w.heap.size ≤ (w9.alloc (.cells #[.slice A9 (ix zs k :: rx R j).length c9] 27)).heap.size := hbC.size
              have q3 := Nat.le_trans z6 hzB
              clear hcC ho9 hO9 hb9 bC o9 zC
              go_wp2_with (at_builtin; refine wpList_append_rows _ rfl _ _ rfl w.heap.size wr.heap.size _ _ _ _ rfl hoC (some ⟨w9.heap.size, 0, none⟩) 1 1 [Value.slice A9 (ix zs k :: rx R j).length c9] [ix zs k :: rx R j] _ _ rfl HCC.out hV rfl hzB q1 q2 q3 ?_)
              intro Af cf wf hof hgf hatf
              have zf := hgf.size
              have q4 := Nat.le_trans hz64 (Nat.le_trans hzB (Nat.le_trans z9 (Nat.le_trans zC1 zf)))
              have hOf := hOC.grownBy hgf (fun q e => by have := HQ6.out q e; omega)
              have hbf := below_of_below hbC hgf (fun q e => (hoC.block_ge q e).1)
              have el : (U j).length + 1 = (U (j + 1)).length := by rw [HUJ.out]; simp
              have HEL := Lib.hid el
              have HQf : Hid (∀ q, (Value.slice Af (U (j + 1)).length cf).ownBlock = some q → q < w2.heap.size ∨ w4.heap.size ≤ q) := by
                rw [← HEL.out]
                intro q e
                rcases hatf with h | h
                · rw [h] at e; exact HQ6.out q e
                · rw [h] at e; have e2 := Option.some.inj e; right; have := HZC.out; omega
              rw [← HUJ.out, HEL.out] at hof
              clear hatf hgf hOC hoC hbC hV el
              go_wp2
              go_roundw
              case rel => first | exact ⟨j + 1, _, _, by omega, by go_num, by rw [← HEL.out], hof, hOf, hbf, q4, HQf.out⟩ | ((repeat apply Exists.intro); exact ⟨⟨j + 1, _, _, by omega, by go_num, by rw [← HEL.out], hof, hOf, hbf, q4, HQf.out⟩, rfl⟩)
              case measure => simp [intOf]; omega
            · obtain rfl : j = R.length := by omega
              rw [HUE.out] at ho6 ⊢
              go_wp2
              go_roundw
              case rel => first | exact ⟨k + 1, _, _, by omega, by go_num, rfl, ho6, hb6⟩ | ((repeat apply Exists.intro); exact ⟨⟨k + 1, _, _, by omega, by go_num, rfl, ho6, hb6⟩, rfl⟩)
              case measure => simp [intOf]; omega
      · obtain rfl : k = zs.length := by omega
        go_wp2
        go_ret
        exact ⟨_, _, rfl, hown, hb⟩
end Go.Proofs.YtaanppihgldeaaaGreatDoor
namespace Go.Proofs.YtaanppihgldeaaaGreatDoor
set_option linter.unusedSimpArgs false
set_option linter.unusedVariables false
set_option linter.unusedVariables false
open Go.RowKit

set_option maxHeartbeats 800000 in
theorem l03All_done (f m : Nat) (A : Option Addr) (n c : Nat) (vs : List Value) (xss : List (List Int)) (lo hi : Nat) (g d : Nat) (zs : List Int) (w : World) (h1 : w.ownsRow lo 27 1 (.slice A n c) n vs) (hV : RowsV w lo hi vs xss) (hn : n ≤ 500000)
    (h : OwnI w g (g + 1) (.slice (some ⟨g, 0, none⟩) m d) zs) (hlo : lo ≤ g) (hhi : hi ≤ g) :
    Calls Tryz.prog 237 #[.slice A n c, .slice (some ⟨g, 0, none⟩) m d, .int .i64 (m : Int)] w fun e w' => ∃ A' c' vs', e = .returned (.slice A' (xss ++ extend m f zs).length c') ∧ w'.ownsRow lo 27 1 (.slice A' (xss ++ extend m f zs).length c') (xss ++ extend m f zs).length vs' ∧ RowsV w' lo w'.heap.size vs' (xss ++ extend m f zs) ∧
      w.grownBy w' (Value.slice A n c).ownBlock ∧ (∀ j, (Value.slice A' (xss ++ extend m f zs).length c').ownBlock = some j → (Value.slice A n c).ownBlock = some j ∨ w.heap.size ≤ j) := by
  rw [extend_done h.num.1]
  have hlen : n + 1 = (xss ++ [zs]).length := by have := h1.1; have := hV.1; simp; omega
  have HL := Lib.hid hlen
  clear hlen
  generalize (xss ++ [zs]).length = L at *
  obtain ⟨_, hgs, _⟩ := h.num
  have hb0 := (Below.refl w.heap.size w).alloc (Nat.le_refl _) (.cells #[.slice (some ⟨g, 0, none⟩) m d] 27)
  have h1' := ownsRow_below h1 hb0
  have hV2 := ((hV.append (rowsV_one h) hhi).belowW hb0).mono (lo' := lo) (hi' := w.heap.size + 1) (by omega) (by have : max hi (g + 1) = g + 1 := Nat.max_eq_right (by omega); omega)
  have hc := new_cell w (.slice (some ⟨g, 0, none⟩) m d) 27 rfl
  have HC : Hid (∀ j, j < 1 → ∃ b o, (some ⟨w.heap.size, 0, none⟩ : Option Addr) = some ⟨b, o, none⟩ ∧ (w.alloc (.cells #[.slice (some ⟨g, 0, none⟩) m d] 27)).cell? ⟨b, o + j, none⟩ = [Value.slice (some ⟨g, 0, none⟩) m d][j]?) := by
    intro j hj
    obtain rfl : j = 0 := by omega
    exact ⟨w.heap.size, 0, rfl, hc⟩
  have hz := World.size_alloc w (.cells #[.slice (some ⟨g, 0, none⟩) m d] 27)
  have HZ := Lib.hid hz
  have hz1 : w.heap.size ≤ (w.alloc (.cells #[.slice (some ⟨g, 0, none⟩) m d] 27)).heap.size := by omega
  have hlw : lo ≤ (w.alloc (.cells #[.slice (some ⟨g, 0, none⟩) m d] 27)).heap.size := by omega
  clear hz
  go_enter Tryz.func237, Tryz.ntmps237
  go_wp2_with (at_builtin; refine wpList_append_rowsV _ rfl _ _ rfl lo n c A vs rfl h1' (some ⟨w.heap.size, 0, none⟩) 1 1 [Value.slice (some ⟨g, 0, none⟩) m d] _ _ _ rfl HC.out hV2 rfl (by omega) hlw ?_)
  intro A3 c3 w3 ho3 hV3 hg3 hat3
  have z3 := hg3.size
  have hg4 : w.grownBy w3 (Value.slice A n c).ownBlock := grown_trans (grown_below (grown_refl w _) hb0) hg3 (fun j e => .inl e)
  rw [HL.out] at ho3 hat3
  have HA : Hid (∀ j, (Value.slice A3 L c3).ownBlock = some j → (Value.slice A n c).ownBlock = some j ∨ w.heap.size ≤ j) := by
    intro j e
    rcases hat3 with h | h
    · rw [h] at e; exact .inl e
    · rw [h] at e; have e2 := Option.some.inj e; right; omega
  have z5 : w.heap.size + 1 ≤ w3.heap.size := by have := HZ.out; omega
  clear hat3 hg3 hb0 h1' hV2 hc
  go_wp2
  go_ret
  exact ⟨_, _, _, by rw [← HL.out]; rfl, ho3, hV3.mono (Nat.le_refl _) z5, hg4, HA.out⟩

set_option maxHeartbeats 4000000 in
theorem l03All_any (m : Nat) (hm : m ≤ 5) (f : Nat) : ∀ (A : Option Addr) (n c : Nat) (vs : List Value) (xss : List (List Int)) (lo hi : Nat) (g l d : Nat) (zs : List Int) (w : World) (h1 : w.ownsRow lo 27 1 (.slice A n c) n vs) (hV : RowsV w lo hi vs xss) (hn : n + 5 ^ f ≤ 500000)
    (h : OwnI w g (g + 1) (.slice (some ⟨g, 0, none⟩) l d) zs) (hlo : lo ≤ g) (hhi : hi ≤ g) (hlf : l + f = m),
    Calls Tryz.prog 237 #[.slice A n c, .slice (some ⟨g, 0, none⟩) l d, .int .i64 (m : Int)] w fun e w' => ∃ A' c' vs', e = .returned (.slice A' (xss ++ extend m f zs).length c') ∧ w'.ownsRow lo 27 1 (.slice A' (xss ++ extend m f zs).length c') (xss ++ extend m f zs).length vs' ∧ RowsV w' lo w'.heap.size vs' (xss ++ extend m f zs) ∧
      w.grownBy w' (Value.slice A n c).ownBlock ∧ (∀ j, (Value.slice A' (xss ++ extend m f zs).length c').ownBlock = some j → (Value.slice A n c).ownBlock = some j ∨ w.heap.size ≤ j) := by
  induction f with
  | zero =>
    intro A n c vs xss lo hi g l d zs w h1 hV hn h hlo hhi hlf
    obtain rfl : l = m := by omega
    exact l03All_done 0 l A n c vs xss lo hi g d zs w h1 hV (by omega) h hlo hhi
  | succ f ih =>
    intro A n c vs xss lo hi g l d zs w h1 hV hn h hlo hhi hlf
    obtain ⟨hzl, hgs, _⟩ := h.num
    have hne : zs.length ≠ m := by omega
    rw [extend_more hne]
    have hml : n = xss.length := by have := h1.1; have := hV.1; omega
    have hln : ∀ k, k ≤ m → (xss ++ flatP (fun x => decide (place zs (x : Int) < 0)) (fun x => extend m f (zs ++ [(x : Int)])) k).length ≤ n + k * 5 ^ f := by
      intro k hk
      have h1 := flatP_len (p := fun x => decide (place zs (x : Int) < 0)) (g := fun x => extend m f (zs ++ [(x : Int)])) (b := 5 ^ f) (fun j => extend_len m hm f _) k
      rw [List.length_append]
      omega
    have hmul : ∀ k, k < m → k * 5 ^ f + 5 ^ f ≤ 5 ^ (f + 1) := by
      intro k hk
      rw [Nat.pow_succ, Nat.mul_comm (5 ^ f) 5, ← Nat.succ_mul]
      exact Nat.mul_le_mul_right _ (by omega)
    have h00 : xss ++ flatP (fun x => decide (place zs (x : Int) < 0)) (fun x => extend m f (zs ++ [(x : Int)])) 0 = xss := by rw [flatP, List.append_nil]
    have HY := Lib.hid (fun (k : Nat) (b : place zs (k : Int) < 0) => (by rw [flatP_yes (by simp [b]), List.append_assoc] : xss ++ flatP (fun x => decide (place zs (x : Int) < 0)) (fun x => extend m f (zs ++ [(x : Int)])) (k + 1) = (xss ++ flatP (fun x => decide (place zs (x : Int) < 0)) (fun x => extend m f (zs ++ [(x : Int)])) k) ++ extend m f (zs ++ [(k : Int)])))
    have HO := Lib.hid (fun (k : Nat) (b : 0 ≤ place zs (k : Int)) => (by rw [flatP_no (by simp; omega)] : xss ++ flatP (fun x => decide (place zs (x : Int) < 0)) (fun x => extend m f (zs ++ [(x : Int)])) (k + 1) = (xss ++ flatP (fun x => decide (place zs (x : Int) < 0)) (fun x => extend m f (zs ++ [(x : Int)])) k)))
    have HL := Lib.hid hln
    have HM := Lib.hid hmul
    have HH := Lib.hid h00
    clear hln hmul h00 hne
    obtain ⟨T, hT⟩ : ∃ T : Nat → List (List Int), ∀ k, T k = xss ++ flatP (fun x => decide (place zs (x : Int) < 0)) (fun x => extend m f (zs ++ [(x : Int)])) k := ⟨_, fun _ => rfl⟩
    simp only [← hT] at HH HY HO HL ⊢
    clear hT
    have e0 : ((l : Int) == (m : Int)) = false := by rw [beq_eq_false_iff_ne]; omega
    have HML := Lib.hid hml
    have HZL := Lib.hid hzl
    have hl1 : l ≤ 5 := by omega
    have hl2 : l + 1 + f = m := by omega
    have HLF := Lib.hid hl2
    clear hml hzl hlf hl2
    go_enter Tryz.func237, Tryz.ntmps237
    go_wp2
    go_loopw [0, 7] (fun v k_ wr => ∃ (k : Nat) (A' : Option Addr) (c' : Nat) (us : List Value), k ≤ m ∧ k_ = .int .i64 k ∧ v = .slice A' (T k).length c' ∧ wr.ownsRow lo 27 1 (.slice A' (T k).length c') (T k).length us ∧ RowsV wr lo wr.heap.size us (T k) ∧
      w.grownBy wr (Value.slice A n c).ownBlock ∧ (∀ j, (Value.slice A' (T k).length c').ownBlock = some j → (Value.slice A n c).ownBlock = some j ∨ w.heap.size ≤ j)) (fun _ k_ _ => m - (intOf k_).toNat)
    case atStart => exact ⟨0, A, c, vs, Nat.zero_le _, rfl, by rw [HH.out, HML.out], by rw [HH.out, ← HML.out]; exact h1, by rw [HH.out]; exact hV.mono (Nat.le_refl _) (by omega), grown_refl _ _, fun j e => by rw [HH.out, ← HML.out] at e; exact .inl e⟩
    case round =>
      obtain ⟨k, A1, cc, us, hk, rfl, rfl, hown, hVr, hgr, hat⟩ := hrel
      have zr := hgr.size
      have hl1' := HL.out k hk
      have HAT := Lib.hid hat
      have hz := h.grownBy hgr (fun j e => by
        have := no_mix h1 h e
        by_cases e2 : j = g
        · subst e2; exact absurd rfl this
        · omega)
      clear hat
      by_cases hkl : k < m
      · have hl2 := HM.out k hkl
        have hzi := hz.at_
        by_cases hx : 0 ≤ place zs (k : Int)
        · have HN := Lib.hid (HO.out k hx)
          go_wp2_with fail
          (with_reducible refine (specPlaceOf_any _ _ _ _ _ _ hzi (by omega)).mono ?_)
          rintro e w1 ⟨rfl, rfl⟩
          go_wp2
          go_roundw
          case rel => first | exact ⟨k + 1, _, _, us, by omega, by go_num, by rw [HN.out], by rw [HN.out]; exact hown, by rw [HN.out]; exact hVr, hgr, by rw [HN.out]; exact HAT.out⟩ | ((repeat apply Exists.intro); exact ⟨⟨k + 1, _, _, us, by omega, by go_num, by rw [HN.out], by rw [HN.out]; exact hown, by rw [HN.out]; exact hVr, hgr, by rw [HN.out]; exact HAT.out⟩, rfl⟩)
          case measure => simp [intOf]; omega
        · have hx2 : place zs (k : Int) < 0 := by omega
          have HN := Lib.hid (HY.out k hx2)
          clear hx
          have oe := OwnI.empty wr (lo := wr.heap.size) (hi := wr.heap.size + 1) (Nat.le_refl _) (by omega)
          have be := (Below.refl wr.heap.size wr).alloc (Nat.le_refl _) (.cells #[] 3)
          have hz2 := hzi.below be
          have se := World.size_alloc wr (.cells #[] 3)
          go_wp2_with fail
          (with_reducible refine (specPlaceOf_any _ _ _ _ _ _ hzi (by omega)).mono ?_)
          rintro e w1 ⟨rfl, rfl⟩
          go_wp2_with (at_builtin; refine wpList_append_ints _ rfl _ _ rfl wr.heap.size (wr.heap.size + 1) 0 0 _ [] rfl oe (some ⟨g, 0, none⟩) l d zs rfl hz2 (by omega) (by simp) (by simp) ?_)
          intro A2 c2 w2 ho2 hon
          have b2 := be.trans (hon.toBelow (B := wr.heap.size) (Nat.le_refl _) (by simp))
          have z2 := b2.size
          have b3 := (Below.refl w2.heap.size w2).alloc (Nat.le_refl _) (.cells #[.int .i64 (k : Int)] 3)
          have z3 := World.size_alloc w2 (.cells #[.int .i64 (k : Int)] 3)
          have ho3 : OwnI (w2.alloc (.cells #[.int .i64 (k : Int)] 3)) wr.heap.size w2.heap.size (.slice A2 l c2) zs := by simpa using ho2.belowW b3
          have c3 := new_cell w2 (.int .i64 (k : Int)) 3 rfl
          have z3a : wr.heap.size ≤ (w2.alloc (.cells #[.int .i64 (k : Int)] 3)).heap.size := by omega
          have z3b : w2.heap.size ≤ (w2.alloc (.cells #[.int .i64 (k : Int)] 3)).heap.size + 1 := by omega
          have bb := b2.trans (b3.mono z2)
          clear hon ho2 be oe se hz2 b2 b3 z3
          go_wp2_with (at_builtin; refine wpList_append_int _ rfl _ _ rfl wr.heap.size w2.heap.size l c2 A2 zs rfl ho3 (k : Int) w2.heap.size 1 rfl c3 (by omega) z3a z3b ?_)
          intro A4 c4 w4 ho4 hon4
          have b4 := bb.trans (hon4.toBelow (B := wr.heap.size) (Nat.le_refl _) bb.size)
          obtain ⟨g2, rfl, hg2, hg2'⟩ := ho4.head (by omega)
          have ho5 := ho4.tight
          have hown5 := ownsRow_below hown b4
          have hV5 := hVr.belowW b4
          have g5 := grown_below hgr b4
          have z5 := b4.size
          have q1 : (T k).length + 5 ^ f ≤ 500000 := by omega
          have q2 : lo ≤ g2 := by omega
          clear hon4 ho4 ho3 bb b4 c3 hown hVr hgr hz hzi
          go_wp2_with fail
          (with_reducible refine (ih (A1) _ cc us (T k) lo wr.heap.size g2 (l + 1) c4 (zs ++ [(k : Int)]) w4 hown5 hV5 q1 ho5 q2 hg2 HLF.out).mono ?_)
          rintro e w6 ⟨A6, c6, vs6, rfl, o6, hV6, g6, hat6⟩
          rw [← HN.out] at o6 hV6 hat6
          rw [← HN.out]
          have g7 := grown_trans g5 g6 HAT.out
          have HAT6 : Hid (∀ j, (Value.slice A6 (T (k + 1)).length c6).ownBlock = some j → (Value.slice A n c).ownBlock = some j ∨ w.heap.size ≤ j) := by
            intro j e
            rcases hat6 j e with h | h
            · exact HAT.out j h
            · right; omega
          clear g5 g6 hat6 hown5 hV5
          go_wp2
          go_roundw
          case rel => first | exact ⟨k + 1, _, _, vs6, by omega, by go_num, rfl, o6, hV6, g7, HAT6.out⟩ | ((repeat apply Exists.intro); exact ⟨⟨k + 1, _, _, vs6, by omega, by go_num, rfl, o6, hV6, g7, HAT6.out⟩, rfl⟩)
          case measure => simp [intOf]; omega
      · obtain rfl : k = m := by omega
        go_wp2
        go_ret
        exact ⟨_, _, us, rfl, hown, hVr, hgr, HAT.out⟩
set_option maxHeartbeats 800000 in
theorem implAllRankings (m : Int) (w : World) :
    Calls Tryz.prog 177 #[.int .i64 m] w fun e w' => ∃ A' c', e = .returned (.slice A' (allRankings m).length c') ∧ OwnR w' w.heap.size w'.heap.size (.slice A' (allRankings m).length c') (allRankings m) ∧ Below w.heap.size w w' := by
  cases hb : inB m 1 5
  · have h1 := inB_not.1 hb
    rw [allRankings_no h1]
    clear h1
    go_enter Tryz.func177, Tryz.ntmps177
    go_wp2_with (go_at_call 33; refine (within_any _ _ _ _).mono ?_; rintro e w' ⟨rfl, rfl⟩)
    go_ret
    exact ⟨none, 0, rfl, OwnR.nil _ _ _, Below.refl _ _⟩
  · obtain ⟨k, rfl, hk1, hk5⟩ : ∃ k : Nat, m = (k : Int) ∧ 1 ≤ k ∧ k ≤ 5 := by
      have := inB_iff.1 hb
      exact ⟨m.toNat, by omega, by omega, by omega⟩
    have HA := Lib.hid (allRankings_yes hk1 hk5)
    rw [HA.out]
    go_enter Tryz.func177, Tryz.ntmps177
    go_wp2_with (go_at_call 33; refine (within_any _ _ _ _).mono ?_; rintro e w' ⟨rfl, rfl⟩)
    (with_reducible refine (indices_any k _ (by omega)).mono ?_)
    rintro e w1 ⟨A1, c1, rfl, o1, b1⟩
    have hul : (upTo k).length = k := by simp [upTo]
    have HU := Lib.hid hul
    have hc := o1.ints.2.2.1
    have z1 := b1.size
    clear hul
    go_wp2_with fail
    (with_reducible refine (orders_any k A1 k c1 (upTo k) _ o1.at_ hk5 (Nat.le_refl _) hk5 hc).mono ?_)
    rintro e w2 ⟨A2, c2, rfl, o2, b2⟩
    have b3 := b1.trans (b2.mono z1)
    clear b1 b2 o1
    go_wp2
    go_ret
    exact ⟨_, _, rfl, o2.mono z1 (Nat.le_refl _), b3⟩
set_option maxHeartbeats 800000 in
theorem specAllRankings (m : Int) (w : World) :
    Calls Tryz.prog 218 #[.int .i64 m] w fun e w' => ∃ A' c', e = .returned (.slice A' (allRankings m).length c') ∧ OwnR w' w.heap.size w'.heap.size (.slice A' (allRankings m).length c') (allRankings m) ∧ Below w.heap.size w w' := by
  cases hb : inB m 1 5
  · have h1 := inB_not.1 hb
    rw [allRankings_no h1]
    clear h1
    go_enter Tryz.func218, Tryz.ntmps218
    go_wp2_with (go_at_call 48; refine (l01In_any _ _ _ _).mono ?_; rintro e w' ⟨rfl, rfl⟩)
    go_ret
    exact ⟨none, 0, rfl, OwnR.nil _ _ _, Below.refl _ _⟩
  · obtain ⟨k, rfl, hk1, hk5⟩ : ∃ k : Nat, m = (k : Int) ∧ 1 ≤ k ∧ k ≤ 5 := by
      have := inB_iff.1 hb
      exact ⟨m.toNat, by omega, by omega, by omega⟩
    have HA : Hid (allRankings (k : Int) = extend k k []) := (allRankings_yes hk1 hk5).trans (orders_extend hk1 hk5)
    rw [HA.out]
    have b0 := (Below.refl w.heap.size w).alloc (Nat.le_refl _) (.cells #[] 27)
    have z0 := World.size_alloc w (.cells #[] 27)
    have r0 : (w.alloc (.cells #[] 27)).ownsRow w.heap.size 27 1 (.slice (some ⟨w.heap.size, 0, none⟩) 0 0) 0 [] := World.ownsRow_lit (e := 27) (size := 1) (base := w.heap.size) w #[] 0 (Nat.le_refl _) (by unfold maxLen; omega) rfl
    have b1 := (Below.refl (w.alloc (.cells #[] 27)).heap.size (w.alloc (.cells #[] 27))).alloc (Nat.le_refl _) (.cells #[] 3)
    have r1 := ownsRow_below r0 b1
    have v1 : RowsV ((w.alloc (.cells #[] 27)).alloc (.cells #[] 3)) w.heap.size w.heap.size [] [] := RowsV.nil
    have o1 := (OwnI.empty (w.alloc (.cells #[] 27)) (lo := w.heap.size) (hi := w.heap.size + 2) (by omega) (by omega)).tight
    have bb := b0.trans (b1.mono (by omega))
    have h5 : 5 ^ k ≤ 5 ^ 5 := Nat.pow_le_pow_right (by omega) hk5
    have q1 : 0 + 5 ^ k ≤ 500000 := by omega
    have q2 : w.heap.size ≤ (w.alloc (.cells #[] 27)).heap.size := by omega
    rw [z0] at o1 q2
    clear b0 b1 r0 z0 h5
    go_enter Tryz.func218, Tryz.ntmps218
    go_wp2_with (go_at_call 48; refine (l01In_any _ _ _ _).mono ?_; rintro e w' ⟨rfl, rfl⟩)
    (with_reducible refine (l03All_any k hk5 k (some ⟨w.heap.size, 0, none⟩) 0 0 [] [] w.heap.size w.heap.size (w.heap.size + 1) 0 0 [] _ r1 v1 q1 o1 q2 q2 (by omega)).mono ?_)
    rintro e w4 ⟨A4, c4, vs4, rfl, o4, v4, g4, hat4⟩
    rw [List.nil_append] at o4 v4
    rw [List.nil_append]
    have b4 : Below w.heap.size w w4 := below_of_below bb g4 (fun j e => by simp [Value.ownBlock] at e; omega)
    clear g4 hat4 bb r1 v1 o1
    go_wp2
    go_ret
    exact ⟨_, _, rfl, ownR_iff.2 ⟨vs4, o4, fun j e => (World.ownsRow.lt o4 j e).2, v4⟩, b4⟩
end Go.Proofs.YtaanppihgldeaaaGreatDoor
