/- All rankings: the program's recursion. -/
import Derived.Test.YtnoanomihifobaaOrders0
import Derived.Test.YtnoanomihifobaaConcat
import Derived.Test.YtnoanomihifobaaRows2
import Derived.Test.YtnoanomihifobaaSmall
import Derived.Deep.RegionWith
namespace Go.Proofs.Ytnoanomihifobaa
set_option linter.unusedVariables false
open Go.RowKit

theorem IntsAt.drop {w : World} {b o n k : Nat} {xs : List Int} (h : IntsAt w (some ⟨b, o, none⟩) n xs) (hk : k ≤ n) : IntsAt w (some ⟨b, o + k, none⟩) (n - k) (xs.drop k) := by
  refine ⟨by rw [List.length_drop, h.1], fun h0 => ?_⟩
  obtain ⟨b', o', e, hc⟩ := h.2 (by omega)
  cases e
  refine ⟨b, o + k, rfl, fun j hj => ?_⟩
  rw [Nat.add_assoc, hc (k + j) (by omega)]
  have h1 : j < (xs.drop k).length := by rw [List.length_drop, h.1]; exact hj
  rw [ix_lt h1, ix_lt (by rw [h.1]; omega)]
  simp
theorem RowsAt.pair {w : World} {A1 A2 : Option Addr} {n1 n2 c1 c2 : Nat} {xs ys : List Int} (h1 : IntsAt w A1 n1 xs) (h2 : IntsAt w A2 n2 ys) (l1 : n1 ≤ c1) (l2 : n2 ≤ c2) (T : TypeId) :
    RowsAt (w.alloc (.cells #[.slice A1 n1 c1, .slice A2 n2 c2] T)) (some ⟨w.heap.size, 0, none⟩) 2 [xs, ys] := by
  have hb := (Below.refl w.heap.size w).alloc (Nat.le_refl _) (.cells #[.slice A1 n1 c1, .slice A2 n2 c2] T)
  refine ⟨rfl, fun _ => ⟨w.heap.size, 0, rfl, fun j hj => ?_⟩⟩
  rw [Nat.zero_add]
  match j, hj with
  | 0, _ => exact ⟨A1, n1, c1, by rw [cell_of_row _ _ 0 #[.slice A1 n1 c1, .slice A2 n2 c2] T (0, 0) (heap_alloc_new w _)]; rfl, l1, h1.below hb⟩
  | 1, _ => exact ⟨A2, n2, c2, by rw [cell_of_row _ _ 1 #[.slice A1 n1 c1, .slice A2 n2 c2] T (0, 0) (heap_alloc_new w _)]; rfl, l2, h2.below hb⟩
theorem RowsAt.drew {w : World} {A : Option Addr} {n : Nat} {xss : List (List Int)} (h : RowsAt w A n xss) : RowsAt w.drew A n xss := h
set_option maxHeartbeats 800000 in
theorem upTo_set {n k : Nat} (h : k < n) : (upTo k ++ List.replicate (n - k) 0).set k (k : Int) = upTo (k + 1) ++ List.replicate (n - (k + 1)) 0 := by
  have hl : (upTo k).length = k := by simp [upTo]
  rw [List.set_append_right _ _ (by omega), hl, Nat.sub_self, show n - k = (n - (k + 1)) + 1 by omega, List.replicate_succ, List.set_cons_zero]
  unfold upTo
  rw [List.range_succ, List.map_append, List.append_assoc]
  rfl
set_option maxHeartbeats 800000 in
theorem indices_any (n : Nat) (w : World) (hn : n ≤ 1048576) :
    Calls Try.prog 45 #[.int .i64 (n : Int)] w fun e w' => ∃ A' c', e = .returned (.slice A' n c') ∧ OwnI w' w.heap.size w'.heap.size (.slice A' n c') (upTo n) ∧ Below w.heap.size w w' := by
  go_enter Try.func45, Try.ntmps45
  go_wp2_with ((with_reducible refine wpList_make_ints _ rfl _ _ rfl n rfl rfl (by omega) ?_))
  intro w2 ho hb hs
  have z := hb.size
  have e0 : List.replicate n (0 : Int) = upTo 0 ++ List.replicate (n - 0) 0 := by simp [upTo]
  rw [e0] at ho
  have HS := Lib.hid hs
  clear e0 hs
  go_wp2
  go_loopw [4, 9] (fun _ i wr => ∃ k : Nat, k ≤ n ∧ i = .int .i64 k ∧ OwnI wr w.heap.size (w.heap.size + 1) (.slice (some ⟨w.heap.size, 0, none⟩) n n) (upTo k ++ List.replicate (n - k) 0) ∧ Below w.heap.size w wr) (fun _ i _ => n - (intOf i).toNat)
  case atStart => exact ⟨0, Nat.zero_le _, rfl, ho, hb⟩
  case round =>
    obtain ⟨k, hk, rfl, hown, hbr⟩ := hrel
    have zr := hbr.size
    by_cases hlt : k < n
    · have ck := hown.cellAt k hlt
      have fk := hown.frozenAt k
      obtain ⟨ho2, hon⟩ := hown.stored k (k : Int)
      rw [upTo_set hlt] at ho2
      have hb2 := hbr.trans (hon.toBelow (Nat.le_refl _) zr)
      clear hon hown hbr
      go_wp2
      go_roundw
      case rel => exact ⟨k + 1, by omega, by go_num, ho2, hb2⟩
      case measure => simp [intOf]; omega
    · obtain rfl : k = n := by omega
      have e : upTo k ++ List.replicate (k - k) (0 : Int) = upTo k := by simp
      rw [e] at hown
      have := hown.num.2.1
      go_wp2
      go_ret
      exact ⟨_, _, rfl, hown.mono (Nat.le_refl _) (by omega), hbr⟩
set_option maxHeartbeats 8000000 in
theorem orders_any (f : Nat) : ∀ (A : Option Addr) (n c : Nat) (zs : List Int) (w : World) (h : IntsAt w A n zs) (hn : n ≤ 5) (hnf : n ≤ f) (hf : f ≤ 5) (hc : n ≤ c),
    Calls Try.prog 44 #[.slice A n c] w fun e w' => ∃ A' c', e = .returned (.slice A' (orders f zs).length c') ∧ OwnR w' w.heap.size w'.heap.size (.slice A' (orders f zs).length c') (orders f zs) ∧ Below w.heap.size w w' := by
  have hnone : ∀ (f : Nat) (A : Option Addr) (c : Nat) (zs : List Int) (w : World) (h : IntsAt w A 0 zs),
      Calls Try.prog 44 #[.slice A 0 c] w fun e w' => ∃ A' c', e = .returned (.slice A' (orders f zs).length c') ∧ OwnR w' w.heap.size w'.heap.size (.slice A' (orders f zs).length c') (orders f zs) ∧ Below w.heap.size w w' := by
    intro f A c zs w h
    have e := orders_none (f := f) h.len
    rw [e]
    have o1 := OwnR.lit1 (OwnI.nil w w.heap.size w.heap.size) (Nat.le_refl _) (Nat.le_refl _)
    have b1 := (Below.refl w.heap.size w).alloc (Nat.le_refl _) (.cells #[.slice none 0 0] 38)
    have z1 := World.size_alloc w (.cells #[.slice none 0 0] 38)
    have Z1 := Lib.hid z1
    clear e z1
    go_enter Try.func44, Try.ntmps44
    go_wp2
    go_ret
    exact ⟨_, _, rfl, o1.mono (Nat.le_refl _) (Nat.le_of_eq Z1.out.symm), b1⟩
  induction f with
  | zero =>
    intro A n c zs w h hn hnf hf hc
    obtain rfl : n = 0 := by omega
    exact hnone 0 A c zs w h
  | succ f ih =>
    intro A n c zs w h hn hnf hf hc
    by_cases h0 : n = 0
    · subst h0
      exact hnone (f + 1) A c zs w h
    obtain rfl := h.len
    rw [orders_some h0]
    have hln : ∀ k, k ≤ zs.length → (flatP (fun _ => true) (fun i => (orders f (cutAt zs i)).map (ix zs i :: ·)) k).length ≤ 20000 := by
      intro k hk
      have h1 := flatP_len (p := fun _ => true) (g := fun i => (orders f (cutAt zs i)).map (ix zs i :: ·)) (b := 5 ^ f) (fun j => by rw [List.length_map]; exact orders_len f _ (by simp [cutAt]; omega)) k
      have h2 : 5 ^ f ≤ 5 ^ 5 := Nat.pow_le_pow_right (by omega) (by omega)
      have h3 : k * 5 ^ f ≤ 5 * 5 ^ 5 := Nat.mul_le_mul (by omega) h2
      omega
    have HT := Lib.hid (fun k => flatP_yes (p := fun _ => true) (g := fun i => (orders f (cutAt zs i)).map (ix zs i :: ·)) (k := k) rfl)
    have H00 : Hid (flatP (fun _ => true) (fun i => (orders f (cutAt zs i)).map (ix zs i :: ·)) 0 = []) := rfl
    have HL := Lib.hid hln
    clear hln hnone
    generalize flatP (fun _ => true) (fun i => (orders f (cutAt zs i)).map (ix zs i :: ·)) = T at *
    have hp : 0 < zs.length := by omega
    have e0 : ((zs.length : Int) == 0) = false := by rw [beq_eq_false_iff_ne]; omega
    clear h0
    go_enter Try.func44, Try.ntmps44
    go_wp2
    go_loopw [3, 4, 5, 7, 14] (fun v _ _ _ i wr => ∃ (k : Nat) (A' : Option Addr) (c' : Nat), k ≤ zs.length ∧ i = .int .i64 k ∧ v = .slice A' (T k).length c' ∧ OwnR wr w.heap.size wr.heap.size (.slice A' (T k).length c') (T k) ∧ Below w.heap.size w wr) (fun _ _ _ _ i _ => zs.length - (intOf i).toNat)
    case atStart => exact ⟨0, none, 0, Nat.zero_le _, rfl, by rw [H00.out]; rfl, by rw [H00.out]; exact OwnR.nil _ _ _, Below.refl _ _⟩
    case round =>
      obtain ⟨k, A1, c1, hk, rfl, rfl, hown, hb⟩ := hrel
      obtain ⟨wo, rfl⟩ : ∃ wo, wo = wr := ⟨_, rfl⟩
      have zr := hb.size
      by_cases hlt : k < zs.length
      · obtain ⟨b, o, rfl, _, hcs⟩ := (h.below hb).at_ hlt
        have hin := h.below hb
        have hck := hcs k hlt
        have E1 : IntKind.i64.wrap ((k : Int) + 1) = (k : Int) + 1 := by rw [IntKind.wrap_i64]; omega
        have k1 : (0 : Int) ≤ (k : Int) := by omega
        have k2 : (k : Int) < (zs.length : Int) := by omega
        have k3 : (k : Int) ≤ (c : Int) := by omega
        have k4 : (k : Int) + 1 ≤ (zs.length : Int) := by omega
        have k5 : (k : Int) + 1 ≤ (c : Int) := by omega
        clear hcs
        have HCU := Lib.hid (flatL_2 (zs.take k) (zs.drop (k + 1)))
        have HCUT : Hid (flatL [zs.take k, zs.drop (k + 1)] = cutAt zs k) := HCU.out
        have hcl := cutAt_len hlt
        have hc1 : (cutAt zs k).length ≤ f := by omega
        have hc2 : (cutAt zs k).length ≤ 5 := by omega
        have HFL : Hid ((flatL [zs.take k, zs.drop (k + 1)]).length ≤ 1048576) := by show _ ≤ _; rw [HCUT.out]; omega
        have hf5 : f ≤ 5 := by omega
        have hin1 := hin.take (k := k) (by omega)
        have HTK := Lib.hid (HT.out k)
        have hlT := HL.out (k + 1) (by omega)
        have hlT0 := HL.out k (by omega)
        clear HCU hcl
        by_cases hcap : c = k + 1
        · have hdr : zs.drop (k + 1) = [] := List.drop_eq_nil_of_le (by omega)
          have HDR := Lib.hid hdr
          subst hcap
          clear hdr
          have bA := (Below.refl wo.heap.size wo).alloc (Nat.le_refl _) (.cells #[.slice (some ⟨b, o, none⟩) k (k + 1), .slice (some ⟨b, o, none⟩) 0 0] 38)
          have zA := World.size_alloc wo (.cells #[.slice (some ⟨b, o, none⟩) k (k + 1), .slice (some ⟨b, o, none⟩) 0 0] 38)
          have hq0 : ∀ j, (Value.slice A1 (T k).length c1).ownBlock = some j → j < wo.heap.size := fun j e => (hown.block_ge j e).2
          have hownW : OwnR (wo.alloc (.cells #[.slice (some ⟨b, o, none⟩) k (k + 1), .slice (some ⟨b, o, none⟩) 0 0] 38)).drew w.heap.size wo.heap.size (.slice A1 (T k).length c1) (T k) := hown.belowW bA.drew
          have bW : Below wo.heap.size wo (wo.alloc (.cells #[.slice (some ⟨b, o, none⟩) k (k + 1), .slice (some ⟨b, o, none⟩) 0 0] 38)).drew := bA.drew
          have HR : Hid (RowsAt (wo.alloc (.cells #[.slice (some ⟨b, o, none⟩) k (k + 1), .slice (some ⟨b, o, none⟩) 0 0] 38)).drew (some ⟨wo.heap.size, 0, none⟩) 2 [zs.take k, zs.drop (k + 1)]) := by rw [HDR.out]; exact (RowsAt.pair hin1 (IntsAt.nil wo _) (by omega) (Nat.le_refl 0) 38).drew
          have hbW := hb.trans (bW.mono zr)
          clear bA hown hb zA
          go_wp2_with fail
          go_region_with (first
            | (go_at_call 56; (with_reducible refine (concat_any _ 2 2 [zs.take k, zs.drop (k + 1)] _ HR.out ?_ HFL.out).mono ?_); (· omega); rintro e w2 ⟨A2, c2, rfl, o2, b2⟩; rw [HCUT.out] at o2 ⊢)
            | (go_at_call 44; (with_reducible refine (ih A2 _ c2 (cutAt zs k) _ o2.at_ hc2 hc1 hf5 o2.ints.2.2.1).mono ?_); rintro e w4 ⟨A4, c4, rfl, o4, b4⟩))
          all_goals
            simp only [List.getElem_toArray, List.getElem_cons_succ, List.getElem_cons_zero]
            go_frame
            generalize (wo.alloc (.cells #[.slice (some ⟨b, o, none⟩) k (k + 1), .slice (some ⟨b, o, none⟩) 0 0] 38)).drew = wA at *
            have z2 := b2.size
            have z4 := b4.size
            have zW := bW.size
            have hown4 := ((hownW.belowW b2).belowW b4).mono (lo' := w.heap.size) (hi' := w4.heap.size) (Nat.le_refl _) (by omega)
            have hb4 := (hbW.trans (b2.mono hbW.size)).trans (b4.mono (by omega))
            have HQ0 : Hid (∀ j, (Value.slice A1 (T k).length c1).ownBlock = some j → j < w2.heap.size ∨ w4.heap.size ≤ j) := fun j e => .inl (by have := hq0 j e; omega)
            obtain ⟨R, hR⟩ : ∃ R, R = orders f (cutAt zs k) := ⟨_, rfl⟩
            rw [← hR] at o4 HTK ⊢
            have hRl : R.length ≤ 20000 := by
              have h1 := HTK.out
              have h2 := congrArg List.length h1
              rw [List.length_append, List.length_map] at h2
              omega
            have HRR : Hid (∀ x ∈ R, x.length ≤ f) := by rw [hR]; exact orders_row f _ hc2
            clear hR b2 b4 o2 HR hownW bW hbW hc1 hc2 HFL HCUT hq0
            obtain ⟨U, hU⟩ : ∃ U : Nat → List (List Int), ∀ j, U j = T k ++ (R.take j).map (ix zs k :: ·) := ⟨_, fun _ => rfl⟩
            have HU0 : Hid (U 0 = T k) := by show _ = _; rw [hU]; simp
            have HUS : Hid (∀ j, j < R.length → U (j + 1) = U j ++ [ix zs k :: rx R j]) := fun j hj => by rw [hU, hU, take_rx hj, List.map_append, List.append_assoc]; rfl
            have HUE : Hid (U R.length = T (k + 1)) := by show _ = _; rw [hU, List.take_length, HTK.out]
            have HUL : Hid (∀ j, (U j).length ≤ 20000 + j) := fun j => by rw [hU, List.length_append, List.length_map, List.length_take]; omega
            clear hU
            go_wp2
            go_loopw [3, 7, 30] (fun v _ i wr => ∃ (j : Nat) (A' : Option Addr) (c' : Nat), j ≤ R.length ∧ i = .int .i64 j ∧ v = .slice A' (U j).length c' ∧ OwnR wr w.heap.size wr.heap.size (.slice A' (U j).length c') (U j) ∧ OwnR wr w2.heap.size w4.heap.size (.slice A4 R.length c4) R ∧ Below w.heap.size w wr ∧ w4.heap.size ≤ wr.heap.size ∧ (∀ q, (Value.slice A' (U j).length c').ownBlock = some q → q < w2.heap.size ∨ w4.heap.size ≤ q)) (fun _ _ i _ => R.length - (intOf i).toNat)
            case atStart => exact ⟨0, _, _, Nat.zero_le _, rfl, by rw [HU0.out], by rw [HU0.out]; exact hown4, o4, hb4, Nat.le_refl _, by rw [HU0.out]; exact HQ0.out⟩
            case round =>
              obtain ⟨j, A6, c6, hj, rfl, rfl, ho6, hO6, hb6, hz64, hq6⟩ := hrel
              have hR6 := hO6.at_
              have HQ6 := Lib.hid hq6
              have z6 := hb6.size
              clear hown4 hb4 o4 z2 zW hq6
              by_cases hjl : j < R.length
              · obtain ⟨bb, oo, Ar, cr, rfl, _, hcj, hcr, hir⟩ := hR6.at_ hjl
                have hrl := HRR.out _ (rx_mem hjl)
                have hul := HUL.out j
                have HUJ := Lib.hid (HUS.out j hjl)
                have b7 := (Below.refl wr.heap.size wr).alloc (Nat.le_refl _) (.cells #[.int .i64 (ix zs k)] 3)
                have z7 := World.size_alloc wr (.cells #[.int .i64 (ix zs k)] 3)
                have i7 : IntsAt (wr.alloc (.cells #[.int .i64 (ix zs k)] 3)) (some ⟨wr.heap.size, 0, none⟩) 1 [ix zs k] := by
                  refine ⟨rfl, fun _ => ⟨wr.heap.size, 0, rfl, fun q hq => ?_⟩⟩
                  obtain rfl : q = 0 := by omega
                  exact new_cell wr (.int .i64 (ix zs k)) 3 rfl
                have hp7 := RowsAt.pair i7 (hir.below b7) (Nat.le_refl 1) hcr 38
                have b8 := (Below.refl (wr.alloc (.cells #[.int .i64 (ix zs k)] 3)).heap.size (wr.alloc (.cells #[.int .i64 (ix zs k)] 3))).alloc (Nat.le_refl _) (.cells #[.slice (some ⟨wr.heap.size, 0, none⟩) 1 1, .slice Ar (rx R j).length cr] 38)
                have HP7 := Lib.hid hp7
                have bB := b7.trans (b8.mono (by omega))
                have HZ7 := Lib.hid z7
                have hoB := ho6.belowW bB
                have hOB := hO6.belowW bB
                have hbB := hb6.trans (bB.mono z6)
                have HF7 : Hid ((flatL [[ix zs k], rx R j]).length ≤ 1048576) := by show _ ≤ _; rw [flatL_2]; simp; omega
                have HFE : Hid (flatL [[ix zs k], rx R j] = ix zs k :: rx R j) := by show _ = _; rw [flatL_2]; rfl
                have hzB := bB.size
                clear hp7 b7 b8 i7 z7 ho6 hR6 hO6 hir bB hb6
                go_wp2_with fail
                rw [← HZ7.out]
                (with_reducible refine (concat_any _ 2 2 [[ix zs k], rx R j] _ HP7.out (by omega) HF7.out).mono ?_)
                rintro e w9 ⟨A9, c9, rfl, o9, b9⟩
                rw [HFE.out] at o9 ⊢
                have z9 := b9.size
                have ho9 := hoB.belowW b9
                have hO9 := hOB.belowW b9
                have hb9 := hbB.trans (b9.mono hbB.size)
                clear hoB hOB hbB b9 HP7 HF7 HFE
                have bC := (Below.refl w9.heap.size w9).alloc (Nat.le_refl _) (.cells #[.slice A9 (ix zs k :: rx R j).length c9] 38)
                have zC := World.size_alloc w9 (.cells #[.slice A9 (ix zs k :: rx R j).length c9] 38)
                have hOC := hO9.belowW bC
                have hoC := ho9.belowW bC
                have hbC := hb9.trans (bC.mono hb9.size)
                have hV := rowsV_one (o9.belowW bC)
                have hcC := new_cell w9 (.slice A9 (ix zs k :: rx R j).length c9) 38 rfl
                have HCC : Hid (∀ q, q < 1 → ∃ b o, (some ⟨w9.heap.size, 0, none⟩ : Option Addr) = some ⟨b, o, none⟩ ∧ (w9.alloc (.cells #[.slice A9 (ix zs k :: rx R j).length c9] 38)).cell? ⟨b, o + q, none⟩ = [Value.slice A9 (ix zs k :: rx R j).length c9][q]?) := by
                  intro q hq
                  obtain rfl : q = 0 := by omega
                  exact ⟨w9.heap.size, 0, rfl, hcC⟩
                have HZC := Lib.hid zC
                have zC1 : w9.heap.size ≤ (w9.alloc (.cells #[.slice A9 (ix zs k :: rx R j).length c9] 38)).heap.size := by omega
                have q1 : (U j).length + 1 ≤ 1000000000000 := by omega
                have q2 : w.heap.size ≤ (w9.alloc (.cells #[.slice A9 (ix zs k :: rx R j).length c9] 38)).heap.size := hbC.size
                have q3 := Nat.le_trans z6 hzB
                clear hcC ho9 hO9 hb9 bC o9 zC
                go_wp2_with (at_builtin; refine wpList_append_rows _ rfl _ _ rfl w.heap.size wr.heap.size _ _ _ _ rfl hoC (some ⟨w9.heap.size, 0, none⟩) 1 1 [Value.slice A9 (ix zs k :: rx R j).length c9] [ix zs k :: rx R j] _ _ rfl HCC.out hV rfl hzB q1 q2 q3 ?_)
                intro Af cf wf hof hgf hatf
                have zf := hgf.size
                have q4 := Nat.le_trans hz64 (Nat.le_trans hzB (Nat.le_trans z9 (Nat.le_trans zC1 zf)))
                have hOf := hOC.grownBy hgf (fun q e => by have := HQ6.out q e; omega)
                have hbf := below_of_below hbC hgf (fun q e => (hoC.block_ge q e).1)
                have el : (U j).length + 1 = (U (j + 1)).length := by rw [HUJ.out]; simp
                have HEL := Lib.hid el
                have HQf : Hid (∀ q, (Value.slice Af (U (j + 1)).length cf).ownBlock = some q → q < w2.heap.size ∨ w4.heap.size ≤ q) := by
                  rw [← HEL.out]
                  intro q e
                  rcases hatf with h | h
                  · rw [h] at e; exact HQ6.out q e
                  · rw [h] at e; have e2 := Option.some.inj e; right; have := HZC.out; omega
                rw [← HUJ.out, HEL.out] at hof
                clear hatf hgf hOC hoC hbC hV el
                go_wp2
                go_roundw
                case rel => first | exact ⟨j + 1, _, _, by omega, by go_num, by rw [← HEL.out], hof, hOf, hbf, q4, HQf.out⟩ | ((repeat apply Exists.intro); exact ⟨⟨j + 1, _, _, by omega, by go_num, by rw [← HEL.out], hof, hOf, hbf, q4, HQf.out⟩, rfl⟩)
                case measure => simp [intOf]; omega
              · obtain rfl : j = R.length := by omega
                rw [HUE.out] at ho6 ⊢
                go_wp2
                go_roundw
                case rel => first | exact ⟨k + 1, _, _, by omega, by go_num, rfl, ho6, hb6⟩ | ((repeat apply Exists.intro); exact ⟨⟨k + 1, _, _, by omega, by go_num, rfl, ho6, hb6⟩, rfl⟩)
                case measure => simp [intOf]; omega
        · have hcap2 : ¬ (k + 1 = c) := fun e => hcap e.symm
          have hin2 := hin.drop (k := k + 1) (by omega)
          have bA := (Below.refl wo.heap.size wo).alloc (Nat.le_refl _) (.cells #[.slice (some ⟨b, o, none⟩) k c, .slice (some ⟨b, o + (k + 1), none⟩) (zs.length - (k + 1)) (c - (k + 1))] 38)
          have zA := World.size_alloc wo (.cells #[.slice (some ⟨b, o, none⟩) k c, .slice (some ⟨b, o + (k + 1), none⟩) (zs.length - (k + 1)) (c - (k + 1))] 38)
          have hq0 : ∀ j, (Value.slice A1 (T k).length c1).ownBlock = some j → j < wo.heap.size := fun j e => (hown.block_ge j e).2
          have hownW : OwnR (wo.alloc (.cells #[.slice (some ⟨b, o, none⟩) k c, .slice (some ⟨b, o + (k + 1), none⟩) (zs.length - (k + 1)) (c - (k + 1))] 38)).drew w.heap.size wo.heap.size (.slice A1 (T k).length c1) (T k) := hown.belowW bA.drew
          have bW : Below wo.heap.size wo (wo.alloc (.cells #[.slice (some ⟨b, o, none⟩) k c, .slice (some ⟨b, o + (k + 1), none⟩) (zs.length - (k + 1)) (c - (k + 1))] 38)).drew := bA.drew
          have HR : Hid (RowsAt (wo.alloc (.cells #[.slice (some ⟨b, o, none⟩) k c, .slice (some ⟨b, o + (k + 1), none⟩) (zs.length - (k + 1)) (c - (k + 1))] 38)).drew (some ⟨wo.heap.size, 0, none⟩) 2 [zs.take k, zs.drop (k + 1)]) := (RowsAt.pair hin1 hin2 (by omega) (by omega) 38).drew
          have hbW := hb.trans (bW.mono zr)
          clear bA hown hb zA
          go_wp2_with fail
          go_region_with (first
            | (go_at_call 56; (with_reducible refine (concat_any _ 2 2 [zs.take k, zs.drop (k + 1)] _ HR.out ?_ HFL.out).mono ?_); (· omega); rintro e w2 ⟨A2, c2, rfl, o2, b2⟩; rw [HCUT.out] at o2 ⊢)
            | (go_at_call 44; (with_reducible refine (ih A2 _ c2 (cutAt zs k) _ o2.at_ hc2 hc1 hf5 o2.ints.2.2.1).mono ?_); rintro e w4 ⟨A4, c4, rfl, o4, b4⟩))
          simp only [List.getElem_toArray, List.getElem_cons_succ, List.getElem_cons_zero]
          go_frame
          generalize (wo.alloc (.cells #[.slice (some ⟨b, o, none⟩) k c, .slice (some ⟨b, o + (k + 1), none⟩) (zs.length - (k + 1)) (c - (k + 1))] 38)).drew = wA at *
          have z2 := b2.size
          have z4 := b4.size
          have zW := bW.size
          have hown4 := ((hownW.belowW b2).belowW b4).mono (lo' := w.heap.size) (hi' := w4.heap.size) (Nat.le_refl _) (by omega)
          have hb4 := (hbW.trans (b2.mono hbW.size)).trans (b4.mono (by omega))
          have HQ0 : Hid (∀ j, (Value.slice A1 (T k).length c1).ownBlock = some j → j < w2.heap.size ∨ w4.heap.size ≤ j) := fun j e => .inl (by have := hq0 j e; omega)
          obtain ⟨R, hR⟩ : ∃ R, R = orders f (cutAt zs k) := ⟨_, rfl⟩
          rw [← hR] at o4 HTK ⊢
          have hRl : R.length ≤ 20000 := by
            have h1 := HTK.out
            have h2 := congrArg List.length h1
            rw [List.length_append, List.length_map] at h2
            omega
          have HRR : Hid (∀ x ∈ R, x.length ≤ f) := by rw [hR]; exact orders_row f _ hc2
          clear hR b2 b4 o2 HR hownW bW hbW hc1 hc2 HFL HCUT hq0
          obtain ⟨U, hU⟩ : ∃ U : Nat → List (List Int), ∀ j, U j = T k ++ (R.take j).map (ix zs k :: ·) := ⟨_, fun _ => rfl⟩
          have HU0 : Hid (U 0 = T k) := by show _ = _; rw [hU]; simp
          have HUS : Hid (∀ j, j < R.length → U (j + 1) = U j ++ [ix zs k :: rx R j]) := fun j hj => by rw [hU, hU, take_rx hj, List.map_append, List.append_assoc]; rfl
          have HUE : Hid (U R.length = T (k + 1)) := by show _ = _; rw [hU, List.take_length, HTK.out]
          have HUL : Hid (∀ j, (U j).length ≤ 20000 + j) := fun j => by rw [hU, List.length_append, List.length_map, List.length_take]; omega
          clear hU
          go_wp2
          go_loopw [3, 7, 30] (fun v _ i wr => ∃ (j : Nat) (A' : Option Addr) (c' : Nat), j ≤ R.length ∧ i = .int .i64 j ∧ v = .slice A' (U j).length c' ∧ OwnR wr w.heap.size wr.heap.size (.slice A' (U j).length c') (U j) ∧ OwnR wr w2.heap.size w4.heap.size (.slice A4 R.length c4) R ∧ Below w.heap.size w wr ∧ w4.heap.size ≤ wr.heap.size ∧ (∀ q, (Value.slice A' (U j).length c').ownBlock = some q → q < w2.heap.size ∨ w4.heap.size ≤ q)) (fun _ _ i _ => R.length - (intOf i).toNat)
          case atStart => exact ⟨0, _, _, Nat.zero_le _, rfl, by rw [HU0.out], by rw [HU0.out]; exact hown4, o4, hb4, Nat.le_refl _, by rw [HU0.out]; exact HQ0.out⟩
          case round =>
            obtain ⟨j, A6, c6, hj, rfl, rfl, ho6, hO6, hb6, hz64, hq6⟩ := hrel
            have hR6 := hO6.at_
            have HQ6 := Lib.hid hq6
            have z6 := hb6.size
            clear hown4 hb4 o4 z2 zW hq6
            by_cases hjl : j < R.length
            · obtain ⟨bb, oo, Ar, cr, rfl, _, hcj, hcr, hir⟩ := hR6.at_ hjl
              have hrl := HRR.out _ (rx_mem hjl)
              have hul := HUL.out j
              have HUJ := Lib.hid (HUS.out j hjl)
              have b7 := (Below.refl wr.heap.size wr).alloc (Nat.le_refl _) (.cells #[.int .i64 (ix zs k)] 3)
              have z7 := World.size_alloc wr (.cells #[.int .i64 (ix zs k)] 3)
              have i7 : IntsAt (wr.alloc (.cells #[.int .i64 (ix zs k)] 3)) (some ⟨wr.heap.size, 0, none⟩) 1 [ix zs k] := by
                refine ⟨rfl, fun _ => ⟨wr.heap.size, 0, rfl, fun q hq => ?_⟩⟩
                obtain rfl : q = 0 := by omega
                exact new_cell wr (.int .i64 (ix zs k)) 3 rfl
              have hp7 := RowsAt.pair i7 (hir.below b7) (Nat.le_refl 1) hcr 38
              have b8 := (Below.refl (wr.alloc (.cells #[.int .i64 (ix zs k)] 3)).heap.size (wr.alloc (.cells #[.int .i64 (ix zs k)] 3))).alloc (Nat.le_refl _) (.cells #[.slice (some ⟨wr.heap.size, 0, none⟩) 1 1, .slice Ar (rx R j).length cr] 38)
              have HP7 := Lib.hid hp7
              have bB := b7.trans (b8.mono (by omega))
              have HZ7 := Lib.hid z7
              have hoB := ho6.belowW bB
              have hOB := hO6.belowW bB
              have hbB := hb6.trans (bB.mono z6)
              have HF7 : Hid ((flatL [[ix zs k], rx R j]).length ≤ 1048576) := by show _ ≤ _; rw [flatL_2]; simp; omega
              have HFE : Hid (flatL [[ix zs k], rx R j] = ix zs k :: rx R j) := by show _ = _; rw [flatL_2]; rfl
              have hzB := bB.size
              clear hp7 b7 b8 i7 z7 ho6 hR6 hO6 hir bB hb6
              go_wp2_with fail
              rw [← HZ7.out]
              (with_reducible refine (concat_any _ 2 2 [[ix zs k], rx R j] _ HP7.out (by omega) HF7.out).mono ?_)
              rintro e w9 ⟨A9, c9, rfl, o9, b9⟩
              rw [HFE.out] at o9 ⊢
              have z9 := b9.size
              have ho9 := hoB.belowW b9
              have hO9 := hOB.belowW b9
              have hb9 := hbB.trans (b9.mono hbB.size)
              clear hoB hOB hbB b9 HP7 HF7 HFE
              have bC := (Below.refl w9.heap.size w9).alloc (Nat.le_refl _) (.cells #[.slice A9 (ix zs k :: rx R j).length c9] 38)
              have zC := World.size_alloc w9 (.cells #[.slice A9 (ix zs k :: rx R j).length c9] 38)
              have hOC := hO9.belowW bC
              have hoC := ho9.belowW bC
              have hbC := hb9.trans (bC.mono hb9.size)
              have hV := rowsV_one (o9.belowW bC)
              have hcC := new_cell w9 (.slice A9 (ix zs k :: rx R j).length c9) 38 rfl
              have HCC : Hid (∀ q, q < 1 → ∃ b o, (some ⟨w9.heap.size, 0, none⟩ : Option Addr) = some ⟨b, o, none⟩ ∧ (w9.alloc (.cells #[.slice A9 (ix zs k :: rx R j).length c9] 38)).cell? ⟨b, o + q, none⟩ = [Value.slice A9 (ix zs k :: rx R j).length c9][q]?) := by
                intro q hq
                obtain rfl : q = 0 := by omega
                exact ⟨w9.heap.size, 0, rfl, hcC⟩
              have HZC := Lib.hid zC
              have zC1 : w9.heap.size ≤ (w9.alloc (.cells #[.slice A9 (ix zs k :: rx R j).length c9] 38)).heap.size := by omega
              have q1 : (U j).length + 1 ≤ 1000000000000 := by omega
              have q2 : w.heap.size ≤ (w9.alloc (.cells #[.slice A9 (ix zs k :: rx R j).length c9] 38)).heap.size := hbC.size
              have q3 := Nat.le_trans z6 hzB
              clear hcC ho9 hO9 hb9 bC o9 zC
              go_wp2_with (at_builtin; refine wpList_append_rows _ rfl _ _ rfl w.heap.size wr.heap.size _ _ _ _ rfl hoC (some ⟨w9.heap.size, 0, none⟩) 1 1 [Value.slice A9 (ix zs k :: rx R j).length c9] [ix zs k :: rx R j] _ _ rfl HCC.out hV rfl hzB q1 q2 q3 ?_)
              intro Af cf wf hof hgf hatf
              have zf := hgf.size
              have q4 := Nat.le_trans hz64 (Nat.le_trans hzB (Nat.le_trans z9 (Nat.le_trans zC1 zf)))
              have hOf := hOC.grownBy hgf (fun q e => by have := HQ6.out q e; omega)
              have hbf := below_of_below hbC hgf (fun q e => (hoC.block_ge q e).1)
              have el : (U j).length + 1 = (U (j + 1)).length := by rw [HUJ.out]; simp
              have HEL := Lib.hid el
              have HQf : Hid (∀ q, (Value.slice Af (U (j + 1)).length cf).ownBlock = some q → q < w2.heap.size ∨ w4.heap.size ≤ q) := by
                rw [← HEL.out]
                intro q e
                rcases hatf with h | h
                · rw [h] at e; exact HQ6.out q e
                · rw [h] at e; have e2 := Option.some.inj e; right; have := HZC.out; omega
              rw [← HUJ.out, HEL.out] at hof
              clear hatf hgf hOC hoC hbC hV el
              go_wp2
              go_roundw
              case rel => first | exact ⟨j + 1, _, _, by omega, by go_num, by rw [← HEL.out], hof, hOf, hbf, q4, HQf.out⟩ | ((repeat apply Exists.intro); exact ⟨⟨j + 1, _, _, by omega, by go_num, by rw [← HEL.out], hof, hOf, hbf, q4, HQf.out⟩, rfl⟩)
              case measure => simp [intOf]; omega
            · obtain rfl : j = R.length := by omega
              rw [HUE.out] at ho6 ⊢
              go_wp2
              go_roundw
              case rel => first | exact ⟨k + 1, _, _, by omega, by go_num, rfl, ho6, hb6⟩ | ((repeat apply Exists.intro); exact ⟨⟨k + 1, _, _, by omega, by go_num, rfl, ho6, hb6⟩, rfl⟩)
              case measure => simp [intOf]; omega
      · obtain rfl : k = zs.length := by omega
        go_wp2
        go_ret
        exact ⟨_, _, rfl, hown, hb⟩
end Go.Proofs.Ytnoanomihifobaa
