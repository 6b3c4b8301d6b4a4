/- The pairs of persons who would rather share a room. -/
import Derived.Test.YteglddkeagicmaaRoomsOk
import Derived.Test.YteglddkeagicmaaColl
namespace Go.Proofs.Yteglddkeagicmaa
set_option linter.unusedVariables false
open Go.RowKit

def roomF (xss : List (List Int)) (zs : List Int) (i k : Nat) : Bool := decide (i < k) && (pref (rx xss i) k (ix zs i) && pref (rx xss k) i (ix zs k))
def roomBl (xss : List (List Int)) (zs : List Int) : List (List Int) := collTo (roomF xss zs) pairG zs.length zs.length
theorem roomBl_len {xss : List (List Int)} {zs : List Int} (h : zs.length ≤ 6) : (roomBl xss zs).length ≤ 60 := by
  have := collTo_len (f := roomF xss zs) (g := pairG) (n := zs.length) (by omega) zs.length
  unfold roomBl; omega
theorem roomBl_row {xss : List (List Int)} {zs : List Int} : ∀ x ∈ roomBl xss zs, x.length ≤ 1048576 := by
  intro x hx
  obtain ⟨a, b, _, _, _, rfl⟩ := collTo_mem hx
  simp [pairG]
theorem roomF_1 {xss : List (List Int)} {zs : List Int} {i k : Nat} (h : pref (rx xss i) k (ix zs i) = false) : roomF xss zs i k = false := by unfold roomF; rw [h]; simp
theorem roomF_2 {xss : List (List Int)} {zs : List Int} {i k : Nat} (h : pref (rx xss k) i (ix zs k) = false) : roomF xss zs i k = false := by unfold roomF; rw [h]; simp
theorem roomF_3 {xss : List (List Int)} {zs : List Int} {i k : Nat} (hl : i < k) (h1 : pref (rx xss i) k (ix zs i) = true) (h2 : pref (rx xss k) i (ix zs k) = true) : roomF xss zs i k = true := by unfold roomF; rw [h1, h2]; simp [hl]
set_option maxRecDepth 100000 in
set_option maxHeartbeats 4000000 in
theorem roomBlocks_any (A : Option Addr) (n c : Nat) (xss : List (List Int)) (C : Option Addr) (l e : Nat) (zs : List Int) (w : World) (h : RowsAt w A n xss) (q : IntsAt w C l zs) (hl : l = n) (hn : n ≤ 6) (hx : ∀ xs ∈ xss, xs.length ≤ 1048576) :
    Calls Try.prog 53 #[.slice A n c, .slice C l e] w fun e w' => ∃ A' c', e = .returned (.slice A' (roomBl xss zs).length c') ∧ OwnR w' w.heap.size w'.heap.size (.slice A' (roomBl xss zs).length c') (roomBl xss zs) ∧ Below w.heap.size w w' := by
  obtain rfl := h.len
  obtain rfl := q.len
  have HX := Lib.hid hx
  have hl1 := Nat.le_of_eq hl
  have hl2 := Nat.le_of_eq hl.symm
  clear hx hl
  unfold roomBl
  go_enter Try.func53, Try.ntmps53
  go_wp2
  go_loopw [5, 6, 7, 10] (fun v _ _ i wr => ∃ (k : Nat) (A' : Option Addr) (c' : Nat), k ≤ zs.length ∧ i = .int .i64 k ∧ v = .slice A' (collTo (roomF xss zs) pairG zs.length k).length c' ∧ OwnR wr w.heap.size wr.heap.size (.slice A' (collTo (roomF xss zs) pairG zs.length k).length c') (collTo (roomF xss zs) pairG zs.length k) ∧ Below w.heap.size w wr) (fun _ _ _ i _ => zs.length - (intOf i).toNat)
  case atStart => exact ⟨0, none, 0, Nat.zero_le _, rfl, rfl, OwnR.nil _ _ _, Below.refl _ _⟩
  case round =>
    obtain ⟨i, A1, cc, hi, rfl, rfl, hown, hbo⟩ := hrel
    obtain ⟨wo, rfl⟩ : ∃ wo, wo = wr := ⟨_, rfl⟩
    by_cases hlt : i < zs.length
    · have hln := collTo_len (f := roomF xss zs) (g := pairG) (n := zs.length) (by omega) i
      have HS : Hid (collTo (roomF xss zs) pairG zs.length (i + 1) = collTo (roomF xss zs) pairG zs.length i ++ coll (roomF xss zs i) (pairG i) zs.length) := rfl
      have h0 : coll (roomF xss zs i) (pairG i) (i + 1) = [] := coll_none fun j hj => by unfold roomF; simp; omega
      generalize collTo (roomF xss zs) pairG zs.length i = L at *
      go_wp2
      go_loopw [5, 7] (fun v k_ wr => ∃ (k : Nat) (A' : Option Addr) (c' : Nat), i < k ∧ k ≤ zs.length ∧ k_ = .int .i64 k ∧ v = .slice A' (L ++ coll (roomF xss zs i) (pairG i) k).length c' ∧ OwnR wr w.heap.size wr.heap.size (.slice A' (L ++ coll (roomF xss zs i) (pairG i) k).length c') (L ++ coll (roomF xss zs i) (pairG i) k) ∧ Below w.heap.size w wr) (fun _ k_ _ => zs.length - (intOf k_).toNat)
      case atStart => exact ⟨i + 1, A1, cc, by omega, by omega, by go_num, by rw [h0, List.append_nil], by rw [h0, List.append_nil]; exact hown, hbo⟩
      case round =>
        obtain ⟨k, A1, cc, hik, hk, rfl, rfl, hown, hb⟩ := hrel
        have zr := hb.size
        have hlen := coll_len (roomF xss zs i) (pairG i) k
        have hlen2 : (L ++ coll (roomF xss zs i) (pairG i) k).length ≤ 100 := by rw [List.length_append]; omega
        have HY : Hid (roomF xss zs i k = true → L ++ coll (roomF xss zs i) (pairG i) (k + 1) = (L ++ coll (roomF xss zs i) (pairG i) k) ++ [[(i : Int), (k : Int)]]) := fun h => by rw [coll_yes h, List.append_assoc]; rfl
        have HO : Hid (roomF xss zs i k = false → L ++ coll (roomF xss zs i) (pairG i) (k + 1) = L ++ coll (roomF xss zs i) (pairG i) k) := fun h => by rw [coll_no h]
        have HZ : Hid (k = zs.length → L ++ coll (roomF xss zs i) (pairG i) k = collTo (roomF xss zs) pairG zs.length (i + 1)) := fun h => by rw [HS.out, h]
        clear h0 hlen
        generalize L ++ coll (roomF xss zs i) (pairG i) k = T at *
        by_cases hkl : k < zs.length
        · obtain ⟨b, o, A', c', rfl, _, hck, hcc, hin⟩ := (h.below hb).at_ (show i < xss.length by omega)
          obtain ⟨b', o', B', d', eb, _, hck', hcc', hin'⟩ := (h.below hb).at_ (show k < xss.length by omega)
          cases eb
          obtain ⟨bz, oz, rfl, _, hcz⟩ := (q.below hb).at_ hkl
          have zi := hcz i (by omega)
          have zk := hcz k hkl
          clear hcz
          have i1 : (0 : Int) ≤ (i : Int) := by omega
          have i2 : (i : Int) < (xss.length : Int) := by omega
          have i3 : (i : Int) < (zs.length : Int) := by omega
          have k1 : (0 : Int) ≤ (k : Int) := by omega
          have k2 : (k : Int) < (xss.length : Int) := by omega
          have k3 : (k : Int) < (zs.length : Int) := by omega
          have rl : (rx xss i).length ≤ 1099511627776 := by have := HX.out _ (rx_mem (show i < xss.length by omega)); omega
          have rl' : (rx xss k).length ≤ 1099511627776 := by have := HX.out _ (rx_mem (show k < xss.length by omega)); omega
          have K1 := Lib.hid (fun n => Calls.quiet_of_same (n := n) ((implPrefers _ _ c' _ (k : Int) (ix zs i) _ (hin.drewN n) rl).mono fun _ _ ⟨he, hw⟩ => ⟨he, hw.symm⟩))
          have K2 := Lib.hid (fun n => Calls.quiet_of_same (n := n) ((implPrefers _ _ d' _ (i : Int) (ix zs k) _ (hin'.drewN n) rl').mono fun _ _ ⟨he, hw⟩ => ⟨he, hw.symm⟩))
          cases hp : pref (rx xss i) k (ix zs i)
          · have HN := Lib.hid (HO.out (roomF_1 hp))
            rw [hp] at K1
            go_wp2
            go_quiet ((first | (with_reducible exact K1.out _) | (with_reducible exact K2.out _)))
            go_wp2
            go_roundw
            case rel => exact ⟨k + 1, _, _, by omega, by omega, by go_num, by rw [HN.out], by rw [HN.out]; exact hown, hb.trans (below_of_drewN rfl)⟩
            case measure => simp [intOf]; omega
          rw [hp] at K1
          cases hp2 : pref (rx xss k) i (ix zs k)
          · have HN := Lib.hid (HO.out (roomF_2 hp2))
            rw [hp2] at K2
            clear hp
            go_wp2
            go_quiet ((first | (with_reducible exact K1.out _) | (with_reducible exact K2.out _)))
            go_wp2
            go_roundw
            case rel => exact ⟨k + 1, _, _, by omega, by omega, by go_num, by rw [HN.out], by rw [HN.out]; exact hown, hb.trans (below_of_drewN rfl)⟩
            case measure => simp [intOf]; omega
          · have HN := Lib.hid (HY.out (roomF_3 hik hp hp2))
            rw [hp2] at K2
            clear hp hp2
            go_wp2
            go_quiet ((first | (with_reducible exact K1.out _) | (with_reducible exact K2.out _)))
            have b5 : Below w.heap.size w (wr.drewN nq) := hb.trans (below_of_drewN rfl)
            have o5 : OwnR (wr.drewN nq) w.heap.size (wr.drewN nq).heap.size (.slice A1 T.length cc) T := hown
            have z5 : w.heap.size ≤ (wr.drewN nq).heap.size := zr
            clear hown hb zr hck hck' zi zk hin hin' K1 K2
            generalize wr.drewN nq = w5 at *
            go_wp2_with (at_builtin; refine wpList_append_row _ rfl _ _ rfl w.heap.size w5.heap.size T.length _ _ _ rfl ((o5.alloc _).alloc _) (some ⟨w5.heap.size, 0, none⟩) 2 2 [(i : Int), (k : Int)] w5.heap.size (w5.heap.size + 1) ((OwnI.lit2 w5 (i : Int) (k : Int)).alloc _) (Nat.le_refl _) (by simp) _ 1 rfl (new_cell _ _ _ (by simp)) (by omega) z5 (by simp; omega) ?_)
            intro A2 c2 w2 ho2 hon
            have hb2 := ((b5.alloc z5 (.cells #[.int .i64 (i : Int), .int .i64 (k : Int)] 3)).alloc (by simp; omega) (.cells #[.slice (some ⟨w5.heap.size, 0, none⟩) 2 2] 22)).trans (hon.toBelow (Nat.le_refl _) (by simp; omega))
            have e : T ++ [[(i : Int), (k : Int)]] = L ++ coll (roomF xss zs i) (pairG i) (k + 1) := by rw [HN.out]
            have el : T.length + 1 = (L ++ coll (roomF xss zs i) (pairG i) (k + 1)).length := by rw [← e]; simp
            rw [e] at ho2
            rw [el] at ho2
            have EL := Lib.hid el
            clear hon e el b5 o5
            go_wp2
            go_roundw
            case rel => exact ⟨k + 1, _, _, by omega, by omega, by go_num, by rw [← EL.out], ho2, hb2⟩
            case measure => simp [intOf]; omega
        · obtain rfl : k = zs.length := by omega
          have EL : Hid (T = collTo (roomF xss zs) pairG zs.length (i + 1)) := HZ.out rfl
          go_wp2
          go_roundw
          case rel => exact ⟨i + 1, _, _, by omega, by go_num, by rw [EL.out], EL.out ▸ hown, hb⟩
          case measure => simp [intOf]; omega
    · obtain rfl : i = zs.length := by omega
      go_wp2
      go_ret
      exact ⟨_, _, rfl, hown, hbo⟩
set_option maxRecDepth 100000 in
set_option maxHeartbeats 4000000 in
theorem l20Blocks_any (A : Option Addr) (n c : Nat) (xss : List (List Int)) (C : Option Addr) (l e : Nat) (zs : List Int) (w : World) (h : RowsAt w A n xss) (q : IntsAt w C l zs) (hl : l = n) (hn : n ≤ 6) (hx : ∀ xs ∈ xss, xs.length ≤ 1048576) :
    Calls Try.prog 52 #[.slice A n c, .slice C l e] w fun e w' => ∃ A' c', e = .returned (.slice A' (roomBl xss zs).length c') ∧ OwnR w' w.heap.size w'.heap.size (.slice A' (roomBl xss zs).length c') (roomBl xss zs) ∧ Below w.heap.size w w' := by
  obtain rfl := h.len
  obtain rfl := q.len
  have HX := Lib.hid hx
  have hl1 := Nat.le_of_eq hl
  have hl2 := Nat.le_of_eq hl.symm
  clear hx hl
  unfold roomBl
  go_enter Try.func52, Try.ntmps52
  go_wp2
  go_loopw [5, 6, 7, 11] (fun v _ _ i wr => ∃ (k : Nat) (A' : Option Addr) (c' : Nat), k ≤ zs.length ∧ i = .int .i64 k ∧ v = .slice A' (collTo (roomF xss zs) pairG zs.length k).length c' ∧ OwnR wr w.heap.size wr.heap.size (.slice A' (collTo (roomF xss zs) pairG zs.length k).length c') (collTo (roomF xss zs) pairG zs.length k) ∧ Below w.heap.size w wr) (fun _ _ _ i _ => zs.length - (intOf i).toNat)
  case atStart => exact ⟨0, _, 0, Nat.zero_le _, rfl, rfl, OwnR.empty _ (Nat.le_refl _) (by simp), (Below.refl _ _).alloc (Nat.le_refl _) _⟩
  case round =>
    obtain ⟨i, A1, cc, hi, rfl, rfl, hown, hbo⟩ := hrel
    obtain ⟨wo, rfl⟩ : ∃ wo, wo = wr := ⟨_, rfl⟩
    by_cases hlt : i < zs.length
    · have hln := collTo_len (f := roomF xss zs) (g := pairG) (n := zs.length) (by omega) i
      have HS : Hid (collTo (roomF xss zs) pairG zs.length (i + 1) = collTo (roomF xss zs) pairG zs.length i ++ coll (roomF xss zs i) (pairG i) zs.length) := rfl
      have h0 : coll (roomF xss zs i) (pairG i) (i + 1) = [] := coll_none fun j hj => by unfold roomF; simp; omega
      generalize collTo (roomF xss zs) pairG zs.length i = L at *
      go_wp2
      go_loopw [5, 7] (fun v k_ wr => ∃ (k : Nat) (A' : Option Addr) (c' : Nat), i < k ∧ k ≤ zs.length ∧ k_ = .int .i64 k ∧ v = .slice A' (L ++ coll (roomF xss zs i) (pairG i) k).length c' ∧ OwnR wr w.heap.size wr.heap.size (.slice A' (L ++ coll (roomF xss zs i) (pairG i) k).length c') (L ++ coll (roomF xss zs i) (pairG i) k) ∧ Below w.heap.size w wr) (fun _ k_ _ => zs.length - (intOf k_).toNat)
      case atStart => exact ⟨i + 1, A1, cc, by omega, by omega, by go_num, by rw [h0, List.append_nil], by rw [h0, List.append_nil]; exact hown, hbo⟩
      case round =>
        obtain ⟨k, A1, cc, hik, hk, rfl, rfl, hown, hb⟩ := hrel
        have zr := hb.size
        have hlen := coll_len (roomF xss zs i) (pairG i) k
        have hlen2 : (L ++ coll (roomF xss zs i) (pairG i) k).length ≤ 100 := by rw [List.length_append]; omega
        have HY : Hid (roomF xss zs i k = true → L ++ coll (roomF xss zs i) (pairG i) (k + 1) = (L ++ coll (roomF xss zs i) (pairG i) k) ++ [[(i : Int), (k : Int)]]) := fun h => by rw [coll_yes h, List.append_assoc]; rfl
        have HO : Hid (roomF xss zs i k = false → L ++ coll (roomF xss zs i) (pairG i) (k + 1) = L ++ coll (roomF xss zs i) (pairG i) k) := fun h => by rw [coll_no h]
        have HZ : Hid (k = zs.length → L ++ coll (roomF xss zs i) (pairG i) k = collTo (roomF xss zs) pairG zs.length (i + 1)) := fun h => by rw [HS.out, h]
        clear h0 hlen
        generalize L ++ coll (roomF xss zs i) (pairG i) k = T at *
        by_cases hkl : k < zs.length
        · obtain ⟨b, o, A', c', rfl, _, hck, hcc, hin⟩ := (h.below hb).at_ (show i < xss.length by omega)
          obtain ⟨b', o', B', d', eb, _, hck', hcc', hin'⟩ := (h.below hb).at_ (show k < xss.length by omega)
          cases eb
          obtain ⟨bz, oz, rfl, _, hcz⟩ := (q.below hb).at_ hkl
          have zi := hcz i (by omega)
          have zk := hcz k hkl
          clear hcz
          have i1 : (0 : Int) ≤ (i : Int) := by omega
          have i2 : (i : Int) < (xss.length : Int) := by omega
          have i3 : (i : Int) < (zs.length : Int) := by omega
          have k1 : (0 : Int) ≤ (k : Int) := by omega
          have k2 : (k : Int) < (xss.length : Int) := by omega
          have k3 : (k : Int) < (zs.length : Int) := by omega
          have rl : (rx xss i).length ≤ 1099511627776 := by have := HX.out _ (rx_mem (show i < xss.length by omega)); omega
          have rl' : (rx xss k).length ≤ 1099511627776 := by have := HX.out _ (rx_mem (show k < xss.length by omega)); omega
          have K1 := Lib.hid (fun n => Calls.quiet_of_same (n := n) ((specPrefers _ _ c' _ (k : Int) (ix zs i) _ (hin.drewN n) rl).mono fun _ _ ⟨he, hw⟩ => ⟨he, hw.symm⟩))
          have K2 := Lib.hid (fun n => Calls.quiet_of_same (n := n) ((specPrefers _ _ d' _ (i : Int) (ix zs k) _ (hin'.drewN n) rl').mono fun _ _ ⟨he, hw⟩ => ⟨he, hw.symm⟩))
          by_cases hz : ix zs i = (k : Int)
          · have e1 : (ix zs i != (k : Int)) = false := by rw [bne_eq_false_iff_eq]; exact hz
            have HN := Lib.hid (HO.out (roomF_1 (xss := xss) (zs := zs) (i := i) (k := k) (by rw [hz]; exact pref_same _ _)))
            clear hz
            go_wp2
            go_quiet (fail)
            go_wp2
            go_roundw
            case rel => exact ⟨k + 1, _, _, by omega, by omega, by go_num, by rw [HN.out], by rw [HN.out]; exact hown, hb.trans (below_of_drewN rfl)⟩
            case measure => simp [intOf]; omega
          have e1 : (ix zs i != (k : Int)) = true := by rw [bne_iff_ne]; exact hz
          clear hz
          cases hp : pref (rx xss i) k (ix zs i)
          · have HN := Lib.hid (HO.out (roomF_1 hp))
            rw [hp] at K1
            go_wp2
            go_quiet ((first | (with_reducible exact K1.out _) | (with_reducible exact K2.out _)))
            go_wp2
            go_roundw
            case rel => exact ⟨k + 1, _, _, by omega, by omega, by go_num, by rw [HN.out], by rw [HN.out]; exact hown, hb.trans (below_of_drewN rfl)⟩
            case measure => simp [intOf]; omega
          rw [hp] at K1
          cases hp2 : pref (rx xss k) i (ix zs k)
          · have HN := Lib.hid (HO.out (roomF_2 hp2))
            rw [hp2] at K2
            clear hp
            go_wp2
            go_quiet ((first | (with_reducible exact K1.out _) | (with_reducible exact K2.out _)))
            go_wp2
            go_roundw
            case rel => exact ⟨k + 1, _, _, by omega, by omega, by go_num, by rw [HN.out], by rw [HN.out]; exact hown, hb.trans (below_of_drewN rfl)⟩
            case measure => simp [intOf]; omega
          · have HN := Lib.hid (HY.out (roomF_3 hik hp hp2))
            rw [hp2] at K2
            clear hp hp2
            go_wp2
            go_quiet ((first | (with_reducible exact K1.out _) | (with_reducible exact K2.out _)))
            have b5 : Below w.heap.size w (wr.drewN nq) := hb.trans (below_of_drewN rfl)
            have o5 : OwnR (wr.drewN nq) w.heap.size (wr.drewN nq).heap.size (.slice A1 T.length cc) T := hown
            have z5 : w.heap.size ≤ (wr.drewN nq).heap.size := zr
            clear hown hb zr hck hck' zi zk hin hin' K1 K2
            generalize wr.drewN nq = w5 at *
            go_wp2_with (at_builtin; refine wpList_append_row _ rfl _ _ rfl w.heap.size w5.heap.size T.length _ _ _ rfl ((o5.alloc _).alloc _) (some ⟨w5.heap.size, 0, none⟩) 2 2 [(i : Int), (k : Int)] w5.heap.size (w5.heap.size + 1) ((OwnI.lit2 w5 (i : Int) (k : Int)).alloc _) (Nat.le_refl _) (by simp) _ 1 rfl (new_cell _ _ _ (by simp)) (by omega) z5 (by simp; omega) ?_)
            intro A2 c2 w2 ho2 hon
            have hb2 := ((b5.alloc z5 (.cells #[.int .i64 (i : Int), .int .i64 (k : Int)] 3)).alloc (by simp; omega) (.cells #[.slice (some ⟨w5.heap.size, 0, none⟩) 2 2] 22)).trans (hon.toBelow (Nat.le_refl _) (by simp; omega))
            have e : T ++ [[(i : Int), (k : Int)]] = L ++ coll (roomF xss zs i) (pairG i) (k + 1) := by rw [HN.out]
            have el : T.length + 1 = (L ++ coll (roomF xss zs i) (pairG i) (k + 1)).length := by rw [← e]; simp
            rw [e] at ho2
            rw [el] at ho2
            have EL := Lib.hid el
            clear hon e el b5 o5
            go_wp2
            go_roundw
            case rel => exact ⟨k + 1, _, _, by omega, by omega, by go_num, by rw [← EL.out], ho2, hb2⟩
            case measure => simp [intOf]; omega
        · obtain rfl : k = zs.length := by omega
          have EL : Hid (T = collTo (roomF xss zs) pairG zs.length (i + 1)) := HZ.out rfl
          go_wp2
          go_roundw
          case rel => exact ⟨i + 1, _, _, by omega, by go_num, by rw [EL.out], EL.out ▸ hown, hb⟩
          case measure => simp [intOf]; omega
    · obtain rfl : i = zs.length := by omega
      go_wp2
      go_ret
      exact ⟨_, _, rfl, hown, hbo⟩
end Go.Proofs.Yteglddkeagicmaa
