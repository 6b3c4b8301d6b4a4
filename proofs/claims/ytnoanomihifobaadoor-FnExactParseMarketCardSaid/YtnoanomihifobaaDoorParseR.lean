/- The text of a ranking is read. -/
import Derived.Test.YtnoanomihifobaaDoorParseP
import Derived.Test.YtnoanomihifobaaDoorFmtS
namespace Go.Proofs.YtnoanomihifobaaDoor
set_option linter.unusedVariables false
open Go.RowKit

theorem lsR_take {b : List UInt8} {k : Nat} (h : k < b.length) : lsR (b.take (k + 1)) = lsR (b.take k) ++ [(b[k].toNat : Int) - 97] := by
  unfold lsR; rw [List.take_succ_eq_append_getElem h, List.map_append]; rfl
theorem rank_long {w : List UInt8} (h : 5 < w.length) : okR w = false := by
  unfold okR rankOk
  have : inB (w.length : Int) 1 5 = false := by
    cases e : inB (w.length : Int) 1 5 with
    | false => rfl
    | true => rw [inB_iff] at e; omega
  rw [this]; rfl
theorem size_list (a : ByteArray) : a.size = a.data.toList.length := by rw [Array.length_toList]; rfl
theorem byte_at (a : ByteArray) (k : Nat) (h : k < a.size) (h2 : k < a.data.toList.length) : a.data.toList[k] = a[k] := by rw [Array.getElem_toList]; rfl
theorem str_ne {a b : ByteArray} (h : a ≠ b) : (a.toList == b.toList) = false := by
  rw [beq_eq_false_iff_ne, ByteArray.toList_eq, ByteArray.toList_eq]
  exact fun e => h (ByteArray.ext (Array.ext' e))
theorem str_eq {a b : ByteArray} (h : a = b) : (a.toList == b.toList) = true := by rw [h]; simp
theorem str_nil {a : ByteArray} (h : a ≠ ⟨#[]⟩) : a.toList.isEmpty = false := by
  cases e : a.toList with
  | nil => exact absurd (ByteArray.ext (Array.ext' (by rw [← ByteArray.toList_eq, e]))) h
  | cons x l => rfl
set_option maxHeartbeats 800000 in
theorem implParseRanking (a : ByteArray) (w : World) (ha : a.size ≤ 1048576) :
    Calls Tryd.prog 14 #[.string a] w fun e w' => ∃ A c, e = .returned (.tuple #[.slice A (parR a.data.toList).length c, .bool (okR a.data.toList)]) ∧ OwnI w' w.heap.size w'.heap.size (.slice A (parR a.data.toList).length c) (parR a.data.toList) ∧ Below w.heap.size w w' := by
  obtain ⟨b, hb⟩ : ∃ b, a.data.toList = b := ⟨_, rfl⟩
  have hz := size_list a
  rw [hb] at hz ⊢
  have HB := Lib.hid hb
  clear hb
  by_cases h5 : 5 < a.size
  · have HK := Lib.hid (rank_long (w := b) (by omega))
    have HP := Lib.hid (parR_no HK.out)
    have h5' : (5 : Int) < (a.size : Int) := by omega
    rw [HP.out, HK.out]
    clear hz
    go_enter Tryd.func14, Tryd.ntmps14
    go_wp2
    go_ret2
    exact ⟨none, 0, rfl, OwnI.nil _ _ _, Below.refl _ _⟩
  · have h5' : (a.size : Int) ≤ 5 := by omega
    have hlb : b.length ≤ 5 := by omega
    have HZ := Lib.hid hz
    clear hz
    go_enter Tryd.func14, Tryd.ntmps14
    go_wp2
    go_loopw [4, 5, 11] (fun v _ i_ wr => ∃ (k : Nat) (A' : Option Addr) (c' : Nat), k ≤ a.size ∧ i_ = .int .i64 k ∧ v = .slice A' k c' ∧ OwnI wr w.heap.size wr.heap.size (.slice A' k c') (lsR (b.take k)) ∧ Below w.heap.size w wr) (fun _ _ i_ _ => a.size - (intOf i_).toNat)
    case atStart => exact ⟨0, none, 0, Nat.zero_le _, rfl, rfl, OwnI.nil _ _ _, Below.refl _ _⟩
    case round =>
      obtain ⟨k, A', c', hk, rfl, rfl, ho, hbr⟩ := hrel
      have zr := hbr.size
      by_cases hlt : k < a.size
      · have hx : a[k].toNat < 256 := UInt8.toNat_lt _
        have hkb : k < b.length := by have := HZ.out; omega
        have HT : Hid (lsR (b.take (k + 1)) = lsR (b.take k) ++ [(a[k].toNat : Int) - 97]) := by
          show _ = _
          rw [lsR_take hkb]
          have e : b[k] = a[k] := by
            have := byte_at a k hlt (by rw [HB.out]; exact hkb)
            simp only [HB.out] at this
            exact this
          rw [e]
        go_wp2_with (at_builtin; refine wpList_append_int _ rfl _ _ rfl w.heap.size wr.heap.size k c' A' (lsR (b.take k)) rfl (ho.alloc _) ((a[k].toNat : Int) - 97) _ 1 rfl (new_cell _ _ _ rfl) (by omega) (by simp; omega) (by simp; omega) ?_)
        intro A2 c2 w2 ho2 hon
        rw [← HT.out] at ho2
        have hb2 := (hbr.alloc zr _).trans (hon.toBelow (Nat.le_refl _) (by simp; omega))
        clear hon ho hbr
        go_wp2
        go_roundw
        case rel => exact ⟨k + 1, A2, c2, by omega, by go_num, rfl, ho2, hb2⟩
        case measure => simp [intOf]; omega
      · obtain rfl : k = a.size := by omega
        rw [show b.take a.size = b from by rw [HZ.out, List.take_length]] at ho
        have hn5 : (lsR b).length = a.size := by rw [lsR_len]; exact HZ.out.symm
        have hcc := ho.ints.2.2.1
        have hok : Hid (rankOk (a.size : Int) (lsR b) = okR b) := by show _ = _; unfold okR; rw [HZ.out]
        go_wp2_with fail
        (with_reducible refine (isRanking_any A' _ c' (lsR b) _ ho.at_ ha hcc).mono ?_)
        rintro e w2 ⟨rfl, rfl⟩
        rw [hok.out]
        have HN := Lib.hid hn5
        clear hn5
        rcases hk2 : okR b
        · have HP := Lib.hid (parR_no hk2)
          have HK := Lib.hid hk2
          clear hk2
          go_wp2
          go_ret2
          exact ⟨none, 0, by rw [HP.out, HK.out]; rfl, by rw [HP.out]; exact OwnI.nil _ _ _, hbr⟩
        · have HP := Lib.hid (parR_yes hk2)
          have HK := Lib.hid hk2
          clear hk2
          go_wp2
          go_ret2
          exact ⟨_, _, by rw [HP.out, HK.out, HN.out]; rfl, by rw [HP.out, HN.out]; exact ho, hbr⟩
theorem text_iff {a : ByteArray} {b : List UInt8} (hb : a.data.toList = b) (hk : okR b = true) : strOfNums (rankNums (lsR b)) = a := by
  apply ByteArray.ext
  apply Array.ext'
  rw [strOfNums_data, hb]
  unfold rankNums lsR
  rw [List.map_map, List.map_map]
  conv => rhs; rw [← List.map_id b]
  apply List.map_congr_left
  intro x _
  show UInt8.ofNat (97 + ((x.toNat : Int) - 97)).toNat = x
  have : (97 + ((x.toNat : Int) - 97)).toNat = x.toNat := by omega
  rw [this]
  exact UInt8.ofNat_toNat
set_option maxHeartbeats 400000 in
theorem specFormatRanking_no (A : Option Addr) (n c : Nat) (xs : List Int) (w : World) (h : IntsAt w A n xs) (hn : n ≤ 1048576) (hc : n ≤ c) (hr : rankOk (xs.length : Int) xs = false) :
    Calls Tryd.prog 20 #[.slice A n c] w fun e w' => e = .returned (.string ⟨#[]⟩) ∧ Below w.heap.size w w' := by
  obtain rfl := h.len
  have HR := Lib.hid hr
  clear hr
  go_enter Tryd.func20, Tryd.ntmps20
  go_wp2_with fail
  (with_reducible refine (specRankingOk _ _ _ _ _ _ h (by omega) hc).mono ?_)
  rintro e w1 ⟨rfl, hb⟩
  rw [HR.out]
  go_wp2
  go_ret
  exact ⟨rfl, hb⟩
set_option maxHeartbeats 800000 in
theorem specParseRanking (a : ByteArray) (w : World) (ha : a.size ≤ 1048576) :
    Calls Tryd.prog 10 #[.string a] w fun e w' => ∃ A c, e = .returned (.tuple #[.slice A (parR a.data.toList).length c, .bool (okR a.data.toList)]) ∧ OwnI w' w.heap.size w'.heap.size (.slice A (parR a.data.toList).length c) (parR a.data.toList) ∧ Below w.heap.size w w' := by
  obtain ⟨b, hb⟩ : ∃ b, a.data.toList = b := ⟨_, rfl⟩
  have hz := size_list a
  rw [hb] at hz ⊢
  have HB := Lib.hid hb
  clear hb
  have HZ := Lib.hid hz
  clear hz
  have b0 := (Below.refl w.heap.size w).alloc (Nat.le_refl _) (.cells #[] 3)
  go_enter Tryd.func10, Tryd.ntmps10
  go_wp2
  go_loopw [4, 5] (fun v i_ wr => ∃ (k : Nat) (A' : Option Addr) (c' : Nat), k ≤ a.size ∧ i_ = .int .i64 k ∧ v = .slice A' k c' ∧ OwnI wr w.heap.size wr.heap.size (.slice A' k c') (lsR (b.take k)) ∧ Below w.heap.size w wr) (fun _ i_ _ => a.size - (intOf i_).toNat)
  case atStart => exact ⟨0, _, 0, Nat.zero_le _, rfl, rfl, OwnI.empty _ (Nat.le_refl _) (by simp), b0⟩
  case round =>
    obtain ⟨k, A', c', hk, rfl, rfl, ho, hbr⟩ := hrel
    have zr := hbr.size
    by_cases hlt : k < a.size
    · have hx : a[k].toNat < 256 := UInt8.toNat_lt _
      have hkb : k < b.length := by have := HZ.out; omega
      have HT : Hid (lsR (b.take (k + 1)) = lsR (b.take k) ++ [(a[k].toNat : Int) - 97]) := by
        show _ = _
        rw [lsR_take hkb]
        have e : b[k] = a[k] := by
          have := byte_at a k hlt (by rw [HB.out]; exact hkb)
          simp only [HB.out] at this
          exact this
        rw [e]
      go_wp2_with (at_builtin; refine wpList_append_int _ rfl _ _ rfl w.heap.size wr.heap.size k c' A' (lsR (b.take k)) rfl (ho.alloc _) ((a[k].toNat : Int) - 97) _ 1 rfl (new_cell _ _ _ rfl) (by omega) (by simp; omega) (by simp; omega) ?_)
      intro A2 c2 w2 ho2 hon
      rw [← HT.out] at ho2
      have hb2 := (hbr.alloc zr _).trans (hon.toBelow (Nat.le_refl _) (by simp; omega))
      clear hon ho hbr
      go_wp2
      go_roundw
      case rel => exact ⟨k + 1, A2, c2, by omega, by go_num, rfl, ho2, hb2⟩
      case measure => simp [intOf]; omega
    · obtain rfl : k = a.size := by omega
      rw [show b.take a.size = b from by rw [HZ.out, List.take_length]] at ho
      have hn5 : (lsR b).length = a.size := by rw [lsR_len]; exact HZ.out.symm
      have HN := Lib.hid hn5
      have hcc := ho.ints.2.2.1
      have hok : Hid (rankOk ((lsR b).length : Int) (lsR b) = okR b) := by show _ = _; unfold okR; rw [lsR_len]
      clear hn5
      rcases hk2 : okR b
      · have HP := Lib.hid (parR_no hk2)
        have HK2 := Lib.hid hk2
        have hk3 := hok.out
        rw [hk2] at hk3
        have HK := Lib.hid hk3
        clear hk2 hk3
        by_cases hne : a = ⟨#[]⟩
        · have he : a.toList.isEmpty = true := by rw [hne, ByteArray.toList_eq]; rfl
          clear hne
          go_wp2
          go_ret2
          exact ⟨none, 0, by rw [HP.out, HK2.out]; rfl, by rw [HP.out]; exact OwnI.nil _ _ _, hbr⟩
        · have he := str_nil hne
          have he2 := str_ne (a := ⟨#[]⟩) (b := a) (fun e => hne e.symm)
          clear hne
          go_wp2_with fail
          (with_reducible refine (specFormatRanking_no A' _ c' (lsR b) _ ho.at_ ha hcc HK.out).mono ?_)
          rintro e w2 ⟨rfl, hb2⟩
          have hb3 := hbr.trans (hb2.mono zr)
          clear hb2 hbr
          go_wp2
          go_ret2
          exact ⟨none, 0, by rw [HP.out, HK2.out]; rfl, by rw [HP.out]; exact OwnI.nil _ _ _, hb3⟩
      · have HP := Lib.hid (parR_yes hk2)
        have HK2 := Lib.hid hk2
        have hk3 := hok.out
        rw [hk2] at hk3
        have h1 := (rankOk_facts hk3).1
        have hne : a ≠ ⟨#[]⟩ := by
          rintro rfl
          have := HN.out
          have e0 : (⟨#[]⟩ : ByteArray).size = 0 := rfl
          omega
        have he := str_nil hne
        have hf := text_iff HB.out hk2
        have he2 := str_eq hf
        have HK := Lib.hid hk3
        clear hk2 hk3 h1 hne hf
        go_wp2_with fail
        (with_reducible refine (specFormatRanking (m := (lsR b).length) A' _ c' (lsR b) _ ho.at_ hcc HK.out).mono ?_)
        rintro e w2 ⟨rfl, hb2⟩
        have hb3 := hbr.trans (hb2.mono zr)
        have ho2 := ho.belowW hb2
        have hz3 := hb2.size
        clear hb2 hbr ho
        go_wp2
        go_ret2
        exact ⟨_, _, by rw [HP.out, HK2.out, HN.out]; rfl, by rw [HP.out, HN.out]; exact ho2.mono (Nat.le_refl _) hz3, hb3⟩
end Go.Proofs.YtnoanomihifobaaDoor
