/- The program writes and reads a number by the library. A text cut at a byte, a ranking read: plain lists. No program is walked here. The text of a ranking is read. A text is cut at its blanks. Words joined by a blank, and the text of a profile: plain lists, and both sides' Join. -/
import Derived.Test.YtaanppihgldeaaaGreatDoorW35
import Derived.Lib.AppendIntMem
import Derived.Lib.SmallJoins
import Derived.Test.YtaanppihgldeaaaGreatDoorW05
import Derived.Lib.Join
namespace Go.Proofs.YtaanppihgldeaaaGreatDoor
set_option linter.unusedSimpArgs false
set_option linter.unusedVariables false
set_option linter.unusedVariables false
open Go.RowKit

/-- what the library's own variables hold -/
structure Glob (w : World) : Prop where
  tab : Lib.TabBelow Tryz.prog w.heap.size w "internal/strconv.uint64pow10" .u64 Lib.pow10Tab
  c0 : ∃ m, w.cell? ⟨0, 0, none⟩ = some (.int .i64 m)
  c1 : ∃ ev, w.cell? ⟨1, 0, none⟩ = some ev ∧ (ev = .nilIface ∨ ∃ te pe, ev = .iface te pe)
  c2 : ∃ ev, w.cell? ⟨2, 0, none⟩ = some ev ∧ (ev = .nilIface ∨ ∃ te pe, ev = .iface te pe)
theorem Glob.below {w w' : World} (G : Glob w) (h : Below w.heap.size w w') : Glob w' := by
  obtain ⟨m, c0⟩ := G.c0
  obtain ⟨e1, c1, h1⟩ := G.c1
  obtain ⟨e2, c2, h2⟩ := G.c2
  exact ⟨fun w2 hb => G.tab w2 (h.trans (hb.mono h.size)), ⟨m, cell_carry h c0⟩, ⟨e1, cell_carry h c1, h1⟩, ⟨e2, cell_carry h c2, h2⟩⟩
theorem below_grow (w : World) (k : Nat) (os : Array Obj) : Below w.heap.size w (Go.Sort.grow (w.drewN k) os) := by
  refine (below_of_drewN (w := w) (w' := w.drewN k) rfl).trans ⟨rfl, rfl, rfl, by simp [Go.Sort.grow], fun j hj => ?_⟩
  simp only [Go.Sort.grow]
  rw [Array.getElem?_append_left (by simpa using hj)]
theorem below_bytes (w : World) (e : TypeId) (s : ByteArray) : Below w.heap.size w (Lib.bytesWorld w e s) := Go.Joins.below_bytesWorld _ w e s (Nat.le_refl _)
theorem itoa_str (n : Int) (h : 0 ≤ n) : (⟨(Lib.itoa n).toArray⟩ : ByteArray) = strOfNums (decN n.toNat) := by
  apply ByteArray.ext
  apply Array.ext'
  rw [decN_bytes]
  unfold Lib.itoa
  rw [if_neg (by omega)]
theorem implFormatInt (n : Int) (w : World) (h0 : -9223372036854775808 ≤ n) (h1 : n ≤ 9223372036854775807) (G : Glob w) :
    Calls Tryz.prog 39 #[.int .i64 n] w fun e w' => ∃ s : ByteArray, e = .returned (.string s) ∧ (0 ≤ n → s = strOfNums (decN n.toNat)) ∧ Below w.heap.size w w' := by
  have K := Lib.hid (sh_strconv_Itoa n h0 h1 w G.tab.here)
  have HS := Lib.hid (itoa_str n)
  obtain ⟨s, hs⟩ : ∃ s : ByteArray, (⟨(Lib.itoa n).toArray⟩ : ByteArray) = s := ⟨_, rfl⟩
  rw [hs] at K HS
  clear hs G
  go_enter Tryz.func39, Tryz.ntmps39
  go_wp2_with fail
  (with_reducible refine K.out.mono ?_)
  rintro e w1 ⟨rfl, k, os, rfl⟩
  have hb := below_grow w k os
  go_wp2
  go_ret
  exact ⟨s, rfl, HS.out, hb⟩
set_option maxHeartbeats 800000 in
theorem implParseInt (a : ByteArray) (w : World) (ha : a.size ≤ 1048576) (G : Glob w) :
    Calls Tryz.prog 15 #[.string a] w (ReadInt a w) := by
  have HP : ∀ k ≤ 1000, a = strOfNums (decN k) → Lib.atoiAll a.data.toList = .ok (k : Int) := fun k hk e => by rw [e, decN_bytes]; exact dec_ok k hk
  obtain ⟨e1, c1, h1⟩ := G.c1
  obtain ⟨e2, c2, h2⟩ := G.c2
  rcases hat : Lib.atoiAll a.data.toList with v | _ | _
  · have K := Lib.hid (sh_strconv_Atoi_ok a (by omega) v hat w)
    have hv := Lib.atoiAll_bounds hat
    have HK : Hid (∀ k ≤ 1000, a = strOfNums (decN k) → v = (k : Int)) := fun k hk e => by have := HP k hk e; rw [hat] at this; injection this
    clear HP hat c1 h1 c2 h2
    have v0 := hv.1
    have v1 := hv.2
    clear hv
    go_enter Tryz.func15, Tryz.ntmps15
    go_wp2_with fail
    (with_reducible refine K.out.mono ?_)
    rintro e w1 ⟨rfl, hw⟩
    have hb : Below w.heap.size w w1 := by
      rcases hw with rfl | ⟨t, rfl⟩
      · exact Below.refl _ _
      · exact below_bytes w _ t
    have G1 := G.below hb
    clear hw G K
    go_wp2_with fail
    (with_reducible refine (implFormatInt v _ v0 v1 G1).mono ?_)
    rintro e w2 ⟨s, rfl, hs, hb2⟩
    have HS := Lib.hid hs
    have hb3 := hb.trans (hb2.mono hb.size)
    clear hs hb hb2 G1
    by_cases he : s = a
    · have he2 := str_eq he
      clear he
      go_wp2
      go_ret2
      exact ⟨v, true, rfl, by omega, by omega, fun k hk e => ⟨HK.out k hk e, rfl⟩, hb3⟩
    · have he2 := str_ne he
      have HN : Hid (∀ k ≤ 1000, a = strOfNums (decN k) → False) := fun k hk e => by
        have h1 := HK.out k hk e
        apply he
        rw [HS.out (by omega), e, h1]
        rfl
      clear he HS HK
      go_wp2
      go_ret2
      exact ⟨0, false, rfl, by omega, by omega, fun k hk e => (HN.out k hk e).elim, hb3⟩
  · have K := Lib.hid (sh_strconv_Atoi_bad a (by omega) (fun v e => by rw [hat] at e; cases e) (fun e => by rw [hat] at e; cases e) e1 w c1 h1)
    have HN : Hid (∀ k ≤ 1000, a = strOfNums (decN k) → False) := fun k hk e => by have := HP k hk e; rw [hat] at this; cases this
    clear HP hat c1 h1 c2 h2 G
    go_enter Tryz.func15, Tryz.ntmps15
    go_wp2_with fail
    (with_reducible refine K.out.mono ?_)
    rintro e w1 ⟨N, rfl, _, _, hb⟩
    clear K
    go_wp2
    go_ret2
    exact ⟨0, false, rfl, by omega, by omega, fun k hk e => (HN.out k hk e).elim, hb⟩
  · have K := Lib.hid (sh_strconv_Atoi_range a (by omega) hat e2 w c2 h2)
    have HN : Hid (∀ k ≤ 1000, a = strOfNums (decN k) → False) := fun k hk e => by have := HP k hk e; rw [hat] at this; cases this
    clear HP hat c1 h1 c2 h2 G
    go_enter Tryz.func15, Tryz.ntmps15
    go_wp2_with fail
    (with_reducible refine K.out.mono ?_)
    rintro e w1 ⟨N, rfl, _, _, hb⟩
    clear K
    go_wp2
    go_ret2
    exact ⟨0, false, rfl, by omega, by omega, fun k hk e => (HN.out k hk e).elim, hb⟩
end Go.Proofs.YtaanppihgldeaaaGreatDoor
namespace Go.Proofs.YtaanppihgldeaaaGreatDoor
set_option linter.unusedSimpArgs false
set_option linter.unusedVariables false
set_option linter.unusedVariables false
open Go.RowKit

/-- cut at each byte c -/
def spC (c : UInt8) (cur : List UInt8) : List UInt8 → List (List UInt8)
  | [] => [cur]
  | x :: xs => if x = c then cur :: spC c [] xs else spC c (cur ++ [x]) xs
theorem spC_none {c : UInt8} : ∀ {s cur : List UInt8}, (∀ x ∈ s, x ≠ c) → spC c cur s = [cur ++ s]
  | [], cur, _ => by simp [spC]
  | x :: s, cur, h => by
    unfold spC
    rw [if_neg (h x (by simp)), spC_none fun y hy => h y (by simp [hy])]
    simp
theorem spC_hit {c : UInt8} : ∀ {a cur : List UInt8} (b : List UInt8), (∀ x ∈ a, x ≠ c) → spC c cur (a ++ c :: b) = (cur ++ a) :: spC c [] b
  | [], cur, b, _ => by show spC c cur (c :: b) = _; rw [spC, if_pos rfl, List.append_nil]
  | x :: a, cur, b, h => by
    show spC c cur (x :: (a ++ c :: b)) = _
    rw [spC, if_neg (h x (by simp)), spC_hit b fun y hy => h y (by simp [hy])]
    simp
theorem spC_len {c : UInt8} : ∀ (s cur : List UInt8), (spC c cur s).length ≤ s.length + 1
  | [], cur => by simp [spC]
  | x :: s, cur => by
    unfold spC
    split
    · have := spC_len s (c := c) []; simp; omega
    · have := spC_len s (c := c) (cur ++ [x]); simp; omega
theorem spC_short {c : UInt8} : ∀ (s cur : List UInt8), ∀ x ∈ spC c cur s, x.length ≤ cur.length + s.length
  | [], cur, x, h => by simp [spC] at h; subst h; simp
  | y :: s, cur, x, h => by
    unfold spC at h
    split at h
    · rcases List.mem_cons.1 h with rfl | h
      · simp
      · have := spC_short s [] x h; simp at this ⊢; omega
    · have := spC_short s (cur ++ [y]) x h; simp at this ⊢; omega
theorem spC_join {c : UInt8} : ∀ (r : List (List UInt8)) (x : List UInt8), (∀ y ∈ x, y ≠ c) → (∀ w ∈ r, ∀ y ∈ w, y ≠ c) → spC c [] (x ++ (r.map ([c] ++ ·)).flatten) = x :: r
  | [], x, hx, _ => by simp only [List.map_nil, List.flatten_nil, List.append_nil]; rw [spC_none hx]; rfl
  | w :: r, x, hx, hr => by
    have e : x ++ ((w :: r).map ([c] ++ ·)).flatten = x ++ c :: (w ++ (r.map ([c] ++ ·)).flatten) := by simp
    rw [e, spC_hit _ hx, spC_join r w (hr w (by simp)) fun v hv => hr v (by simp [hv])]
    rfl
def lsR (w : List UInt8) : List Int := w.map fun x => (x.toNat : Int) - 97
def okR (w : List UInt8) : Bool := rankOk (w.length : Int) (lsR w)
def parR (w : List UInt8) : List Int := if okR w then lsR w else []
theorem parR_yes {w : List UInt8} (h : okR w = true) : parR w = lsR w := by unfold parR; rw [if_pos h]
theorem parR_no {w : List UInt8} (h : okR w = false) : parR w = [] := by unfold parR; rw [h]; rfl
theorem lsR_len (w : List UInt8) : (lsR w).length = w.length := by simp [lsR]
end Go.Proofs.YtaanppihgldeaaaGreatDoor
namespace Go.Proofs.YtaanppihgldeaaaGreatDoor
set_option linter.unusedSimpArgs false
set_option linter.unusedVariables false
set_option linter.unusedVariables false
open Go.RowKit

theorem lsR_take {b : List UInt8} {k : Nat} (h : k < b.length) : lsR (b.take (k + 1)) = lsR (b.take k) ++ [(b[k].toNat : Int) - 97] := by
  unfold lsR; rw [List.take_succ_eq_append_getElem h, List.map_append]; rfl
theorem rank_long {w : List UInt8} (h : 5 < w.length) : okR w = false := by
  unfold okR rankOk
  have : inB (w.length : Int) 1 5 = false := by
    cases e : inB (w.length : Int) 1 5 with
    | false => rfl
    | true => rw [inB_iff] at e; omega
  rw [this]; rfl
set_option maxHeartbeats 800000 in
theorem implParseRanking (a : ByteArray) (w : World) (ha : a.size ≤ 1048576) :
    Calls Tryz.prog 19 #[.string a] w fun e w' => ∃ A c, e = .returned (.tuple #[.slice A (parR a.data.toList).length c, .bool (okR a.data.toList)]) ∧ OwnI w' w.heap.size w'.heap.size (.slice A (parR a.data.toList).length c) (parR a.data.toList) ∧ Below w.heap.size w w' := by
  obtain ⟨b, hb⟩ : ∃ b, a.data.toList = b := ⟨_, rfl⟩
  have hz := size_list a
  rw [hb] at hz ⊢
  have HB := Lib.hid hb
  clear hb
  by_cases h5 : 5 < a.size
  · have HK := Lib.hid (rank_long (w := b) (by omega))
    have HP := Lib.hid (parR_no HK.out)
    have h5' : (5 : Int) < (a.size : Int) := by omega
    rw [HP.out, HK.out]
    clear hz
    go_enter Tryz.func19, Tryz.ntmps19
    go_wp2
    go_ret2
    exact ⟨none, 0, rfl, OwnI.nil _ _ _, Below.refl _ _⟩
  · have h5' : (a.size : Int) ≤ 5 := by omega
    have hlb : b.length ≤ 5 := by omega
    have HZ := Lib.hid hz
    clear hz
    go_enter Tryz.func19, Tryz.ntmps19
    go_wp2
    go_loopw [4, 5, 11] (fun v _ i_ wr => ∃ (k : Nat) (A' : Option Addr) (c' : Nat), k ≤ a.size ∧ i_ = .int .i64 k ∧ v = .slice A' k c' ∧ OwnI wr w.heap.size wr.heap.size (.slice A' k c') (lsR (b.take k)) ∧ Below w.heap.size w wr) (fun _ _ i_ _ => a.size - (intOf i_).toNat)
    case atStart => exact ⟨0, none, 0, Nat.zero_le _, rfl, rfl, OwnI.nil _ _ _, Below.refl _ _⟩
    case round =>
      obtain ⟨k, A', c', hk, rfl, rfl, ho, hbr⟩ := hrel
      have zr := hbr.size
      by_cases hlt : k < a.size
      · have hx : a[k].toNat < 256 := UInt8.toNat_lt _
        have hkb : k < b.length := by have := HZ.out; omega
        have HT : Hid (lsR (b.take (k + 1)) = lsR (b.take k) ++ [(a[k].toNat : Int) - 97]) := by
          show _ = _
          rw [lsR_take hkb]
          have e : b[k] = a[k] := by
            have := byte_at a k hlt (by rw [HB.out]; exact hkb)
            simp only [HB.out] at this
            exact this
          rw [e]
        go_wp2_with (at_builtin; refine wpList_append_int _ rfl _ _ rfl w.heap.size wr.heap.size k c' A' (lsR (b.take k)) rfl (ho.alloc _) ((a[k].toNat : Int) - 97) _ 1 rfl (new_cell _ _ _ rfl) (by omega) (by simp; omega) (by simp; omega) ?_)
        intro A2 c2 w2 ho2 hon
        rw [← HT.out] at ho2
        have hb2 := (hbr.alloc zr _).trans (hon.toBelow (Nat.le_refl _) (by simp; omega))
        clear hon ho hbr
        go_wp2
        go_roundw
        case rel => exact ⟨k + 1, A2, c2, by omega, by go_num, rfl, ho2, hb2⟩
        case measure => simp [intOf]; omega
      · obtain rfl : k = a.size := by omega
        rw [show b.take a.size = b from by rw [HZ.out, List.take_length]] at ho
        have hn5 : (lsR b).length = a.size := by rw [lsR_len]; exact HZ.out.symm
        have hcc := ho.ints.2.2.1
        have hok : Hid (rankOk (a.size : Int) (lsR b) = okR b) := by show _ = _; unfold okR; rw [HZ.out]
        go_wp2_with fail
        (with_reducible refine (isRanking_any A' _ c' (lsR b) _ ho.at_ ha hcc).mono ?_)
        rintro e w2 ⟨rfl, rfl⟩
        rw [hok.out]
        have HN := Lib.hid hn5
        clear hn5
        rcases hk2 : okR b
        · have HP := Lib.hid (parR_no hk2)
          have HK := Lib.hid hk2
          clear hk2
          go_wp2
          go_ret2
          exact ⟨none, 0, by rw [HP.out, HK.out]; rfl, by rw [HP.out]; exact OwnI.nil _ _ _, hbr⟩
        · have HP := Lib.hid (parR_yes hk2)
          have HK := Lib.hid hk2
          clear hk2
          go_wp2
          go_ret2
          exact ⟨_, _, by rw [HP.out, HK.out, HN.out]; rfl, by rw [HP.out, HN.out]; exact ho, hbr⟩
theorem text_iff {a : ByteArray} {b : List UInt8} (hb : a.data.toList = b) (hk : okR b = true) : strOfNums (rankNums (lsR b)) = a := by
  apply ByteArray.ext
  apply Array.ext'
  rw [strOfNums_data, hb]
  unfold rankNums lsR
  rw [List.map_map, List.map_map]
  conv => rhs; rw [← List.map_id b]
  apply List.map_congr_left
  intro x _
  show UInt8.ofNat (97 + ((x.toNat : Int) - 97)).toNat = x
  have : (97 + ((x.toNat : Int) - 97)).toNat = x.toNat := by omega
  rw [this]
  exact UInt8.ofNat_toNat
set_option maxHeartbeats 400000 in
theorem specFormatRanking_no (A : Option Addr) (n c : Nat) (xs : List Int) (w : World) (h : IntsAt w A n xs) (hn : n ≤ 1048576) (hc : n ≤ c) (hr : rankOk (xs.length : Int) xs = false) :
    Calls Tryz.prog 50 #[.slice A n c] w fun e w' => e = .returned (.string ⟨#[]⟩) ∧ Below w.heap.size w w' := by
  obtain rfl := h.len
  have HR := Lib.hid hr
  clear hr
  go_enter Tryz.func50, Tryz.ntmps50
  go_wp2_with fail
  (with_reducible refine (specRankingOk _ _ _ _ _ _ h (by omega) hc).mono ?_)
  rintro e w1 ⟨rfl, hb⟩
  rw [HR.out]
  go_wp2
  go_ret
  exact ⟨rfl, hb⟩
set_option maxHeartbeats 800000 in
theorem specParseRanking (a : ByteArray) (w : World) (ha : a.size ≤ 1048576) :
    Calls Tryz.prog 47 #[.string a] w fun e w' => ∃ A c, e = .returned (.tuple #[.slice A (parR a.data.toList).length c, .bool (okR a.data.toList)]) ∧ OwnI w' w.heap.size w'.heap.size (.slice A (parR a.data.toList).length c) (parR a.data.toList) ∧ Below w.heap.size w w' := by
  obtain ⟨b, hb⟩ : ∃ b, a.data.toList = b := ⟨_, rfl⟩
  have hz := size_list a
  rw [hb] at hz ⊢
  have HB := Lib.hid hb
  clear hb
  have HZ := Lib.hid hz
  clear hz
  have b0 := (Below.refl w.heap.size w).alloc (Nat.le_refl _) (.cells #[] 3)
  go_enter Tryz.func47, Tryz.ntmps47
  go_wp2
  go_loopw [4, 5] (fun v i_ wr => ∃ (k : Nat) (A' : Option Addr) (c' : Nat), k ≤ a.size ∧ i_ = .int .i64 k ∧ v = .slice A' k c' ∧ OwnI wr w.heap.size wr.heap.size (.slice A' k c') (lsR (b.take k)) ∧ Below w.heap.size w wr) (fun _ i_ _ => a.size - (intOf i_).toNat)
  case atStart => exact ⟨0, _, 0, Nat.zero_le _, rfl, rfl, OwnI.empty _ (Nat.le_refl _) (by simp), b0⟩
  case round =>
    obtain ⟨k, A', c', hk, rfl, rfl, ho, hbr⟩ := hrel
    have zr := hbr.size
    by_cases hlt : k < a.size
    · have hx : a[k].toNat < 256 := UInt8.toNat_lt _
      have hkb : k < b.length := by have := HZ.out; omega
      have HT : Hid (lsR (b.take (k + 1)) = lsR (b.take k) ++ [(a[k].toNat : Int) - 97]) := by
        show _ = _
        rw [lsR_take hkb]
        have e : b[k] = a[k] := by
          have := byte_at a k hlt (by rw [HB.out]; exact hkb)
          simp only [HB.out] at this
          exact this
        rw [e]
      go_wp2_with (at_builtin; refine wpList_append_int _ rfl _ _ rfl w.heap.size wr.heap.size k c' A' (lsR (b.take k)) rfl (ho.alloc _) ((a[k].toNat : Int) - 97) _ 1 rfl (new_cell _ _ _ rfl) (by omega) (by simp; omega) (by simp; omega) ?_)
      intro A2 c2 w2 ho2 hon
      rw [← HT.out] at ho2
      have hb2 := (hbr.alloc zr _).trans (hon.toBelow (Nat.le_refl _) (by simp; omega))
      clear hon ho hbr
      go_wp2
      go_roundw
      case rel => exact ⟨k + 1, A2, c2, by omega, by go_num, rfl, ho2, hb2⟩
      case measure => simp [intOf]; omega
    · obtain rfl : k = a.size := by omega
      rw [show b.take a.size = b from by rw [HZ.out, List.take_length]] at ho
      have hn5 : (lsR b).length = a.size := by rw [lsR_len]; exact HZ.out.symm
      have HN := Lib.hid hn5
      have hcc := ho.ints.2.2.1
      have hok : Hid (rankOk ((lsR b).length : Int) (lsR b) = okR b) := by show _ = _; unfold okR; rw [lsR_len]
      clear hn5
      rcases hk2 : okR b
      · have HP := Lib.hid (parR_no hk2)
        have HK2 := Lib.hid hk2
        have hk3 := hok.out
        rw [hk2] at hk3
        have HK := Lib.hid hk3
        clear hk2 hk3
        by_cases hne : a = ⟨#[]⟩
        · have he : a.toList.isEmpty = true := by rw [hne, ByteArray.toList_eq]; rfl
          clear hne
          go_wp2
          go_ret2
          exact ⟨none, 0, by rw [HP.out, HK2.out]; rfl, by rw [HP.out]; exact OwnI.nil _ _ _, hbr⟩
        · have he := str_nil hne
          have he2 := str_ne (a := ⟨#[]⟩) (b := a) (fun e => hne e.symm)
          clear hne
          go_wp2_with fail
          (with_reducible refine (specFormatRanking_no A' _ c' (lsR b) _ ho.at_ ha hcc HK.out).mono ?_)
          rintro e w2 ⟨rfl, hb2⟩
          have hb3 := hbr.trans (hb2.mono zr)
          clear hb2 hbr
          go_wp2
          go_ret2
          exact ⟨none, 0, by rw [HP.out, HK2.out]; rfl, by rw [HP.out]; exact OwnI.nil _ _ _, hb3⟩
      · have HP := Lib.hid (parR_yes hk2)
        have HK2 := Lib.hid hk2
        have hk3 := hok.out
        rw [hk2] at hk3
        have h1 := (rankOk_facts hk3).1
        have hne : a ≠ ⟨#[]⟩ := by
          rintro rfl
          have := HN.out
          have e0 : (⟨#[]⟩ : ByteArray).size = 0 := rfl
          omega
        have he := str_nil hne
        have hf := text_iff HB.out hk2
        have he2 := str_eq hf
        have HK := Lib.hid hk3
        clear hk2 hk3 h1 hne hf
        go_wp2_with fail
        (with_reducible refine (specFormatRanking (m := (lsR b).length) A' _ c' (lsR b) _ ho.at_ hcc HK.out).mono ?_)
        rintro e w2 ⟨rfl, hb2⟩
        have hb3 := hbr.trans (hb2.mono zr)
        have ho2 := ho.belowW hb2
        have hz3 := hb2.size
        clear hb2 hbr ho
        go_wp2
        go_ret2
        exact ⟨_, _, by rw [HP.out, HK2.out, HN.out]; rfl, by rw [HP.out, HN.out]; exact ho2.mono (Nat.le_refl _) hz3, hb3⟩
end Go.Proofs.YtaanppihgldeaaaGreatDoor
namespace Go.Proofs.YtaanppihgldeaaaGreatDoor
set_option linter.unusedSimpArgs false
set_option linter.unusedVariables false
set_option linter.unusedVariables false
open Go.RowKit

/-- the words laid so far and what is left -/
structure CutAt (c : UInt8) (a : ByteArray) (i f : Nat) (out : List ByteArray) : Prop where
  fi : f ≤ i
  ia : i ≤ a.size
  cut : out.map (·.data.toList) ++ spC c ((a.data.toList.take i).drop f) (a.data.toList.drop i) = spC c [] a.data.toList
  len : out.length ≤ i
theorem CutAt.start (c : UInt8) (a : ByteArray) : CutAt c a 0 0 [] := ⟨Nat.le_refl _, Nat.zero_le _, by simp, Nat.zero_le _⟩
theorem CutAt.go {c : UInt8} {a : ByteArray} {i f : Nat} {out : List ByteArray} (h : CutAt c a i f out) (hi : i < a.size) (hx : a[i] ≠ c) : CutAt c a (i + 1) f out := by
  have hl : i < a.data.toList.length := by rw [← size_list]; exact hi
  refine ⟨by have := h.fi; omega, by omega, ?_, by have := h.len; omega⟩
  rw [← h.cut]
  have e := List.drop_eq_getElem_cons hl
  conv => rhs; rw [e, spC, if_neg (by rw [byte_at a i hi hl]; exact hx)]
  congr 2
  rw [List.take_succ_eq_append_getElem hl, List.drop_append_of_le_length (by rw [List.length_take]; have := h.fi; omega)]
theorem CutAt.word {c : UInt8} {a : ByteArray} {i f : Nat} {out : List ByteArray} (h : CutAt c a i f out) (hi : i < a.size) (hx : a[i] = c) : CutAt c a (i + 1) (i + 1) (out ++ [a.extract f i]) := by
  have hl : i < a.data.toList.length := by rw [← size_list]; exact hi
  refine ⟨Nat.le_refl _, by omega, ?_, by have := h.len; simp; omega⟩
  rw [← h.cut]
  have e := List.drop_eq_getElem_cons hl
  conv => rhs; rw [e, spC, if_pos (by rw [byte_at a i hi hl]; exact hx)]
  rw [List.map_append, List.append_assoc]
  congr 1
  show [(a.extract f i).data.toList] ++ spC c _ _ = _
  have e2 : (a.data.toList.take (i + 1)).drop (i + 1) = [] := List.drop_eq_nil_of_le (by rw [List.length_take]; omega)
  rw [Lib.extract_data, List.singleton_append, e2, List.take_drop, Nat.add_comm f, Nat.sub_add_cancel h.fi]
theorem CutAt.fin {c : UInt8} {a : ByteArray} {f : Nat} {out : List ByteArray} (h : CutAt c a a.size f out) : (out ++ [a.extract f a.size]).map (·.data.toList) = spC c [] a.data.toList := by
  rw [← h.cut, List.map_append]
  congr 1
  show [(a.extract f a.size).data.toList] = _
  rw [Lib.extract_to_end, size_list, List.take_length, List.drop_length]
  rfl
set_option maxHeartbeats 1000000 in
theorem specSplitAny (c : UInt8) (a : ByteArray) (w : World) (ha : a.size ≤ 1048576) :
    Calls Tryz.prog 21 #[.string a, .string ⟨#[c]⟩] w fun e w' => ∃ A cA ts, e = .returned (.slice A ts.length cA) ∧ ts.map (·.data.toList) = spC c [] a.data.toList ∧ OwnS w' w.heap.size (.slice A ts.length cA) ts ∧ ts.length ≤ 1048577 ∧ Below w.heap.size w w' := by
  have b0 := (Below.refl w.heap.size w).alloc (Nat.le_refl _) (.cells #[] 9)
  have hc256 : c.toNat < 256 := UInt8.toNat_lt _
  go_enter Tryz.func21, Tryz.ntmps21
  go_wp2
  go_loopw [5, 6, 7] (fun v f_ i_ wr => ∃ (i f : Nat) (out : List ByteArray) (A' : Option Addr) (cA' : Nat), CutAt c a i f out ∧ i_ = .int .i64 i ∧ f_ = .int .i64 f ∧ v = .slice A' out.length cA' ∧ OwnS wr w.heap.size v out ∧ Below w.heap.size w wr) (fun _ _ i_ _ => a.size - (intOf i_).toNat)
  case atStart => exact ⟨0, 0, [], _, 0, CutAt.start c a, rfl, rfl, rfl, OwnS.empty _ (Nat.le_refl _), b0⟩
  case round =>
    obtain ⟨i, f, out, A', cA', C, rfl, rfl, rfl, ho, hb⟩ := hrel
    have fi := C.fi
    have ia := C.ia
    have ol := C.len
    have HC := Lib.hid C
    clear C
    by_cases hlt : i < a.size
    · have hil : (i : Int) < (a.size : Int) := by omega
      have e1 : (⟨#[c]⟩ : ByteArray).size = 1 := rfl
      obtain ⟨wo, rfl⟩ : ∃ wo, wo = wr := ⟨_, rfl⟩
      go_wp2
      go_loopw [5, 6, 8] (fun v f_ k_ wr => ∃ k : Nat, k ≤ 1 ∧ k_ = .int .i64 k ∧ v = .slice A' out.length cA' ∧ f_ = .int .i64 f ∧ (k = 1 → a[i] ≠ c) ∧ Below wo.heap.size wo wr) (fun _ _ k_ _ => 1 - (intOf k_).toNat)
      case atStart => exact ⟨0, Nat.zero_le _, rfl, rfl, rfl, fun h => by omega, Below.refl _ _⟩
      case round =>
        obtain ⟨k, hk, rfl, rfl, rfl, hne, hb2⟩ := hrel
        by_cases hk1 : k = 1
        · subst hk1
          have C2 := Lib.hid (HC.out.go hlt (hne rfl))
          have ho2 := ho.belowW hb2
          have hb3 := hb.trans (hb2.mono hb.size)
          clear hne ho hb hb2
          go_wp2
          go_roundw
          case rel => exact ⟨i + 1, f, out, A', cA', C2.out, by go_num, rfl, rfl, ho2, hb3⟩
          case measure => simp [intOf]; omega
        · obtain rfl : k = 0 := by omega
          by_cases hx : a[i] = c
          · have hxi : ((a[i].toNat : Int) == (((⟨#[c]⟩ : ByteArray)[0]'(by exact Nat.zero_lt_one)).toNat : Int)) = true := by rw [hx]; exact beq_self_eq_true _
            have C2 := Lib.hid (HC.out.word hlt hx)
            have ho2 := ho.belowW hb2
            have hb3 := hb.trans (hb2.mono hb.size)
            have hfi : (f : Int) ≤ (i : Int) := by omega
            have hil2 : (i : Int) ≤ (a.size : Int) := by omega
            have hz3 := hb3.size
            clear hne ho hb hb2 hx
            go_wp2
            go_quiet (fail)
            have ho3 : OwnS (wr.drewN nq) w.heap.size (.slice A' out.length cA') out := ho2
            have hb4 : Below w.heap.size w (wr.drewN nq) := hb3.trans (below_of_drewN rfl)
            have hz4 : w.heap.size ≤ (wr.drewN nq).heap.size := hb4.size
            clear ho2 hb3 hz3
            generalize wr.drewN nq = w3 at *
            have ho4 := ho3.belowW ((Below.refl _ _).alloc (Nat.le_refl _) (.cells #[.string (a.extract f i)] 9))
            go_wp2_with (at_builtin; refine wpList_append_str _ rfl _ _ rfl w.heap.size out.length cA' A' out rfl ho4 _ _ 1 rfl (new_cell _ _ _ rfl) (by omega) (by simp; omega) ?_)
            intro A5 c5 w5 ho5 hg5
            have hb5 : Below w.heap.size w w5 := (hb4.alloc hz4 _).trans ((Below.refl w.heap.size _).grown hg5 (by simp; omega) (fun k e => (World.ownsRow.lt ho4 k e).1))
            have hll : out.length + 1 = (out ++ [a.extract f i]).length := by simp
            have HLL := Lib.hid hll
            clear hll ho4 ho3 hb4 hg5
            go_wp2
            go_roundw
            case rel => exact ⟨i + 1, i + 1, out ++ [a.extract f i], A5, c5, C2.out, by go_num, by go_num, by rw [HLL.out], ho5, hb5⟩
            case measure => simp [intOf]; omega
          · have hxi : ((a[i].toNat : Int) == (((⟨#[c]⟩ : ByteArray)[0]'(by exact Nat.zero_lt_one)).toNat : Int)) = false := by
              rw [beq_eq_false_iff_ne]
              intro e
              have e3 : ((⟨#[c]⟩ : ByteArray)[0]'(by exact Nat.zero_lt_one)).toNat = c.toNat := rfl
              have e2 : a[i].toNat = c.toNat := by omega
              exact hx (UInt8.toNat_inj.1 e2)
            clear hne
            go_wp2
            go_quiet (fail)
            have hb3 : Below wo.heap.size wo (wr.drewN nq) := hb2.trans (below_of_drewN rfl)
            go_wp2
            go_roundw
            case rel => exact ⟨1, Nat.le_refl _, by go_num, rfl, rfl, fun _ => hx, hb3⟩
            case measure => simp [intOf]
    · obtain rfl : i = a.size := by omega
      have CF := Lib.hid HC.out.fin
      have hz4 := hb.size
      have ho4 := ho.belowW ((Below.refl _ _).alloc (Nat.le_refl _) (.cells #[.string (a.extract f a.size)] 9))
      have hfi : (f : Int) ≤ (a.size : Int) := by omega
      go_wp2_with (at_builtin; refine wpList_append_str _ rfl _ _ rfl w.heap.size out.length cA' A' out rfl ho4 _ _ 1 rfl (new_cell _ _ _ rfl) (by omega) (by simp; omega) ?_)
      intro A5 c5 w5 ho5 hg5
      have hb5 : Below w.heap.size w w5 := (hb.alloc hz4 _).trans ((Below.refl w.heap.size _).grown hg5 (by simp; omega) (fun k e => (World.ownsRow.lt ho4 k e).1))
      have HLL := Lib.hid (show out.length + 1 = (out ++ [a.extract f a.size]).length by simp)
      clear ho ho4 hg5 hb
      go_wp2
      go_ret
      exact ⟨A5, c5, out ++ [a.extract f a.size], by rw [← HLL.out]; rfl, CF.out, by rw [← HLL.out]; exact ho5, by rw [← HLL.out]; omega, hb5⟩
end Go.Proofs.YtaanppihgldeaaaGreatDoor
namespace Go.Proofs.YtaanppihgldeaaaGreatDoor
set_option linter.unusedSimpArgs false
set_option linter.unusedVariables false
set_option linter.unusedVariables false
open Go.RowKit

/-- words with a blank between -/
def joinN : List (List Int) → List Int
  | [] => []
  | x :: r => x ++ (r.map ([32] ++ ·)).flatten
theorem joinN_snoc (T : List (List Int)) (y : List Int) (h : T ≠ []) : joinN (T ++ [y]) = joinN T ++ [32] ++ y := by
  cases T with
  | nil => exact absurd rfl h
  | cons x r => simp [joinN]
theorem joinN_one (y : List Int) : joinN ([] ++ [y]) = y := by simp [joinN]
theorem joinN_lib (T : List (List Int)) : Lib.join ((T.map strOfNums).map (·.data.toList)) [32] = (joinN T).map fun n => UInt8.ofNat n.toNat := by
  cases T with
  | nil => rfl
  | cons x r =>
    rw [List.map_cons, List.map_cons, Lib.join_cons]
    simp only [joinN, List.map_append, strOfNums_data, Lib.joinTail, List.map_flatten, List.map_map]
    congr 1
theorem joinN_len (T : List (List Int)) (m : Nat) (h : ∀ x ∈ T, x.length ≤ m) : (joinN T).length ≤ T.length * (m + 1) := by
  cases T with
  | nil => simp [joinN]
  | cons x r =>
    have h0 := h x (by simp)
    have hr : ∀ (r : List (List Int)), (∀ x ∈ r, x.length ≤ m) → (r.map ([32] ++ ·)).flatten.length ≤ r.length * (m + 1) := by
      intro r
      induction r with
      | nil => intro _; simp
      | cons y r ih =>
        intro hh
        have h1 := ih fun z hz => hh z (by simp [hz])
        have h2 := hh y (by simp)
        simp only [List.map_cons, List.flatten_cons, List.length_append, List.length_cons, Nat.add_mul, List.length_nil] at h1 ⊢
        omega
    have h1 := hr r fun y hy => h y (by simp [hy])
    simp only [joinN, List.length_append, List.length_cons, Nat.add_mul] at h1 ⊢
    omega
theorem own0 {w : World} {lo : Nat} {v : Value} {ts : List ByteArray} (h : OwnS w lo v ts) : OwnS w 0 v ts :=
  ⟨h.1, h.2.elim .inl fun ⟨g, cap, cur, hv, hg, r⟩ => .inr ⟨g, cap, cur, hv, Nat.zero_le _, r⟩⟩
theorem implJoin_any (A : Option Addr) (n c : Nat) (T : List (List Int)) (w : World) (h : OwnS w 0 (.slice A n c) (T.map strOfNums)) (hn : T.length ≤ 100) (h0 : 0 < n) (hb : ∀ x ∈ T, x.length ≤ 10) :
    Calls Tryz.prog 89 #[.slice A n c, .string { data := #[32] }] w fun e w' => e = .returned (.string (strOfNums (joinN T))) ∧ Below w.heap.size w w' := by
  obtain ⟨hl, hc, hs⟩ := h.slice
  obtain rfl := hl
  obtain ⟨b, o, rfl, hlt, hcc⟩ := hs.at_ h0
  have hj := sh_strings_Join b o c (T.map strOfNums) { data := #[32] } w (fun j x hx => by
    have hjl := (List.getElem?_eq_some_iff.1 hx).1
    rw [hcc j hjl, sx_lt hjl]
    rw [List.getElem?_eq_getElem hjl] at hx
    cases hx; rfl) hlt (by simp; omega) hc (by
    have e : ({ data := #[32] } : ByteArray).data.toList = [32] := rfl
    rw [e, joinN_lib, List.length_map]
    have := joinN_len T 10 hb
    omega)
  have e : (⟨(Lib.join ((T.map strOfNums).map (·.data.toList)) ({ data := #[32] } : ByteArray).data.toList).toArray⟩ : ByteArray) = strOfNums (joinN T) := by
    have e : ({ data := #[32] } : ByteArray).data.toList = [32] := rfl
    rw [e, joinN_lib]; rfl
  rw [e, List.length_map] at hj
  have HJ := Lib.hid hj
  clear hj e
  go_enter Tryz.func89, Tryz.ntmps89
  go_wp2_with fail
  (with_reducible refine HJ.out.mono ?_)
  rintro e w1 ⟨rfl, hb1⟩
  go_wp2
  go_ret
  exact ⟨rfl, hb1⟩
/-- the words joined so far -/
def joinK (T : List (List Int)) (k : Nat) : List Int := joinN (T.take k)
theorem nx_take {T : List (List Int)} {k : Nat} (h : k < T.length) : T.take (k + 1) = T.take k ++ [rx T k] := take_rx h
theorem joinK_first {T : List (List Int)} (h : 0 < T.length) : joinK T 1 = joinK T 0 ++ rx T 0 := by
  unfold joinK
  rw [nx_take h]
  simp [joinN]
theorem joinK_next {T : List (List Int)} {k : Nat} (h : k < T.length) (h0 : 0 < k) : joinK T (k + 1) = (joinK T k ++ [32]) ++ rx T k := by
  unfold joinK
  rw [nx_take h, joinN_snoc _ _ (by intro e; have := congrArg List.length e; rw [List.length_take, List.length_nil] at this; omega)]
theorem joinK_len {T : List (List Int)} (k : Nat) (h : ∀ x ∈ T, x.length ≤ 10) (hn : T.length ≤ 100) : (joinK T k).length ≤ 2000 := by
  unfold joinK
  have := joinN_len (T.take k) 10 (fun x hx => h x (List.mem_of_mem_take hx))
  have : (T.take k).length ≤ 100 := by simp; omega
  omega
set_option maxHeartbeats 800000 in
theorem specJoin_any (A : Option Addr) (n c : Nat) (T : List (List Int)) (w : World) (h : StrsAt w A n (T.map strOfNums)) (hn : T.length ≤ 100) (hb : ∀ x ∈ T, x.length ≤ 10) :
    Calls Tryz.prog 51 #[.slice A n c, .string { data := #[32] }] w fun e w' => e = .returned (.string (strOfNums (joinN T))) ∧ w = w' := by
  obtain rfl := h.1
  have hl : (T.map strOfNums).length = T.length := List.length_map _
  have HJ0 : Hid (strOfNums (joinK T 0) = ⟨#[]⟩) := rfl
  have HE : Hid (strOfNums (joinK T T.length) = strOfNums (joinN T)) := by show _ = _; unfold joinK; rw [List.take_length]
  have H1 := Lib.hid (fun (h : 0 < T.length) => (by rw [str_append, ← joinK_first h] : strOfNums (joinK T 0) ++ strOfNums (rx T 0) = strOfNums (joinK T 1)))
  have H2 := Lib.hid (fun k (h : k < T.length) (h0 : 0 < k) => (by rw [str_append, str_append, ← joinK_next h h0] : (strOfNums (joinK T k) ++ strOfNums [32]) ++ strOfNums (rx T k) = strOfNums (joinK T (k + 1))))
  have H3 := Lib.hid (fun k => (by rw [strOfNums_size]; exact joinK_len k hb hn : (strOfNums (joinK T k)).size ≤ 2000))
  have H4 := Lib.hid (fun k (h : k < T.length) => (by rw [strOfNums_size]; exact hb _ (rx_mem h) : (strOfNums (rx T k)).size ≤ 10))
  have H5 := Lib.hid (fun k (h : k < T.length) => (by rw [sx_lt (by rw [List.length_map]; exact h), List.getElem_map, rx_lt h] : sx (T.map strOfNums) k = strOfNums (rx T k)))
  obtain ⟨S, hS⟩ : ∃ S : Nat → ByteArray, ∀ k, strOfNums (joinK T k) = S k := ⟨_, fun _ => rfl⟩
  obtain ⟨R, hR⟩ : ∃ R : Nat → ByteArray, ∀ k, strOfNums (rx T k) = R k := ⟨_, fun _ => rfl⟩
  simp only [hS, hR] at HJ0 HE H1 H2 H3 H4 H5
  have e32 : strOfNums [32] = { data := #[32] } := rfl
  rw [e32] at H2
  clear hS hR hb e32
  rw [hl] at h ⊢
  clear hl
  go_enter Tryz.func51, Tryz.ntmps51
  go_wp2
  go_loop [5, 6, 7, 10] (fun v _ _ i_ => ∃ k : Nat, k ≤ T.length ∧ i_ = .int .i64 k ∧ v = .string (S k)) (fun _ _ _ i_ => T.length - (intOf i_).toNat)
  case atStart => exact ⟨0, Nat.zero_le _, rfl, by rw [HJ0.out]⟩
  case round =>
    obtain ⟨k, hk, rfl, rfl⟩ := hrel
    by_cases hlt : k < T.length
    · obtain ⟨b, o, rfl, _, hcc⟩ := h.at_ hlt
      have ck := hcc k hlt
      rw [H5.out k hlt] at ck
      have s1 := H3.out k
      have s2 := H4.out k hlt
      clear hcc
      by_cases h0 : k = 0
      · subst h0
        rw [Nat.add_zero] at ck
        have HS := Lib.hid (H1.out hlt)
        have hz : (S 0).size + (R 0).size ≤ 9223372036854775807 := by omega
        go_wp2
        go_round
        case rel => exact ⟨1, by omega, by go_num, by rw [HS.out]⟩
        case measure => simp [intOf]; omega
      · have HS := Lib.hid (H2.out k hlt (by omega))
        have t0 : (0 : Int) < (k : Int) := by omega
        have e1 : ({ data := #[32] } : ByteArray).size = 1 := rfl
        have hz : (S k).size + ({ data := #[32] } : ByteArray).size ≤ 9223372036854775807 := by omega
        have hz2 : (S k ++ ({ data := #[32] } : ByteArray)).size + (R k).size ≤ 9223372036854775807 := by rw [ByteArray.size_append]; omega
        clear e1 h0
        go_wp2
        go_round
        case rel => exact ⟨k + 1, by omega, by go_num, by rw [HS.out]⟩
        case measure => simp [intOf]; omega
    · obtain rfl : k = T.length := by omega
      rw [HE.out]
      go_wp2
      go_ret
      exact ⟨rfl, rfl⟩
/-- a vote's word -/
def wordN (v : Vt) : List Int := decN v.c.toNat ++ [42] ++ rankNums v.r
/-- a valid profile's text -/
def fmtN (m : Int) : List Vt → List Int
  | [] => 45 :: decN m.toNat
  | v :: vs => joinN ((v :: vs).map wordN)
theorem decN_len {k : Nat} (hk : k ≤ 1000) : (decN k).length ≤ 4 := by
  unfold decN
  rw [List.length_map]
  exact dec_short hk
theorem vote_ok {m : Int} {v : Vt} (h : voteOk m v = true) : rankOk m v.r = true ∧ 1 ≤ v.c ∧ v.c ≤ 1000 := by
  unfold voteOk at h
  rw [Bool.and_eq_true, inB_iff] at h
  exact ⟨h.1, h.2.1, h.2.2⟩
theorem prof_ok {m : Int} {vs : List Vt} (h : profOk m vs = true) : 1 ≤ m ∧ m ≤ 5 ∧ vs.length ≤ 24 ∧ ∀ v ∈ vs, voteOk m v = true := by
  unfold profOk at h
  rw [Bool.and_eq_true, Bool.and_eq_true, inB_iff, decide_eq_true_eq, List.all_eq_true] at h
  exact ⟨h.1.1.1, h.1.1.2, h.1.2, h.2⟩
theorem rank_len5 {m : Int} {r : List Int} (h : rankOk m r = true) : r.length ≤ 5 := by
  have F := rankOk_facts h
  omega
theorem wordN_len {m : Int} {v : Vt} (h : voteOk m v = true) : (wordN v).length ≤ 10 := by
  obtain ⟨h1, h2, h3⟩ := vote_ok h
  have := decN_len (show v.c.toNat ≤ 1000 by omega)
  have := rank_len5 h1
  unfold wordN rankNums
  simp
  omega
end Go.Proofs.YtaanppihgldeaaaGreatDoor
