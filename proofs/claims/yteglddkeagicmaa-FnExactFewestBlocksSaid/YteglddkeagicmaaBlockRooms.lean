/- The blocks of a pairing, and stable pairings. -/
import Derived.Test.YteglddkeagicmaaRoomBlocks
namespace Go.Proofs.Yteglddkeagicmaa
set_option linter.unusedVariables false
open Go.RowKit

theorem pairing_len {n : Nat} {zs : List Int} (h : isPairing n zs = true) : zs.length = n ∧ n ≤ 6 := by
  unfold isPairing at h
  rw [Bool.and_eq_true, Bool.and_eq_true, Bool.and_eq_true, decide_eq_true_eq] at h
  have := evenB_yes h.1.1.1
  omega
def blockRooms (xss : List (List Int)) (zs : List Int) : List (List Int) := if roomsOk xss && isPairing xss.length zs then roomBl xss zs else []
theorem blockRooms_no {xss : List (List Int)} {zs : List Int} (h : (roomsOk xss && isPairing xss.length zs) = false) : blockRooms xss zs = [] := by unfold blockRooms; rw [h]; rfl
theorem blockRooms_yes {xss : List (List Int)} {zs : List Int} (h1 : roomsOk xss = true) (h2 : isPairing xss.length zs = true) : blockRooms xss zs = roomBl xss zs := by unfold blockRooms; rw [h1, h2]; rfl
def stableRooms (xss : List (List Int)) (zs : List Int) : Bool := roomsOk xss && isPairing xss.length zs && ((roomBl xss zs).length == 0)
set_option maxHeartbeats 400000 in
theorem implBlockingRooms (A : Option Addr) (n c : Nat) (xss : List (List Int)) (C : Option Addr) (l e : Nat) (zs : List Int) (w : World) (h : RowsAt w A n xss) (hn : n ≤ 1048576) (hx : ∀ xs ∈ xss, xs.length ≤ 1048576) (q : IntsAt w C l zs) (hl : l ≤ 1048576) :
    Calls Try.prog 28 #[.slice A n c, .slice C l e] w fun e w' => ∃ A' c', e = .returned (.slice A' (blockRooms xss zs).length c') ∧ OwnR w' w.heap.size w'.heap.size (.slice A' (blockRooms xss zs).length c') (blockRooms xss zs) ∧ (blockRooms xss zs).length ≤ 1048576 ∧ (∀ xs ∈ blockRooms xss zs, xs.length ≤ 1048576) ∧ Below w.heap.size w w' := by
  obtain rfl := h.len
  obtain rfl := q.len
  have HX := Lib.hid hx
  clear hx
  cases h1 : roomsOk xss
  · rw [blockRooms_no (by simp [h1])]
    go_enter Try.func28, Try.ntmps28
    go_wp2_with fail
    (with_reducible refine (implRoomsOk _ _ _ _ _ h hn HX.out).mono ?_)
    rintro e w1 ⟨rfl, hb1⟩
    rw [h1]
    have hb : Below w.heap.size w w1 := hb1
    clear hb1
    go_wp2
    go_ret
    exact ⟨none, 0, rfl, OwnR.nil _ _ _, by simp, by simp, hb⟩
  cases h2 : isPairing xss.length zs
  · rw [blockRooms_no (by simp [h1, h2])]
    go_enter Try.func28, Try.ntmps28
    go_wp2_with fail
    (with_reducible refine (implRoomsOk _ _ _ _ _ h hn HX.out).mono ?_)
    rintro e w1 ⟨rfl, hb1⟩
    rw [h1]
    have hb : Below w.heap.size w w1 := hb1
    have q1 := q.below hb
    have s1 := hb.size
    clear hb1
    go_wp2_with fail
    (with_reducible refine (implIsPairing _ _ _ _ _ _ q1 hl).mono ?_)
    rintro e w2 ⟨rfl, hb1⟩
    rw [h2]
    have hb2 : Below w.heap.size w w2 := hb.trans (hb1.mono s1)
    clear hb hb1
    go_wp2
    go_ret
    exact ⟨none, 0, rfl, OwnR.nil _ _ _, by simp, by simp, hb2⟩
  rw [blockRooms_yes h1 h2]
  have hbl := roomBl_len (xss := xss) (zs := zs) (by have := pairing_len h2; omega)
  obtain ⟨hl1, hl2⟩ := pairing_len h2
  have HL := Lib.hid hl1
  clear hl1
  go_enter Try.func28, Try.ntmps28
  go_wp2_with fail
  (with_reducible refine (implRoomsOk _ _ _ _ _ h hn HX.out).mono ?_)
  rintro e w1 ⟨rfl, hb1⟩
  rw [h1]
  have hb : Below w.heap.size w w1 := hb1
  have q1 := q.below hb
  have s1 := hb.size
  have h3 := h.below hb
  clear hb1
  go_wp2_with fail
  (with_reducible refine (implIsPairing _ _ _ _ _ _ q1 hl).mono ?_)
  rintro e w2 ⟨rfl, hb1⟩
  rw [h2]
  have hb2 : Below w.heap.size w w2 := hb.trans (hb1.mono s1)
  have q2 := q.below hb2
  have h4 := h.below hb2
  have s2 := hb2.size
  clear hb q1 h3 hb1
  go_wp2_with fail
  (with_reducible refine (roomBlocks_any _ _ _ _ _ _ _ _ _ h4 q2 HL.out hl2 HX.out).mono ?_)
  rintro e w3 ⟨A3, c3, rfl, o3, hb3⟩
  have hb4 := hb2.trans (hb3.mono s2)
  clear hb2 hb3
  go_wp2
  go_ret
  exact ⟨_, _, rfl, o3.mono s2 (Nat.le_refl _), by omega, roomBl_row, hb4⟩
set_option maxHeartbeats 400000 in
theorem specBlockingRooms (A : Option Addr) (n c : Nat) (xss : List (List Int)) (C : Option Addr) (l e : Nat) (zs : List Int) (w : World) (h : RowsAt w A n xss) (hn : n ≤ 1048576) (hx : ∀ xs ∈ xss, xs.length ≤ 1048576) (q : IntsAt w C l zs) (hl : l ≤ 1048576) :
    Calls Try.prog 27 #[.slice A n c, .slice C l e] w fun e w' => ∃ A' c', e = .returned (.slice A' (blockRooms xss zs).length c') ∧ OwnR w' w.heap.size w'.heap.size (.slice A' (blockRooms xss zs).length c') (blockRooms xss zs) ∧ (blockRooms xss zs).length ≤ 1048576 ∧ (∀ xs ∈ blockRooms xss zs, xs.length ≤ 1048576) ∧ Below w.heap.size w w' := by
  obtain rfl := h.len
  obtain rfl := q.len
  have HX := Lib.hid hx
  clear hx
  cases h1 : roomsOk xss
  · rw [blockRooms_no (by simp [h1])]
    go_enter Try.func27, Try.ntmps27
    go_wp2_with fail
    (with_reducible refine (specRoomsOk _ _ _ _ _ h hn HX.out).mono ?_)
    rintro e w1 ⟨rfl, rfl⟩
    rw [h1]
    have hb : Below w.heap.size w w := Below.refl _ _
    skip
    go_wp2
    go_ret
    exact ⟨none, 0, rfl, OwnR.nil _ _ _, by simp, by simp, hb⟩
  cases h2 : isPairing xss.length zs
  · rw [blockRooms_no (by simp [h1, h2])]
    go_enter Try.func27, Try.ntmps27
    go_wp2_with fail
    (with_reducible refine (specRoomsOk _ _ _ _ _ h hn HX.out).mono ?_)
    rintro e w1 ⟨rfl, rfl⟩
    rw [h1]
    have hb : Below w.heap.size w w := Below.refl _ _
    have q1 := q.below hb
    have s1 := hb.size
    skip
    go_wp2_with fail
    (with_reducible refine (specIsPairing _ _ _ _ _ _ q1 hl).mono ?_)
    rintro e w2 ⟨rfl, rfl⟩
    rw [h2]
    have hb2 : Below w.heap.size w w := Below.refl _ _
    clear hb 
    go_wp2
    go_ret
    exact ⟨none, 0, rfl, OwnR.nil _ _ _, by simp, by simp, hb2⟩
  rw [blockRooms_yes h1 h2]
  have hbl := roomBl_len (xss := xss) (zs := zs) (by have := pairing_len h2; omega)
  obtain ⟨hl1, hl2⟩ := pairing_len h2
  have HL := Lib.hid hl1
  clear hl1
  go_enter Try.func27, Try.ntmps27
  go_wp2_with fail
  (with_reducible refine (specRoomsOk _ _ _ _ _ h hn HX.out).mono ?_)
  rintro e w1 ⟨rfl, rfl⟩
  rw [h1]
  have hb : Below w.heap.size w w := Below.refl _ _
  have q1 := q.below hb
  have s1 := hb.size
  have h3 := h.below hb
  skip
  go_wp2_with fail
  (with_reducible refine (specIsPairing _ _ _ _ _ _ q1 hl).mono ?_)
  rintro e w2 ⟨rfl, rfl⟩
  rw [h2]
  have hb2 : Below w.heap.size w w := Below.refl _ _
  have q2 := q.below hb2
  have h4 := h.below hb2
  have s2 := hb2.size
  clear hb q1 h3 
  go_wp2_with fail
  (with_reducible refine (l20Blocks_any _ _ _ _ _ _ _ _ _ h4 q2 HL.out hl2 HX.out).mono ?_)
  rintro e w3 ⟨A3, c3, rfl, o3, hb3⟩
  have hb4 := hb2.trans (hb3.mono s2)
  clear hb2 hb3
  go_wp2
  go_ret
  exact ⟨_, _, rfl, o3.mono s2 (Nat.le_refl _), by omega, roomBl_row, hb4⟩
set_option maxHeartbeats 400000 in
theorem implIsStablePairing (A : Option Addr) (n c : Nat) (xss : List (List Int)) (C : Option Addr) (l e : Nat) (zs : List Int) (w : World) (h : RowsAt w A n xss) (hn : n ≤ 1048576) (hx : ∀ xs ∈ xss, xs.length ≤ 1048576) (q : IntsAt w C l zs) (hl : l ≤ 1048576) :
    Calls Try.prog 26 #[.slice A n c, .slice C l e] w fun e w' => e = .returned (.bool (stableRooms xss zs)) ∧ Below w.heap.size w w' := by
  obtain rfl := h.len
  obtain rfl := q.len
  have HX := Lib.hid hx
  clear hx
  cases h1 : roomsOk xss
  · have HE : Hid (stableRooms xss zs = false) := by show _ = _; unfold stableRooms; simp [h1]
    go_enter Try.func26, Try.ntmps26
    go_wp2_with fail
    (with_reducible refine (implRoomsOk _ _ _ _ _ h hn HX.out).mono ?_)
    rintro e w1 ⟨rfl, hb1⟩
    rw [h1]
    have hb : Below w.heap.size w w1 := hb1
    clear hb1
    go_wp2
    go_ret
    exact ⟨ret_b HE.out.symm, hb⟩
  cases h2 : isPairing xss.length zs
  · have HE : Hid (stableRooms xss zs = false) := by show _ = _; unfold stableRooms; simp [h1, h2]
    go_enter Try.func26, Try.ntmps26
    go_wp2_with fail
    (with_reducible refine (implRoomsOk _ _ _ _ _ h hn HX.out).mono ?_)
    rintro e w1 ⟨rfl, hb1⟩
    rw [h1]
    have hb : Below w.heap.size w w1 := hb1
    have q1 := q.below hb
    have s1 := hb.size
    clear hb1
    go_wp2_with fail
    (with_reducible refine (implIsPairing _ _ _ _ _ _ q1 hl).mono ?_)
    rintro e w2 ⟨rfl, hb1⟩
    rw [h2]
    have hb2 : Below w.heap.size w w2 := hb.trans (hb1.mono s1)
    clear hb hb1
    go_wp2
    go_ret
    exact ⟨ret_b HE.out.symm, hb2⟩
  have HE : Hid (stableRooms xss zs = ((roomBl xss zs).length == 0)) := by show _ = _; unfold stableRooms; simp [h1, h2]
  obtain ⟨hl1, hl2⟩ := pairing_len h2
  have HL := Lib.hid hl1
  clear hl1
  go_enter Try.func26, Try.ntmps26
  go_wp2_with fail
  (with_reducible refine (implRoomsOk _ _ _ _ _ h hn HX.out).mono ?_)
  rintro e w1 ⟨rfl, hb1⟩
  rw [h1]
  have hb : Below w.heap.size w w1 := hb1
  have q1 := q.below hb
  have s1 := hb.size
  have h3 := h.below hb
  clear hb1
  go_wp2_with fail
  (with_reducible refine (implIsPairing _ _ _ _ _ _ q1 hl).mono ?_)
  rintro e w2 ⟨rfl, hb1⟩
  rw [h2]
  have hb2 : Below w.heap.size w w2 := hb.trans (hb1.mono s1)
  have q2 := q.below hb2
  have h4 := h.below hb2
  have s2 := hb2.size
  clear hb q1 h3 hb1
  go_wp2_with fail
  (with_reducible refine (roomBlocks_any _ _ _ _ _ _ _ _ _ h4 q2 HL.out hl2 HX.out).mono ?_)
  rintro e w3 ⟨A3, c3, rfl, o3, hb3⟩
  have hb4 := hb2.trans (hb3.mono s2)
  clear hb2 hb3
  go_wp2
  go_ret
  exact ⟨ret_b (by rw [HE.out, Bool.eq_iff_iff]; simp), hb4⟩
set_option maxHeartbeats 400000 in
theorem specIsStablePairing (A : Option Addr) (n c : Nat) (xss : List (List Int)) (C : Option Addr) (l e : Nat) (zs : List Int) (w : World) (h : RowsAt w A n xss) (hn : n ≤ 1048576) (hx : ∀ xs ∈ xss, xs.length ≤ 1048576) (q : IntsAt w C l zs) (hl : l ≤ 1048576) :
    Calls Try.prog 25 #[.slice A n c, .slice C l e] w fun e w' => e = .returned (.bool (stableRooms xss zs)) ∧ Below w.heap.size w w' := by
  obtain rfl := h.len
  obtain rfl := q.len
  have HX := Lib.hid hx
  clear hx
  cases h1 : roomsOk xss
  · have HE : Hid (stableRooms xss zs = false) := by show _ = _; unfold stableRooms; simp [h1]
    go_enter Try.func25, Try.ntmps25
    go_wp2_with fail
    (with_reducible refine (specRoomsOk _ _ _ _ _ h hn HX.out).mono ?_)
    rintro e w1 ⟨rfl, rfl⟩
    rw [h1]
    have hb : Below w.heap.size w w := Below.refl _ _
    skip
    go_wp2
    go_ret
    exact ⟨ret_b HE.out.symm, hb⟩
  cases h2 : isPairing xss.length zs
  · have HE : Hid (stableRooms xss zs = false) := by show _ = _; unfold stableRooms; simp [h1, h2]
    go_enter Try.func25, Try.ntmps25
    go_wp2_with fail
    (with_reducible refine (specRoomsOk _ _ _ _ _ h hn HX.out).mono ?_)
    rintro e w1 ⟨rfl, rfl⟩
    rw [h1]
    have hb : Below w.heap.size w w := Below.refl _ _
    have q1 := q.below hb
    have s1 := hb.size
    skip
    go_wp2_with fail
    (with_reducible refine (specIsPairing _ _ _ _ _ _ q1 hl).mono ?_)
    rintro e w2 ⟨rfl, rfl⟩
    rw [h2]
    have hb2 : Below w.heap.size w w := Below.refl _ _
    clear hb 
    go_wp2
    go_ret
    exact ⟨ret_b HE.out.symm, hb2⟩
  have HE : Hid (stableRooms xss zs = ((roomBl xss zs).length == 0)) := by show _ = _; unfold stableRooms; simp [h1, h2]
  obtain ⟨hl1, hl2⟩ := pairing_len h2
  have HL := Lib.hid hl1
  clear hl1
  go_enter Try.func25, Try.ntmps25
  go_wp2_with fail
  (with_reducible refine (specRoomsOk _ _ _ _ _ h hn HX.out).mono ?_)
  rintro e w1 ⟨rfl, rfl⟩
  rw [h1]
  have hb : Below w.heap.size w w := Below.refl _ _
  have q1 := q.below hb
  have s1 := hb.size
  have h3 := h.below hb
  skip
  go_wp2_with fail
  (with_reducible refine (specIsPairing _ _ _ _ _ _ q1 hl).mono ?_)
  rintro e w2 ⟨rfl, rfl⟩
  rw [h2]
  have hb2 : Below w.heap.size w w := Below.refl _ _
  have q2 := q.below hb2
  have h4 := h.below hb2
  have s2 := hb2.size
  clear hb q1 h3 
  go_wp2_with fail
  (with_reducible refine (l20Blocks_any _ _ _ _ _ _ _ _ _ h4 q2 HL.out hl2 HX.out).mono ?_)
  rintro e w3 ⟨A3, c3, rfl, o3, hb3⟩
  have hb4 := hb2.trans (hb3.mono s2)
  clear hb2 hb3
  go_wp2
  go_ret
  exact ⟨ret_b (by rw [HE.out, Bool.eq_iff_iff]; simp), hb4⟩
end Go.Proofs.Yteglddkeagicmaa
