/- Stable pairings. -/
import Derived.Test.YteglddkeagicmaaAllPair
import Derived.Test.YteglddkeagicmaaBlockRooms
namespace Go.Proofs.Yteglddkeagicmaa
set_option linter.unusedVariables false
open Go.RowKit

/-- no two would rather share -/
def stabRooms (xss : List (List Int)) (zs : List Int) : Bool := (roomBl xss zs).length == 0
def stablePairings (xss : List (List Int)) : List (List Int) := if roomsOk xss then (allPairings (xss.length : Int)).filter (stabRooms xss) else []
theorem stablePairings_no {xss : List (List Int)} (h : roomsOk xss = false) : stablePairings xss = [] := by unfold stablePairings; rw [h]; rfl
theorem stablePairings_yes {xss : List (List Int)} (h : roomsOk xss = true) : stablePairings xss = (allPairings (xss.length : Int)).filter (stabRooms xss) := by unfold stablePairings; rw [h]; rfl
theorem stablePairings_bd {xss : List (List Int)} : (stablePairings xss).length ≤ 1048576 ∧ ∀ xs ∈ stablePairings xss, xs.length ≤ 1048576 := by
  unfold stablePairings
  split
  · refine ⟨?_, fun x hx => ?_⟩
    · have h1 := List.length_filter_le (stabRooms xss) (allPairings (xss.length : Int))
      have h2 := allPairings_len (n := (xss.length : Int))
      omega
    · have := (allPairings_row x (List.mem_filter.1 hx).1).2
      omega
  · simp
set_option maxHeartbeats 2000000 in
theorem implStablePairings (A : Option Addr) (n c : Nat) (xss : List (List Int)) (w : World) (h : RowsAt w A n xss) (hn : n ≤ 1048576) (hx : ∀ xs ∈ xss, xs.length ≤ 1048576) :
    Calls Try.prog 33 #[.slice A n c] w fun e w' => ∃ A' c', e = .returned (.slice A' (stablePairings xss).length c') ∧ OwnR w' w.heap.size w'.heap.size (.slice A' (stablePairings xss).length c') (stablePairings xss) ∧ (stablePairings xss).length ≤ 1048576 ∧ (∀ xs ∈ stablePairings xss, xs.length ≤ 1048576) ∧ Below w.heap.size w w' := by
  obtain rfl := h.len
  have HX := Lib.hid hx
  clear hx
  cases hok : roomsOk xss
  · rw [stablePairings_no hok]
    go_enter Try.func33, Try.ntmps33
    go_wp2_with fail
    (with_reducible refine (implRoomsOk _ _ _ _ _ h hn HX.out).mono ?_)
    rintro e w1 ⟨rfl, b1⟩
    rw [hok]
    go_wp2
    go_ret
    exact ⟨none, 0, rfl, OwnR.nil _ _ _, by simp, by simp, b1⟩
  obtain ⟨hsl, hsr⟩ := stablePairings_bd (xss := xss)
  have HSR := Lib.hid hsr
  have HSY := Lib.hid (stablePairings_yes hok)
  have hf := (rooms_facts hok).len
  have hr := allPairings_row (n := (xss.length : Int))
  have hal := allPairings_len (n := (xss.length : Int))
  have HR : Hid (∀ k, k < (allPairings (xss.length : Int)).length → (rx (allPairings (xss.length : Int)) k).length = xss.length) := fun k hk => by have := (hr _ (rx_mem hk)).1; omega
  have hn6 : xss.length ≤ 6 := by omega
  clear hr hf hsr
  generalize stablePairings xss = SP at *
  go_enter Try.func33, Try.ntmps33
  go_wp2_with fail
  (with_reducible refine (implRoomsOk _ _ _ _ _ h hn HX.out).mono ?_)
  rintro e w1 ⟨rfl, b1⟩
  rw [hok]
  have z0 := b1.size
  have h1 := h.below b1
  clear hok
  have r0 : w1.ownsRow w.heap.size 22 1 (.slice none 0 0) 0 [] := World.ownsRow_nil _ _ _ _
  have q0 : ∀ j, (Value.slice none 0 0).ownBlock = some j → w.heap.size ≤ j ∧ j < w1.heap.size := fun j e => by simp [Value.ownBlock] at e
  go_wp2_with fail
  (with_reducible refine (implAllPairings (xss.length : Int) _).mono ?_)
  rintro e w2 ⟨Aa, ca, rfl, oa, _, _, b2⟩
  have z2 := b2.size
  generalize allPairings (xss.length : Int) = ys at *
  obtain ⟨us, ha1, ha2, va⟩ := ownR_iff.1 oa
  have hul : us.length = ys.length := va.1
  have hca : ∀ j, j < ys.length → ∃ b o, Aa = some ⟨b, o, none⟩ ∧ w2.cell? ⟨b, o + j, none⟩ = us[j]? := fun j hj => by
    obtain ⟨g, rfl, _⟩ := oa.head (by omega)
    exact ⟨g, 0, rfl, by rw [Nat.zero_add]; exact World.ownsRow.cellAt ha1 j (by omega)⟩
  have r2 := ownsRow_below r0 b2
  have h2 := h1.below b2
  have b3 := b1.trans (b2.mono z0)
  have HC := Lib.hid hca
  have P0 := pick_zero (p := stabRooms xss) (us := us) (ys := ys)
  have q2 : ∀ j, (Value.slice none 0 0).ownBlock = some j → j < w1.heap.size ∨ w2.heap.size ≤ j := fun j e => .inl (q0 j e).2
  have HALL := Lib.hid (pick_all (p := stabRooms xss) hul)
  clear ha1 ha2 hca q0 r0
  go_wp2
  go_loopw [3, 5, 13] (fun v _ i wr => ∃ (k : Nat) (A' : Option Addr) (c' : Nat), k ≤ ys.length ∧ i = .int .i64 k ∧ v = .slice A' (pickY (stabRooms xss) us ys k).length c' ∧ wr.ownsRow w.heap.size 22 1 (.slice A' (pickY (stabRooms xss) us ys k).length c') (pickY (stabRooms xss) us ys k).length (pickU (stabRooms xss) us ys k) ∧
    (∀ j, (Value.slice A' (pickY (stabRooms xss) us ys k).length c').ownBlock = some j → j < w1.heap.size ∨ w2.heap.size ≤ j) ∧ OwnR wr w1.heap.size w2.heap.size (.slice Aa ys.length ca) ys ∧ RowsV wr w1.heap.size w2.heap.size us ys ∧
    (∀ j, j < ys.length → ∃ b o, Aa = some ⟨b, o, none⟩ ∧ wr.cell? ⟨b, o + j, none⟩ = us[j]?) ∧ Below w.heap.size w wr ∧ w2.heap.size ≤ wr.heap.size) (fun _ _ i _ => ys.length - (intOf i).toNat)
  case atStart => exact ⟨0, _, 0, Nat.zero_le _, rfl, by rw [P0.2]; rfl, by rw [P0.1, P0.2]; exact r2, by rw [P0.2]; exact q2, oa, va, HC.out, b3, Nat.le_refl _⟩
  case round =>
    obtain ⟨k, A1, c1, hk, rfl, rfl, hown, hq, hoa, hva, hcs, hb, zz⟩ := hrel
    have zr := hb.size
    have hpl := pickY_len (p := stabRooms xss) (us := us) (ys := ys) (k := k)
    clear P0 q2 b3 r2 oa va HC h2
    have HCR := Lib.hid hcs
    have HQ := Lib.hid hq
    clear hcs hq
    by_cases hlt : k < ys.length
    · obtain ⟨g, rfl, hg1, hg2, hg3⟩ := hoa.head (by omega)
      obtain ⟨b, o, ea, hcu⟩ := HCR.out k hlt
      cases ea
      obtain ⟨_, Ak, ck, hck, hok2⟩ := hoa.row k hlt
      rw [Nat.zero_add] at hcu
      have hu : us[k]? = some (.slice Ak (rx ys k).length ck) := by rw [← hcu]; exact hck
      have hkl := HR.out k hlt
      have HPY := Lib.hid (fun h => pick_yes (p := stabRooms xss) hlt hu h)
      have HPN := Lib.hid (fun h => pick_no (p := stabRooms xss) hlt hu h)
      have rk := hok2.at_
      have hr3 := h.below hb
      have HKL := Lib.hid hkl
      clear hcu hu hkl
      go_wp2_with fail
      (with_reducible refine (roomBlocks_any _ _ _ _ _ _ _ _ _ hr3 rk HKL.out hn6 HX.out).mono ?_)
      rintro e w5 ⟨A5, c5, rfl, _, b5⟩
      have z5 := b5.size
      have hown5 := ownsRow_below hown b5
      have hoa5 := hoa.belowW b5
      have hva5 := hva.belowW b5
      have hb5 := hb.trans (b5.mono zr)
      have HC5 : Hid (∀ j, j < ys.length → ∃ b o, (some ⟨g, 0, none⟩ : Option Addr) = some ⟨b, o, none⟩ ∧ w5.cell? ⟨b, o + j, none⟩ = us[j]?) := fun j hj => by
        obtain ⟨b, o, e, hc⟩ := HCR.out j hj
        refine ⟨b, o, e, ?_⟩
        cases e
        rw [← hc]
        exact b5.cell (p := ⟨g, 0 + j, none⟩) hg3
      clear b5 HCR hown hoa hva hb hck hr3
      by_cases ht : (roomBl xss (rx ys k)).length = 0
      · have hst : stabRooms xss (rx ys k) = true := by unfold stabRooms; rw [ht]; rfl
        obtain ⟨p1, p2⟩ := HPY.out hst
        have b6 := (Below.refl w5.heap.size w5).alloc (Nat.le_refl _) (.cells #[.slice Ak (rx ys k).length ck] 22)
        have z6 := World.size_alloc w5 (.cells #[.slice Ak (rx ys k).length ck] 22)
        have hown6 := ownsRow_below hown5 b6
        have hoa6 := hoa5.belowW b6
        have hva6 := hva5.belowW b6
        have hb6 := hb5.trans (b6.mono (by omega))
        have hV := hva6.pick (stabRooms xss) (k + 1)
        rw [p1] at hV
        have hc6 := new_cell w5 (.slice Ak (rx ys k).length ck) 22 rfl
        have HC6 : Hid (∀ j, j < 1 → ∃ b o, (some ⟨w5.heap.size, 0, none⟩ : Option Addr) = some ⟨b, o, none⟩ ∧ (w5.alloc (.cells #[.slice Ak (rx ys k).length ck] 22)).cell? ⟨b, o + j, none⟩ = [Value.slice Ak (rx ys k).length ck][j]?) := by
          intro j hj
          obtain rfl : j = 0 := by omega
          exact ⟨w5.heap.size, 0, rfl, hc6⟩
        have HC7 : Hid (∀ j, j < ys.length → ∃ b o, (some ⟨g, 0, none⟩ : Option Addr) = some ⟨b, o, none⟩ ∧ (w5.alloc (.cells #[.slice Ak (rx ys k).length ck] 22)).cell? ⟨b, o + j, none⟩ = us[j]?) := fun j hj => by
          obtain ⟨b, o, e, hc⟩ := HC5.out j hj
          refine ⟨b, o, e, ?_⟩
          cases e
          rw [← hc]
          exact b6.cell (p := ⟨g, 0 + j, none⟩) (by simp; omega)
        have el : (pickY (stabRooms xss) us ys k).length + 1 = (pickY (stabRooms xss) us ys (k + 1)).length := by rw [p2]; simp
        have HP1 := Lib.hid p1
        have HEL := Lib.hid el
        clear p1 p2 hst HPY HPN hc6 hown5 hoa5 hva5 hb5 HC5 b6 el
        go_wp2_with (at_builtin; refine wpList_append_rowsV _ rfl _ _ rfl w.heap.size _ c1 A1 _ rfl hown6 (some ⟨w5.heap.size, 0, none⟩) 1 1 [Value.slice Ak (rx ys k).length ck] _ _ _ rfl HC6.out hV rfl (by omega) (by omega) ?_)
        intro A8 c8 w8 o8 v8 g8 hat8
        have z8 := g8.size
        have hoa8 := hoa6.grownBy g8 (fun j e => by have := HQ.out j e; omega)
        have hva8 := hva6.grownBy g8 (fun j e => by have := HQ.out j e; omega)
        have HC8 : Hid (∀ j, j < ys.length → ∃ b o, (some ⟨g, 0, none⟩ : Option Addr) = some ⟨b, o, none⟩ ∧ w8.cell? ⟨b, o + j, none⟩ = us[j]?) := fun j hj => by
          obtain ⟨b, o, e, hc⟩ := HC7.out j hj
          refine ⟨b, o, e, ?_⟩
          cases e
          rw [← hc]
          exact World.cell?_of_block (g8.block g (by omega) (fun e => by have := HQ.out g e.symm; omega))
        have hb8 := below_of_below hb6 g8 (fun j e => (World.ownsRow.lt hown6 j e).1)
        have HQ8 : Hid (∀ j, (Value.slice A8 (pickY (stabRooms xss) us ys (k + 1)).length c8).ownBlock = some j → j < w1.heap.size ∨ w2.heap.size ≤ j) := by
          rw [← HEL.out]
          intro j e
          rcases hat8 with h | h
          · rw [h] at e; exact HQ.out j e
          · rw [h] at e; have e2 := Option.some.inj e; right; omega
        rw [← HP1.out, HEL.out] at o8
        clear hat8 g8 hoa6 hva6 v8 hb6 hown6 HC7 HC6
        go_wp2
        go_roundw
        case rel => exact ⟨k + 1, _, _, by omega, by go_num, by rw [← HEL.out], o8, HQ8.out, hoa8, hva8, HC8.out, hb8, by omega⟩
        case measure => simp [intOf]; omega
      · have hst : stabRooms xss (rx ys k) = false := by unfold stabRooms; rw [beq_eq_false_iff_ne]; exact ht
        obtain ⟨p1, p2⟩ := HPN.out hst
        rw [← p1, ← p2] at hown5
        rw [← p2] at HQ ⊢
        have ht2 : (((roomBl xss (rx ys k)).length : Int) == 0) = false := by rw [beq_eq_false_iff_ne]; omega
        clear p1 p2 hst HPY HPN
        go_wp2
        go_roundw
        case rel => exact ⟨k + 1, _, _, by omega, by go_num, rfl, hown5, HQ.out, hoa5, hva5, HC5.out, hb5, by omega⟩
        case measure => simp [intOf]; omega
    · obtain rfl : k = ys.length := by omega
      have e : pickY (stabRooms xss) us ys ys.length = SP := by rw [HALL.out, HSY.out]
      have hV := hva.pick (stabRooms xss) ys.length
      rw [e] at hown hV
      have HEE := Lib.hid e
      clear e
      go_wp2
      go_ret
      exact ⟨_, _, by rw [← HEE.out]; rfl, ownR_iff.2 ⟨_, hown, fun j e => (World.ownsRow.lt hown j e).2, hV.mono (by omega) zz⟩, hsl, HSR.out, hb⟩
set_option maxHeartbeats 2000000 in
theorem specStablePairings (A : Option Addr) (n c : Nat) (xss : List (List Int)) (w : World) (h : RowsAt w A n xss) (hn : n ≤ 1048576) (hx : ∀ xs ∈ xss, xs.length ≤ 1048576) :
    Calls Try.prog 32 #[.slice A n c] w fun e w' => ∃ A' c', e = .returned (.slice A' (stablePairings xss).length c') ∧ OwnR w' w.heap.size w'.heap.size (.slice A' (stablePairings xss).length c') (stablePairings xss) ∧ (stablePairings xss).length ≤ 1048576 ∧ (∀ xs ∈ stablePairings xss, xs.length ≤ 1048576) ∧ Below w.heap.size w w' := by
  obtain rfl := h.len
  have HX := Lib.hid hx
  clear hx
  cases hok : roomsOk xss
  · rw [stablePairings_no hok]
    go_enter Try.func32, Try.ntmps32
    go_wp2_with fail
    (with_reducible refine (specRoomsOk _ _ _ _ _ h hn HX.out).mono ?_)
    rintro e w1 ⟨rfl, rfl⟩
    rw [hok]
    go_wp2
    go_ret
    exact ⟨none, 0, rfl, OwnR.nil _ _ _, by simp, by simp, Below.refl _ _⟩
  obtain ⟨hsl, hsr⟩ := stablePairings_bd (xss := xss)
  have HSR := Lib.hid hsr
  have HSY := Lib.hid (stablePairings_yes hok)
  have hf := (rooms_facts hok).len
  have hr := allPairings_row (n := (xss.length : Int))
  have hal := allPairings_len (n := (xss.length : Int))
  have HR : Hid (∀ k, k < (allPairings (xss.length : Int)).length → (rx (allPairings (xss.length : Int)) k).length = xss.length) := fun k hk => by have := (hr _ (rx_mem hk)).1; omega
  have hn6 : xss.length ≤ 6 := by omega
  clear hr hf hsr
  generalize stablePairings xss = SP at *
  go_enter Try.func32, Try.ntmps32
  go_wp2_with fail
  (with_reducible refine (specRoomsOk _ _ _ _ _ h hn HX.out).mono ?_)
  rintro e w1 ⟨rfl, rfl⟩
  rw [hok]
  clear hok
  have b1 := (Below.refl w.heap.size w).alloc (Nat.le_refl _) (.cells #[] 22)
  have e0 := World.size_alloc w (.cells #[] 22)
  have r0 : (w.alloc (.cells #[] 22)).ownsRow w.heap.size 22 1 (.slice (some ⟨w.heap.size, 0, none⟩) 0 0) 0 [] := World.ownsRow_lit (e := 22) (size := 1) (base := w.heap.size) w #[] 0 (Nat.le_refl _) (by unfold maxLen; omega) rfl
  have q0 : ∀ j, (Value.slice (some ⟨w.heap.size, 0, none⟩) 0 0).ownBlock = some j → w.heap.size ≤ j ∧ j < (w.alloc (.cells #[] 22)).heap.size := fun j e => by simp [Value.ownBlock] at e; rw [e0]; omega
  have z0 := b1.size
  have h1 := h.below b1
  go_wp2_with fail
  (with_reducible refine (specAllPairings (xss.length : Int) _).mono ?_)
  rintro e w2 ⟨Aa, ca, rfl, oa, _, _, b2⟩
  have z2 := b2.size
  generalize allPairings (xss.length : Int) = ys at *
  obtain ⟨us, ha1, ha2, va⟩ := ownR_iff.1 oa
  have hul : us.length = ys.length := va.1
  have hca : ∀ j, j < ys.length → ∃ b o, Aa = some ⟨b, o, none⟩ ∧ w2.cell? ⟨b, o + j, none⟩ = us[j]? := fun j hj => by
    obtain ⟨g, rfl, _⟩ := oa.head (by omega)
    exact ⟨g, 0, rfl, by rw [Nat.zero_add]; exact World.ownsRow.cellAt ha1 j (by omega)⟩
  have r2 := ownsRow_below r0 b2
  have h2 := h1.below b2
  have b3 := b1.trans (b2.mono z0)
  have HC := Lib.hid hca
  have P0 := pick_zero (p := stabRooms xss) (us := us) (ys := ys)
  have q2 : ∀ j, (Value.slice (some ⟨w.heap.size, 0, none⟩) 0 0).ownBlock = some j → j < (w.alloc (.cells #[] 22)).heap.size ∨ w2.heap.size ≤ j := fun j e => .inl (q0 j e).2
  have HALL := Lib.hid (pick_all (p := stabRooms xss) hul)
  clear ha1 ha2 hca q0 r0
  go_wp2
  go_loopw [3, 5, 14] (fun v _ i wr => ∃ (k : Nat) (A' : Option Addr) (c' : Nat), k ≤ ys.length ∧ i = .int .i64 k ∧ v = .slice A' (pickY (stabRooms xss) us ys k).length c' ∧ wr.ownsRow w.heap.size 22 1 (.slice A' (pickY (stabRooms xss) us ys k).length c') (pickY (stabRooms xss) us ys k).length (pickU (stabRooms xss) us ys k) ∧
    (∀ j, (Value.slice A' (pickY (stabRooms xss) us ys k).length c').ownBlock = some j → j < (w.alloc (.cells #[] 22)).heap.size ∨ w2.heap.size ≤ j) ∧ OwnR wr (w.alloc (.cells #[] 22)).heap.size w2.heap.size (.slice Aa ys.length ca) ys ∧ RowsV wr (w.alloc (.cells #[] 22)).heap.size w2.heap.size us ys ∧
    (∀ j, j < ys.length → ∃ b o, Aa = some ⟨b, o, none⟩ ∧ wr.cell? ⟨b, o + j, none⟩ = us[j]?) ∧ Below w.heap.size w wr ∧ w2.heap.size ≤ wr.heap.size) (fun _ _ i _ => ys.length - (intOf i).toNat)
  case atStart => exact ⟨0, _, 0, Nat.zero_le _, rfl, by rw [P0.2]; rfl, by rw [P0.1, P0.2]; exact r2, by rw [P0.2]; exact q2, oa, va, HC.out, b3, Nat.le_refl _⟩
  case round =>
    obtain ⟨k, A1, c1, hk, rfl, rfl, hown, hq, hoa, hva, hcs, hb, zz⟩ := hrel
    have zr := hb.size
    have hpl := pickY_len (p := stabRooms xss) (us := us) (ys := ys) (k := k)
    clear P0 q2 b3 r2 oa va HC h2
    have HCR := Lib.hid hcs
    have HQ := Lib.hid hq
    clear hcs hq
    by_cases hlt : k < ys.length
    · obtain ⟨g, rfl, hg1, hg2, hg3⟩ := hoa.head (by omega)
      obtain ⟨b, o, ea, hcu⟩ := HCR.out k hlt
      cases ea
      obtain ⟨_, Ak, ck, hck, hok2⟩ := hoa.row k hlt
      rw [Nat.zero_add] at hcu
      have hu : us[k]? = some (.slice Ak (rx ys k).length ck) := by rw [← hcu]; exact hck
      have hkl := HR.out k hlt
      have HPY := Lib.hid (fun h => pick_yes (p := stabRooms xss) hlt hu h)
      have HPN := Lib.hid (fun h => pick_no (p := stabRooms xss) hlt hu h)
      have rk := hok2.at_
      have hr3 := h.below hb
      have HKL := Lib.hid hkl
      clear hcu hu hkl
      go_wp2_with fail
      (with_reducible refine (l20Blocks_any _ _ _ _ _ _ _ _ _ hr3 rk HKL.out hn6 HX.out).mono ?_)
      rintro e w5 ⟨A5, c5, rfl, _, b5⟩
      have z5 := b5.size
      have hown5 := ownsRow_below hown b5
      have hoa5 := hoa.belowW b5
      have hva5 := hva.belowW b5
      have hb5 := hb.trans (b5.mono zr)
      have HC5 : Hid (∀ j, j < ys.length → ∃ b o, (some ⟨g, 0, none⟩ : Option Addr) = some ⟨b, o, none⟩ ∧ w5.cell? ⟨b, o + j, none⟩ = us[j]?) := fun j hj => by
        obtain ⟨b, o, e, hc⟩ := HCR.out j hj
        refine ⟨b, o, e, ?_⟩
        cases e
        rw [← hc]
        exact b5.cell (p := ⟨g, 0 + j, none⟩) hg3
      clear b5 HCR hown hoa hva hb hck hr3
      by_cases ht : (roomBl xss (rx ys k)).length = 0
      · have hst : stabRooms xss (rx ys k) = true := by unfold stabRooms; rw [ht]; rfl
        obtain ⟨p1, p2⟩ := HPY.out hst
        have b6 := (Below.refl w5.heap.size w5).alloc (Nat.le_refl _) (.cells #[.slice Ak (rx ys k).length ck] 22)
        have z6 := World.size_alloc w5 (.cells #[.slice Ak (rx ys k).length ck] 22)
        have hown6 := ownsRow_below hown5 b6
        have hoa6 := hoa5.belowW b6
        have hva6 := hva5.belowW b6
        have hb6 := hb5.trans (b6.mono (by omega))
        have hV := hva6.pick (stabRooms xss) (k + 1)
        rw [p1] at hV
        have hc6 := new_cell w5 (.slice Ak (rx ys k).length ck) 22 rfl
        have HC6 : Hid (∀ j, j < 1 → ∃ b o, (some ⟨w5.heap.size, 0, none⟩ : Option Addr) = some ⟨b, o, none⟩ ∧ (w5.alloc (.cells #[.slice Ak (rx ys k).length ck] 22)).cell? ⟨b, o + j, none⟩ = [Value.slice Ak (rx ys k).length ck][j]?) := by
          intro j hj
          obtain rfl : j = 0 := by omega
          exact ⟨w5.heap.size, 0, rfl, hc6⟩
        have HC7 : Hid (∀ j, j < ys.length → ∃ b o, (some ⟨g, 0, none⟩ : Option Addr) = some ⟨b, o, none⟩ ∧ (w5.alloc (.cells #[.slice Ak (rx ys k).length ck] 22)).cell? ⟨b, o + j, none⟩ = us[j]?) := fun j hj => by
          obtain ⟨b, o, e, hc⟩ := HC5.out j hj
          refine ⟨b, o, e, ?_⟩
          cases e
          rw [← hc]
          exact b6.cell (p := ⟨g, 0 + j, none⟩) (by simp; omega)
        have el : (pickY (stabRooms xss) us ys k).length + 1 = (pickY (stabRooms xss) us ys (k + 1)).length := by rw [p2]; simp
        have HP1 := Lib.hid p1
        have HEL := Lib.hid el
        clear p1 p2 hst HPY HPN hc6 hown5 hoa5 hva5 hb5 HC5 b6 el
        go_wp2_with (at_builtin; refine wpList_append_rowsV _ rfl _ _ rfl w.heap.size _ c1 A1 _ rfl hown6 (some ⟨w5.heap.size, 0, none⟩) 1 1 [Value.slice Ak (rx ys k).length ck] _ _ _ rfl HC6.out hV rfl (by omega) (by omega) ?_)
        intro A8 c8 w8 o8 v8 g8 hat8
        have z8 := g8.size
        have hoa8 := hoa6.grownBy g8 (fun j e => by have := HQ.out j e; omega)
        have hva8 := hva6.grownBy g8 (fun j e => by have := HQ.out j e; omega)
        have HC8 : Hid (∀ j, j < ys.length → ∃ b o, (some ⟨g, 0, none⟩ : Option Addr) = some ⟨b, o, none⟩ ∧ w8.cell? ⟨b, o + j, none⟩ = us[j]?) := fun j hj => by
          obtain ⟨b, o, e, hc⟩ := HC7.out j hj
          refine ⟨b, o, e, ?_⟩
          cases e
          rw [← hc]
          exact World.cell?_of_block (g8.block g (by omega) (fun e => by have := HQ.out g e.symm; omega))
        have hb8 := below_of_below hb6 g8 (fun j e => (World.ownsRow.lt hown6 j e).1)
        have HQ8 : Hid (∀ j, (Value.slice A8 (pickY (stabRooms xss) us ys (k + 1)).length c8).ownBlock = some j → j < (w.alloc (.cells #[] 22)).heap.size ∨ w2.heap.size ≤ j) := by
          rw [← HEL.out]
          intro j e
          rcases hat8 with h | h
          · rw [h] at e; exact HQ.out j e
          · rw [h] at e; have e2 := Option.some.inj e; right; omega
        rw [← HP1.out, HEL.out] at o8
        clear hat8 g8 hoa6 hva6 v8 hb6 hown6 HC7 HC6
        go_wp2
        go_roundw
        case rel => exact ⟨k + 1, _, _, by omega, by go_num, by rw [← HEL.out], o8, HQ8.out, hoa8, hva8, HC8.out, hb8, by omega⟩
        case measure => simp [intOf]; omega
      · have hst : stabRooms xss (rx ys k) = false := by unfold stabRooms; rw [beq_eq_false_iff_ne]; exact ht
        obtain ⟨p1, p2⟩ := HPN.out hst
        rw [← p1, ← p2] at hown5
        rw [← p2] at HQ ⊢
        have ht2 : (((roomBl xss (rx ys k)).length : Int) == 0) = false := by rw [beq_eq_false_iff_ne]; omega
        clear p1 p2 hst HPY HPN
        go_wp2
        go_roundw
        case rel => exact ⟨k + 1, _, _, by omega, by go_num, rfl, hown5, HQ.out, hoa5, hva5, HC5.out, hb5, by omega⟩
        case measure => simp [intOf]; omega
    · obtain rfl : k = ys.length := by omega
      have e : pickY (stabRooms xss) us ys ys.length = SP := by rw [HALL.out, HSY.out]
      have hV := hva.pick (stabRooms xss) ys.length
      rw [e] at hown hV
      have HEE := Lib.hid e
      clear e
      go_wp2
      go_ret
      exact ⟨_, _, by rw [← HEE.out]; rfl, ownR_iff.2 ⟨_, hown, fun j e => (World.ownsRow.lt hown j e).2, hV.mono (by omega) zz⟩, hsl, HSR.out, hb⟩
end Go.Proofs.Yteglddkeagicmaa
