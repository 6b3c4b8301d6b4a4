/- All pairings: the program's recursion and the reference's. -/
import Derived.Test.YteglddkeagicmaaPairings0
import Derived.Test.YteglddkeagicmaaRows2
import Derived.Test.YteglddkeagicmaaRepeat
import Derived.Test.YteglddkeagicmaaCopy
namespace Go.Proofs.Yteglddkeagicmaa
set_option linter.unusedVariables false
open Go.RowKit

theorem OwnI.only_cell {w w' : World} {g n c : Nat} {xs : List Int} {l h : Nat} (ho : OwnI w g (g + 1) (.slice (some ⟨g, 0, none⟩) n c) xs) (hb : Only l h w w') (hd : h ≤ g ∨ g + 1 ≤ l) : OwnI w' g (g + 1) (.slice (some ⟨g, 0, none⟩) n c) xs := ho.only hb (by omega)

set_option maxHeartbeats 800000 in
theorem pairingsOf_none (f : Nat) (g n c : Nat) (zs : List Int) (w : World) (h : OwnI w g (g + 1) (.slice (some ⟨g, 0, none⟩) n c) zs) (hn : n ≤ 6) (hp : place zs (-1) < 0) :
    Calls Try.prog 50 #[.slice (some ⟨g, 0, none⟩) n c] w fun e w' => ∃ A' c', e = .returned (.slice A' (pairs f zs).length c') ∧ OwnR w' w.heap.size w'.heap.size (.slice A' (pairs f zs).length c') (pairs f zs) ∧
      OwnI w' g (g + 1) (.slice (some ⟨g, 0, none⟩) n c) zs ∧ Only g (g + 1) w w' := by
  rw [pairs_none hp]
  go_enter Try.func50, Try.ntmps50
  go_wp2_with fail
  (with_reducible refine (index_any _ _ _ _ _ _ h.at_ (by omega)).mono ?_)
  rintro e w1 ⟨rfl, rfl⟩
  go_wp2_with fail
  (with_reducible refine (clone_any _ _ _ _ _ h.at_ (by omega)).mono ?_)
  rintro e w2 ⟨A2, c2, rfl, o2, b2⟩
  have z2 := b2.size
  have o3 := OwnR.lit1 o2 z2 (Nat.le_refl _)
  have b3 := b2.alloc z2 (.cells #[.slice A2 n c2] 22)
  have hs := World.size_alloc w2 (.cells #[.slice A2 n c2] 22)
  go_wp2
  go_ret
  exact ⟨_, _, rfl, o3.mono (Nat.le_refl _) (by omega), h.belowW b3, Only.of_below b3 (Nat.le_refl _)⟩

set_option maxHeartbeats 2000000 in
theorem pairingsOf_any (f : Nat) : ∀ (g n c : Nat) (zs : List Int) (w : World) (h : OwnI w g (g + 1) (.slice (some ⟨g, 0, none⟩) n c) zs) (hn : n ≤ 6) (hf : f ≤ 6) (hfr : free zs ≤ f) (hge : geM zs),
    Calls Try.prog 50 #[.slice (some ⟨g, 0, none⟩) n c] w fun e w' => ∃ A' c', e = .returned (.slice A' (pairs f zs).length c') ∧ OwnR w' w.heap.size w'.heap.size (.slice A' (pairs f zs).length c') (pairs f zs) ∧
      OwnI w' g (g + 1) (.slice (some ⟨g, 0, none⟩) n c) zs ∧ Only g (g + 1) w w' := by
  induction f with
  | zero =>
    intro g n c zs w h hn hf hfr hge
    exact pairingsOf_none 0 g n c zs w h hn (free_none (by omega))
  | succ f ih =>
    intro g n c zs w h hn hf hfr hge
    by_cases hp : place zs (-1) < 0
    · exact pairingsOf_none (f + 1) g n c zs w h hn hp
    obtain ⟨i, hi⟩ : ∃ i : Nat, place zs (-1) = (i : Int) := ⟨(place zs (-1)).toNat, by omega⟩
    obtain ⟨hil, hix⟩ := place_free hi
    obtain ⟨rfl, hgs, _⟩ := h.num
    rw [pairs_some hi]
    have hln : ∀ k, k ≤ zs.length → (flatTo (fun k => decide (i < k) && decide (ix zs k < 0)) (fun k => pairs f (joinAt zs i k)) k).length ≤ 500000 := by
      intro k hk
      have h1 := flatTo_len (p := fun k => decide (i < k) && decide (ix zs k < 0)) (g := fun k => pairs f (joinAt zs i k)) (b := 6 ^ f) (fun j => pairs_len f _ (by rw [joinAt_len]; exact hn)) k
      have h2 : 6 ^ f ≤ 6 ^ 6 := Nat.pow_le_pow_right (by omega) (by omega)
      have h3 : k * 6 ^ f ≤ 6 * 6 ^ 6 := Nat.mul_le_mul (by omega) h2
      omega
    have h0 : flatTo (fun k => decide (i < k) && decide (ix zs k < 0)) (fun k => pairs f (joinAt zs i k)) (i + 1) = [] := flatTo_none fun j hj => by simp; omega
    have HJ := Lib.hid (fun k (hk : k < zs.length) => join_back (zs := zs) (i := i) (k := k) hil hk hix)
    have HF := Lib.hid (fun k (hk : k < zs.length) => free_join (zs := zs) (i := i) (k := k) hil hk hix)
    have HG := Lib.hid (fun k (hk : k < zs.length) => geM_join (zs := zs) (i := i) (k := k) hge hil hk)
    have HGE := Lib.hid hge
    have HY := Lib.hid (fun k (a : i < k) (b : ix zs k < 0) => flatTo_yes (p := fun k => decide (i < k) && decide (ix zs k < 0)) (g := fun k => pairs f (joinAt zs i k)) (k := k) (by simp [a, b]))
    have HO := Lib.hid (fun k (b : 0 ≤ ix zs k) => flatTo_no (p := fun k => decide (i < k) && decide (ix zs k < 0)) (g := fun k => pairs f (joinAt zs i k)) (k := k) (by simp; omega))
    have HL := Lib.hid hln
    clear hln hge hp
    generalize flatTo (fun k => decide (i < k) && decide (ix zs k < 0)) (fun k => pairs f (joinAt zs i k)) = T at *
    have HX := Lib.hid hix
    clear hix
    go_enter Try.func50, Try.ntmps50
    go_wp2_with fail
    (with_reducible refine (index_any _ _ _ _ _ _ h.at_ (by omega)).mono ?_)
    rintro e w1 ⟨rfl, rfl⟩
    rw [hi]
    have HI := Lib.hid hi
    clear hi
    go_wp2
    go_loopw [4, 5] (fun v k_ wr => ∃ (k : Nat) (A' : Option Addr) (c' : Nat), i < k ∧ k ≤ zs.length ∧ k_ = .int .i64 k ∧ v = .slice A' (T k).length c' ∧ OwnR wr w.heap.size wr.heap.size (.slice A' (T k).length c') (T k) ∧ OwnI wr g (g + 1) (.slice (some ⟨g, 0, none⟩) zs.length c) zs ∧ Only g (g + 1) w wr) (fun _ k_ _ => zs.length - (intOf k_).toNat)
    case atStart => exact ⟨i + 1, none, 0, by omega, by omega, by go_num, by rw [h0]; rfl, by rw [h0]; exact OwnR.nil _ _ _, h, Only.refl _ _ _⟩
    case round =>
      obtain ⟨k, A1, cc, hik, hk, rfl, rfl, hown, hz, hb⟩ := hrel
      have zr := hb.size
      have hl1 := HL.out k hk
      clear h0
      by_cases hkl : k < zs.length
      · have ck := hz.cellAt k hkl
        have k1 : (0 : Int) ≤ (k : Int) := by omega
        have k2 : (k : Int) < (zs.length : Int) := by omega
        by_cases hx : 0 ≤ ix zs k
        · have HN := Lib.hid (HO.out k hx)
          go_wp2
          go_roundw
          case rel => exact ⟨k + 1, _, _, by omega, by omega, by go_num, by rw [HN.out], by rw [HN.out]; exact hown, hz, hb⟩
          case measure => simp [intOf]; omega
        · have hm := HGE.out k hkl
          have hxk : ix zs k = -1 := by omega
          rw [hxk] at ck
          have HN := Lib.hid (HY.out k hik (by omega))
          have HB := Lib.hid (HJ.out k hkl hxk)
          have hfr2 := HF.out k hkl
          have HG2 := Lib.hid (HG.out k hkl)
          clear hm hx hxk
          have ci := hz.cellAt i hil
          rw [HX.out] at ci
          have fi := hz.frozenAt i
          have fk := hz.frozenAt k
          have i1 : (0 : Int) ≤ (i : Int) := by omega
          have i2 : (i : Int) < (zs.length : Int) := by omega
          obtain ⟨ha, na⟩ := hz.stored i (k : Int)
          obtain ⟨hb2, nb⟩ := ha.stored k (i : Int)
          have nab := na.trans nb
          have hj2 : OwnI ((wr.setCell ⟨g, i, none⟩ (.int .i64 (k : Int))).setCell ⟨g, k, none⟩ (.int .i64 (i : Int))) g (g + 1) (.slice (some ⟨g, 0, none⟩) zs.length c) (joinAt zs i k) := hb2
          have o5 := hown.only nab (by omega)
          have n5 := hb.trans nab
          have z5 := n5.size
          have HE := Lib.hid (show ((wr.setCell ⟨g, i, none⟩ (.int .i64 (k : Int))).setCell ⟨g, k, none⟩ (.int .i64 (i : Int))).heap.size = wr.heap.size by simp [World.setCell])
          have e5 := HE.out
          rw [← e5] at o5
          clear ha na hb2 nb nab hown hb zr
          go_wp2_with fail
          generalize (wr.setCell ⟨g, i, none⟩ (.int .i64 (k : Int))).setCell ⟨g, k, none⟩ (.int .i64 (i : Int)) = w5 at *
          clear ck ci fi fk
          (with_reducible refine (ih g zs.length c (joinAt zs i k) w5 hj2 hn (by omega) (by omega) HG2.out).mono ?_)
          rintro e w6 ⟨A6, c6, rfl, o6, hj6, n6⟩
          have z6 := n6.size
          have o7 := o5.only n6 (by omega)
          have n7 := n5.trans n6
          obtain ⟨us, hus, hcs⟩ := o6.rowsV
          have hlp : (pairs f (joinAt zs i k)).length ≤ 50000 := by
            have h1 := pairs_len f (joinAt zs i k) (by rw [joinAt_len]; exact hn)
            have h2 : 6 ^ f ≤ 6 ^ 6 := Nat.pow_le_pow_right (by omega) (by omega)
            omega
          have HC := Lib.hid hcs
          clear hcs o5 n5 n6
          go_wp2_with (at_builtin; refine wpList_append_rows _ rfl _ _ rfl w.heap.size w5.heap.size _ _ _ _ rfl o7 A6 _ c6 us _ w5.heap.size w6.heap.size rfl HC.out hus rfl (Nat.le_refl _) (by omega) (by omega) (by omega) ?_)
          intro A8 c8 w8 o8 hg8 hat8
          have hj8 := hj6.grownBy hg8 (fun j e => by have := o7.block_ge j e; omega)
          have n8 := n7.grownBy hg8 (fun j e => (o7.block_ge j e).1)
          have z8 := hg8.size
          have el : (T k).length + (pairs f (joinAt zs i k)).length = (T (k + 1)).length := by rw [HN.out, List.length_append]
          rw [← HN.out, el] at o8
          have EL := Lib.hid el
          clear el hg8 hat8 o7 n7 hj6 hus
          have ci := hj8.cellAt i (by omega)
          have ck := hj8.cellAt k (by omega)
          have fi := hj8.frozenAt i
          have fk := hj8.frozenAt k
          obtain ⟨ha, na⟩ := hj8.stored i (-1)
          obtain ⟨hb2, nb⟩ := ha.stored k (-1)
          have nab := na.trans nb
          rw [HB.out] at hb2
          have o9 := o8.only nab (by omega)
          have n9 := n8.trans nab
          have HE9 := Lib.hid (show ((w8.setCell ⟨g, i, none⟩ (.int .i64 (-1))).setCell ⟨g, k, none⟩ (.int .i64 (-1))).heap.size = w8.heap.size by simp [World.setCell])
          have e9 := HE9.out
          rw [← e9] at o9
          clear ha na nb nab hj8 o8 n8 e9
          go_wp2
          go_roundw
          case rel => exact ⟨k + 1, _, _, by omega, by omega, by go_num, by rw [← EL.out], o9, hb2, n9⟩
          case measure => simp [intOf]; omega
      · obtain rfl : k = zs.length := by omega
        go_wp2
        go_ret
        exact ⟨_, _, rfl, hown, hz, hb⟩
set_option maxHeartbeats 800000 in
theorem l20All_none (f : Nat) (A : Option Addr) (m c : Nat) (vs : List Value) (xss : List (List Int)) (lo hi : Nat) (g n d : Nat) (zs : List Int) (w : World) (h1 : w.ownsRow lo 22 1 (.slice A m c) m vs) (hV : RowsV w lo hi vs xss) (hm : m ≤ 500000)
    (h : OwnI w g (g + 1) (.slice (some ⟨g, 0, none⟩) n d) zs) (hlo : lo ≤ g) (hhi : hi ≤ g) (hn : n ≤ 6) (hp : place zs (-1) < 0) :
    Calls Try.prog 49 #[.slice A m c, .slice (some ⟨g, 0, none⟩) n d] w fun e w' => ∃ A' c' vs', e = .returned (.slice A' (xss ++ pairs f zs).length c') ∧ w'.ownsRow lo 22 1 (.slice A' (xss ++ pairs f zs).length c') (xss ++ pairs f zs).length vs' ∧ RowsV w' lo w'.heap.size vs' (xss ++ pairs f zs) ∧
      w.grownBy w' (Value.slice A m c).ownBlock ∧ (∀ j, (Value.slice A' (xss ++ pairs f zs).length c').ownBlock = some j → (Value.slice A m c).ownBlock = some j ∨ w.heap.size ≤ j) := by
  rw [pairs_none hp]
  have hlen : m + 1 = (xss ++ [zs]).length := by have := h1.1; have := hV.1; simp; omega
  have HL := Lib.hid hlen
  clear hlen
  generalize (xss ++ [zs]).length = L at *
  obtain ⟨rfl, hgs, _⟩ := h.num
  have hb0 := (Below.refl w.heap.size w).alloc (Nat.le_refl _) (.cells #[.slice (some ⟨g, 0, none⟩) zs.length d] 22)
  have h1' := ownsRow_below h1 hb0
  have hV2 := ((hV.append (rowsV_one h) hhi).belowW hb0).mono (lo' := lo) (hi' := w.heap.size + 1) (by omega) (by have : max hi (g + 1) = g + 1 := Nat.max_eq_right (by omega); omega)
  have hc := new_cell w (.slice (some ⟨g, 0, none⟩) zs.length d) 22 rfl
  have HC : Hid (∀ j, j < 1 → ∃ b o, (some ⟨w.heap.size, 0, none⟩ : Option Addr) = some ⟨b, o, none⟩ ∧ (w.alloc (.cells #[.slice (some ⟨g, 0, none⟩) zs.length d] 22)).cell? ⟨b, o + j, none⟩ = [Value.slice (some ⟨g, 0, none⟩) zs.length d][j]?) := by
    intro j hj
    obtain rfl : j = 0 := by omega
    exact ⟨w.heap.size, 0, rfl, hc⟩
  have hz := World.size_alloc w (.cells #[.slice (some ⟨g, 0, none⟩) zs.length d] 22)
  go_enter Try.func49, Try.ntmps49
  go_wp2_with fail
  (with_reducible refine (specPlaceOf_any _ _ _ _ _ _ h.at_ (by omega)).mono ?_)
  rintro e w1 ⟨rfl, rfl⟩
  go_wp2_with (at_builtin; refine wpList_append_rowsV _ rfl _ _ rfl lo m c A vs rfl h1' (some ⟨w.heap.size, 0, none⟩) 1 1 [Value.slice (some ⟨g, 0, none⟩) zs.length d] _ _ _ rfl HC.out hV2 rfl (by omega) (by omega) ?_)
  intro A3 c3 w3 ho3 hV3 hg3 hat3
  have z3 := hg3.size
  have hg4 : w.grownBy w3 (Value.slice A m c).ownBlock := grown_trans (grown_below (grown_refl w _) hb0) hg3 (fun j e => .inl e)
  rw [HL.out] at ho3 hat3
  have HA : Hid (∀ j, (Value.slice A3 L c3).ownBlock = some j → (Value.slice A m c).ownBlock = some j ∨ w.heap.size ≤ j) := by
    intro j e
    rcases hat3 with h | h
    · rw [h] at e; exact .inl e
    · rw [h] at e; have e2 := Option.some.inj e; right; omega
  clear hat3 hg3 hb0 h1' hV2 hc
  go_wp2
  go_ret
  exact ⟨_, _, _, by rw [← HL.out]; rfl, ho3, hV3.mono (Nat.le_refl _) (by omega), hg4, HA.out⟩

set_option maxHeartbeats 2000000 in
theorem l20All_any (f : Nat) : ∀ (A : Option Addr) (m c : Nat) (vs : List Value) (xss : List (List Int)) (lo hi : Nat) (g n d : Nat) (zs : List Int) (w : World) (h1 : w.ownsRow lo 22 1 (.slice A m c) m vs) (hV : RowsV w lo hi vs xss) (hm : m + 6 ^ f ≤ 500000)
    (h : OwnI w g (g + 1) (.slice (some ⟨g, 0, none⟩) n d) zs) (hlo : lo ≤ g) (hhi : hi ≤ g) (hn : n ≤ 6) (hf : f ≤ 6) (hfr : free zs ≤ f) (hge : geM zs),
    Calls Try.prog 49 #[.slice A m c, .slice (some ⟨g, 0, none⟩) n d] w fun e w' => ∃ A' c' vs', e = .returned (.slice A' (xss ++ pairs f zs).length c') ∧ w'.ownsRow lo 22 1 (.slice A' (xss ++ pairs f zs).length c') (xss ++ pairs f zs).length vs' ∧ RowsV w' lo w'.heap.size vs' (xss ++ pairs f zs) ∧
      w.grownBy w' (Value.slice A m c).ownBlock ∧ (∀ j, (Value.slice A' (xss ++ pairs f zs).length c').ownBlock = some j → (Value.slice A m c).ownBlock = some j ∨ w.heap.size ≤ j) := by
  induction f with
  | zero =>
    intro A m c vs xss lo hi g n d zs w h1 hV hm h hlo hhi hn hf hfr hge
    exact l20All_none 0 A m c vs xss lo hi g n d zs w h1 hV (by omega) h hlo hhi hn (free_none (by omega))
  | succ f ih =>
    intro A m c vs xss lo hi g n d zs w h1 hV hm h hlo hhi hn hf hfr hge
    by_cases hp : place zs (-1) < 0
    · exact l20All_none (f + 1) A m c vs xss lo hi g n d zs w h1 hV (Nat.le_trans (Nat.le_add_right _ _) hm) h hlo hhi hn hp
    obtain ⟨i, hi'⟩ : ∃ i : Nat, place zs (-1) = (i : Int) := ⟨(place zs (-1)).toNat, by omega⟩
    obtain ⟨hil, hix⟩ := place_free hi'
    obtain ⟨rfl, hgs, _⟩ := h.num
    rw [pairs_some hi']
    have hml : m = xss.length := by have := h1.1; have := hV.1; omega
    have hln : ∀ k, k ≤ zs.length → (xss ++ flatTo (fun k => decide (i < k) && decide (ix zs k < 0)) (fun k => pairs f (joinAt zs i k)) k).length ≤ m + k * 6 ^ f := by
      intro k hk
      have h1 := flatTo_len (p := fun k => decide (i < k) && decide (ix zs k < 0)) (g := fun k => pairs f (joinAt zs i k)) (b := 6 ^ f) (fun j => pairs_len f _ (by rw [joinAt_len]; exact hn)) k
      rw [List.length_append]
      omega
    have hmul : ∀ k, k < zs.length → k * 6 ^ f + 6 ^ f ≤ 6 ^ (f + 1) := by
      intro k hk
      rw [Nat.pow_succ, Nat.mul_comm (6 ^ f) 6, ← Nat.succ_mul]
      exact Nat.mul_le_mul_right _ (by omega)
    have h0 : flatTo (fun k => decide (i < k) && decide (ix zs k < 0)) (fun k => pairs f (joinAt zs i k)) (i + 1) = [] := flatTo_none fun j hj => by simp; omega
    have h00 : xss ++ flatTo (fun k => decide (i < k) && decide (ix zs k < 0)) (fun k => pairs f (joinAt zs i k)) (i + 1) = xss := by rw [h0, List.append_nil]
    have HF := Lib.hid (fun k (hk : k < zs.length) => free_join (zs := zs) (i := i) (k := k) hil hk hix)
    have HG := Lib.hid (fun k (hk : k < zs.length) => geM_join (zs := zs) (i := i) (k := k) hge hil hk)
    have HGE := Lib.hid hge
    have HY := Lib.hid (fun k (a : i < k) (b : ix zs k < 0) => (by rw [flatTo_yes (by simp [a, b]), List.append_assoc] : xss ++ flatTo (fun k => decide (i < k) && decide (ix zs k < 0)) (fun k => pairs f (joinAt zs i k)) (k + 1) = (xss ++ flatTo (fun k => decide (i < k) && decide (ix zs k < 0)) (fun k => pairs f (joinAt zs i k)) k) ++ pairs f (joinAt zs i k)))
    have HO := Lib.hid (fun k (b : 0 ≤ ix zs k) => (by rw [flatTo_no (by simp; omega)] : xss ++ flatTo (fun k => decide (i < k) && decide (ix zs k < 0)) (fun k => pairs f (joinAt zs i k)) (k + 1) = (xss ++ flatTo (fun k => decide (i < k) && decide (ix zs k < 0)) (fun k => pairs f (joinAt zs i k)) k)))
    have HL := Lib.hid hln
    have HM := Lib.hid hmul
    clear hln hge hp h0 hmul
    obtain ⟨T, hT⟩ : ∃ T : Nat → List (List Int), ∀ k, T k = xss ++ flatTo (fun k => decide (i < k) && decide (ix zs k < 0)) (fun k => pairs f (joinAt zs i k)) k := ⟨_, fun _ => rfl⟩
    simp only [← hT] at h00 HY HO HL ⊢
    clear hT
    have HX := Lib.hid hix
    clear hix
    go_enter Try.func49, Try.ntmps49
    go_wp2_with fail
    (with_reducible refine (specPlaceOf_any _ _ _ _ _ _ h.at_ (by omega)).mono ?_)
    rintro e w1 ⟨rfl, rfl⟩
    rw [hi']
    have HI := Lib.hid hi'
    clear hi'
    go_wp2
    go_loopw [0, 6, 7] (fun v k_ _ wr => ∃ (k : Nat) (A' : Option Addr) (c' : Nat) (us : List Value), i < k ∧ k ≤ zs.length ∧ k_ = .int .i64 k ∧ v = .slice A' (T k).length c' ∧ wr.ownsRow lo 22 1 (.slice A' (T k).length c') (T k).length us ∧ RowsV wr lo wr.heap.size us (T k) ∧
      w.grownBy wr (Value.slice A m c).ownBlock ∧ (∀ j, (Value.slice A' (T k).length c').ownBlock = some j → (Value.slice A m c).ownBlock = some j ∨ w.heap.size ≤ j)) (fun _ k_ _ _ => zs.length - (intOf k_).toNat)
    case atStart => exact ⟨i + 1, A, c, vs, by omega, by omega, by go_num, by first | rw [h00, hml] | rw [h00], by rw [h00, ← hml]; exact h1, by rw [h00]; exact hV.mono (Nat.le_refl _) (by omega), grown_refl _ _, fun j e => by rw [h00, ← hml] at e; exact .inl e⟩
    case round =>
      obtain ⟨k, A1, cc, us, hik, hk, rfl, rfl, hown, hVr, hgr, hat⟩ := hrel
      have zr := hgr.size
      have hl1 := HL.out k hk
      have HAT := Lib.hid hat
      have hz := h.grownBy hgr (fun j e => by
        have := no_mix h1 h e
        by_cases e2 : j = g
        · subst e2; exact absurd rfl this
        · omega)
      clear h00 hat
      by_cases hkl : k < zs.length
      · have hl2 := HM.out k hkl
        have ck := hz.cellAt k hkl
        have k1 : (0 : Int) ≤ (k : Int) := by omega
        have k2 : (k : Int) < (zs.length : Int) := by omega
        by_cases hx : 0 ≤ ix zs k
        · have HN := Lib.hid (HO.out k hx)
          have e1 : (ix zs k == -1) = false := by rw [beq_eq_false_iff_ne]; omega
          go_wp2
          go_roundw
          case rel => exact ⟨k + 1, _, _, us, by omega, by omega, by go_num, by rw [HN.out], by rw [HN.out]; exact hown, by rw [HN.out]; exact hVr, hgr, by rw [HN.out]; exact HAT.out⟩
          case measure => simp [intOf]; omega
        · have hm' := HGE.out k hkl
          have hxk : ix zs k = -1 := by omega
          rw [hxk] at ck
          have HN := Lib.hid (HY.out k hik (by omega))
          have hfr2 := HF.out k hkl
          have HG2 := Lib.hid (HG.out k hkl)
          clear hm' hx hxk
          have i1 : (0 : Int) ≤ (i : Int) := by omega
          have i2 : (i : Int) < (zs.length : Int) := by omega
          have oe := OwnI.empty wr (lo := wr.heap.size) (hi := wr.heap.size + 1) (Nat.le_refl _) (by omega)
          have be := (Below.refl wr.heap.size wr).alloc (Nat.le_refl _) (.cells #[] 3)
          have hz2 := hz.at_.below be
          have se := World.size_alloc wr (.cells #[] 3)
          go_wp2_with (at_builtin; refine wpList_append_ints _ rfl _ _ rfl wr.heap.size (wr.heap.size + 1) 0 0 _ [] rfl oe (some ⟨g, 0, none⟩) zs.length d zs rfl hz2 (by omega) (by simp) (by simp) ?_)
          intro A2 c2 w2 ho2 hon
          have b2 := be.trans (hon.toBelow (B := wr.heap.size) (Nat.le_refl _) (by simp))
          obtain ⟨g2, rfl, hg2, hg2'⟩ := ho2.head (by omega)
          have ho3 := ho2.tight
          clear hon ho2 be oe se hz2 ck
          have ci := ho3.cellAt i hil
          have ck := ho3.cellAt k hkl
          have fi := ho3.frozenAt i
          have fk := ho3.frozenAt k
          obtain ⟨ha, na⟩ := ho3.stored i (k : Int)
          obtain ⟨hb2, nb⟩ := ha.stored k (i : Int)
          have nab := na.trans nb
          have hj2 : OwnI ((w2.setCell ⟨g2, i, none⟩ (.int .i64 (k : Int))).setCell ⟨g2, k, none⟩ (.int .i64 (i : Int))) g2 (g2 + 1) (.slice (some ⟨g2, 0, none⟩) zs.length c2) (joinAt zs i k) := hb2
          have z2 := b2.size
          have b5 := b2.trans (nab.toBelow (B := wr.heap.size) hg2 z2)
          have hown5 := ownsRow_below hown b5
          have hV5 := hVr.belowW b5
          have g5 := grown_below hgr b5
          have z5 := b5.size
          clear ha na hb2 nb nab hown hVr hgr b2 ho3 hz
          go_wp2_with fail
          generalize (w2.setCell ⟨g2, i, none⟩ (.int .i64 (k : Int))).setCell ⟨g2, k, none⟩ (.int .i64 (i : Int)) = w5 at *
          clear ck ci fi fk
          (with_reducible refine (ih A1 _ cc us (T k) lo wr.heap.size g2 zs.length c2 (joinAt zs i k) w5 hown5 hV5 (by omega) hj2 (by omega) hg2 hn (by omega) (by omega) HG2.out).mono ?_)
          rintro e w6 ⟨A6, c6, vs6, rfl, o6, hV6, g6, hat6⟩
          rw [← HN.out] at o6 hV6 hat6
          rw [← HN.out]
          have g7 := grown_trans g5 g6 HAT.out
          have HAT6 : Hid (∀ j, (Value.slice A6 (T (k + 1)).length c6).ownBlock = some j → (Value.slice A m c).ownBlock = some j ∨ w.heap.size ≤ j) := by
            intro j e
            rcases hat6 j e with h | h
            · exact HAT.out j h
            · right; omega
          clear g5 g6 hat6 hown5 hV5
          go_wp2
          go_roundw
          case rel => exact ⟨k + 1, _, _, vs6, by omega, by omega, by go_num, rfl, o6, hV6, g7, HAT6.out⟩
          case measure => simp [intOf]; omega
      · obtain rfl : k = zs.length := by omega
        go_wp2
        go_ret
        exact ⟨_, _, us, rfl, hown, hVr, hgr, HAT.out⟩
end Go.Proofs.Yteglddkeagicmaa
