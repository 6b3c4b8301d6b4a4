/- All rankings of m: both sides. -/
import Derived.Test.YtnoanomihifobaaOrdersW
namespace Go.Proofs.Ytnoanomihifobaa
set_option linter.unusedVariables false
open Go.RowKit

set_option maxHeartbeats 800000 in
theorem l03All_done (f m : Nat) (A : Option Addr) (n c : Nat) (vs : List Value) (xss : List (List Int)) (lo hi : Nat) (g d : Nat) (zs : List Int) (w : World) (h1 : w.ownsRow lo 38 1 (.slice A n c) n vs) (hV : RowsV w lo hi vs xss) (hn : n ≤ 500000)
    (h : OwnI w g (g + 1) (.slice (some ⟨g, 0, none⟩) m d) zs) (hlo : lo ≤ g) (hhi : hi ≤ g) :
    Calls Try.prog 39 #[.slice A n c, .slice (some ⟨g, 0, none⟩) m d, .int .i64 (m : Int)] w fun e w' => ∃ A' c' vs', e = .returned (.slice A' (xss ++ extend m f zs).length c') ∧ w'.ownsRow lo 38 1 (.slice A' (xss ++ extend m f zs).length c') (xss ++ extend m f zs).length vs' ∧ RowsV w' lo w'.heap.size vs' (xss ++ extend m f zs) ∧
      w.grownBy w' (Value.slice A n c).ownBlock ∧ (∀ j, (Value.slice A' (xss ++ extend m f zs).length c').ownBlock = some j → (Value.slice A n c).ownBlock = some j ∨ w.heap.size ≤ j) := by
  rw [extend_done h.num.1]
  have hlen : n + 1 = (xss ++ [zs]).length := by have := h1.1; have := hV.1; simp; omega
  have HL := Lib.hid hlen
  clear hlen
  generalize (xss ++ [zs]).length = L at *
  obtain ⟨_, hgs, _⟩ := h.num
  have hb0 := (Below.refl w.heap.size w).alloc (Nat.le_refl _) (.cells #[.slice (some ⟨g, 0, none⟩) m d] 38)
  have h1' := ownsRow_below h1 hb0
  have hV2 := ((hV.append (rowsV_one h) hhi).belowW hb0).mono (lo' := lo) (hi' := w.heap.size + 1) (by omega) (by have : max hi (g + 1) = g + 1 := Nat.max_eq_right (by omega); omega)
  have hc := new_cell w (.slice (some ⟨g, 0, none⟩) m d) 38 rfl
  have HC : Hid (∀ j, j < 1 → ∃ b o, (some ⟨w.heap.size, 0, none⟩ : Option Addr) = some ⟨b, o, none⟩ ∧ (w.alloc (.cells #[.slice (some ⟨g, 0, none⟩) m d] 38)).cell? ⟨b, o + j, none⟩ = [Value.slice (some ⟨g, 0, none⟩) m d][j]?) := by
    intro j hj
    obtain rfl : j = 0 := by omega
    exact ⟨w.heap.size, 0, rfl, hc⟩
  have hz := World.size_alloc w (.cells #[.slice (some ⟨g, 0, none⟩) m d] 38)
  have HZ := Lib.hid hz
  have hz1 : w.heap.size ≤ (w.alloc (.cells #[.slice (some ⟨g, 0, none⟩) m d] 38)).heap.size := by omega
  have hlw : lo ≤ (w.alloc (.cells #[.slice (some ⟨g, 0, none⟩) m d] 38)).heap.size := by omega
  clear hz
  go_enter Try.func39, Try.ntmps39
  go_wp2_with (at_builtin; refine wpList_append_rowsV _ rfl _ _ rfl lo n c A vs rfl h1' (some ⟨w.heap.size, 0, none⟩) 1 1 [Value.slice (some ⟨g, 0, none⟩) m d] _ _ _ rfl HC.out hV2 rfl (by omega) hlw ?_)
  intro A3 c3 w3 ho3 hV3 hg3 hat3
  have z3 := hg3.size
  have hg4 : w.grownBy w3 (Value.slice A n c).ownBlock := grown_trans (grown_below (grown_refl w _) hb0) hg3 (fun j e => .inl e)
  rw [HL.out] at ho3 hat3
  have HA : Hid (∀ j, (Value.slice A3 L c3).ownBlock = some j → (Value.slice A n c).ownBlock = some j ∨ w.heap.size ≤ j) := by
    intro j e
    rcases hat3 with h | h
    · rw [h] at e; exact .inl e
    · rw [h] at e; have e2 := Option.some.inj e; right; omega
  have z5 : w.heap.size + 1 ≤ w3.heap.size := by have := HZ.out; omega
  clear hat3 hg3 hb0 h1' hV2 hc
  go_wp2
  go_ret
  exact ⟨_, _, _, by rw [← HL.out]; rfl, ho3, hV3.mono (Nat.le_refl _) z5, hg4, HA.out⟩

set_option maxHeartbeats 4000000 in
theorem l03All_any (m : Nat) (hm : m ≤ 5) (f : Nat) : ∀ (A : Option Addr) (n c : Nat) (vs : List Value) (xss : List (List Int)) (lo hi : Nat) (g l d : Nat) (zs : List Int) (w : World) (h1 : w.ownsRow lo 38 1 (.slice A n c) n vs) (hV : RowsV w lo hi vs xss) (hn : n + 5 ^ f ≤ 500000)
    (h : OwnI w g (g + 1) (.slice (some ⟨g, 0, none⟩) l d) zs) (hlo : lo ≤ g) (hhi : hi ≤ g) (hlf : l + f = m),
    Calls Try.prog 39 #[.slice A n c, .slice (some ⟨g, 0, none⟩) l d, .int .i64 (m : Int)] w fun e w' => ∃ A' c' vs', e = .returned (.slice A' (xss ++ extend m f zs).length c') ∧ w'.ownsRow lo 38 1 (.slice A' (xss ++ extend m f zs).length c') (xss ++ extend m f zs).length vs' ∧ RowsV w' lo w'.heap.size vs' (xss ++ extend m f zs) ∧
      w.grownBy w' (Value.slice A n c).ownBlock ∧ (∀ j, (Value.slice A' (xss ++ extend m f zs).length c').ownBlock = some j → (Value.slice A n c).ownBlock = some j ∨ w.heap.size ≤ j) := by
  induction f with
  | zero =>
    intro A n c vs xss lo hi g l d zs w h1 hV hn h hlo hhi hlf
    obtain rfl : l = m := by omega
    exact l03All_done 0 l A n c vs xss lo hi g d zs w h1 hV (by omega) h hlo hhi
  | succ f ih =>
    intro A n c vs xss lo hi g l d zs w h1 hV hn h hlo hhi hlf
    obtain ⟨hzl, hgs, _⟩ := h.num
    have hne : zs.length ≠ m := by omega
    rw [extend_more hne]
    have hml : n = xss.length := by have := h1.1; have := hV.1; omega
    have hln : ∀ k, k ≤ m → (xss ++ flatP (fun x => decide (place zs (x : Int) < 0)) (fun x => extend m f (zs ++ [(x : Int)])) k).length ≤ n + k * 5 ^ f := by
      intro k hk
      have h1 := flatP_len (p := fun x => decide (place zs (x : Int) < 0)) (g := fun x => extend m f (zs ++ [(x : Int)])) (b := 5 ^ f) (fun j => extend_len m hm f _) k
      rw [List.length_append]
      omega
    have hmul : ∀ k, k < m → k * 5 ^ f + 5 ^ f ≤ 5 ^ (f + 1) := by
      intro k hk
      rw [Nat.pow_succ, Nat.mul_comm (5 ^ f) 5, ← Nat.succ_mul]
      exact Nat.mul_le_mul_right _ (by omega)
    have h00 : xss ++ flatP (fun x => decide (place zs (x : Int) < 0)) (fun x => extend m f (zs ++ [(x : Int)])) 0 = xss := by rw [flatP, List.append_nil]
    have HY := Lib.hid (fun (k : Nat) (b : place zs (k : Int) < 0) => (by rw [flatP_yes (by simp [b]), List.append_assoc] : xss ++ flatP (fun x => decide (place zs (x : Int) < 0)) (fun x => extend m f (zs ++ [(x : Int)])) (k + 1) = (xss ++ flatP (fun x => decide (place zs (x : Int) < 0)) (fun x => extend m f (zs ++ [(x : Int)])) k) ++ extend m f (zs ++ [(k : Int)])))
    have HO := Lib.hid (fun (k : Nat) (b : 0 ≤ place zs (k : Int)) => (by rw [flatP_no (by simp; omega)] : xss ++ flatP (fun x => decide (place zs (x : Int) < 0)) (fun x => extend m f (zs ++ [(x : Int)])) (k + 1) = (xss ++ flatP (fun x => decide (place zs (x : Int) < 0)) (fun x => extend m f (zs ++ [(x : Int)])) k)))
    have HL := Lib.hid hln
    have HM := Lib.hid hmul
    have HH := Lib.hid h00
    clear hln hmul h00 hne
    obtain ⟨T, hT⟩ : ∃ T : Nat → List (List Int), ∀ k, T k = xss ++ flatP (fun x => decide (place zs (x : Int) < 0)) (fun x => extend m f (zs ++ [(x : Int)])) k := ⟨_, fun _ => rfl⟩
    simp only [← hT] at HH HY HO HL ⊢
    clear hT
    have e0 : ((l : Int) == (m : Int)) = false := by rw [beq_eq_false_iff_ne]; omega
    have HML := Lib.hid hml
    have HZL := Lib.hid hzl
    have hl1 : l ≤ 5 := by omega
    have hl2 : l + 1 + f = m := by omega
    have HLF := Lib.hid hl2
    clear hml hzl hlf hl2
    go_enter Try.func39, Try.ntmps39
    go_wp2
    go_loopw [0, 7] (fun v k_ wr => ∃ (k : Nat) (A' : Option Addr) (c' : Nat) (us : List Value), k ≤ m ∧ k_ = .int .i64 k ∧ v = .slice A' (T k).length c' ∧ wr.ownsRow lo 38 1 (.slice A' (T k).length c') (T k).length us ∧ RowsV wr lo wr.heap.size us (T k) ∧
      w.grownBy wr (Value.slice A n c).ownBlock ∧ (∀ j, (Value.slice A' (T k).length c').ownBlock = some j → (Value.slice A n c).ownBlock = some j ∨ w.heap.size ≤ j)) (fun _ k_ _ => m - (intOf k_).toNat)
    case atStart => exact ⟨0, A, c, vs, Nat.zero_le _, rfl, by rw [HH.out, HML.out], by rw [HH.out, ← HML.out]; exact h1, by rw [HH.out]; exact hV.mono (Nat.le_refl _) (by omega), grown_refl _ _, fun j e => by rw [HH.out, ← HML.out] at e; exact .inl e⟩
    case round =>
      obtain ⟨k, A1, cc, us, hk, rfl, rfl, hown, hVr, hgr, hat⟩ := hrel
      have zr := hgr.size
      have hl1' := HL.out k hk
      have HAT := Lib.hid hat
      have hz := h.grownBy hgr (fun j e => by
        have := no_mix h1 h e
        by_cases e2 : j = g
        · subst e2; exact absurd rfl this
        · omega)
      clear hat
      by_cases hkl : k < m
      · have hl2 := HM.out k hkl
        have hzi := hz.at_
        by_cases hx : 0 ≤ place zs (k : Int)
        · have HN := Lib.hid (HO.out k hx)
          go_wp2_with fail
          (with_reducible refine (specPlaceOf_any _ _ _ _ _ _ hzi (by omega)).mono ?_)
          rintro e w1 ⟨rfl, rfl⟩
          go_wp2
          go_roundw
          case rel => first | exact ⟨k + 1, _, _, us, by omega, by go_num, by rw [HN.out], by rw [HN.out]; exact hown, by rw [HN.out]; exact hVr, hgr, by rw [HN.out]; exact HAT.out⟩ | ((repeat apply Exists.intro); exact ⟨⟨k + 1, _, _, us, by omega, by go_num, by rw [HN.out], by rw [HN.out]; exact hown, by rw [HN.out]; exact hVr, hgr, by rw [HN.out]; exact HAT.out⟩, rfl⟩)
          case measure => simp [intOf]; omega
        · have hx2 : place zs (k : Int) < 0 := by omega
          have HN := Lib.hid (HY.out k hx2)
          clear hx
          have oe := OwnI.empty wr (lo := wr.heap.size) (hi := wr.heap.size + 1) (Nat.le_refl _) (by omega)
          have be := (Below.refl wr.heap.size wr).alloc (Nat.le_refl _) (.cells #[] 3)
          have hz2 := hzi.below be
          have se := World.size_alloc wr (.cells #[] 3)
          go_wp2_with fail
          (with_reducible refine (specPlaceOf_any _ _ _ _ _ _ hzi (by omega)).mono ?_)
          rintro e w1 ⟨rfl, rfl⟩
          go_wp2_with (at_builtin; refine wpList_append_ints _ rfl _ _ rfl wr.heap.size (wr.heap.size + 1) 0 0 _ [] rfl oe (some ⟨g, 0, none⟩) l d zs rfl hz2 (by omega) (by simp) (by simp) ?_)
          intro A2 c2 w2 ho2 hon
          have b2 := be.trans (hon.toBelow (B := wr.heap.size) (Nat.le_refl _) (by simp))
          have z2 := b2.size
          have b3 := (Below.refl w2.heap.size w2).alloc (Nat.le_refl _) (.cells #[.int .i64 (k : Int)] 3)
          have z3 := World.size_alloc w2 (.cells #[.int .i64 (k : Int)] 3)
          have ho3 : OwnI (w2.alloc (.cells #[.int .i64 (k : Int)] 3)) wr.heap.size w2.heap.size (.slice A2 l c2) zs := by simpa using ho2.belowW b3
          have c3 := new_cell w2 (.int .i64 (k : Int)) 3 rfl
          have z3a : wr.heap.size ≤ (w2.alloc (.cells #[.int .i64 (k : Int)] 3)).heap.size := by omega
          have z3b : w2.heap.size ≤ (w2.alloc (.cells #[.int .i64 (k : Int)] 3)).heap.size + 1 := by omega
          have bb := b2.trans (b3.mono z2)
          clear hon ho2 be oe se hz2 b2 b3 z3
          go_wp2_with (at_builtin; refine wpList_append_int _ rfl _ _ rfl wr.heap.size w2.heap.size l c2 A2 zs rfl ho3 (k : Int) w2.heap.size 1 rfl c3 (by omega) z3a z3b ?_)
          intro A4 c4 w4 ho4 hon4
          have b4 := bb.trans (hon4.toBelow (B := wr.heap.size) (Nat.le_refl _) bb.size)
          obtain ⟨g2, rfl, hg2, hg2'⟩ := ho4.head (by omega)
          have ho5 := ho4.tight
          have hown5 := ownsRow_below hown b4
          have hV5 := hVr.belowW b4
          have g5 := grown_below hgr b4
          have z5 := b4.size
          have q1 : (T k).length + 5 ^ f ≤ 500000 := by omega
          have q2 : lo ≤ g2 := by omega
          clear hon4 ho4 ho3 bb b4 c3 hown hVr hgr hz hzi
          go_wp2_with fail
          (with_reducible refine (ih (A1) _ cc us (T k) lo wr.heap.size g2 (l + 1) c4 (zs ++ [(k : Int)]) w4 hown5 hV5 q1 ho5 q2 hg2 HLF.out).mono ?_)
          rintro e w6 ⟨A6, c6, vs6, rfl, o6, hV6, g6, hat6⟩
          rw [← HN.out] at o6 hV6 hat6
          rw [← HN.out]
          have g7 := grown_trans g5 g6 HAT.out
          have HAT6 : Hid (∀ j, (Value.slice A6 (T (k + 1)).length c6).ownBlock = some j → (Value.slice A n c).ownBlock = some j ∨ w.heap.size ≤ j) := by
            intro j e
            rcases hat6 j e with h | h
            · exact HAT.out j h
            · right; omega
          clear g5 g6 hat6 hown5 hV5
          go_wp2
          go_roundw
          case rel => first | exact ⟨k + 1, _, _, vs6, by omega, by go_num, rfl, o6, hV6, g7, HAT6.out⟩ | ((repeat apply Exists.intro); exact ⟨⟨k + 1, _, _, vs6, by omega, by go_num, rfl, o6, hV6, g7, HAT6.out⟩, rfl⟩)
          case measure => simp [intOf]; omega
      · obtain rfl : k = m := by omega
        go_wp2
        go_ret
        exact ⟨_, _, us, rfl, hown, hVr, hgr, HAT.out⟩
set_option maxHeartbeats 800000 in
theorem implAllRankings (m : Int) (w : World) :
    Calls Try.prog 25 #[.int .i64 m] w fun e w' => ∃ A' c', e = .returned (.slice A' (allRankings m).length c') ∧ OwnR w' w.heap.size w'.heap.size (.slice A' (allRankings m).length c') (allRankings m) ∧ Below w.heap.size w w' := by
  cases hb : inB m 1 5
  · have h1 := inB_not.1 hb
    rw [allRankings_no h1]
    clear h1
    go_enter Try.func25, Try.ntmps25
    go_wp2_with (go_at_call 42; refine (within_any _ _ _ _).mono ?_; rintro e w' ⟨rfl, rfl⟩)
    go_ret
    exact ⟨none, 0, rfl, OwnR.nil _ _ _, Below.refl _ _⟩
  · obtain ⟨k, rfl, hk1, hk5⟩ : ∃ k : Nat, m = (k : Int) ∧ 1 ≤ k ∧ k ≤ 5 := by
      have := inB_iff.1 hb
      exact ⟨m.toNat, by omega, by omega, by omega⟩
    have HA := Lib.hid (allRankings_yes hk1 hk5)
    rw [HA.out]
    go_enter Try.func25, Try.ntmps25
    go_wp2_with (go_at_call 42; refine (within_any _ _ _ _).mono ?_; rintro e w' ⟨rfl, rfl⟩)
    (with_reducible refine (indices_any k _ (by omega)).mono ?_)
    rintro e w1 ⟨A1, c1, rfl, o1, b1⟩
    have hul : (upTo k).length = k := by simp [upTo]
    have HU := Lib.hid hul
    have hc := o1.ints.2.2.1
    have z1 := b1.size
    clear hul
    go_wp2_with fail
    (with_reducible refine (orders_any k A1 k c1 (upTo k) _ o1.at_ hk5 (Nat.le_refl _) hk5 hc).mono ?_)
    rintro e w2 ⟨A2, c2, rfl, o2, b2⟩
    have b3 := b1.trans (b2.mono z1)
    clear b1 b2 o1
    go_wp2
    go_ret
    exact ⟨_, _, rfl, o2.mono z1 (Nat.le_refl _), b3⟩
set_option maxHeartbeats 800000 in
theorem specAllRankings (m : Int) (w : World) :
    Calls Try.prog 22 #[.int .i64 m] w fun e w' => ∃ A' c', e = .returned (.slice A' (allRankings m).length c') ∧ OwnR w' w.heap.size w'.heap.size (.slice A' (allRankings m).length c') (allRankings m) ∧ Below w.heap.size w w' := by
  cases hb : inB m 1 5
  · have h1 := inB_not.1 hb
    rw [allRankings_no h1]
    clear h1
    go_enter Try.func22, Try.ntmps22
    go_wp2_with (go_at_call 37; refine (l01In_any _ _ _ _).mono ?_; rintro e w' ⟨rfl, rfl⟩)
    go_ret
    exact ⟨none, 0, rfl, OwnR.nil _ _ _, Below.refl _ _⟩
  · obtain ⟨k, rfl, hk1, hk5⟩ : ∃ k : Nat, m = (k : Int) ∧ 1 ≤ k ∧ k ≤ 5 := by
      have := inB_iff.1 hb
      exact ⟨m.toNat, by omega, by omega, by omega⟩
    have HA : Hid (allRankings (k : Int) = extend k k []) := (allRankings_yes hk1 hk5).trans (orders_extend hk1 hk5)
    rw [HA.out]
    have b0 := (Below.refl w.heap.size w).alloc (Nat.le_refl _) (.cells #[] 38)
    have z0 := World.size_alloc w (.cells #[] 38)
    have r0 : (w.alloc (.cells #[] 38)).ownsRow w.heap.size 38 1 (.slice (some ⟨w.heap.size, 0, none⟩) 0 0) 0 [] := World.ownsRow_lit (e := 38) (size := 1) (base := w.heap.size) w #[] 0 (Nat.le_refl _) (by unfold maxLen; omega) rfl
    have b1 := (Below.refl (w.alloc (.cells #[] 38)).heap.size (w.alloc (.cells #[] 38))).alloc (Nat.le_refl _) (.cells #[] 3)
    have r1 := ownsRow_below r0 b1
    have v1 : RowsV ((w.alloc (.cells #[] 38)).alloc (.cells #[] 3)) w.heap.size w.heap.size [] [] := RowsV.nil
    have o1 := (OwnI.empty (w.alloc (.cells #[] 38)) (lo := w.heap.size) (hi := w.heap.size + 2) (by omega) (by omega)).tight
    have bb := b0.trans (b1.mono (by omega))
    have h5 : 5 ^ k ≤ 5 ^ 5 := Nat.pow_le_pow_right (by omega) hk5
    have q1 : 0 + 5 ^ k ≤ 500000 := by omega
    have q2 : w.heap.size ≤ (w.alloc (.cells #[] 38)).heap.size := by omega
    rw [z0] at o1 q2
    clear b0 b1 r0 z0 h5
    go_enter Try.func22, Try.ntmps22
    go_wp2_with (go_at_call 37; refine (l01In_any _ _ _ _).mono ?_; rintro e w' ⟨rfl, rfl⟩)
    (with_reducible refine (l03All_any k hk5 k (some ⟨w.heap.size, 0, none⟩) 0 0 [] [] w.heap.size w.heap.size (w.heap.size + 1) 0 0 [] _ r1 v1 q1 o1 q2 q2 (by omega)).mono ?_)
    rintro e w4 ⟨A4, c4, vs4, rfl, o4, v4, g4, hat4⟩
    rw [List.nil_append] at o4 v4
    rw [List.nil_append]
    have b4 : Below w.heap.size w w4 := below_of_below bb g4 (fun j e => by simp [Value.ownBlock] at e; omega)
    clear g4 hat4 bb r1 v1 o1
    go_wp2
    go_ret
    exact ⟨_, _, rfl, ownR_iff.2 ⟨vs4, o4, fun j e => (World.ownsRow.lt o4 j e).2, v4⟩, b4⟩
end Go.Proofs.Ytnoanomihifobaa
