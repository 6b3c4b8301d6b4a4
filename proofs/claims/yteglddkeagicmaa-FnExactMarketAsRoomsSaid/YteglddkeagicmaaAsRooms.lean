/- A market as rooms for two: both sides. -/
import Derived.Test.YteglddkeagicmaaMkRooms
namespace Go.Proofs.Yteglddkeagicmaa
set_option linter.unusedVariables false
open Go.RowKit

def mrRow (xss yss : List (List Int)) (n i : Nat) : List Int := if i < n then addTo n (rx xss i) ++ addTo 0 (cutAt (upTo n) i) else rx yss (i - n) ++ addTo n (cutAt (upTo n) (i - n))
theorem mrRow_man {xss yss : List (List Int)} {n i : Nat} (h : i < n) : mrRow xss yss n i = addTo n (rx xss i) ++ addTo 0 (cutAt (upTo n) i) := by unfold mrRow; rw [if_pos h]
theorem mrRow_wom {xss yss : List (List Int)} {n i : Nat} : mrRow xss yss n (n + i) = rx yss i ++ addTo n (cutAt (upTo n) i) := by unfold mrRow; rw [if_neg (by omega), Nat.add_sub_cancel_left]
def mrTo (xss yss : List (List Int)) (n k : Nat) : List (List Int) := (List.range k).map (mrRow xss yss n)
theorem mrTo_succ {xss yss : List (List Int)} {n k : Nat} : mrTo xss yss n (k + 1) = mrTo xss yss n k ++ [mrRow xss yss n k] := by unfold mrTo; rw [List.range_succ, List.map_append]; rfl
theorem mrTo_len {xss yss : List (List Int)} {n k : Nat} : (mrTo xss yss n k).length = k := by simp [mrTo]
def asOk (xss yss : List (List Int)) : Bool := marketOk xss yss && decide (xss.length ≤ 3)
def asRooms (xss yss : List (List Int)) : List (List Int) := if asOk xss yss then mrTo xss yss xss.length (xss.length + xss.length) else []
theorem asRooms_no {xss yss : List (List Int)} (h : asOk xss yss = false) : asRooms xss yss = [] := by unfold asRooms; rw [h]; rfl
theorem asRooms_yes {xss yss : List (List Int)} (h : asOk xss yss = true) : asRooms xss yss = mrTo xss yss xss.length (xss.length + xss.length) := by unfold asRooms; rw [h]; rfl
theorem cut_len {n i : Nat} (h : i < n) : (cutAt (upTo n) i).length = n - 1 := by
  have h2 : (upTo n).length = n := by simp [upTo]
  have := cutAt_len (zs := upTo n) (i := i) (by omega)
  omega
theorem mrRow_len {xss yss : List (List Int)} {n i : Nat} (F : MarketF xss yss) (e : xss.length = n) (h : i < n + n) : (mrRow xss yss n i).length = n + (n - 1) := by
  subst e
  by_cases h1 : i < xss.length
  · rw [mrRow_man h1, List.length_append, addTo_len, addTo_len, cut_len h1, rank_len (F.mr i h1)]
  · obtain ⟨j, rfl⟩ : ∃ j, i = xss.length + j := ⟨i - xss.length, by omega⟩
    rw [mrRow_wom, List.length_append, addTo_len, cut_len (by omega), rank_len (F.wr j (by omega))]
theorem asRooms_bd {xss yss : List (List Int)} : (asRooms xss yss).length ≤ 1048576 ∧ ∀ xs ∈ asRooms xss yss, xs.length ≤ 1048576 := by
  cases h : asOk xss yss
  · rw [asRooms_no h]; simp
  · rw [asRooms_yes h]
    unfold asOk at h
    rw [Bool.and_eq_true, decide_eq_true_eq] at h
    refine ⟨by rw [mrTo_len]; omega, fun x hx => ?_⟩
    obtain ⟨i, hi, rfl⟩ := List.mem_map.1 hx
    rw [mrRow_len (market_facts h.1) rfl (List.mem_range.1 hi)]
    omega
theorem row_bd {n : Nat} {xs : List Int} (h : rankOk n xs = true) (hn : n ≤ 5) : ∀ j, j < xs.length → 0 ≤ ix xs j ∧ ix xs j ≤ 1000000 := by
  intro j hj
  have := (rankOk_facts h).2.2.2 j hj
  omega
set_option maxRecDepth 100000 in
set_option maxHeartbeats 4000000 in
theorem implMarketAsRooms (A : Option Addr) (n c : Nat) (xss : List (List Int)) (B : Option Addr) (m d : Nat) (yss : List (List Int)) (w : World) (h : RowsAt w A n xss) (hn : n ≤ 1048576) (hx : ∀ xs ∈ xss, xs.length ≤ 1048576)
    (g : RowsAt w B m yss) (hm : m ≤ 1048576) (hy : ∀ xs ∈ yss, xs.length ≤ 1048576) :
    Calls Try.prog 40 #[.agg #[.slice A n c, .slice B m d]] w fun e w' => ∃ A' c', e = .returned (.tuple #[.slice A' (asRooms xss yss).length c', .bool (asOk xss yss)]) ∧ OwnR w' w.heap.size w'.heap.size (.slice A' (asRooms xss yss).length c') (asRooms xss yss) ∧ (asRooms xss yss).length ≤ 1048576 ∧ (∀ xs ∈ asRooms xss yss, xs.length ≤ 1048576) ∧ Below w.heap.size w w' := by
  obtain rfl := h.len
  obtain rfl := g.len
  have HX := Lib.hid hx
  have HY := Lib.hid hy
  clear hx hy
  have hK := MktAt.new (c := c) (d := d) h g 44
  have hall := pair_below w (.slice A xss.length c) (.slice B yss.length d) 44
  have hs := World.size_alloc w (.cells #[.slice A xss.length c, .slice B yss.length d] 44)
  have x0 := hK.c0
  have x1 := hK.c1
  obtain ⟨hsl, hsr⟩ := asRooms_bd (xss := xss) (yss := yss)
  have HSR := Lib.hid hsr
  clear hsr
  cases hok : marketOk xss yss
  · have ea : asOk xss yss = false := by unfold asOk; rw [hok]; rfl
    rw [asRooms_no ea, ea]
    clear ea
    go_enter Try.func40, Try.ntmps40
    go_wp2_with fail
    generalize w.alloc (.cells #[.slice A xss.length c, .slice B yss.length d] 44) = w0 at *
    (with_reducible refine (implMarketOk _ _ _ _ _ _ _ _ _ hK.men hn HX.out hK.women hm HY.out).mono ?_)
    rintro e w1 ⟨rfl, b1⟩
    rw [hok]
    have b2 := hall.trans (b1.mono hall.size)
    clear b1 hok x0 x1
    go_wp2
    go_ret2
    exact ⟨none, 0, rfl, OwnR.nil _ _ _, by simp, by simp, b2⟩
  have F := market_facts hok
  have l1 := F.lo
  by_cases h3 : xss.length ≤ 3
  case neg =>
    have ea : asOk xss yss = false := by unfold asOk; rw [hok]; simp; omega
    rw [asRooms_no ea, ea]
    have n3 : (3 : Int) < (xss.length : Int) := by omega
    clear ea h3
    go_enter Try.func40, Try.ntmps40
    go_wp2_with fail
    generalize w.alloc (.cells #[.slice A xss.length c, .slice B yss.length d] 44) = w0 at *
    (with_reducible refine (implMarketOk _ _ _ _ _ _ _ _ _ hK.men hn HX.out hK.women hm HY.out).mono ?_)
    rintro e w1 ⟨rfl, b1⟩
    rw [hok]
    have b2 := hall.trans (b1.mono hall.size)
    clear b1 hok x0 x1
    go_wp2
    go_ret2
    exact ⟨none, 0, rfl, OwnR.nil _ _ _, by simp, by simp, b2⟩
  have ea : asOk xss yss = true := by unfold asOk; rw [hok]; simp; omega
  have HSY := Lib.hid (asRooms_yes ea)
  rw [ea]
  have HRL := Lib.hid (fun i (hi : i < xss.length + xss.length) => mrRow_len F rfl hi)
  have HMM := Lib.hid (fun i (hi : i < xss.length) => mrRow_man (xss := xss) (yss := yss) hi)
  have HMW := Lib.hid (fun i => mrRow_wom (xss := xss) (yss := yss) (n := xss.length) (i := i))
  have HTS := Lib.hid (fun k => mrTo_succ (xss := xss) (yss := yss) (n := xss.length) (k := k))
  have HT0 : Hid (mrTo xss yss xss.length 0 = []) := rfl
  have HTL := Lib.hid (fun k => mrTo_len (xss := xss) (yss := yss) (n := xss.length) (k := k))
  have HF := Lib.hid F
  have yl := F.wl
  have HYL := Lib.hid yl
  have n3 : ¬ ((3 : Int) < (xss.length : Int)) := by omega
  clear ea F yl
  generalize asRooms xss yss = SP at *
  obtain ⟨T, hT⟩ : ∃ T : Nat → List (List Int), ∀ k, T k = mrTo xss yss xss.length k := ⟨_, fun _ => rfl⟩
  obtain ⟨R, hR⟩ : ∃ R : Nat → List Int, ∀ k, R k = mrRow xss yss xss.length k := ⟨_, fun _ => rfl⟩
  simp only [← hT, ← hR] at HSY HRL HMM HMW HTS HT0 HTL
  clear hT hR
  go_enter Try.func40, Try.ntmps40
  go_wp2_with fail
  generalize w.alloc (.cells #[.slice A xss.length c, .slice B yss.length d] 44) = w0 at *
  (with_reducible refine (implMarketOk _ _ _ _ _ _ _ _ _ hK.men hn HX.out hK.women hm HY.out).mono ?_)
  rintro e w1 ⟨rfl, b1⟩
  rw [hok]
  have hs1 : w.heap.size ≤ w0.heap.size := by omega
  have K0 := hK.below b1
  have x0 := K0.c0
  have x1 := K0.c1
  have z1 := b1.size
  clear hok hs
  go_wp2
  go_loopw [5, 6, 7, 23] (fun v _ _ i wr => ∃ (k : Nat) (A' : Option Addr) (c' : Nat), k ≤ xss.length ∧ i = .int .i64 k ∧ v = .slice A' k c' ∧ OwnR wr w0.heap.size wr.heap.size (.slice A' k c') (T k) ∧ Below w0.heap.size w0 wr) (fun _ _ _ i _ => xss.length - (intOf i).toNat)
  case atStart => exact ⟨0, none, 0, Nat.zero_le _, rfl, rfl, by rw [HT0.out]; exact OwnR.nil _ _ _, b1⟩
  case round =>
    obtain ⟨k, A1, c1, hk, rfl, rfl, hown, hb⟩ := hrel
    obtain ⟨wo, rfl⟩ : ∃ wo, wo = wr := ⟨_, rfl⟩
    have zr := hb.size
    have K3 := hK.below hb
    clear b1 K0 x0 x1
    by_cases hlt : k < xss.length
    · obtain ⟨bb, oo, Ar, cr, rfl, _, hck, hcr, hir⟩ := K3.men.at_ hlt
      have hrl := rank_len (HF.out.mr k hlt)
      have RB := Lib.hid (row_bd (HF.out.mr k hlt) (by omega))
      have rl3 : (rx xss k).length ≤ 3 := by omega
      have HRL3 := Lib.hid hrl
      clear hrl K3
      go_wp2_with fail
      (with_reducible refine (shifted_any Ar _ cr (rx xss k) (xss.length : Int) _ hir (by omega) RB.out (by omega) (by omega)).mono ?_)
      rintro e w2 ⟨A2, c2, rfl, o2, b2⟩
      have hown2 := hown.belowW b2
      have hb2 := hb.trans (b2.mono zr)
      have z2 := b2.size
      clear hown hb b2 hck hir
      go_wp2_with fail
      (with_reducible refine (others_any xss.length k 0 _ hlt h3 (by omega) (by omega)).mono ?_)
      rintro e w3 ⟨A3, c3, rfl, o3, b3⟩
      have hown3 := hown2.belowW b3
      have hb3 := hb2.trans (b3.mono hb2.size)
      have o2' := o2.belowW b3
      have z3 := b3.size
      have i2 := o2'.at_
      have i3 := o3.at_
      have cc2 := o2'.ints.2.2.1
      have cc3 := o3.ints.2.2.1
      have PR := Lib.hid (RowsAt.pair i2 i3 cc2 cc3 22)
      have eF : flatL [addTo (xss.length : Int) (rx xss k), addTo 0 (cutAt (upTo xss.length) k)] = R (k) := by rw [flatL_2]; exact ((HMM.out k hlt)).symm
      have HEF := Lib.hid eF
      have HFL : Hid ((flatL [addTo (xss.length : Int) (rx xss k), addTo 0 (cutAt (upTo xss.length) k)]).length ≤ 1048576) := by show _ ≤ _; rw [HEF.out, HRL.out _ (by omega)]; omega
      have bP := (Below.refl w3.heap.size w3).alloc (Nat.le_refl _) (.cells #[.slice A2 (rx xss k).length c2, .slice A3 (xss.length - 1) c3] 22)
      have zP := bP.size
      have hownP := hown3.belowW bP
      have hbP := hb3.trans (bP.mono hb3.size)
      clear eF bP hown3 hb3 i2 i3 cc2 cc3 o3
      go_wp2_with fail
      (with_reducible refine (concat_any _ 2 2 [addTo (xss.length : Int) (rx xss k), addTo 0 (cutAt (upTo xss.length) k)] _ PR.out (by omega) HFL.out).mono ?_)
      rintro e w9 ⟨A9, c9, rfl, o9, b9⟩
      rw [HEF.out] at o9 ⊢
      have z9 := b9.size
      have ho9 := hownP.belowW b9
      have hb9 := hbP.trans (b9.mono hbP.size)
      have bC := (Below.refl w9.heap.size w9).alloc (Nat.le_refl _) (.cells #[.slice A9 (R (k)).length c9] 22)
      have hbC := hb9.trans (bC.mono hb9.size)
      have q1 : wo.heap.size ≤ (w3.alloc (.cells #[.slice A2 (rx xss k).length c2, .slice A3 (xss.length - 1) c3] 22)).heap.size := Nat.le_trans z2 (Nat.le_trans z3 zP)
      have q2 : w0.heap.size ≤ (w9.alloc (.cells #[.slice A9 (R (k)).length c9] 22)).heap.size := hbC.size
      have q3 : w9.heap.size ≤ (w9.alloc (.cells #[.slice A9 (R (k)).length c9] 22)).heap.size := bC.size
      clear hownP hbP b9 PR HFL bC
      go_wp2_with (at_builtin; refine wpList_append_row _ rfl _ _ rfl w0.heap.size wo.heap.size (k) _ _ _ rfl (ho9.alloc _) A9 (R (k)).length c9 (R (k)) _ _ (o9.alloc _) q1 q3 _ 1 rfl (new_cell _ _ _ rfl) (by omega) zr q2 ?_)
      intro Af cf wf hof hon
      have HTK := Lib.hid (HTS.out (k))
      rw [← HTK.out] at hof
      have hbf : Below w0.heap.size w0 wf := hbC.trans (hon.toBelow (Nat.le_refl _) q2)
      clear hon ho9 hb9 hbC o9
      go_wp2
      go_roundw
      case rel => first | exact ⟨k + 1, _, _, by omega, by go_num, rfl, hof, hbf⟩ | ((repeat apply Exists.intro); exact ⟨⟨k + 1, _, _, by omega, by go_num, rfl, hof, hbf⟩, rfl⟩)
      case measure => simp [intOf]; omega
    · obtain rfl : k = xss.length := by omega
      have x0 := K3.c0
      have x1 := K3.c1
      clear K3
      have hyl1 : yss.length ≤ xss.length := by have := HYL.out; omega
      have hyl2 : xss.length ≤ yss.length := by have := HYL.out; omega
      go_wp2
      go_loopw [5, 8, 9, 43] (fun v _ _ i wr => ∃ (k : Nat) (A' : Option Addr) (c' : Nat), k ≤ yss.length ∧ i = .int .i64 k ∧ v = .slice A' (xss.length + k) c' ∧ OwnR wr w0.heap.size wr.heap.size (.slice A' (xss.length + k) c') (T (xss.length + k)) ∧ Below w0.heap.size w0 wr) (fun _ _ _ i _ => yss.length - (intOf i).toNat)
      case atStart => exact ⟨0, _, _, Nat.zero_le _, rfl, rfl, hown, hb⟩
      case round =>
        obtain ⟨k, A1, c1, hk, rfl, rfl, hown, hb⟩ := hrel
        have zr := hb.size
        have K3 := hK.below hb
        clear x0 x1
        by_cases hlt : k < yss.length
        · obtain ⟨bb, oo, Ar, cr, rfl, _, hck, hcr, hir⟩ := K3.women.at_ hlt
          have hltx : k < xss.length := by omega
          have hrl := rank_len (HF.out.wr k hltx)
          have rl3 : (rx yss k).length ≤ 3 := by omega
          have HRL3 := Lib.hid hrl
          clear hrl K3
          go_wp2_with fail
          (with_reducible refine (others_any xss.length k (xss.length : Int) _ hltx h3 (by omega) (by omega)).mono ?_)
          rintro e w3 ⟨A3, c3, rfl, o3, b3⟩
          have hown3 := hown.belowW b3
          have hb3 := hb.trans (b3.mono zr)
          have z2 : wr.heap.size ≤ wr.heap.size := Nat.le_refl _
          have z3 := b3.size
          have i2 := hir.below b3
          have i3 := o3.at_
          have cc3 := o3.ints.2.2.1
          clear hck hir hown hb b3
          have PR := Lib.hid (RowsAt.pair i2 i3 hcr cc3 22)
          have eF : flatL [rx yss k, addTo (xss.length : Int) (cutAt (upTo xss.length) k)] = R (xss.length + k) := by rw [flatL_2]; exact ((HMW.out k)).symm
          have HEF := Lib.hid eF
          have HFL : Hid ((flatL [rx yss k, addTo (xss.length : Int) (cutAt (upTo xss.length) k)]).length ≤ 1048576) := by show _ ≤ _; rw [HEF.out, HRL.out _ (by omega)]; omega
          have bP := (Below.refl w3.heap.size w3).alloc (Nat.le_refl _) (.cells #[.slice Ar (rx yss k).length cr, .slice A3 (xss.length - 1) c3] 22)
          have zP := bP.size
          have hownP := hown3.belowW bP
          have hbP := hb3.trans (bP.mono hb3.size)
          clear eF bP hown3 hb3 i2 i3 cc3 o3
          go_wp2_with fail
          (with_reducible refine (concat_any _ 2 2 [rx yss k, addTo (xss.length : Int) (cutAt (upTo xss.length) k)] _ PR.out (by omega) HFL.out).mono ?_)
          rintro e w9 ⟨A9, c9, rfl, o9, b9⟩
          rw [HEF.out] at o9 ⊢
          have z9 := b9.size
          have ho9 := hownP.belowW b9
          have hb9 := hbP.trans (b9.mono hbP.size)
          have bC := (Below.refl w9.heap.size w9).alloc (Nat.le_refl _) (.cells #[.slice A9 (R (xss.length + k)).length c9] 22)
          have hbC := hb9.trans (bC.mono hb9.size)
          have q1 : wr.heap.size ≤ (w3.alloc (.cells #[.slice Ar (rx yss k).length cr, .slice A3 (xss.length - 1) c3] 22)).heap.size := Nat.le_trans z2 (Nat.le_trans z3 zP)
          have q2 : w0.heap.size ≤ (w9.alloc (.cells #[.slice A9 (R (xss.length + k)).length c9] 22)).heap.size := hbC.size
          have q3 : w9.heap.size ≤ (w9.alloc (.cells #[.slice A9 (R (xss.length + k)).length c9] 22)).heap.size := bC.size
          clear hownP hbP b9 PR HFL bC
          go_wp2_with (at_builtin; refine wpList_append_row _ rfl _ _ rfl w0.heap.size wr.heap.size (xss.length + k) _ _ _ rfl (ho9.alloc _) A9 (R (xss.length + k)).length c9 (R (xss.length + k)) _ _ (o9.alloc _) q1 q3 _ 1 rfl (new_cell _ _ _ rfl) (by omega) zr q2 ?_)
          intro Af cf wf hof hon
          have HTK := Lib.hid (HTS.out (xss.length + k))
          rw [← HTK.out] at hof
          have hbf : Below w0.heap.size w0 wf := hbC.trans (hon.toBelow (Nat.le_refl _) q2)
          clear hon ho9 hb9 hbC o9
          go_wp2
          go_roundw
          case rel => first | exact ⟨k + 1, _, _, by omega, by go_num, rfl, hof, hbf⟩ | ((repeat apply Exists.intro); exact ⟨⟨k + 1, _, _, by omega, by go_num, rfl, hof, hbf⟩, rfl⟩)
          case measure => simp [intOf]; omega
        · have hke : k = xss.length := by omega
          have hfin : T (xss.length + k) = SP := by rw [hke, HSY.out]
          have hln : SP.length = xss.length + k := by rw [← hfin, HTL.out]
          rw [hfin] at hown
          have HLN := Lib.hid hln
          clear hfin hln hke
          go_wp2
          go_ret2
          rw [HLN.out]
          exact ⟨_, _, rfl, hown.mono hs1 (Nat.le_refl _), by omega, HSR.out, hall.trans (hb.mono hs1)⟩
end Go.Proofs.Yteglddkeagicmaa
