/- A market as rooms for two: the reference's side. -/
import Derived.Test.YteglddkeagicmaaAsRooms
namespace Go.Proofs.Yteglddkeagicmaa
set_option linter.unusedVariables false
open Go.RowKit

/-- the numbers below q but one -/
def cutTo (j q : Nat) : List Int := ((List.range q).filter (fun x => x != j)).map fun (x : Nat) => (x : Int)
theorem cutTo_yes {j q : Nat} (h : q ≠ j) : cutTo j (q + 1) = cutTo j q ++ [(q : Int)] := by
  unfold cutTo; rw [List.range_succ, List.filter_append, List.map_append]; simp [h]
theorem cutTo_no {j : Nat} : cutTo j (j + 1) = cutTo j j := by
  unfold cutTo; rw [List.range_succ, List.filter_append, List.map_append]; simp
theorem cutTo_all {n j : Nat} (h : j < n) (hn : n ≤ 3) : cutTo j n = cutAt (upTo n) j := by
  obtain ⟨rfl, rfl⟩ | ⟨rfl, rfl⟩ | ⟨rfl, rfl⟩ | ⟨rfl, rfl⟩ | ⟨rfl, rfl⟩ | ⟨rfl, rfl⟩ : (n = 1 ∧ j = 0) ∨ (n = 2 ∧ j = 0) ∨ (n = 2 ∧ j = 1) ∨ (n = 3 ∧ j = 0) ∨ (n = 3 ∧ j = 1) ∨ (n = 3 ∧ j = 2) := by omega
  all_goals decide +kernel
theorem cutTo_len {j q : Nat} : (cutTo j q).length ≤ q := by
  unfold cutTo
  rw [List.length_map]
  exact Nat.le_trans (List.length_filter_le _ _) (by simp)
set_option maxRecDepth 100000 in
set_option maxHeartbeats 4000000 in
theorem specMarketAsRooms (A : Option Addr) (n c : Nat) (xss : List (List Int)) (B : Option Addr) (m d : Nat) (yss : List (List Int)) (w : World) (h : RowsAt w A n xss) (hn : n ≤ 1048576) (hx : ∀ xs ∈ xss, xs.length ≤ 1048576)
    (g : RowsAt w B m yss) (hm : m ≤ 1048576) (hy : ∀ xs ∈ yss, xs.length ≤ 1048576) :
    Calls Try.prog 38 #[.agg #[.slice A n c, .slice B m d]] w fun e w' => ∃ A' c', e = .returned (.tuple #[.slice A' (asRooms xss yss).length c', .bool (asOk xss yss)]) ∧ OwnR w' w.heap.size w'.heap.size (.slice A' (asRooms xss yss).length c') (asRooms xss yss) ∧ (asRooms xss yss).length ≤ 1048576 ∧ (∀ xs ∈ asRooms xss yss, xs.length ≤ 1048576) ∧ Below w.heap.size w w' := by
  obtain rfl := h.len
  obtain rfl := g.len
  have HX := Lib.hid hx
  have HY := Lib.hid hy
  clear hx hy
  have hK := MktAt.new (c := c) (d := d) h g 44
  have hall := pair_below w (.slice A xss.length c) (.slice B yss.length d) 44
  have hs := World.size_alloc w (.cells #[.slice A xss.length c, .slice B yss.length d] 44)
  have x0 := hK.c0
  have x1 := hK.c1
  obtain ⟨hsl, hsr⟩ := asRooms_bd (xss := xss) (yss := yss)
  have HSR := Lib.hid hsr
  clear hsr
  cases hok : marketOk xss yss
  · have ea : asOk xss yss = false := by unfold asOk; rw [hok]; rfl
    rw [asRooms_no ea, ea]
    clear ea
    go_enter Try.func38, Try.ntmps38
    go_wp2_with fail
    generalize w.alloc (.cells #[.slice A xss.length c, .slice B yss.length d] 44) = w0 at *
    (with_reducible refine (specMarketOk _ _ _ _ _ _ _ _ _ hK.men hn HX.out hK.women hm HY.out).mono ?_)
    rintro e w1 ⟨rfl, b1⟩
    rw [hok]
    have b2 := hall.trans (b1.mono hall.size)
    clear b1 hok x0 x1
    go_wp2
    go_ret2
    exact ⟨none, 0, rfl, OwnR.nil _ _ _, by simp, by simp, b2⟩
  have F := market_facts hok
  have l1 := F.lo
  by_cases h3 : xss.length ≤ 3
  case neg =>
    have ea : asOk xss yss = false := by unfold asOk; rw [hok]; simp; omega
    rw [asRooms_no ea, ea]
    have n3 : (3 : Int) < (xss.length : Int) := by omega
    clear ea h3
    go_enter Try.func38, Try.ntmps38
    go_wp2_with fail
    generalize w.alloc (.cells #[.slice A xss.length c, .slice B yss.length d] 44) = w0 at *
    (with_reducible refine (specMarketOk _ _ _ _ _ _ _ _ _ hK.men hn HX.out hK.women hm HY.out).mono ?_)
    rintro e w1 ⟨rfl, b1⟩
    rw [hok]
    have b2 := hall.trans (b1.mono hall.size)
    clear b1 hok x0 x1
    go_wp2
    go_ret2
    exact ⟨none, 0, rfl, OwnR.nil _ _ _, by simp, by simp, b2⟩
  have ea : asOk xss yss = true := by unfold asOk; rw [hok]; simp; omega
  have HSY := Lib.hid (asRooms_yes ea)
  rw [ea]
  have HRL := Lib.hid (fun i (hi : i < xss.length + xss.length) => mrRow_len F rfl hi)
  have HMM := Lib.hid (fun i (hi : i < xss.length) => mrRow_man (xss := xss) (yss := yss) hi)
  have HMW := Lib.hid (fun i => mrRow_wom (xss := xss) (yss := yss) (n := xss.length) (i := i))
  have HTS := Lib.hid (fun k => mrTo_succ (xss := xss) (yss := yss) (n := xss.length) (k := k))
  have HT0 : Hid (mrTo xss yss xss.length 0 = []) := rfl
  have HTL := Lib.hid (fun k => mrTo_len (xss := xss) (yss := yss) (n := xss.length) (k := k))
  have HF := Lib.hid F
  have yl := F.wl
  have HYL := Lib.hid yl
  have n3 : ¬ ((3 : Int) < (xss.length : Int)) := by omega
  clear ea F yl
  generalize asRooms xss yss = SP at *
  obtain ⟨T, hT⟩ : ∃ T : Nat → List (List Int), ∀ k, T k = mrTo xss yss xss.length k := ⟨_, fun _ => rfl⟩
  obtain ⟨R, hR⟩ : ∃ R : Nat → List Int, ∀ k, R k = mrRow xss yss xss.length k := ⟨_, fun _ => rfl⟩
  simp only [← hT, ← hR] at HSY HRL HMM HMW HTS HT0 HTL
  clear hT hR
  go_enter Try.func38, Try.ntmps38
  go_wp2_with fail
  generalize w.alloc (.cells #[.slice A xss.length c, .slice B yss.length d] 44) = w0 at *
  (with_reducible refine (specMarketOk _ _ _ _ _ _ _ _ _ hK.men hn HX.out hK.women hm HY.out).mono ?_)
  rintro e w1 ⟨rfl, b1⟩
  rw [hok]
  have hs1 : w.heap.size ≤ w0.heap.size := by omega
  have K0 := hK.below b1
  have x0 := K0.c0
  have x1 := K0.c1
  have z1 := b1.size
  clear hok hs
  have b2 := (Below.refl w1.heap.size w1).alloc (Nat.le_refl _) (.cells #[] 22)
  have e2 := World.size_alloc w1 (.cells #[] 22)
  have o0 := OwnR.empty w1 (lo := w0.heap.size) (hi := w1.heap.size + 1) z1 (by omega)
  have o1 : OwnR (w1.alloc (.cells #[] 22)) w0.heap.size (w1.alloc (.cells #[] 22)).heap.size (.slice (some ⟨w1.heap.size, 0, none⟩) 0 0) (T 0) := by rw [HT0.out]; exact o0.mono (Nat.le_refl _) (by omega)
  have b3 := b1.trans (b2.mono z1)
  clear b1 b2 e2 o0
  go_wp2
  go_loopw [5, 6, 7, 8, 9] (fun v i_ _ _ _ wr => ∃ (i : Nat) (A' : Option Addr) (c' : Nat), i ≤ xss.length + xss.length ∧ i_ = .int .i64 i ∧ v = .slice A' i c' ∧ OwnR wr w0.heap.size wr.heap.size (.slice A' i c') (T i) ∧ Below w0.heap.size w0 wr) (fun _ i_ _ _ _ _ => xss.length + xss.length - (intOf i_).toNat)
  case atStart => exact ⟨0, _, _, Nat.zero_le _, rfl, rfl, o1, b3⟩
  case round =>
    obtain ⟨i, A1, c1, hi, rfl, rfl, hown, hb⟩ := hrel
    obtain ⟨wo, rfl⟩ : ∃ wo, wo = wr := ⟨_, rfl⟩
    have zr := hb.size
    clear o1 b3 x0 x1 K0
    by_cases hin : i < xss.length
    · have t2 : (i : Int) < 2 * (xss.length : Int) := by omega
      have RN := rank_len (HF.out.mr i hin)
      have HRN := Lib.hid RN
      have RB := Lib.hid (row_bd (HF.out.mr i hin) (by omega))
      have HLS : Hid (∀ k, k < xss.length → addTo (xss.length : Int) ((rx xss i).take (k + 1)) = addTo (xss.length : Int) ((rx xss i).take k) ++ [(xss.length : Int) + ix (rx xss i) k]) := fun k hk => by rw [Int.add_comm]; exact addTo_take (by omega)
      have HLE : Hid (addTo (xss.length : Int) ((rx xss i).take xss.length) = addTo (xss.length : Int) (rx xss i)) := by show _ = _; rw [List.take_of_length_le (by omega)]
      have HL0 : Hid (addTo (xss.length : Int) ((rx xss i).take 0) = []) := rfl
      have HMR : Hid (R i = addTo (xss.length : Int) (rx xss i) ++ addTo 0 (cutTo i xss.length)) := by show _ = _; rw [HMM.out i hin, cutTo_all hin h3]
      have dv : ((i : Int)).tdiv (xss.length : Int) = 0 := Int.tdiv_eq_zero_of_lt (by omega) (by omega)
      have iin : (i : Int) < (xss.length : Int) := by omega
      clear RN
      obtain ⟨L, hL⟩ : ∃ L : Nat → List Int, ∀ k, L k = addTo (xss.length : Int) ((rx xss i).take k) := ⟨_, fun _ => rfl⟩
      simp only [← hL] at HLS HLE HL0
      clear hL
      obtain ⟨M, hM⟩ : ∃ M : Nat → List Int, ∀ q, M q = addTo (xss.length : Int) (rx xss i) ++ addTo (0 : Int) (cutTo i q) := ⟨_, fun _ => rfl⟩
      have HM0 : Hid (M 0 = addTo (xss.length : Int) (rx xss i)) := by show _ = _; rw [hM]; simp [cutTo, addTo]
      have HMY : Hid (∀ q, q ≠ i → M (q + 1) = M q ++ [(q : Int) + (0 : Int)]) := fun q hq => by rw [hM, hM, cutTo_yes hq]; unfold addTo; rw [List.map_append, List.append_assoc]; rfl
      have HMN : Hid (M (i + 1) = M i) := by show _ = _; rw [hM, hM, cutTo_no]
      have HME : Hid (M xss.length = R i) := by show _ = _; rw [hM, HMR.out]
      have HMLn : Hid (∀ q, q ≤ xss.length → (M q).length ≤ 10) := fun q hq => by
        rw [hM, List.length_append]
        have h1 := cutTo_len (j := i) (q := q)
        have h0 : (addTo (0 : Int) (cutTo i q)).length = (cutTo i q).length := addTo_len
        have h2 : (addTo (xss.length : Int) (rx xss i)).length ≤ 3 := by rw [addTo_len]; have := HRN.out; omega
        omega
      clear hM
      have ol := OwnI.empty wo (lo := wo.heap.size) (hi := wo.heap.size + 1) (Nat.le_refl _) (by omega)
      have bl := (Below.refl wo.heap.size wo).alloc (Nat.le_refl _) (.cells #[] 3)
      have zl := World.size_alloc wo (.cells #[] 3)
      have hownl := hown.belowW bl
      have hbl := hb.trans (bl.mono zr)
      have ol2 : OwnI (wo.alloc (.cells #[] 3)) wo.heap.size (wo.alloc (.cells #[] 3)).heap.size (.slice (some ⟨wo.heap.size, 0, none⟩) 0 0) (L 0) := by rw [HL0.out]; exact ol.mono (Nat.le_refl _) (by omega)
      have zl2 : wo.heap.size ≤ (wo.alloc (.cells #[] 3)).heap.size := by omega
      have x0 := (hK.below hb).c0
      clear ol bl zl hown hb
      go_wp2
      go_loopw [7, 8] (fun v k_ wr => ∃ (k : Nat) (A' : Option Addr) (c' : Nat), k ≤ xss.length ∧ k_ = .int .i64 k ∧ v = .slice A' k c' ∧ OwnI wr wo.heap.size wr.heap.size (.slice A' k c') (L k) ∧ OwnR wr w0.heap.size wo.heap.size (.slice A1 i c1) (T i) ∧ Below w0.heap.size w0 wr ∧ wo.heap.size ≤ wr.heap.size) (fun _ k_ _ => xss.length - (intOf k_).toNat)
      case atStart => exact ⟨0, _, _, Nat.zero_le _, rfl, rfl, ol2, hownl, hbl, zl2⟩
      case round =>
        obtain ⟨k, A2, c2, hk, rfl, rfl, hol, hown, hb, hz⟩ := hrel
        have zq := hb.size
        have K3 := hK.below hb
        have x0 := K3.c0
        have x1 := K3.c1
        clear ol2 hownl hbl zl2
        by_cases hkl : k < xss.length
        · have k1 : (0 : Int) ≤ (k : Int) := by omega
          have k2 : (k : Int) < (xss.length : Int) := by omega
          obtain ⟨bb, oo, Ar, cr, eA, _, hck, hcr, hir⟩ := K3.men.at_ hin
          cases eA
          obtain ⟨b2, o2, eR, _, hcv⟩ := hir.at_ (show k < (rx xss i).length by have := HRN.out; omega)
          cases eR
          have hv := hcv k (by have := HRN.out; omega)
          have vb := RB.out k (by have := HRN.out; omega)
          have r2 : (k : Int) < ((rx xss i).length : Int) := by have := HRN.out; omega
          have i1 : (0 : Int) ≤ (i : Int) := by omega
          have i2 : (i : Int) < (xss.length : Int) := by omega
          clear hcv hir hcr K3
          have HLK := Lib.hid (HLS.out k hkl)
          have c0 := new_cell wr (.int .i64 ((xss.length : Int) + ix (rx xss i) k)) 3 rfl
          have b4 := (Below.refl wr.heap.size wr).alloc (Nat.le_refl _) (.cells #[.int .i64 ((xss.length : Int) + ix (rx xss i) k)] 3)
          have z4 := World.size_alloc wr (.cells #[.int .i64 ((xss.length : Int) + ix (rx xss i) k)] 3)
          have o4 := hol.belowW b4
          have w4 := hown.belowW b4
          have q1 : wo.heap.size ≤ (wr.alloc (.cells #[.int .i64 ((xss.length : Int) + ix (rx xss i) k)] 3)).heap.size := by omega
          have q2 : wr.heap.size ≤ (wr.alloc (.cells #[.int .i64 ((xss.length : Int) + ix (rx xss i) k)] 3)).heap.size + 1 := by omega
          have hb4 := hb.trans (b4.mono zq)
          clear b4 z4 hol hown hb
          go_wp2_with (at_builtin; refine wpList_append_int _ rfl _ _ rfl wo.heap.size wr.heap.size k c2 A2 (L k) rfl o4 ((xss.length : Int) + ix (rx xss i) k) wr.heap.size 1 (by simp [Act.eval, Act.put]) c0 (by omega) q1 q2 ?_)
          intro A5 c5 w5 o5 hon
          rw [← HLK.out] at o5
          have w5' := w4.only hon (.inl (Nat.le_refl _))
          have hb5 := hb4.trans (hon.toBelow (by omega) hb4.size)
          have z5 := hon.size
          have q5 := Nat.le_trans q1 z5
          clear hon o4 w4 hb4 c0
          go_wp2
          go_roundw
          case rel => first | exact ⟨k + 1, _, _, by omega, by go_num, rfl, o5, w5', hb5, q5⟩ | ((repeat apply Exists.intro); exact ⟨⟨k + 1, _, _, by omega, by go_num, rfl, o5, w5', hb5, q5⟩, rfl⟩)
          case measure => simp [intOf]; omega
        · obtain rfl : k = xss.length := by omega
          rw [HLE.out, ← HM0.out] at hol
          clear K3 x0 x1
          have hml0 : (M 0).length = xss.length := hol.ints.2.1
          have HML0 := Lib.hid hml0
          have nz : ¬ ((xss.length : Int) = 0) := by omega
          clear hml0
          go_wp2
          go_loopw [7, 9] (fun v k_ wr => ∃ (q : Nat) (A' : Option Addr) (c' : Nat), q ≤ xss.length ∧ k_ = .int .i64 ((q : Int)) ∧ v = .slice A' (M q).length c' ∧ OwnI wr wo.heap.size wr.heap.size (.slice A' (M q).length c') (M q) ∧ OwnR wr w0.heap.size wo.heap.size (.slice A1 i c1) (T i) ∧ Below w0.heap.size w0 wr ∧ wo.heap.size ≤ wr.heap.size) (fun _ k_ _ => xss.length + xss.length - (intOf k_).toNat)
          case atStart => exact ⟨0, _, _, Nat.zero_le _, by first | rfl | (congr 1; omega), by rw [HML0.out], by rw [HML0.out]; exact hol, hown, hb, hz⟩
          case round =>
            obtain ⟨q, A6, c6, hq, rfl, rfl, hol, hown, hb, hz⟩ := hrel
            have zq := hb.size
            have hml := HMLn.out q hq
            by_cases hql : q < xss.length
            · have tq : (q : Int) < (xss.length : Int) := by omega
              by_cases hqj : q = i
              · have HN : Hid (M (q + 1) = M q) := by show _ = _; rw [hqj]; exact HMN.out
                have ne : ((q : Int) != (i : Int)) = false := by rw [bne_eq_false_iff_eq]; omega
                clear hqj
                go_wp2
                go_roundw
                case rel => first | exact ⟨q + 1, _, _, by omega, by first | rfl | go_num | (congr 1; omega), by rw [HN.out], by rw [HN.out]; exact hol, hown, hb, hz⟩ | ((repeat apply Exists.intro); exact ⟨⟨q + 1, _, _, by omega, by first | rfl | go_num | (congr 1; omega), by rw [HN.out], by rw [HN.out]; exact hol, hown, hb, hz⟩, rfl⟩)
                case measure => simp [intOf]; omega
              · have HY : Hid (M (q + 1) = M q ++ [(q : Int)]) := by have := HMY.out q hqj; show _ = _; simpa using this
                have ne : ((q : Int) != (i : Int)) = true := by rw [bne_iff_ne]; omega
                clear hqj
                have c0 := new_cell wr (.int .i64 ((q : Int))) 3 rfl
                have b4 := (Below.refl wr.heap.size wr).alloc (Nat.le_refl _) (.cells #[.int .i64 ((q : Int))] 3)
                have z4 := World.size_alloc wr (.cells #[.int .i64 ((q : Int))] 3)
                have o4 := hol.belowW b4
                have w4 := hown.belowW b4
                have q1 : wo.heap.size ≤ (wr.alloc (.cells #[.int .i64 ((q : Int))] 3)).heap.size := by omega
                have q2 : wr.heap.size ≤ (wr.alloc (.cells #[.int .i64 ((q : Int))] 3)).heap.size + 1 := by omega
                have hb4 := hb.trans (b4.mono zq)
                clear b4 z4 hol hown hb
                go_wp2_with (at_builtin; refine wpList_append_int _ rfl _ _ rfl wo.heap.size wr.heap.size _ c6 A6 (M q) rfl o4 ((q : Int)) wr.heap.size 1 (by simp [Act.eval, Act.put]) c0 (by omega) q1 q2 ?_)
                intro A7 c7 w7 o7 hon
                have el : (M q).length + 1 = (M (q + 1)).length := by rw [HY.out]; simp
                have HEL := Lib.hid el
                rw [← HY.out, el] at o7
                have w7' := w4.only hon (.inl (Nat.le_refl _))
                have hb7 := hb4.trans (hon.toBelow (by omega) hb4.size)
                have z7 := hon.size
                have q7 := Nat.le_trans q1 z7
                clear hon o4 w4 hb4 c0 el
                go_wp2
                go_roundw
                case rel => first | exact ⟨q + 1, _, _, by omega, by first | rfl | go_num | (congr 1; omega), by rw [← HEL.out], o7, w7', hb7, q7⟩ | ((repeat apply Exists.intro); exact ⟨⟨q + 1, _, _, by omega, by first | rfl | go_num | (congr 1; omega), by rw [← HEL.out], o7, w7', hb7, q7⟩, rfl⟩)
                case measure => simp [intOf]; omega
            · obtain rfl : q = xss.length := by omega
              have tq : ¬ ((xss.length : Int) < (xss.length : Int)) := by omega
              rw [HME.out] at hol hml ⊢
              have bC := (Below.refl wr.heap.size wr).alloc (Nat.le_refl _) (.cells #[.slice A6 (R (i)).length c6] 22)
              have hbC := hb.trans (bC.mono zq)
              have q2 := hbC.size
              have q3 := bC.size
              clear bC
              go_wp2_with (at_builtin; refine wpList_append_row _ rfl _ _ rfl w0.heap.size wo.heap.size _ _ _ _ rfl (hown.alloc _) A6 (R (i)).length c6 (R (i)) _ _ (hol.alloc _) (Nat.le_refl _) q3 _ 1 rfl (new_cell _ _ _ rfl) (by omega) zr q2 ?_)
              intro Af cf wf hof hon
              have HTK := Lib.hid (HTS.out (i))
              rw [← HTK.out] at hof
              have hbf : Below w0.heap.size w0 wf := hbC.trans (hon.toBelow (Nat.le_refl _) q2)
              clear hon hol hown hb hbC tq hql hml q2 q3 hq zq
              go_wp2
              go_roundw
              case rel => first | exact ⟨i + 1, _, _, by omega, by first | go_num | (congr 1; omega), rfl, hof, hbf⟩ | ((repeat apply Exists.intro); exact ⟨⟨i + 1, _, _, by omega, by first | go_num | (congr 1; omega), rfl, hof, hbf⟩, rfl⟩)
              case measure => simp [intOf]; omega
    by_cases hin2 : i < xss.length + xss.length
    · obtain ⟨j, rfl⟩ : ∃ j, i = xss.length + j := ⟨i - xss.length, by omega⟩
      have hj : j < xss.length := by omega
      have t2 : (xss.length : Int) + (j : Int) < 2 * (xss.length : Int) := by omega
      have RN := rank_len (HF.out.wr j hj)
      have HRN := Lib.hid RN
      have HLS : Hid (∀ k, k < xss.length → (rx yss j).take (k + 1) = (rx yss j).take k ++ [ix (rx yss j) k]) := fun k hk => take_ix (by omega)
      have HLE : Hid ((rx yss j).take xss.length = rx yss j) := by show _ = _; rw [List.take_of_length_le (by omega)]
      have HL0 : Hid ((rx yss j).take 0 = []) := rfl
      have HMR : Hid (R (xss.length + j) = rx yss j ++ addTo (xss.length : Int) (cutTo j xss.length)) := by show _ = _; rw [HMW.out j, cutTo_all hj h3]
      have dv : ((xss.length : Int) + (j : Int)).tdiv (xss.length : Int) = 1 := by
        rw [Int.tdiv_eq_ediv_of_nonneg (by omega), Int.add_ediv_of_dvd_left (Int.dvd_refl _), Int.ediv_self (by omega), Int.ediv_eq_zero_of_lt (by omega) (by omega)]; rfl
      have iin : ¬ ((xss.length : Int) + (j : Int) < (xss.length : Int)) := by omega
      have wsub : IntKind.i64.wrap ((xss.length : Int) + (j : Int) - (xss.length : Int)) = (j : Int) := by rw [IntKind.wrap_i64]; omega
      clear RN
      obtain ⟨L, hL⟩ : ∃ L : Nat → List Int, ∀ k, L k = (rx yss j).take k := ⟨_, fun _ => rfl⟩
      simp only [← hL] at HLS HLE HL0
      clear hL
      obtain ⟨M, hM⟩ : ∃ M : Nat → List Int, ∀ q, M q = rx yss j ++ addTo (xss.length : Int) (cutTo j q) := ⟨_, fun _ => rfl⟩
      have HM0 : Hid (M 0 = rx yss j) := by show _ = _; rw [hM]; simp [cutTo, addTo]
      have HMY : Hid (∀ q, q ≠ j → M (q + 1) = M q ++ [(q : Int) + (xss.length : Int)]) := fun q hq => by rw [hM, hM, cutTo_yes hq]; unfold addTo; rw [List.map_append, List.append_assoc]; rfl
      have HMN : Hid (M (j + 1) = M j) := by show _ = _; rw [hM, hM, cutTo_no]
      have HME : Hid (M xss.length = R (xss.length + j)) := by show _ = _; rw [hM, HMR.out]
      have HMLn : Hid (∀ q, q ≤ xss.length → (M q).length ≤ 10) := fun q hq => by
        rw [hM, List.length_append]
        have h1 := cutTo_len (j := j) (q := q)
        have h0 : (addTo (xss.length : Int) (cutTo j q)).length = (cutTo j q).length := addTo_len
        have h2 : (rx yss j).length ≤ 3 := by have := HRN.out; omega
        omega
      clear hM
      have ol := OwnI.empty wo (lo := wo.heap.size) (hi := wo.heap.size + 1) (Nat.le_refl _) (by omega)
      have bl := (Below.refl wo.heap.size wo).alloc (Nat.le_refl _) (.cells #[] 3)
      have zl := World.size_alloc wo (.cells #[] 3)
      have hownl := hown.belowW bl
      have hbl := hb.trans (bl.mono zr)
      have ol2 : OwnI (wo.alloc (.cells #[] 3)) wo.heap.size (wo.alloc (.cells #[] 3)).heap.size (.slice (some ⟨wo.heap.size, 0, none⟩) 0 0) (L 0) := by rw [HL0.out]; exact ol.mono (Nat.le_refl _) (by omega)
      have zl2 : wo.heap.size ≤ (wo.alloc (.cells #[] 3)).heap.size := by omega
      have x0 := (hK.below hb).c0
      clear ol bl zl hown hb
      go_wp2
      go_loopw [7, 8] (fun v k_ wr => ∃ (k : Nat) (A' : Option Addr) (c' : Nat), k ≤ xss.length ∧ k_ = .int .i64 k ∧ v = .slice A' k c' ∧ OwnI wr wo.heap.size wr.heap.size (.slice A' k c') (L k) ∧ OwnR wr w0.heap.size wo.heap.size (.slice A1 (xss.length + j) c1) (T (xss.length + j)) ∧ Below w0.heap.size w0 wr ∧ wo.heap.size ≤ wr.heap.size) (fun _ k_ _ => xss.length - (intOf k_).toNat)
      case atStart => exact ⟨0, _, _, Nat.zero_le _, rfl, rfl, ol2, hownl, hbl, zl2⟩
      case round =>
        obtain ⟨k, A2, c2, hk, rfl, rfl, hol, hown, hb, hz⟩ := hrel
        have zq := hb.size
        have K3 := hK.below hb
        have x0 := K3.c0
        have x1 := K3.c1
        clear ol2 hownl hbl zl2
        by_cases hkl : k < xss.length
        · have k1 : (0 : Int) ≤ (k : Int) := by omega
          have k2 : (k : Int) < (xss.length : Int) := by omega
          obtain ⟨bb, oo, Ar, cr, eA, _, hck, hcr, hir⟩ := K3.women.at_ (show j < yss.length by have := HYL.out; omega)
          cases eA
          obtain ⟨b2, o2, eR, _, hcv⟩ := hir.at_ (show k < (rx yss j).length by have := HRN.out; omega)
          cases eR
          have hv := hcv k (by have := HRN.out; omega)
          have r2 : (k : Int) < ((rx yss j).length : Int) := by have := HRN.out; omega
          have i1 : (0 : Int) ≤ (j : Int) := by omega
          have i2 : (j : Int) < (yss.length : Int) := by have := HYL.out; omega
          clear hcv hir hcr K3
          have HLK := Lib.hid (HLS.out k hkl)
          have c0 := new_cell wr (.int .i64 (ix (rx yss j) k)) 3 rfl
          have b4 := (Below.refl wr.heap.size wr).alloc (Nat.le_refl _) (.cells #[.int .i64 (ix (rx yss j) k)] 3)
          have z4 := World.size_alloc wr (.cells #[.int .i64 (ix (rx yss j) k)] 3)
          have o4 := hol.belowW b4
          have w4 := hown.belowW b4
          have q1 : wo.heap.size ≤ (wr.alloc (.cells #[.int .i64 (ix (rx yss j) k)] 3)).heap.size := by omega
          have q2 : wr.heap.size ≤ (wr.alloc (.cells #[.int .i64 (ix (rx yss j) k)] 3)).heap.size + 1 := by omega
          have hb4 := hb.trans (b4.mono zq)
          clear b4 z4 hol hown hb
          go_wp2_with (at_builtin; refine wpList_append_int _ rfl _ _ rfl wo.heap.size wr.heap.size k c2 A2 (L k) rfl o4 (ix (rx yss j) k) wr.heap.size 1 (by simp [Act.eval, Act.put]) c0 (by omega) q1 q2 ?_)
          intro A5 c5 w5 o5 hon
          rw [← HLK.out] at o5
          have w5' := w4.only hon (.inl (Nat.le_refl _))
          have hb5 := hb4.trans (hon.toBelow (by omega) hb4.size)
          have z5 := hon.size
          have q5 := Nat.le_trans q1 z5
          clear hon o4 w4 hb4 c0
          go_wp2
          go_roundw
          case rel => first | exact ⟨k + 1, _, _, by omega, by go_num, rfl, o5, w5', hb5, q5⟩ | ((repeat apply Exists.intro); exact ⟨⟨k + 1, _, _, by omega, by go_num, rfl, o5, w5', hb5, q5⟩, rfl⟩)
          case measure => simp [intOf]; omega
        · obtain rfl : k = xss.length := by omega
          rw [HLE.out, ← HM0.out] at hol
          clear K3 x0 x1
          have hml0 : (M 0).length = xss.length := hol.ints.2.1
          have HML0 := Lib.hid hml0
          have nz : ¬ ((xss.length : Int) = 0) := by omega
          clear hml0
          go_wp2
          go_loopw [7, 9] (fun v k_ wr => ∃ (q : Nat) (A' : Option Addr) (c' : Nat), q ≤ xss.length ∧ k_ = .int .i64 ((q : Int) + (xss.length : Int)) ∧ v = .slice A' (M q).length c' ∧ OwnI wr wo.heap.size wr.heap.size (.slice A' (M q).length c') (M q) ∧ OwnR wr w0.heap.size wo.heap.size (.slice A1 (xss.length + j) c1) (T (xss.length + j)) ∧ Below w0.heap.size w0 wr ∧ wo.heap.size ≤ wr.heap.size) (fun _ k_ _ => xss.length + xss.length - (intOf k_).toNat)
          case atStart => exact ⟨0, _, _, Nat.zero_le _, by first | rfl | (congr 1; omega), by rw [HML0.out], by rw [HML0.out]; exact hol, hown, hb, hz⟩
          case round =>
            obtain ⟨q, A6, c6, hq, rfl, rfl, hol, hown, hb, hz⟩ := hrel
            have zq := hb.size
            have hml := HMLn.out q hq
            by_cases hql : q < xss.length
            · have tq : (q : Int) + (xss.length : Int) < (xss.length : Int) + (xss.length : Int) := by omega
              by_cases hqj : q = j
              · have HN : Hid (M (q + 1) = M q) := by show _ = _; rw [hqj]; exact HMN.out
                have ne : ((q : Int) + (xss.length : Int) != (xss.length : Int) + (j : Int)) = false := by rw [bne_eq_false_iff_eq]; omega
                clear hqj
                go_wp2
                go_roundw
                case rel => first | exact ⟨q + 1, _, _, by omega, by first | rfl | go_num | (congr 1; omega), by rw [HN.out], by rw [HN.out]; exact hol, hown, hb, hz⟩ | ((repeat apply Exists.intro); exact ⟨⟨q + 1, _, _, by omega, by first | rfl | go_num | (congr 1; omega), by rw [HN.out], by rw [HN.out]; exact hol, hown, hb, hz⟩, rfl⟩)
                case measure => simp [intOf]; omega
              · have HY : Hid (M (q + 1) = M q ++ [(q : Int) + (xss.length : Int)]) := by have := HMY.out q hqj; show _ = _; simpa using this
                have ne : ((q : Int) + (xss.length : Int) != (xss.length : Int) + (j : Int)) = true := by rw [bne_iff_ne]; omega
                clear hqj
                have c0 := new_cell wr (.int .i64 ((q : Int) + (xss.length : Int))) 3 rfl
                have b4 := (Below.refl wr.heap.size wr).alloc (Nat.le_refl _) (.cells #[.int .i64 ((q : Int) + (xss.length : Int))] 3)
                have z4 := World.size_alloc wr (.cells #[.int .i64 ((q : Int) + (xss.length : Int))] 3)
                have o4 := hol.belowW b4
                have w4 := hown.belowW b4
                have q1 : wo.heap.size ≤ (wr.alloc (.cells #[.int .i64 ((q : Int) + (xss.length : Int))] 3)).heap.size := by omega
                have q2 : wr.heap.size ≤ (wr.alloc (.cells #[.int .i64 ((q : Int) + (xss.length : Int))] 3)).heap.size + 1 := by omega
                have hb4 := hb.trans (b4.mono zq)
                clear b4 z4 hol hown hb
                go_wp2_with (at_builtin; refine wpList_append_int _ rfl _ _ rfl wo.heap.size wr.heap.size _ c6 A6 (M q) rfl o4 ((q : Int) + (xss.length : Int)) wr.heap.size 1 (by simp [Act.eval, Act.put]) c0 (by omega) q1 q2 ?_)
                intro A7 c7 w7 o7 hon
                have el : (M q).length + 1 = (M (q + 1)).length := by rw [HY.out]; simp
                have HEL := Lib.hid el
                rw [← HY.out, el] at o7
                have w7' := w4.only hon (.inl (Nat.le_refl _))
                have hb7 := hb4.trans (hon.toBelow (by omega) hb4.size)
                have z7 := hon.size
                have q7 := Nat.le_trans q1 z7
                clear hon o4 w4 hb4 c0 el
                go_wp2
                go_roundw
                case rel => first | exact ⟨q + 1, _, _, by omega, by first | rfl | go_num | (congr 1; omega), by rw [← HEL.out], o7, w7', hb7, q7⟩ | ((repeat apply Exists.intro); exact ⟨⟨q + 1, _, _, by omega, by first | rfl | go_num | (congr 1; omega), by rw [← HEL.out], o7, w7', hb7, q7⟩, rfl⟩)
                case measure => simp [intOf]; omega
            · obtain rfl : q = xss.length := by omega
              have tq : ¬ ((xss.length : Int) + (xss.length : Int) < (xss.length : Int) + (xss.length : Int)) := by omega
              rw [HME.out] at hol hml ⊢
              have bC := (Below.refl wr.heap.size wr).alloc (Nat.le_refl _) (.cells #[.slice A6 (R ((xss.length + j))).length c6] 22)
              have hbC := hb.trans (bC.mono zq)
              have q2 := hbC.size
              have q3 := bC.size
              clear bC
              go_wp2_with (at_builtin; refine wpList_append_row _ rfl _ _ rfl w0.heap.size wo.heap.size _ _ _ _ rfl (hown.alloc _) A6 (R ((xss.length + j))).length c6 (R ((xss.length + j))) _ _ (hol.alloc _) (Nat.le_refl _) q3 _ 1 rfl (new_cell _ _ _ rfl) (by omega) zr q2 ?_)
              intro Af cf wf hof hon
              have HTK := Lib.hid (HTS.out ((xss.length + j)))
              rw [← HTK.out] at hof
              have hbf : Below w0.heap.size w0 wf := hbC.trans (hon.toBelow (Nat.le_refl _) q2)
              clear hon hol hown hb hbC tq hql hml q2 q3 hq zq
              go_wp2
              go_roundw
              case rel => first | exact ⟨(xss.length + j) + 1, _, _, by omega, by first | go_num | (congr 1; omega), rfl, hof, hbf⟩ | ((repeat apply Exists.intro); exact ⟨⟨(xss.length + j) + 1, _, _, by omega, by first | go_num | (congr 1; omega), rfl, hof, hbf⟩, rfl⟩)
              case measure => simp [intOf]; omega
    · obtain rfl : i = xss.length + xss.length := by omega
      have t2 : ¬ ((xss.length : Int) + (xss.length : Int) < 2 * (xss.length : Int)) := by omega
      have hfin : T (xss.length + xss.length) = SP := by rw [HSY.out]
      have hln : SP.length = xss.length + xss.length := by rw [← hfin, HTL.out]
      rw [hfin] at hown
      have HLN := Lib.hid hln
      clear hfin hln
      go_wp2
      go_ret2
      rw [HLN.out]
      first | exact ⟨_, _, rfl, hown.mono hs1 (Nat.le_refl _), by omega, HSR.out, hall.trans (hb.mono hs1)⟩ | exact ⟨_, _, rfl, hown.mono hs1 (Nat.le_refl _), HSR.out, hall.trans (hb.mono hs1)⟩
end Go.Proofs.Yteglddkeagicmaa
