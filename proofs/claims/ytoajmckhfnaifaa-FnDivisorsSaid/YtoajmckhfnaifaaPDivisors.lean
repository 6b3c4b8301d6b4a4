/- The law on divisors: for every input laws.FnDivisors returns true, and the argument reads as before. No condition. -/
import Derived.Test.YtoajmckhfnaifaaDivL
import Derived.Test.YtoajmckhfnaifaaLawT
import Derived.Test.YtoajmckhfnaifaaJeffI
import Derived.Test.YtoajmckhfnaifaaOdoB
import Derived.Test.YtoajmckhfnaifaaOpenB
import Derived.Deep.DeepCutAuto
namespace Go.Proofs.Ytoajmckhfnaifaa
open Go.RowKit
attribute [local go_sem ↓] Go.wp_at_zero Go.wp_at_succ

theorem pair_over {wr w' : World} (h : Below ((wr.alloc (.cells #[.int .i64 0, .int .i64 0] 33)).drew).heap.size ((wr.alloc (.cells #[.int .i64 0, .int .i64 0] 33)).drew) w') :
    w'.cell? ⟨wr.heap.size, 0, none⟩ = some (.int .i64 0) ∧ w'.cell? ⟨wr.heap.size, 1, none⟩ = some (.int .i64 0) ∧ w'.frozen? ⟨wr.heap.size, 0, none⟩ = false ∧ w'.frozen? ⟨wr.heap.size, 1, none⟩ = false := by
  have P : PairAt (wr.alloc (.cells #[.int .i64 0, .int .i64 0] 33)) wr.heap.size 0 0 := PairAt.new wr 0 0 33 rfl
  have Q : PairAt ((wr.alloc (.cells #[.int .i64 0, .int .i64 0] 33)).drew) wr.heap.size 0 0 := ⟨P.c0, P.c1, P.f0, P.f1⟩
  obtain ⟨c0, c1, f0, f1⟩ := Q.keep h
  exact ⟨c0, c1, f0, f1⟩

theorem below_over {wr w' : World} {o : Obj} (h : Below ((wr.alloc o).drew).heap.size ((wr.alloc o).drew) w') : Below wr.heap.size wr w' := by
  have h1 := ((Below.refl wr.heap.size wr).alloc (Nat.le_refl _) o).drew
  exact h1.trans (h.mono h1.size)

set_option maxHeartbeats 2000000 in
set_option maxRecDepth 100000 in
theorem law_FnDivisors (A : Option Addr) (n c : Nat) (w : World) (hb : BytesAt w w.heap.size A n) (hm : n ≤ maxLen) :
    Calls Try.prog 3 #[.slice A n c] w fun e w' => e = .returned (.bool true) ∧ Below w.heap.size w w' := by
  unfold maxLen at hm
  by_cases big : 1048576 < n
  · go_enter Try.func3, Try.ntmps3
    go_wp2_with fail
    go_ret
    exact ⟨rfl, Below.refl _ _⟩
  have sm : n ≤ 1048576 := by omega
  clear big
  go_enter Try.func3, Try.ntmps3
  go_wp2_with fail
  (with_reducible refine (makeCounts_any A n c _ hb sm).mono ?_)
  rintro e w1 ⟨A1, c1, lo, xs, rfl, o1, hc, hl, b1⟩
  have hb1 : BytesAt w1 w1.heap.size A n := fun hn => by
    obtain ⟨b, o, e, hbp, hj⟩ := hb hn
    exact ⟨b, o, e, Nat.lt_of_lt_of_le hbp b1.size, fun j hj' => (hj j hj').imp fun x hx => cell_carry b1 hx⟩
  have C1 : IntsAt w1 A1 xs.length xs := o1.at_
  clear o1
  go_wp2_with fail
  (with_reducible refine (makeNum_any 40 40 rfl (by decide) A n c _ hb1 sm).mono ?_)
  rintro e w2 ⟨y1, rfl, hy1, b2⟩
  have hb2 : BytesAt w2 w2.heap.size A n := fun hn => by
    obtain ⟨b, o, e, hbp, hj⟩ := hb1 hn
    exact ⟨b, o, e, Nat.lt_of_lt_of_le hbp b2.size, fun j hj' => (hj j hj').imp fun x hx => cell_carry b2 hx⟩
  have C2 := C1.below b2
  have bt2 := b1.trans (b2.mono b1.size)
  clear hb hb1 C1 b1 b2
  have q1 : (y1 : Int).tmod 20 = ((y1 % 20 : Nat) : Int) := rfl
  go_wp2_with fail
  (with_reducible refine (makeNum_any 42 42 rfl (by decide) A n c _ hb2 sm).mono ?_)
  rintro e w3 ⟨y2, rfl, hy2, b3⟩
  have C3 := C2.below b3
  have bt3 := bt2.trans (b3.mono bt2.size)
  clear hb2 C2 bt2 b3
  have q2 : (y2 : Int).tmod 5 = ((y2 % 5 : Nat) : Int) := rfl
  go_wp2_with fail
  obtain ⟨M, hM⟩ : ∃ M : Int, M = 1 + (y2 : Int) % 5 := ⟨_, rfl⟩
  obtain ⟨K, hK⟩ : ∃ K : Int, K = (y1 : Int) % 20 := ⟨_, rfl⟩
  have m1 : 1 ≤ M ∧ M ≤ 5 := by omega
  have k1 : 0 ≤ K ∧ K ≤ 19 := by omega
  rw [← hM, ← hK]
  clear hM hK q1 q2 hy1 hy2
  have hq := asked_of m1.1 m1.2 hc k1.1 (show K ≤ 100 by omega)
  have hq1 := asked_of m1.1 m1.2 hc (show 0 ≤ K + 1 by omega) (show K + 1 ≤ 100 by omega)
  have n20 : xs.length ≤ 1048576 := by omega
  have HQ := Lib.hid hq
  have HQ1 := Lib.hid hq1
  clear hq hq1
  (with_reducible refine (implSeatsBy M _ _ _ xs K _ C3 n20).mono ?_)
  rintro e w4 ⟨A4, c4, rfl, o4, _, b4⟩
  rw [seatsBy_len HQ.out] at *
  have S4 : IntsAt w4 A4 xs.length (seatsBy M xs K) := o4.at_
  have C4 := C3.below b4
  have bt4 := bt3.trans (b4.mono bt3.size)
  clear o4 C3 bt3 b4
  have kw : K + 1 ≤ 20 := by omega
  go_wp2_with fail
  (with_reducible refine (implSeatsBy M _ _ _ xs (K + 1) _ C4 n20).mono ?_)
  rintro e w5 ⟨A5, c5, rfl, o5, _, b5⟩
  rw [seatsBy_len HQ1.out] at *
  have T5 : IntsAt w5 A5 xs.length (seatsBy M xs (K + 1)) := o5.at_
  have S5 := S4.below b5
  have C5 := C4.below b5
  have bt5 := bt4.trans (b5.mono bt4.size)
  clear o5 C4 S4 bt4 b5
  go_wp2_with fail
  have ol : (seatOrder M xs K).length = K.toNat := by rw [seatOrder_yes HQ.out, orderA_len]
  have HOL := Lib.hid ol
  have SB := Lib.hid (seatsBy_bd HQ.out)
  clear ol
  (with_reducible refine (implSeatOrder M _ _ _ xs K _ C5 n20).mono ?_)
  rintro e w6 ⟨A6, c6, rfl, o6, q6, b6⟩
  have O6 : IntsAt w6 A6 (seatOrder M xs K).length (seatOrder M xs K) := o6.at_
  have S6 := S5.below b6
  have T6 := T5.below b6
  have C6 := C5.below b6
  have bt6 := bt5.trans (b6.mono bt5.size)
  have K1 : ((seatOrder M xs K).length : Int) = K := by rw [HOL.out]; omega
  obtain ⟨N, hN⟩ : ∃ N, (seatOrder M xs K).length = N := ⟨_, rfl⟩
  rw [hN] at O6 q6 K1 ⊢
  have HN := Lib.hid hN
  clear hN o6 C5 S5 T5 bt5 b6
  obtain rfl := K1
  go_wp2_with fail
  (with_reducible refine (sum_any _ _ _ _ _ S6 n20 (fun x hx => by have := SB.out x hx; omega)).mono ?_)
  rintro e w7 ⟨rfl, rfl⟩
  rw [seatsBy_sum HQ.out]
  go_wp2_with fail
  (with_reducible refine (implIsFairBy M _ _ _ _ _ _ _ _ _ C6 n20 S6 n20).mono ?_)
  rintro e w8 ⟨rfl, b8⟩
  rw [seatsBy_fair HQ.out]
  have O8 := O6.below b8
  have S8 := S6.below b8
  have T8 := T6.below b8
  have C8 := C6.below b8
  have bt8 := bt6.trans (b8.mono bt6.size)
  clear O6 S6 T6 C6 bt6 b8
  go_wp2_with fail
  have CN := Lib.hid (fun (i : Nat) (hi : i < xs.length) => seatOrder_cnt HQ.out hi)
  have MO := Lib.hid (fun (i : Nat) => seatsBy_mono (i := i) HQ.out HQ1.out)
  go_loopw [9, 79] (fun _ i wr => ∃ j : Nat, j ≤ xs.length ∧ i = .int .i64 j ∧ Below w8.heap.size w8 wr) (fun _ i _ => xs.length - (intOf i).toNat)
  case atStart => exact ⟨0, Nat.zero_le _, rfl, Below.refl _ _⟩
  case round =>
    obtain ⟨j, hj, rfl, hbr⟩ := hrel
    by_cases hlt : j < xs.length
    · obtain ⟨g1, p1, rfl, _, hd1⟩ := (S8.below hbr).at_ hlt
      obtain ⟨g2, p2, rfl, _, hd2⟩ := (T8.below hbr).at_ hlt
      have x1 := hd1 j hlt
      have x2 := hd2 j hlt
      have OR := O8.below hbr
      have hcn := CN.out j hlt
      rw [HN.out] at hcn
      have hmo := MO.out j
      have K0 : ∀ q, Calls Try.prog 10 #[.slice A6 N c6, .int .i64 (j : Int)] (wr.drewN q) fun e w' => e = .returned (.int .i64 (ix (seatsBy M xs N) j)) ∧ w' = wr.drewN q := fun q => by
        have h := count_any A6 N c6 (seatOrder M xs N) (j : Int) (wr.drewN q) (OR.drewN q) q6
        rw [HN.out, hcn] at h; exact h
      have K1 := Lib.hid (fun q => Calls.quiet_of_same (n := q) (K0 q))
      clear hd1 hd2 K0 hcn OR
      generalize ix (seatsBy M xs N) j = a at *
      generalize ix (seatsBy M xs (N + 1)) j = b at *
      have t3 : decide (b < a) = false := by simp; omega
      clear hmo
      go_upto_region 14 with fail
      go_quiet ((with_reducible exact K1.out _))
      go_wp2_with fail
      go_roundw
      case rel => exact ⟨j + 1, by omega, by go_num, hbr.trans (below_of_drewN rfl)⟩
      case measure => simp [intOf]; omega
    · obtain rfl : j = xs.length := by omega
      clear CN MO SB HOL O8 T8
      replace C8 := C8.below hbr
      replace bt8 := bt8.trans (hbr.mono bt8.size)
      clear hbr hj hlt S8
      -- from here on: world wr; C8, bt8
      have q9 : 0 ≤ (N : Int) % 9 ∧ (N : Int) % 9 ≤ 8 := by omega
      have h9 := asked_of m1.1 m1.2 hc q9.1 (show (N : Int) % 9 ≤ 100 by omega)
      by_cases h3 : xs.length ≤ 3
      case' pos =>
        obtain ⟨f1, f2⟩ := fairCount h9 h3 (by omega)
        go_wp2_with fail
        (with_reducible refine (implCountFairBy M _ _ _ xs _ _ C8 n20).mono ?_)
        rintro e w9 ⟨rfl, b9⟩
        replace C8 := C8.below b9
        replace bt8 := bt8.trans (b9.mono bt8.size)
        have f3 : Hid ((cntF M xs ((N : Int) % 9) == 1) = !isTied M xs ((N : Int) % 9)) := by
          show _ = _
          cases ht : isTied M xs ((N : Int) % 9)
          · rw [f2.2 ht]; rfl
          · have : cntF M xs ((N : Int) % 9) ≠ 1 := fun e => by rw [f2.1 e] at ht; cases ht
            simp [this]
        clear f2 b9
        generalize cntF M xs ((N : Int) % 9) = q at *
        go_wp2_with fail
        (with_reducible refine (implIsTied M _ _ _ xs _ _ C8 n20).mono ?_)
        rintro e w10 ⟨rfl, b10⟩
        replace C8 := C8.below b10
        replace bt8 := bt8.trans (b10.mono bt8.size)
        clear b10
        have f4 := f3.out
        generalize isTied M xs ((N : Int) % 9) = tb at *
        have f5 : ((q == 1) == tb) = false := by rw [f4]; cases tb <;> rfl
        clear f4 f3
        go_wp2_with fail
        clear f1 f5
      case' neg => go_wp2_with fail
      all_goals
        clear h3 h9 q9
        (with_reducible refine (implJefferson _ _ _ xs _ _ C8 n20).mono ?_)
        rintro e w11 ⟨rfl, b11⟩
        replace C8 := C8.below b11
        replace bt8 := bt8.trans (b11.mono bt8.size)
        clear b11
        go_wp2_with fail
        have H5 := Lib.hid (asked_of (m := 5) (by decide) (by decide) hc k1.1 (show (N : Int) ≤ 100 by omega))
        obtain ⟨P0, P1, bb, z12⟩ := two_new w11 (jLt xs N) (jLb xs N) (jHt xs N) (jHb xs N) 33
        have HC := Lib.hid (counts_rng hc)
        have JT := Lib.hid (jef_tied H5.out)
        replace C8 := C8.below bb
        replace bt8 := bt8.trans (bb.mono bt8.size)
        clear bb
        generalize (w11.alloc (Obj.cells #[Value.int IntKind.i64 ↑(jLt xs ↑N), Value.int IntKind.i64 ↑(jLb xs ↑N)] 33)).alloc (Obj.cells #[Value.int IntKind.i64 ↑(jHt xs ↑N), Value.int IntKind.i64 ↑(jHb xs ↑N)] 33) = w12 at *
        obtain ⟨g, hg⟩ : ∃ g, w11.heap.size = g := ⟨_, rfl⟩
        rw [hg] at P0 P1 z12 ⊢
        clear hg
        (with_reducible refine (implSeatsBy 5 _ _ _ xs N _ C8 n20).mono ?_)
        rintro e w13 ⟨A13, c13, rfl, o13, _, b13⟩
        rw [seatsBy_len H5.out] at *
        have J13 : IntsAt w13 A13 xs.length (seatsBy 5 xs N) := o13.at_
        replace P0 := P0.keep b13
        replace P1 := P1.keep b13
        replace C8 := C8.below b13
        replace bt8 := bt8.trans (b13.mono bt8.size)
        clear o13 b13 z12
        go_wp2_with fail
        have n1 := HC.out.1
        obtain ⟨x0, hx0, x1⟩ : ∃ x0, ix xs 0 = x0 ∧ (0 ≤ x0 ∧ x0 ≤ 1000000) := ⟨_, rfl, HC.out.2 0 (by omega)⟩
        obtain ⟨y0, hy0, y1⟩ : ∃ y0, ix xs (xs.length - 1) = y0 ∧ (0 ≤ y0 ∧ y0 ≤ 1000000) := ⟨_, rfl, HC.out.2 _ (by omega)⟩
        have HX0 := Lib.hid hx0
        have HY0 := Lib.hid hy0
        clear hx0 hy0 HC
        cases hg : jGot xs N
        · have HT := Lib.hid (show N ≠ 0 → isTied 5 xs N = true from fun h0 => JT.out (by omega) hg)
          clear JT hg
          go_loopw [15, 16, 17, 139] (fun _ _ _ i wr => i = .int .i64 0 ∧ wr = w13) (fun _ _ _ _ _ => 0)
          case atStart => exact ⟨rfl, rfl⟩
          case round =>
            obtain ⟨rfl, rfl⟩ := hrel
            obtain ⟨b1, o1, rfl, _, hd1⟩ := C8.at_ (show 0 < xs.length by omega)
            have d0 := hd1 0 (by omega)
            have d1 := hd1 (xs.length - 1) (by omega)
            rw [HX0.out, Nat.add_zero] at d0
            rw [HY0.out] at d1
            have i1 : ((xs.length : Int) - 1).toNat = xs.length - 1 := by omega
            have i0 : (0 : Int) < (xs.length : Int) := by omega
            clear hd1
            go_wp2_with fail
            (with_reducible refine (implCompareClaims _ _ _ _ _ _).mono ?_)
            rintro e w14 ⟨rfl, b14⟩
            replace C8 := C8.below b14
            replace bt8 := bt8.trans (b14.mono bt8.size)
            have NG := Lib.hid (claims_neg m1 x1 y1)
            have BD := claims_bd M x0 1 y0 2
            clear b14
            generalize claimsC M x0 1 y0 2 = q at *
            go_wp2_with fail
            (with_reducible refine (implCompareClaims _ _ _ _ _ _).mono ?_)
            rintro e w15 ⟨rfl, b15⟩
            replace C8 := C8.below b15
            replace bt8 := bt8.trans (b15.mono bt8.size)
            clear b15
            rw [NG.out]
            have ee : (q == - -q) = true := by rw [beq_iff_eq]; omega
            by_cases hn0 : N = 0
            · subst hn0
              go_wp2_with fail
              go_ret
              exact ⟨by simp, bt8⟩
            · have en : ((N : Int) == 0) = false := by rw [beq_eq_false_iff_ne]; omega
              go_wp2_with fail
              (with_reducible refine (implIsTied 5 _ _ _ xs _ _ C8 n20).mono ?_)
              rintro e w16 ⟨rfl, b16⟩
              rw [HT.out hn0]
              replace bt8 := bt8.trans (b16.mono bt8.size)
              clear b16
              go_wp2_with fail
              go_ret
              exact ⟨by simp, bt8⟩
        · have HJ := Lib.hid (jefOk H5.out hg)
          clear JT hg
          go_loopw [15, 16, 17, 139] (fun _ _ _ i wr => ∃ j : Nat, j ≤ xs.length ∧ i = .int .i64 j ∧ Below w13.heap.size w13 wr) (fun _ _ _ i _ => xs.length - (intOf i).toNat)
          case atStart => exact ⟨0, Nat.zero_le _, rfl, Below.refl _ _⟩
          case round =>
            obtain ⟨j, hj, rfl, hbr⟩ := hrel
            by_cases hlt : j < xs.length
            · obtain ⟨b1, o1, rfl, _, hd1⟩ := (C8.below hbr).at_ hlt
              obtain ⟨b2, o2, rfl, _, hd2⟩ := (J13.below hbr).at_ hlt
              have d1 := hd1 j hlt
              have d2 := hd2 j hlt
              obtain ⟨p0, p1, _, _⟩ := P1.keep hbr
              obtain ⟨x, hx, xm, xf, xr⟩ := HJ.out.x j hlt
              rw [hx] at d1
              clear hd1 hd2 hx
              have HR := Lib.hid xr
              have FH := Lib.hid HJ.out.h
              have FZ := Lib.hid HJ.out.z
              have XF := Lib.hid xf
              have k0 := fun W => implDivideFr x 1 (jHt xs N) (jHb xs N) W xf HJ.out.h HJ.out.z
              simp only [Int.natCast_one] at k0
              have K0 := Lib.hid k0
              clear k0
              clear xr xf
              generalize jLt xs N = j1 at *
              generalize jLb xs N = j2 at *
              generalize jHt xs N = j3 at *
              generalize jHb xs N = j4 at *
              generalize redTop (x * j4) (1 * j3) = rt at *
              generalize redBot (x * j4) (1 * j3) = rb at *
              generalize redOk (x * j4) (1 * j3) = ro at *
              generalize ix (seatsBy 5 xs N) j = a at *
              go_upto_region 29 with fail
              go_cut [16, 17] from 140 to 164 (fun v16 v17 wx => ∃ g2, v16 = .pointer (some ⟨g2, 0, none⟩) ∧ v17 = .bool ro ∧ PairAt wx g2 rt rb ∧ Below wr.heap.size wr wx)
              case first =>
                have q1 := old_cell d1 (.cells #[.int .i64 0, .int .i64 0] 33)
                have q2 := old_cell p0 (.cells #[.int .i64 0, .int .i64 0] 33)
                have q3 := old_cell p1 (.cells #[.int .i64 0, .int .i64 0] 33)
                go_region_with (go_at_call 14; (with_reducible refine (K0.out _).mono ?_); rintro e w14 ⟨rfl, b14⟩; (first | (have hp := pair_over b14; obtain ⟨x0, x1, f0, f1⟩ := hp) | skip))
                all_goals
                  go_wp2_with fail
                  go_meet
                  case rel =>
                    first
                      | exact ⟨_, rfl, rfl, PairAt.new _ _ _ _ rfl, ((Below.refl _ wr).drew.trans b14).alloc b14.size _⟩
                      | exact ⟨_, rfl, rfl, (show PairAt w14 wr.heap.size 0 0 from ⟨x0, x1, f0, f1⟩).set rt rb, (below_over b14 |>.setCell (Nat.le_refl _) _).setCell (Nat.le_refl _) _⟩
              case rest =>
                obtain ⟨g2, rfl, rfl, PX, bx⟩ := hcut
                have bw := hbr.trans (bx.mono hbr.size)
                replace d2 := cell_carry bx d2
                clear d1 p0 p1 K0 hbr bx
                obtain ⟨x0, x1, _, _⟩ := PX
                cases ro
                · go_wp2_with fail
                  go_quiet (fail)
                  go_wp2_with fail
                  go_roundw
                  case rel => exact ⟨j + 1, by omega, by go_num, bw.trans (below_of_drewN rfl)⟩
                  case measure => simp [intOf]; omega
                · obtain ⟨r1, r2⟩ := HR.out rfl
                  have K0 := Lib.hid (fun W => implFloorOf rt rb W r1)
                  rw [r2] at K0
                  clear r1 r2 HR
                  go_upto_region 30 with fail
                  go_region_held3 (fun w' => w'.cell? ⟨b2, o2 + j, none⟩ = some (Value.int .i64 a) ∧ w'.cell? ⟨g2, 0, none⟩ = some (Value.int .i64 (rt : Int)) ∧ w'.cell? ⟨g2, 1, none⟩ = some (Value.int .i64 (rb : Int))) ((refine ⟨?_, ?_, ?_⟩ <;> (first | assumption | go_keep))) ((go_at_call 15; (with_reducible refine (K0.out _).mono ?_); rintro e w15 ⟨rfl, b15⟩; have d2 := cell_carry b15 d2; have x0 := cell_carry b15 x0; have x1 := cell_carry b15 x1))
                  all_goals
                    go_wp2_with fail
                    go_roundw
                    case rel => exact ⟨j + 1, by omega, by go_num, bw.trans (((Below.refl _ wc).drew.trans b15).mono bw.size)⟩
                    case measure => simp [intOf]; omega
            · obtain rfl : j = xs.length := by omega
              obtain ⟨b1, o1, rfl, _, hd1⟩ := (C8.below hbr).at_ (show 0 < xs.length by omega)
              have d0 := hd1 0 (by omega)
              have d1 := hd1 (xs.length - 1) (by omega)
              rw [HX0.out, Nat.add_zero] at d0
              rw [HY0.out] at d1
              have i1 : ((xs.length : Int) - 1).toNat = xs.length - 1 := by omega
              have i0 : (0 : Int) < (xs.length : Int) := by omega
              clear hd1
              replace bt8 := bt8.trans (hbr.mono bt8.size)
              replace P0 := P0.keep hbr
              replace P1 := P1.keep hbr
              clear hbr
              go_wp2_with fail
              (with_reducible refine (implCompareClaims _ _ _ _ _ _).mono ?_)
              rintro e w14 ⟨rfl, b14⟩
              replace bt8 := bt8.trans (b14.mono bt8.size)
              have NG := Lib.hid (claims_neg m1 x1 y1)
              have BD := claims_bd M x0 1 y0 2
              obtain ⟨a0, a1, _, _⟩ := P0.keep b14
              obtain ⟨p0, p1, _, _⟩ := P1.keep b14
              clear b14
              generalize claimsC M x0 1 y0 2 = q at *
              have FL := Lib.hid HJ.out.l
              have FH := Lib.hid HJ.out.h
              have FC := Lib.hid HJ.out.c
              generalize jLt xs N = j1 at *
              generalize jLb xs N = j2 at *
              generalize jHt xs N = j3 at *
              generalize jHb xs N = j4 at *
              go_wp2_with fail
              (with_reducible refine (implCompareFr j1 j2 j3 j4 _ FL.out FH.out).mono ?_)
              rintro e w15 ⟨rfl, b15⟩
              replace bt8 := bt8.trans (b15.mono bt8.size)
              have fc := FC.out
              clear b15
              generalize cmpF j1 j2 j3 j4 = f at *
              go_wp2_with fail
              (with_reducible refine (implCompareClaims _ _ _ _ _ _).mono ?_)
              rintro e w16 ⟨rfl, b16⟩
              replace bt8 := bt8.trans (b16.mono bt8.size)
              clear b16
              rw [NG.out]
              have ee : (q == - -q) = true := by rw [beq_iff_eq]; omega
              go_wp2_with fail
              all_goals
                go_ret
                exact ⟨by simp, bt8⟩
end Go.Proofs.Ytoajmckhfnaifaa

namespace Go.Proofs.Ytoajmckhfnaifaa.fnDivisors
open Go.ChangeShapes Go.WideShapes Go.ChangeAt Go.RowKit
open Go.ChangeMaps (open_string shut_string)
set_option linter.unusedVariables false

set_option maxRecDepth 100000 in
theorem lifted (os : Os) (started : os.Started) (H : Type) (enc : TypeId × Value → H) :
    ReturnsInHanded {} Try.checked os 3 .any (Rows.fnDivisorsSpec.pre6 enc Try.prog Try.f3 Rows.fnDivisorsRow.domain false) (Rows.fnDivisorsSpec.post enc Try.prog Try.f3 false true false false) := by
  refine returnsInHanded_of_change (C := Try.checked) own started (by kernel_rfl) Try.func3
    (ChangeSpec.witness6 (enc := enc) (C := Try.checked) false ⟨#[], #[.slice none 0 0], []⟩ 8 (by kernel_rfl) (by kernel_rfl) (by kernel_rfl) (by kernel_rfl)) ?_
  intro W base args ds gs before hval0 hW hcnd _
  have hval : ∀ (j : Nat) t v, Try.f3.params[j]? = some t → args[j]? = some v → Value.okWide Try.prog W .any base t v := hval0
  have hW' := hW
  obtain ⟨p, q, hA0, hV, rfl, hfz, hnd⟩ := hW
  have hA : DataW.TrodAll enc Try.prog W 0 (fun _ => true) true Try.f3.params.toList args.toList ds p := hA0
  rw [Try.params3] at hA hval
  obtain ⟨v0, vs0, d0, ds0, p0, q0, hargs, rfl, rfl, h0, r0⟩ := trodAll_cons hA
  obtain ⟨rfl, rfl, rfl⟩ := trodAll_nil r0
  obtain rfl : args = #[v0] := by cases args; simp_all
  obtain ⟨rfl, rfl⟩ := trodVars_none hV
  have k0 := h0
  have lt0 : ∀ x ∈ p0, x.block < W.heap.size := by obtain ⟨m, hm⟩ := k0; exact DataW.trod_lt m _ _ _ hm
  obtain ⟨a0, len0, cap0, rfl⟩ := okWide_slice Try.underlying22 (hval 0 22 v0 rfl rfl)
  obtain ⟨z0, m0⟩ := bytes_open h0
  clear hA0 hval0
  refine (law_FnDivisors a0 len0 cap0 W z0 m0).mono fun e W' ⟨he, bel⟩ => ?_
  subst he
  exact ⟨_, rfl, _, _, _, [], _, [], hW', trodAll_mk1 (shut_bool Try.underlying4 _), (trodAll_cons_mk (Below.trod laidOut (by kernel_rfl) (of_decide_eq_true (by kernel_rfl)) k0 bel lt0) trodAll_mk0), rfl, bel.frame _, fun h => by cases h⟩

theorem over : Rows.fnDivisorsRow.holds Try.pinned (OpenSpec.ofChange Rows.fnDivisorsSpec) :=
  OpenClaim.holds_of_wide 3 Try.f3 rfl rfl rfl rfl rfl rfl rfl ⟨rfl, rfl, rfl, rfl, rfl⟩ rfl rfl rfl rfl rfl (by kernel_rfl) Try.func3 (by kernel_rfl)
    (of_decide_eq_true (by kernel_rfl)) (by unfold Func.isWrapper; first | (rw [if_pos (by decide +kernel)]; kernel_rfl) | (rw [if_neg (by decide +kernel)]; exact ⟨rfl, rfl⟩))
    (fun os started H enc _ => lifted os started H enc)

theorem proved : Rows.FnDivisorsSaid := over
end Go.Proofs.Ytoajmckhfnaifaa.fnDivisors
