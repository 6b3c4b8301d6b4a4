/- The range of divisors: the program's side. -/
import Derived.Test.YtoajmckhfnaifaaJeff1
namespace Go.Proofs.Ytoajmckhfnaifaa
set_option linter.unusedVariables false
open Go.RowKit

set_option maxRecDepth 100000 in
set_option maxHeartbeats 4000000 in
theorem implJefferson (A : Option Addr) (n c : Nat) (xs : List Int) (k : Int) (w : World) (h : IntsAt w A n xs) (hn : n ≤ 1048576) :
    Calls Try.prog 13 #[.slice A n c, .int .i64 k] w fun e w' =>
      e = .returned (.tuple #[.agg #[.int .i64 (jLt xs k : Int), .int .i64 (jLb xs k : Int)], .agg #[.int .i64 (jHt xs k : Int), .int .i64 (jHb xs k : Int)], .bool (jGot xs k)]) ∧ Below w.heap.size w w' := by
  obtain rfl := h.len
  have P0 := PairAt.new w 0 0 33 rfl
  have P1 := PairAt.new (w.alloc (.cells #[.int .i64 (0 : Nat), .int .i64 (0 : Nat)] 33)) 0 0 33 (g := w.heap.size + 1) (by simp)
  replace P0 := P0.alloc (.cells #[.int .i64 (0 : Nat), .int .i64 (0 : Nat)] 33)
  have hs0 : ((w.alloc (.cells #[.int .i64 (0 : Nat), .int .i64 (0 : Nat)] 33)).alloc (.cells #[.int .i64 (0 : Nat), .int .i64 (0 : Nat)] 33)).heap.size = w.heap.size + 2 := by simp
  have hall : Below w.heap.size w ((w.alloc (.cells #[.int .i64 (0 : Nat), .int .i64 (0 : Nat)] 33)).alloc (.cells #[.int .i64 (0 : Nat), .int .i64 (0 : Nat)] 33)) := ((Below.refl _ _).alloc (Nat.le_refl _) _).alloc (by simp) _
  have h0 := h.below hall
  simp only [Int.natCast_zero] at P0 P1 hs0 hall h0
  cases hq : seatsAskedB 5 xs k
  · have hg : jGot xs k = false := by unfold jGot jOn; rw [hq]; rfl
    obtain ⟨e1, e2, e3, e4⟩ := jNo hg
    rw [hg, e1, e2, e3, e4]
    clear hg e1 e2 e3 e4
    go_enter Try.func13, Try.ntmps13
    go_wp2_with fail
    generalize ((w.alloc (.cells #[.int .i64 0, .int .i64 0] 33)).alloc (.cells #[.int .i64 0, .int .i64 0] 33)) = w0 at *
    (with_reducible refine (implSeatsBy_nil _ _ _ _ _ _ _ h0 hn hq).mono ?_)
    rintro e w1 ⟨rfl, hb⟩
    have he := Lib.run_eql_slice_nil (P := Try.prog) w1 23 3 none 0 0 0 0 Try.underlying23
    simp only [Option.isNone_none] at he
    have Q0 := P0.keep hb
    have Q1 := P1.keep hb
    have HB := Lib.hid (hall.trans (hb.mono (by omega)))
    clear P0 P1 hall hb hs0 h0
    obtain ⟨c0, c1, f0, f1⟩ := Q0
    obtain ⟨d0, d1, g0, g1⟩ := Q1
    go_wp2
    obtain ⟨e0, e1, e2, e3⟩ := two_set ⟨c0, c1, f0, f1⟩ ⟨d0, d1, g0, g1⟩ 0 0 0 0
    exact bodyPost_ret (v := .tuple #[.agg #[.int .i64 0, .int .i64 0], .agg #[.int .i64 0, .int .i64 0], .bool false]) (by simp [results, Try.results13, go_sem, e0, e1, e2, e3]) rfl ⟨rfl, (((HB.out.setCell (Nat.le_refl _) _).setCell (Nat.le_refl _) _).setCell (Nat.le_succ _) _).setCell (Nat.le_succ _) _⟩
  have F := Lib.hid (j_facts hq)
  obtain ⟨m1, m5, k0, k1, _, _, _⟩ := asked_facts hq
  clear m1 m5
  have HS := Lib.hid (fun W hW => implSeatsBy 5 A xs.length c xs k W hW hn)
  cases hkz : (k == 0)
  case true =>
    have hg : jGot xs k = false := by unfold jGot jOn; rw [eq_of_beq hkz]; simp
    obtain ⟨e1, e2, e3, e4⟩ := jNo hg
    rw [hg, e1, e2, e3, e4]
    clear hg e1 e2 e3 e4 hq
    generalize seatsBy 5 xs k = ys at *
    have yl1 := Nat.le_of_eq F.out.yl
    have yl2 := Nat.le_of_eq F.out.yl.symm
    have n1 := F.out.n1
    go_enter Try.func13, Try.ntmps13
    go_wp2_with fail
    generalize ((w.alloc (.cells #[.int .i64 0, .int .i64 0] 33)).alloc (.cells #[.int .i64 0, .int .i64 0] 33)) = w0 at *
    (with_reducible refine (HS.out _ h0).mono ?_)
    rintro e w1 ⟨A1, c1, rfl, ho, _, hb⟩
    obtain ⟨g, rfl, _, _⟩ := ho.head (by omega)
    have he := Lib.run_eql_slice_nil (P := Try.prog) w1 23 3 (some ⟨g, 0, none⟩) ys.length c1 0 0 Try.underlying23
    simp only [Option.isNone_some] at he
    have Q0 := P0.keep hb
    have Q1 := P1.keep hb
    have HB := Lib.hid (hall.trans (hb.mono (by omega)))
    clear P0 P1 hall hb hs0 h0
    obtain ⟨c0, c1, f0, f1⟩ := Q0
    obtain ⟨d0, d1, g0, g1⟩ := Q1
    go_wp2
    obtain ⟨e0, e1, e2, e3⟩ := two_set ⟨c0, c1, f0, f1⟩ ⟨d0, d1, g0, g1⟩ 0 0 0 0
    exact bodyPost_ret (v := .tuple #[.agg #[.int .i64 0, .int .i64 0], .agg #[.int .i64 0, .int .i64 0], .bool false]) (by simp [results, Try.results13, go_sem, e0, e1, e2, e3]) rfl ⟨rfl, (((HB.out.setCell (Nat.le_refl _) _).setCell (Nat.le_refl _) _).setCell (Nat.le_succ _) _).setCell (Nat.le_succ _) _⟩
  have hjon : jGot xs k = jLess (jFin xs k) := by
    unfold jGot jOn
    rw [hq, decide_eq_true (by intro e; rw [e] at hkz; simp at hkz)]; simp
  have HJ := Lib.hid (And.intro (fun h => jNo (xs := xs) (k := k) h) (And.intro (fun h => jYes (xs := xs) (k := k) h) hjon))
  clear hjon hq
  have HFIN : Hid (jFin xs k = jTo xs (seatsBy 5 xs k) xs.length) := rfl
  generalize jFin xs k = jf at *
  generalize jGot xs k = jg at *
  generalize jLt xs k = j1 at *
  generalize jLb xs k = j2 at *
  generalize jHt xs k = j3 at *
  generalize jHb xs k = j4 at *
  generalize seatsBy 5 xs k = ys at *
  have yl1 := Nat.le_of_eq F.out.yl
  have yl2 := Nat.le_of_eq F.out.yl.symm
  have n1 := F.out.n1
  have n6 := F.out.n6
  have HW0 : ∀ W, Calls Try.prog 28 #[.int .i64 0] W fun e w' => e = .returned (.agg #[.int .i64 0, .int .i64 1]) ∧ Below W.heap.size W w' := fun W => whole_any 0 W
  have HW1 : ∀ W, Calls Try.prog 28 #[.int .i64 1000000000] W fun e w' => e = .returned (.agg #[.int .i64 1000000000, .int .i64 1]) ∧ Below W.heap.size W w' := fun W => whole_any 1000000000 W
  have W0 := Lib.hid HW0
  have W1 := Lib.hid HW1
  clear HW0 HW1
  go_enter Try.func13, Try.ntmps13
  go_wp2_with fail
  generalize ((w.alloc (.cells #[.int .i64 0, .int .i64 0] 33)).alloc (.cells #[.int .i64 0, .int .i64 0] 33)) = w0 at *
  (with_reducible refine (HS.out _ h0).mono ?_)
  rintro e w1 ⟨A1, c1, rfl, ho, _, hb⟩
  obtain ⟨g, rfl, _, _⟩ := ho.head (by omega)
  have he := Lib.run_eql_slice_nil (P := Try.prog) w1 23 3 (some ⟨g, 0, none⟩) ys.length c1 0 0 Try.underlying23
  simp only [Option.isNone_some] at he
  replace P0 := P0.keep hb
  replace P1 := P1.keep hb
  replace hall := hall.trans (hb.mono (by omega))
  clear hb h0
  go_wp2_with fail
  (with_reducible refine (W0.out _).mono ?_)
  rintro e w2 ⟨rfl, hb⟩
  replace P0 := P0.keep hb
  replace P1 := P1.keep hb
  replace ho := ho.belowW hb
  have s1 := hall.size
  replace hall := hall.trans (hb.mono s1)
  have s2 := hb.size
  clear hb
  go_wp2_with fail
  (with_reducible refine (W1.out _).mono ?_)
  rintro e w3 ⟨rfl, hb⟩
  replace P0 := P0.keep hb
  replace P1 := P1.keep hb
  replace ho := ho.belowW hb
  replace hall := hall.trans (hb.mono (by omega))
  have s3 := hb.size
  clear hb
  obtain ⟨L0, H0, hbn, hsn⟩ := two_new w3 0 1 1000000000 1 33
  simp only [Int.natCast_zero, Int.natCast_one, show ((1000000000 : Nat) : Int) = 1000000000 from rfl] at L0 H0 hbn hsn
  have P0l := P0.lt
  have P1l := P1.lt
  have s4 := hall.size
  replace P0 := P0.keep hbn
  replace P1 := P1.keep hbn
  replace ho := ho.belowW hbn
  replace hall := hall.trans (hbn.mono s4)
  clear hbn hs0
  go_wp2
  generalize ((w3.alloc (.cells #[.int .i64 0, .int .i64 1] 33)).alloc (.cells #[.int .i64 1000000000, .int .i64 1] 33)) = w4 at *
  go_loopw [10, 11, 12, 13, 14, 15, 31] (fun _ _ _ _ _ _ i_ wr => ∃ i : Nat, i ≤ xs.length ∧ i_ = .int .i64 i ∧ PairAt wr w3.heap.size (jTo xs ys i).lt (jTo xs ys i).lb ∧ PairAt wr (w3.heap.size + 1) (jTo xs ys i).ht (jTo xs ys i).hb ∧ Below w3.heap.size w4 wr) (fun _ _ _ _ _ _ i_ _ => xs.length - (intOf i_).toNat)
  case atStart => exact ⟨0, Nat.zero_le _, rfl, L0, H0, Below.refl _ _⟩
  case round =>
    obtain ⟨i, hi, rfl, hl, hh, hb⟩ := hrel
    have zr := hb.size
    by_cases hlt : i < xs.length
    · have G := Lib.hid (F.out.good i hi)
      have HNX : Hid (jTo xs ys (i + 1) = jHigh (jLow (jTo xs ys i) (ix xs i).toNat (ix ys i).toNat) (ix xs i).toNat (ix ys i).toNat) := rfl
      have hall2 := hall.trans (hb.mono (by omega))
      obtain ⟨bx, ox, ex, _, hcx⟩ := (h.below hall2).at_ hlt
      cases ex
      have xi := hcx i hlt
      have hoy := ho.below hb (by omega)
      have yi := hoy.cellAt i (by omega)
      clear hcx hoy hall2
      obtain ⟨x, hx⟩ : ∃ x : Nat, ix xs i = (x : Int) := ⟨(ix xs i).toNat, by have := F.out.xb i hlt; omega⟩
      obtain ⟨q, hq⟩ : ∃ q : Nat, ix ys i = (q : Int) := ⟨(ix ys i).toNat, by have := F.out.yb i hlt; omega⟩
      have xm : x ≤ 1000000 := by have := F.out.xb i hlt; omega
      have qm : q ≤ 100 := by have := F.out.yb i hlt; omega
      rw [hx, hq, Int.toNat_natCast, Int.toNat_natCast] at HNX
      rw [hx] at xi
      rw [hq] at yi
      have HQ := Lib.hid hq
      clear hx hq
      have i2 : (i : Int) < (ys.length : Int) := by omega
      generalize jTo xs ys i = s at *
      obtain ⟨s', hs'⟩ : ∃ s', jTo xs ys (i + 1) = s' := ⟨_, rfl⟩
      rw [hs'] at HNX
      have HN2 := Lib.hid hs'
      clear hs'
      have q1 : IntKind.i64.wrap ((q : Int) + 1) = ((q + 1 : Nat) : Int) := by rw [IntWalk.i64_in _ (by omega)]; rfl
      have N1 := Lib.hid (fun W => reduced_any x (q + 1) W (by omega) (by omega) (by omega))
      have r1 := Lib.hid (red_ok (t := x) (b := q + 1) (by omega) (by omega) (by omega))
      have N2 := Lib.hid (fun (hq0 : q ≠ 0) W => reduced_any x q W (by omega) (by omega) (by omega))
      have r2 := Lib.hid (fun (hq0 : q ≠ 0) => red_ok (t := x) (b := q) (by omega) (by omega) (by omega))
      have JH0 := Lib.hid (jHigh_zero (s := jLow s x q) (x := x) (q := q))
      have JH1 := Lib.hid (jHigh_yes (s := jLow s x q) (x := x) (q := q))
      have JH2 := Lib.hid (jHigh_no (s := jLow s x q) (x := x) (q := q))
      have JL1 := Lib.hid (jLow_yes (s := s) (x := x) (q := q))
      have JL2 := Lib.hid (jLow_no (s := s) (x := x) (q := q))
      have JGL := Lib.hid (jGood_low (s := s) (x := x) (q := q) G.out (by omega) (by omega))
      replace N1 := N1.out
      simp only [Int.natCast_add, Int.natCast_one] at N1
      generalize jHigh (jLow s x q) x q = s2 at *
      generalize jLow s x q = s1 at *
      generalize redTop x (q + 1) = nt at *
      generalize redBot x (q + 1) = nb at *
      generalize redOk x (q + 1) = nk at *
      generalize redTop x q = ot at *
      generalize redBot x q = ob at *
      generalize redOk x q = ok at *
      have M1 := Lib.hid N1
      clear N1 q1
      go_wp2_with fail
      (with_reducible refine (M1.out _).mono ?_)
      rintro e w5 ⟨rfl, hb5⟩
      replace hl := hl.keep hb5
      replace hh := hh.keep hb5
      replace hb := hb.trans (hb5.mono (by omega))
      obtain ⟨NX, hb6⟩ := one_new w5 nt nb 33
      have z5 := hb5.size
      replace hl := hl.keep hb6
      replace hh := hh.keep hb6
      replace hb := hb.trans (hb6.mono (by omega))
      clear hb5 hb6 xi yi M1
      obtain ⟨a0, a1, _, _⟩ := hl
      obtain ⟨b0, b1, _, _⟩ := NX
      have HL := Lib.hid (show PairAt _ _ _ _ from ⟨a0, a1, by assumption, by assumption⟩)
      have HX := Lib.hid (show PairAt _ _ _ _ from ⟨b0, b1, by assumption, by assumption⟩)
      go_wp2_with fail
      clear a0 a1 b0 b1
      generalize w5.alloc (.cells #[.int .i64 nt, .int .i64 nb] 33) = w6 at *
      (with_reducible refine (less_any s.lt s.lb nt nb _ G.out.l r1.out.2).mono ?_)
      rintro e w7 ⟨rfl, hb7⟩
      have z6 := hb.size
      replace hh := hh.keep hb7
      have hl := HL.out.keep hb7
      have hx := HX.out.keep hb7
      replace hb := hb.trans (hb7.mono (by omega))
      have z7 := hb7.size
      clear hb7 HL HX
      by_cases q0 : q = 0
      · have t0 : ((q : Int) == 0) = true := by rw [beq_iff_eq]; omega
        cases hc : lessF s.lt s.lb nt nb
        · have hs1 := JL2.out hc
          have hl' := hl
          clear hl hx
          have yi := (ho.below hb (by omega)).cellAt i (by omega)
          rw [HQ.out] at yi
          have HL := Lib.hid hl'
          have HH := Lib.hid hh
          have HB := Lib.hid hb
          have HS1 := Lib.hid hs1
          clear hl' hh hb hs1
          have HS2 := Lib.hid (HNX.out.trans (JH0.out q0))
          go_wp2
          go_roundw
          case rel => exact ⟨i + 1, by omega, by go_num, by rw [HN2.out, HS2.out, HS1.out]; exact HL.out, by rw [HN2.out, HS2.out, HS1.out]; exact HH.out, HB.out⟩
          case measure => simp [intOf]; omega
        · have hs1 := JL1.out hc
          replace hh := hh.other (d := w3.heap.size) (by omega) (.int .i64 (nt : Int)) (.int .i64 (nb : Int))
          have hl' := hl.set nt nb
          replace hb := (hb.setCell (p := ⟨w3.heap.size, 0, none⟩) (Nat.le_refl _) (.int .i64 (nt : Int))).setCell (p := ⟨w3.heap.size, 1, none⟩) (Nat.le_refl _) (.int .i64 (nb : Int))
          obtain ⟨a0, a1, a2, a3⟩ := hl
          obtain ⟨b0, b1, b2, b3⟩ := hx
          have yi := (ho.below hb (by omega)).cellAt i (by omega)
          rw [HQ.out] at yi
          have HL := Lib.hid hl'
          have HH := Lib.hid hh
          have HB := Lib.hid hb
          have HS1 := Lib.hid hs1
          clear hl' hh hb hs1
          have HS2 := Lib.hid (HNX.out.trans (JH0.out q0))
          go_wp2
          go_roundw
          case rel => exact ⟨i + 1, by omega, by go_num, by rw [HN2.out, HS2.out, HS1.out]; exact HL.out, by rw [HN2.out, HS2.out, HS1.out]; exact HH.out, HB.out⟩
          case measure => simp [intOf]; omega
      · have t0 : ((q : Int) == 0) = false := by rw [beq_eq_false_iff_ne]; omega
        have M2 := Lib.hid (N2.out q0)
        have r3 := Lib.hid (r2.out q0)
        cases hc : lessF s.lt s.lb nt nb
        · have hs1 := JL2.out hc
          have hl' := hl
          clear hl hx
          have yi := (ho.below hb (by omega)).cellAt i (by omega)
          rw [HQ.out] at yi
          have HL := Lib.hid hl'
          have HH := Lib.hid hh
          have HB := Lib.hid hb
          have HS1 := Lib.hid hs1
          clear hl' hh hb hs1
          go_wp2_with fail
          generalize w7 = w8 at *
          (with_reducible refine (M2.out _).mono ?_)
          rintro e w9 ⟨rfl, hb9⟩
          obtain ⟨OX, hb10⟩ := one_new w9 ot ob 33
          have z8 := HB.out.size
          have z9 := hb9.size
          have hl := (HL.out.keep hb9).keep hb10
          have hh := (HH.out.keep hb9).keep hb10
          have hb := (HB.out.trans (hb9.mono (by omega))).trans (hb10.mono (by omega))
          clear HL HH HB hb9 hb10 yi
          obtain ⟨a0, a1, _, _⟩ := hh
          obtain ⟨b0, b1, _, _⟩ := OX
          have HH := Lib.hid (show PairAt _ _ _ _ from ⟨a0, a1, by assumption, by assumption⟩)
          have HX := Lib.hid (show PairAt _ _ _ _ from ⟨b0, b1, by assumption, by assumption⟩)
          go_wp2_with fail
          clear a0 a1 b0 b1
          generalize w9.alloc (.cells #[.int .i64 ot, .int .i64 ob] 33) = w10 at *
          (with_reducible refine (less_any ot ob s.ht s.hb _ r3.out.2 G.out.h).mono ?_)
          rintro e w11 ⟨rfl, hb11⟩
          have z10 := hb.size
          replace hl := hl.keep hb11
          have hh := HH.out.keep hb11
          have hx := HX.out.keep hb11
          replace hb := hb.trans (hb11.mono (by omega))
          have z11 := hb11.size
          clear hb11 HH HX
          cases hd : lessF ot ob s.ht s.hb
          · have HS2 := Lib.hid (HNX.out.trans (JH2.out (by rw [HS1.out]; exact hd)))
            have hh' := hh
            clear hh hx
            have HL := Lib.hid hl
            have HH := Lib.hid hh'
            have HB := Lib.hid hb
            clear hl hh' hb
            go_wp2
            go_roundw
            case rel => exact ⟨i + 1, by omega, by go_num, by rw [HN2.out, HS2.out, HS1.out]; exact HL.out, by rw [HN2.out, HS2.out, HS1.out]; exact HH.out, HB.out⟩
            case measure => simp [intOf]; omega
          · have HS2 := Lib.hid (HNX.out.trans (JH1.out q0 (by rw [HS1.out]; exact hd)))
            replace hl := hl.other (d := w3.heap.size + 1) (by omega) (.int .i64 (ot : Int)) (.int .i64 (ob : Int))
            have hh' := hh.set ot ob
            replace hb := (hb.setCell (p := ⟨w3.heap.size + 1, 0, none⟩) (Nat.le_succ _) (.int .i64 (ot : Int))).setCell (p := ⟨w3.heap.size + 1, 1, none⟩) (Nat.le_succ _) (.int .i64 (ob : Int))
            obtain ⟨a0, a1, a2, a3⟩ := hh
            obtain ⟨b0, b1, b2, b3⟩ := hx
            have HL := Lib.hid hl
            have HH := Lib.hid hh'
            have HB := Lib.hid hb
            clear hl hh' hb
            go_wp2
            go_roundw
            case rel => exact ⟨i + 1, by omega, by go_num, by rw [HN2.out, HS2.out, HS1.out]; exact HL.out, by rw [HN2.out, HS2.out]; exact HH.out, HB.out⟩
            case measure => simp [intOf]; omega
        · have hs1 := JL1.out hc
          replace hh := hh.other (d := w3.heap.size) (by omega) (.int .i64 (nt : Int)) (.int .i64 (nb : Int))
          have hl' := hl.set nt nb
          replace hb := (hb.setCell (p := ⟨w3.heap.size, 0, none⟩) (Nat.le_refl _) (.int .i64 (nt : Int))).setCell (p := ⟨w3.heap.size, 1, none⟩) (Nat.le_refl _) (.int .i64 (nb : Int))
          obtain ⟨a0, a1, a2, a3⟩ := hl
          obtain ⟨b0, b1, b2, b3⟩ := hx
          have yi := (ho.below hb (by omega)).cellAt i (by omega)
          rw [HQ.out] at yi
          have HL := Lib.hid hl'
          have HH := Lib.hid hh
          have HB := Lib.hid hb
          have HS1 := Lib.hid hs1
          clear hl' hh hb hs1
          go_wp2_with fail
          clear a0 a1 a2 a3 b0 b1 b2 b3
          generalize (w7.setCell ⟨w3.heap.size, 0, none⟩ (.int .i64 (nt : Int))).setCell ⟨w3.heap.size, 1, none⟩ (.int .i64 (nb : Int)) = w8 at *
          (with_reducible refine (M2.out _).mono ?_)
          rintro e w9 ⟨rfl, hb9⟩
          obtain ⟨OX, hb10⟩ := one_new w9 ot ob 33
          have z8 := HB.out.size
          have z9 := hb9.size
          have hl := (HL.out.keep hb9).keep hb10
          have hh := (HH.out.keep hb9).keep hb10
          have hb := (HB.out.trans (hb9.mono (by omega))).trans (hb10.mono (by omega))
          clear HL HH HB hb9 hb10 yi
          obtain ⟨a0, a1, _, _⟩ := hh
          obtain ⟨b0, b1, _, _⟩ := OX
          have HH := Lib.hid (show PairAt _ _ _ _ from ⟨a0, a1, by assumption, by assumption⟩)
          have HX := Lib.hid (show PairAt _ _ _ _ from ⟨b0, b1, by assumption, by assumption⟩)
          go_wp2_with fail
          clear a0 a1 b0 b1
          generalize w9.alloc (.cells #[.int .i64 ot, .int .i64 ob] 33) = w10 at *
          (with_reducible refine (less_any ot ob s.ht s.hb _ r3.out.2 G.out.h).mono ?_)
          rintro e w11 ⟨rfl, hb11⟩
          have z10 := hb.size
          replace hl := hl.keep hb11
          have hh := HH.out.keep hb11
          have hx := HX.out.keep hb11
          replace hb := hb.trans (hb11.mono (by omega))
          have z11 := hb11.size
          clear hb11 HH HX
          cases hd : lessF ot ob s.ht s.hb
          · have HS2 := Lib.hid (HNX.out.trans (JH2.out (by rw [HS1.out]; exact hd)))
            have hh' := hh
            clear hh hx
            have HL := Lib.hid hl
            have HH := Lib.hid hh'
            have HB := Lib.hid hb
            clear hl hh' hb
            go_wp2
            go_roundw
            case rel => exact ⟨i + 1, by omega, by go_num, by rw [HN2.out, HS2.out, HS1.out]; exact HL.out, by rw [HN2.out, HS2.out, HS1.out]; exact HH.out, HB.out⟩
            case measure => simp [intOf]; omega
          · have HS2 := Lib.hid (HNX.out.trans (JH1.out q0 (by rw [HS1.out]; exact hd)))
            replace hl := hl.other (d := w3.heap.size + 1) (by omega) (.int .i64 (ot : Int)) (.int .i64 (ob : Int))
            have hh' := hh.set ot ob
            replace hb := (hb.setCell (p := ⟨w3.heap.size + 1, 0, none⟩) (Nat.le_succ _) (.int .i64 (ot : Int))).setCell (p := ⟨w3.heap.size + 1, 1, none⟩) (Nat.le_succ _) (.int .i64 (ob : Int))
            obtain ⟨a0, a1, a2, a3⟩ := hh
            obtain ⟨b0, b1, b2, b3⟩ := hx
            have HL := Lib.hid hl
            have HH := Lib.hid hh'
            have HB := Lib.hid hb
            clear hl hh' hb
            go_wp2
            go_roundw
            case rel => exact ⟨i + 1, by omega, by go_num, by rw [HN2.out, HS2.out, HS1.out]; exact HL.out, by rw [HN2.out, HS2.out]; exact HH.out, HB.out⟩
            case measure => simp [intOf]; omega
    · obtain rfl : i = xs.length := by omega
      have G := Lib.hid (F.out.good xs.length (Nat.le_refl _))
      rw [← HFIN.out] at hl hh G
      have Q0 := P0.below hb (by omega)
      have Q1 := P1.below hb (by omega)
      replace hall := hall.trans (hb.mono (by omega))
      obtain ⟨a0, a1, _, _⟩ := hl
      obtain ⟨b0, b1, _, _⟩ := hh
      have HL := Lib.hid (show PairAt _ _ _ _ from ⟨a0, a1, by assumption, by assumption⟩)
      have HH := Lib.hid (show PairAt _ _ _ _ from ⟨b0, b1, by assumption, by assumption⟩)
      clear P0 P1
      go_wp2_with fail
      clear a0 a1 b0 b1
      (with_reducible refine (less_any jf.lt jf.lb jf.ht jf.hb _ G.out.l G.out.h).mono ?_)
      rintro e w7 ⟨rfl, hb7⟩
      have hl := HL.out.keep hb7
      have hh := HH.out.keep hb7
      replace Q0 := Q0.keep hb7
      replace Q1 := Q1.keep hb7
      have zz := hall.size
      have HB := Lib.hid (hall.trans (hb7.mono zz))
      have HQ0 := Lib.hid Q0
      have HQ1 := Lib.hid Q1
      clear HL HH hall hb hb7
      cases hc : lessF jf.lt jf.lb jf.ht jf.hb
      · have hjg : jg = false := HJ.out.2.2.trans hc
        have HE := Lib.hid (HJ.out.1 hjg)
        have HG := Lib.hid hjg
        clear hjg hl hh
        obtain ⟨c0, c1, f0, f1⟩ := Q0
        obtain ⟨d0, d1, g0, g1⟩ := Q1
        go_wp2
        obtain ⟨e0, e1, e2, e3⟩ := two_set HQ0.out HQ1.out 0 0 0 0
        obtain ⟨x1, x2, x3, x4⟩ := HE.out
        rw [HG.out, x1, x2, x3, x4]
        exact bodyPost_ret (v := .tuple #[.agg #[.int .i64 0, .int .i64 0], .agg #[.int .i64 0, .int .i64 0], .bool false]) (by simp [results, Try.results13, go_sem, e0, e1, e2, e3]) rfl ⟨rfl, (((HB.out.setCell (Nat.le_refl _) _).setCell (Nat.le_refl _) _).setCell (Nat.le_succ _) _).setCell (Nat.le_succ _) _⟩
      · have hjg : jg = true := HJ.out.2.2.trans hc
        have HE := Lib.hid (HJ.out.2.1 hjg)
        have HG := Lib.hid hjg
        clear hjg
        obtain ⟨c0, c1, f0, f1⟩ := Q0
        obtain ⟨d0, d1, g0, g1⟩ := Q1
        obtain ⟨a0, a1, _, _⟩ := hl
        obtain ⟨b0, b1, _, _⟩ := hh
        go_wp2
        go_region
        go_wp2
        have z2 := two_set HQ0.out HQ1.out (jf.lt : Int) (jf.lb : Int) (jf.ht : Int) (jf.hb : Int)
        obtain ⟨e0, e1, e2, e3⟩ := z2
        obtain ⟨x1, x2, x3, x4⟩ := HE.out
        rw [HG.out, x1, x2, x3, x4]
        exact bodyPost_ret (v := .tuple #[.agg #[.int .i64 (jf.lt : Int), .int .i64 (jf.lb : Int)], .agg #[.int .i64 (jf.ht : Int), .int .i64 (jf.hb : Int)], .bool true]) (by simp [results, Try.results13, go_sem, e0, e1, e2, e3]) rfl ⟨rfl, ((((HB.out.setCell (Nat.le_refl _) _).setCell (Nat.le_refl _) _).setCell (Nat.le_succ _) _).setCell (Nat.le_succ _) _).drew⟩
end Go.Proofs.Ytoajmckhfnaifaa
