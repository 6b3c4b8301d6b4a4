/- The last seat is tied. -/
import Derived.Test.YtoajmckhfnaifaaSeats
import Derived.WalkSpells
namespace Go.Proofs.Ytoajmckhfnaifaa
set_option linter.unusedVariables false
open Go.RowKit

def tiedAt (m : Int) (xs ys : List Int) (l i : Nat) : Bool := decide (i ≠ l) && (claimC m (ix xs i) (ix ys i) (ix xs l) (ix ys l - 1) == 0)
def tiedOn (m : Int) (xs : List Int) (k : Int) : Bool := seatsAskedB m xs k && decide (0 < k)
def lastOfI (os : List Int) : Nat := (ix os (os.length - 1)).toNat
/-- another party claims the last seat as well as the one that has it -/
def isTied (m : Int) (xs : List Int) (k : Int) : Bool := tiedOn m xs k && !allN (fun i => !tiedAt m xs (seatsBy m xs k) (lastOfI (seatOrder m xs k)) i) xs.length
theorem tied_no {m : Int} {xs : List Int} {k : Int} (h : tiedOn m xs k = false) : isTied m xs k = false := by unfold isTied; rw [h]; rfl
theorem tied_yes {m : Int} {xs : List Int} {k : Int} (h : tiedOn m xs k = true) : isTied m xs k = !allN (fun i => !tiedAt m xs (seatsBy m xs k) (lastOfI (seatOrder m xs k)) i) xs.length := by unfold isTied; rw [h]; rfl
structure TiedF (m : Int) (xs ys os : List Int) (l : Nat) : Prop where
  m1 : 1 ≤ m
  m5 : m ≤ 5
  n1 : 1 ≤ xs.length
  n6 : xs.length ≤ 6
  xb : ∀ x ∈ xs, 0 ≤ x ∧ x ≤ 1000000
  ol : 1 ≤ os.length
  ol2 : os.length ≤ 100
  ob : ∀ i, i < os.length → 0 ≤ ix os i ∧ ix os i < xs.length
  lo : ix os (os.length - 1) = (l : Int)
  ll : l < xs.length
  yl : ys.length = xs.length
  yb : ∀ i, i < xs.length → 0 ≤ ix ys i ∧ ix ys i ≤ 100
  y1 : 1 ≤ ix ys l
theorem tied_facts {m : Int} {xs : List Int} {k : Int} (h : tiedOn m xs k = true) : TiedF m xs (seatsBy m xs k) (seatOrder m xs k) (lastOfI (seatOrder m xs k)) := by
  unfold tiedOn at h
  rw [Bool.and_eq_true, decide_eq_true_eq] at h
  obtain ⟨h1, h2⟩ := h
  obtain ⟨m1, m5, k0, k1, n1, n6, hx⟩ := asked_facts h1
  obtain ⟨hol, hob⟩ := seatOrder_bd h1
  have hlast := hob ((seatOrder m xs k).length - 1) (by omega)
  have hb := cntTo_bd (n := xs.length) (os := seatOrder m xs k) (seatOrder m xs k).length hob
  refine ⟨m1, m5, n1, n6, hx, by omega, by omega, hob, by unfold lastOfI; omega, by unfold lastOfI; omega, ?_, ?_, ?_⟩
  · rw [seatsBy_yes h1, cntTo_len]
  · intro i hi
    rw [seatsBy_yes h1]
    have := hb i hi
    omega
  · rw [seatsBy_yes h1]
    obtain ⟨j, hj⟩ : ∃ j, (seatOrder m xs k).length = j + 1 := ⟨(seatOrder m xs k).length - 1, by omega⟩
    have hb2 := cntTo_bd (n := xs.length) (os := seatOrder m xs k) j (fun i hi => hob i (by omega))
    have hl : lastOfI (seatOrder m xs k) = (ix (seatOrder m xs k) j).toNat := by unfold lastOfI; rw [hj]; rfl
    have hj2 := hob j (by omega)
    rw [hj, cntTo, hl, ix_set (by rw [cntTo_len]; omega), if_pos rfl]
    have := hb2 (ix (seatOrder m xs k) j).toNat (by omega)
    omega
theorem tiedAt_same {m : Int} {xs ys : List Int} {l i : Nat} (h : i = l) : (!tiedAt m xs ys l i) = true := by unfold tiedAt; simp [h]
theorem tiedAt_ne {m : Int} {xs ys : List Int} {l i : Nat} (h : claimC m (ix xs i) (ix ys i) (ix xs l) (ix ys l - 1) ≠ 0) : (!tiedAt m xs ys l i) = true := by unfold tiedAt; simp [h]
theorem tiedAt_eq {m : Int} {xs ys : List Int} {l i : Nat} (h0 : i ≠ l) (h : claimC m (ix xs i) (ix ys i) (ix xs l) (ix ys l - 1) = 0) : (!tiedAt m xs ys l i) = false := by unfold tiedAt; simp [h0, h]
theorem lastOf_any (A : Option Addr) (n c : Nat) (xs : List Int) (w : World) (h : IntsAt w A n xs) (h0 : 0 < n) (hn : n ≤ 1048576) :
    Calls Try.prog 27 #[.slice A n c] w fun e w' => e = .returned (.int .i64 (ix xs (xs.length - 1))) ∧ w = w' := by
  obtain rfl := h.len
  obtain ⟨b, o, rfl, _, hc⟩ := h.at_ h0
  have hck := hc (xs.length - 1) (by omega)
  have e1 : ((xs.length : Int) - 1).toNat = xs.length - 1 := by omega
  have e2 : ((xs.length : Int) - 1) = ((xs.length - 1 : Nat) : Int) := by omega
  have E2 := Lib.hid e2
  clear hc e2
  obtain ⟨j, hj⟩ : ∃ j, xs.length = j + 1 := ⟨xs.length - 1, by omega⟩
  have e3 : xs.length - 1 = j := by omega
  rw [e3] at hck
  clear e1 e3 E2
  have HJ := Lib.hid hj
  have j1 : (0 : Int) ≤ (xs.length : Int) - 1 := by omega
  have j2 : ((xs.length : Int) - 1).toNat = j := by omega
  have e4 : xs.length - 1 = j := by omega
  rw [e4]
  have n0 : ((xs.length : Int) == 0) = false := by rw [beq_eq_false_iff_ne]; omega
  clear e4
  generalize xs.length = L at *
  subst hj
  go_enter Try.func27, Try.ntmps27
  go_wp2
  go_ret
  exact ⟨rfl, rfl⟩
theorem implSeatsBy_nil (m : Int) (A : Option Addr) (n c : Nat) (xs : List Int) (k : Int) (w : World) (h : IntsAt w A n xs) (hn : n ≤ 1048576) (hq : seatsAskedB m xs k = false) :
    Calls Try.prog 6 #[.int .i64 m, .slice A n c, .int .i64 k] w fun e w' => e = .returned (.slice none 0 0) ∧ Below w.heap.size w w' := by
  have hq2 := hq
  unfold seatsAskedB at hq2
  cases hm : inB m 1 5
  · go_enter Try.func6, Try.ntmps6
    go_wp2_with (go_at_call 21; refine (within_any _ _ _ _).mono ?_; rintro e w' ⟨rfl, rfl⟩)
    go_ret
    exact ⟨rfl, Below.refl _ _⟩
  · rw [hm, Bool.true_and] at hq2
    clear hq
    go_enter Try.func6, Try.ntmps6
    go_wp2_with (go_at_call 21; refine (within_any _ _ _ _).mono ?_; rintro e w' ⟨rfl, rfl⟩)
    (with_reducible refine (quotaAsked_any _ _ _ _ _ _ h hn).mono ?_)
    rintro e w1 ⟨rfl, hb⟩
    rw [hq2]
    go_wp2
    go_ret
    exact ⟨rfl, hb⟩
set_option maxRecDepth 100000 in
set_option maxHeartbeats 2000000 in
theorem implIsTied (m : Int) (A : Option Addr) (n c : Nat) (xs : List Int) (k : Int) (w : World) (h : IntsAt w A n xs) (hn : n ≤ 1048576) :
    Calls Try.prog 12 #[.int .i64 m, .slice A n c, .int .i64 k] w fun e w' => e = .returned (.bool (isTied m xs k)) ∧ Below w.heap.size w w' := by
  obtain rfl := h.len
  cases ht : tiedOn m xs k
  · rw [tied_no ht]
    cases hq : seatsAskedB m xs k
    · clear ht
      go_enter Try.func12, Try.ntmps12
      go_wp2_with fail
      (with_reducible refine (implSeatsBy_nil _ _ _ _ _ _ _ h hn hq).mono ?_)
      rintro e w1 ⟨rfl, hb⟩
      have he := Lib.run_eql_slice_nil (P := Try.prog) w1 23 3 none 0 0 0 0 Try.underlying23
      simp only [Option.isNone_none] at he
      go_wp2
      go_ret
      exact ⟨rfl, hb⟩
    · obtain ⟨_, _, k0, _, n1, _, _⟩ := asked_facts hq
      have hk : k = 0 := by unfold tiedOn at ht; rw [hq, Bool.true_and, decide_eq_false_iff_not] at ht; omega
      subst hk
      have hl : (seatsBy m xs 0).length = xs.length := by rw [seatsBy_yes hq, cntTo_len]
      have hl1 : 0 < (seatsBy m xs 0).length := by omega
      clear ht hq hl
      generalize hys : seatsBy m xs 0 = ys at *
      have HYS := Lib.hid hys
      clear hys
      go_enter Try.func12, Try.ntmps12
      go_wp2_with fail
      (with_reducible refine (implSeatsBy _ _ _ _ _ _ _ h hn).mono ?_)
      rintro e w1 ⟨A1, c1, rfl, ho, _, hb⟩
      rw [HYS.out] at ho ⊢
      obtain ⟨g, rfl, _, _⟩ := ho.head hl1
      have he := Lib.run_eql_slice_nil (P := Try.prog) w1 23 3 (some ⟨g, 0, none⟩) ys.length c1 0 0 Try.underlying23
      simp only [Option.isNone_some] at he
      go_wp2
      go_ret
      exact ⟨rfl, hb⟩
  rw [tied_yes ht]
  have F := Lib.hid (tied_facts ht)
  have hk : 0 < k := by unfold tiedOn at ht; rw [Bool.and_eq_true, decide_eq_true_eq] at ht; exact ht.2
  have ek : (k == 0) = false := by rw [beq_eq_false_iff_ne]; omega
  clear ht
  have H1 := Lib.hid (implSeatsBy m A xs.length c xs k w h hn)
  have H2 := Lib.hid (fun W hW => implSeatOrder m A xs.length c xs k W hW hn)
  generalize seatsBy m xs k = ys at *
  generalize lastOfI (seatOrder m xs k) = l at *
  generalize seatOrder m xs k = os at *
  have yl1 := Nat.le_of_eq F.out.yl
  have yl2 := Nat.le_of_eq F.out.yl.symm
  have n1 := F.out.n1
  have n6 := F.out.n6
  have ol1 := F.out.ol
  have ol2 := F.out.ol2
  go_enter Try.func12, Try.ntmps12
  go_wp2_with fail
  (with_reducible refine H1.out.mono ?_)
  rintro e w1 ⟨A1, c1, rfl, ho, _, hb1⟩
  obtain ⟨g, rfl, _, _⟩ := ho.head (by omega)
  have he := Lib.run_eql_slice_nil (P := Try.prog) w1 23 3 (some ⟨g, 0, none⟩) ys.length c1 0 0 Try.underlying23
  simp only [Option.isNone_some] at he
  have s1 := hb1.size
  go_wp2_with fail
  (with_reducible refine (H2.out _ (h.below hb1)).mono ?_)
  rintro e w2 ⟨A2, c2, rfl, ho2, _, hb⟩
  have hb2 := hb1.trans (hb.mono s1)
  have s2 := hb2.size
  have ho3 := ho.belowW hb
  have oat := ho2.at_
  clear hb hb1 he ho ho2
  go_wp2_with fail
  (with_reducible refine (lastOf_any _ _ _ _ _ oat (by omega) (by omega)).mono ?_)
  rintro e w3 ⟨rfl, rfl⟩
  rw [F.out.lo]
  go_wp2
  go_loopw [9, 27] (fun _ i_ wr => ∃ i : Nat, i ≤ xs.length ∧ i_ = .int .i64 i ∧ allN (fun i => !tiedAt m xs ys l i) i = true ∧ Below w2.heap.size w2 wr) (fun _ i_ _ => xs.length - (intOf i_).toNat)
  case atStart => exact ⟨0, Nat.zero_le _, rfl, rfl, Below.refl _ _⟩
  case round =>
    obtain ⟨i, hi, rfl, hall, hb⟩ := hrel
    have HA := Lib.hid hall
    clear hall
    have hzb := hb.size
    by_cases hlt : i < xs.length
    · obtain ⟨bx, ox, ex, _, hcx⟩ := ((h.below hb2).below hb).at_ hlt
      cases ex
      have hoy := ho3.belowW hb
      have xi := hcx i hlt
      have yi := hoy.cellAt i (show i < ys.length by omega)
      have xl := hcx l F.out.ll
      have yl := hoy.cellAt l (show l < ys.length by have := F.out.ll; omega)
      clear hcx hoy
      have bxi := F.out.xb _ (ix_mem hlt)
      have bxl := F.out.xb _ (ix_mem F.out.ll)
      have byi := F.out.yb i hlt
      have byl := F.out.yb l F.out.ll
      have by1 := F.out.y1
      have fl := F.out.ll
      have i1 : (0 : Int) ≤ (i : Int) := by omega
      have i2 : (i : Int) < (xs.length : Int) := by omega
      have i3 : (i : Int) < (ys.length : Int) := by omega
      have l1 : (0 : Int) ≤ (l : Int) := by omega
      have l2 : (l : Int) < (xs.length : Int) := by omega
      have l3 : (l : Int) < (ys.length : Int) := by omega
      have m1 := F.out.m1
      have m5 := F.out.m5
      have q0 : ∀ L : Later wr, L.W.cell? ⟨bx, ox + i, none⟩ = some (.int .i64 (ix xs i)) := fun L => L.cell xi
      have q1 : ∀ L : Later wr, L.W.cell? ⟨g, i, none⟩ = some (.int .i64 (ix ys i)) := fun L => L.cell yi
      have q2 : ∀ L : Later wr, L.W.cell? ⟨bx, ox + l, none⟩ = some (.int .i64 (ix xs l)) := fun L => L.cell xl
      have q3 : ∀ L : Later wr, L.W.cell? ⟨g, l, none⟩ = some (.int .i64 (ix ys l)) := fun L => L.cell yl
      clear xi yi xl yl
      by_cases hil : i = l
      · have HN := Lib.hid (allN_step (p := fun i => !tiedAt m xs ys l i) HA.out (tiedAt_same hil))
        have e1 : ((i : Int) != (l : Int)) = false := by rw [bne_eq_false_iff_eq]; omega
        clear hil
        go_wp2
        refine wp_region_later (by kernel_rfl) (by kernel_rfl) ?_
        repeat (go_big_quiet_step (fail))
        (refine wpQuiet_nil ?_; rintro _ ⟨⟨wl, hbl⟩, rfl⟩)
        go_wp2
        go_roundw
        case rel => exact ⟨i + 1, by omega, by go_num, HN.out, hb.trans (hbl.mono hzb)⟩
        case measure => simp [intOf]; omega
      have e1 : ((i : Int) != (l : Int)) = true := by rw [bne_iff_ne]; omega
      have ew : IntKind.i64.wrap (ix ys l - 1) = ix ys l - 1 := IntWalk.i64_in _ (by omega)
      have W := Lib.hid ew
      clear ew
      obtain ⟨r, hr⟩ : ∃ r, claimC m (ix xs i) (ix ys i) (ix xs l) (ix ys l - 1) = r := ⟨_, rfl⟩
      have K2 : Hid (∀ L : Later wr, Calls Try.prog 23 #[.int .i64 m, .int .i64 (ix xs i), .int .i64 (ix ys i), .int .i64 (ix xs l), .int .i64 (ix ys l - 1)] L.W fun e W' => e = .returned (.int .i64 r) ∧ ∃ L' : Later wr, W' = L'.W) := fun L => L.call (by
        exact (compareClaims_any m _ _ _ _ L.W m1 m5 bxi.1 bxi.2 byi.1 (by omega) bxl.1 bxl.2 (by omega) (by omega)).mono fun _ _ ⟨he, hw⟩ => ⟨by rw [he, hr], hw⟩)
      have K1 : Hid (∀ L : Later wr, Calls Try.prog 23 #[.int .i64 m, .int .i64 (ix xs i), .int .i64 (ix ys i), .int .i64 (ix xs l), .int .i64 (IntKind.i64.wrap (ix ys l - 1))] L.W fun e W' => e = .returned (.int .i64 r) ∧ ∃ L' : Later wr, W' = L'.W) := by have := K2; rw [← W.out] at this; exact this
      by_cases hr0 : r = 0
      · have HF := Lib.hid (allN_false (p := fun i => !tiedAt m xs ys l i) hlt (tiedAt_eq hil (by rw [hr]; exact hr0)))
        clear hr hil
        obtain rfl := hr0
        go_wp2
        refine wp_region_later (by kernel_rfl) (by kernel_rfl) ?_
        repeat (go_big_quiet_step ((first | (with_reducible exact K1.out _) | (with_reducible exact K2.out _))))
        (refine wpQuiet_nil ?_; rintro _ ⟨⟨wl, hbl⟩, rfl⟩)
        go_wp2
        go_ret
        exact ⟨ret_b (by rw [HF.out]; rfl), hb2.trans ((hb.trans (hbl.mono hzb)).mono s2)⟩
      · have HN := Lib.hid (allN_step (p := fun i => !tiedAt m xs ys l i) HA.out (tiedAt_ne (by rw [hr]; exact hr0)))
        have e2 : (r == 0) = false := by rw [beq_eq_false_iff_ne]; exact hr0
        clear hr hil hr0
        go_wp2
        refine wp_region_later (by kernel_rfl) (by kernel_rfl) ?_
        repeat (go_big_quiet_step ((first | (with_reducible exact K1.out _) | (with_reducible exact K2.out _))))
        (refine wpQuiet_nil ?_; rintro _ ⟨⟨wl, hbl⟩, rfl⟩)
        go_wp2
        go_roundw
        case rel => exact ⟨i + 1, by omega, by go_num, HN.out, hb.trans (hbl.mono hzb)⟩
        case measure => simp [intOf]; omega
    · obtain rfl : i = xs.length := by omega
      go_wp2
      go_ret
      exact ⟨ret_b (by rw [HA.out]; rfl), hb2.trans (hb.mono s2)⟩
end Go.Proofs.Ytoajmckhfnaifaa
