/- The law on tables (FnTables): for every input the call returns true, and each argument reads as before. No condition. -/
import Derived.Test.YtefppihanblhmaaTabLaw
import Derived.Test.YtefppihanblhmaaTabSums
import Derived.Test.YtefppihanblhmaaOpenB
namespace Go.Proofs.Ytefppihanblhmaa
open Go.RowKit
attribute [local go_sem ↓] Go.wp_at_zero Go.wp_at_succ

set_option maxHeartbeats 2000000 in
set_option maxRecDepth 100000 in
theorem law_FnTables (A : Option Addr) (n c : Nat) (w : World) (hb : BytesAt w w.heap.size A n) (hm : n ≤ maxLen) :
    Calls Try.prog 3 #[.slice A n c] w fun e w' => e = .returned (.bool true) ∧ Below w.heap.size w w' := by
  unfold maxLen at hm
  by_cases big : 1048576 < n
  · go_enter Try.func3, Try.ntmps3
    go_wp2_with fail
    go_ret
    exact ⟨rfl, Below.refl _ _⟩
  have sm : n ≤ 1048576 := by omega
  clear big
  go_enter Try.func3, Try.ntmps3
  go_wp2_with fail
  (with_reducible refine (makeTenths_any A n c _ hb sm).mono ?_)
  rintro e w1 ⟨A1, c1, k, lo, t, rfl, o1, hlo, hl, hk, hD, bt⟩
  obtain ⟨N, S, F0⟩ := TF.of hl hk hD
  have F := Lib.hid F0
  obtain ⟨L, hL⟩ : ∃ L, t.length = L := ⟨_, rfl⟩
  rw [hL] at o1 F hl ⊢
  clear F0 hD hb
  have T1 : RowsAt w1 A1 L t := o1.at_
  have tx : Hid (∀ xs ∈ t, xs.length ≤ 1048576) := fun xs hx => by rw [F.out.row xs hx]; omega
  have l20 : L ≤ 1048576 := by omega
  clear o1 hL
  go_wp2_with fail
  (with_reducible refine (implRoundTable _ _ _ _ _ T1 l20 tx.out).mono ?_)
  rintro e w2 ⟨A2, c2, rfl, o2, _, _, b2⟩
  rw [F.out.rl, F.out.has] at *
  have T2 := T1.below b2
  have R2 : RowsAt w2 A2 L (rndT t) := o2.at_
  have bt2 := bt.trans (b2.mono bt.size)
  clear T1 b2 bt o2
  go_wp2_with fail
  (with_reducible refine (implCountRoundings _ _ _ _ _ T2 l20 tx.out).mono ?_)
  rintro e w3 ⟨rfl, b3⟩
  rw [F.out.cnt]
  have T3 := T2.below b3
  have R3 := R2.below b3
  have bt3 := bt2.trans (b3.mono bt2.size)
  clear T2 b3 bt2 R2
  go_wp2_with fail
  (with_reducible refine (implTurnTable _ _ _ _ _ T3 l20 tx.out).mono ?_)
  rintro e w4 ⟨A4, c4, rfl, o4, _, _, b4⟩
  rw [turnOf_yes F.out.ok, F.out.ul] at *
  have T4 := T3.below b4
  have R4 := R3.below b4
  have U4 : RowsAt w4 A4 k (turnR t) := o4.at_
  have bt4 := bt3.trans (b4.mono bt3.size)
  clear T3 b4 bt3 R3 o4
  go_wp2_with fail
  (with_reducible refine (implRoundEach _ _ _ _ _ T4 l20 tx.out).mono ?_)
  rintro e w5 ⟨A5, c5, rfl, o5, _, _, b5⟩
  rw [roundEachOf_yes F.out.ok, roundR_len, F.out.len, F.out.ok] at *
  have T5 := T4.below b5
  have R5 := R4.below b5
  have U5 := U4.below b5
  have E5 : RowsAt w5 A5 L (roundR t) := o5.at_
  have bt5 := bt4.trans (b5.mono bt4.size)
  clear T4 b5 bt4 R4 U4 o5
  have n1 := F.out.n1
  have n2 : ¬ ((N : Int) < 1) := by omega
  have k20 : k ≤ 1048576 := by omega
  have rx_ : Hid (∀ xs ∈ rndT t, xs.length ≤ 1048576) := fun xs hx => by rw [F.out.rrow xs hx]; omega
  have ux : Hid (∀ xs ∈ turnR t, xs.length ≤ 1048576) := fun xs hx => by rw [F.out.urow xs hx]; omega
  go_wp2_with fail
  (with_reducible refine (implTableOk _ _ _ _ _ T5 l20 tx.out).mono ?_)
  rintro e w6 ⟨rfl, b6⟩
  rw [F.out.ok]
  go_wp2_with fail
  (with_reducible refine (implIsRounding _ _ _ _ _ _ _ _ _ (T5.below b6) l20 tx.out (R5.below b6) l20 rx_.out).mono ?_)
  rintro e w7 ⟨rfl, b7⟩
  rw [F.out.rnd]
  replace b7 := b6.trans (b7.mono b6.size)
  clear b6
  go_wp2_with fail
  (with_reducible refine (implCountRoundings _ _ _ _ _ (U5.below b7) k20 ux.out).mono ?_)
  rintro e w8 ⟨rfl, b8⟩
  rw [F.out.cntU]
  replace b8 := b7.trans (b8.mono b7.size)
  clear b7
  go_wp2_with fail
  (with_reducible refine (implTurnTable _ _ _ _ _ (U5.below b8) k20 ux.out).mono ?_)
  rintro e w9 ⟨A9, c9, rfl, o9, _, _, b9⟩
  rw [turnOf_yes F.out.uok, F.out.uu, F.out.len] at *
  have V9 : RowsAt w9 A9 L t := o9.at_
  replace b9 := b8.trans (b9.mono b8.size)
  clear b8 o9
  go_wp2_with fail
  (with_reducible refine (tables_any _ _ _ _ _ _ _ _ _ V9 (T5.below b9) l20 l20 tx.out rfl).mono ?_)
  rintro e w10 ⟨rfl, rfl⟩
  clear V9
  go_wp2_with fail
  (with_reducible refine (implRowSums _ _ _ _ _ (T5.below b9) l20 tx.out).mono ?_)
  rintro e w11 ⟨A11, c11, rfl, o11, q11, b11⟩
  rw [rowSumsOf_yes F.out.ok, rsums_len, F.out.len] at *
  replace b11 := b9.trans (b11.mono b9.size)
  clear b9
  go_wp2_with fail
  (with_reducible refine (implColumnSums _ _ _ _ _ (U5.below b11) k20 ux.out).mono ?_)
  rintro e w12 ⟨A12, c12, rfl, o12, q12, b12⟩
  rw [colSumsOf_yes F.out.uok, F.out.uu, rsums_len, F.out.len] at *
  have I11 : IntsAt w12 A11 L (rsums t) := (o11.belowW b12).at_
  have I12 : IntsAt w12 A12 L (rsums t) := o12.at_
  replace b12 := b11.trans (b12.mono b11.size)
  clear b11 o11 o12
  go_wp2_with fail
  (with_reducible refine (same_any _ _ _ _ _ _ _ _ _ I11 I12 l20 l20 rfl).mono ?_)
  rintro e w13 ⟨rfl, rfl⟩
  clear I11 I12
  go_wp2_with fail
  (with_reducible refine (implRowSums _ _ _ _ _ (T5.below b12) l20 tx.out).mono ?_)
  rintro e w14 ⟨A14, c14, rfl, o14, _, b14⟩
  rw [rowSumsOf_yes F.out.ok, rsums_len, F.out.len] at *
  have I14 : IntsAt w14 A14 L (rsums t) := o14.at_
  replace b14 := b12.trans (b14.mono b12.size)
  clear b12 o14
  have SB := Lib.hid (lsum_table F.out.ok)
  go_wp2_with fail
  (with_reducible refine (sum_any _ _ _ _ _ I14 l20 (fun x hx => by have := SB.out x hx; omega)).mono ?_)
  rintro e w15 ⟨rfl, rfl⟩
  rw [F.out.tot]
  clear I14 SB
  go_wp2_with fail
  (with_reducible refine (implTotalOf _ _ _ _ _ (T5.below b14) l20 tx.out).mono ?_)
  rintro e w16 ⟨rfl, b16⟩
  rw [totalOf_yes F.out.ok, F.out.tot]
  replace b16 := b14.trans (b16.mono b14.size)
  replace bt5 := bt5.trans (b16.mono bt5.size)
  replace T5 := T5.below b16
  replace R5 := R5.below b16
  replace E5 := E5.below b16
  clear b14 b16 U5 ux
  go_wp2_with fail
  clear n1 n2 k20 q11 q12 rx_ tx
  go_loopw [10, 11, 12, 13, 99, 124] (fun _ _ _ _ i _ wr => ∃ j : Nat, j ≤ L ∧ i = .int .i64 j ∧ Below w16.heap.size w16 wr) (fun _ _ _ _ i _ _ => L - (intOf i).toNat)
  case atStart => exact ⟨0, Nat.zero_le _, rfl, Below.refl _ _⟩
  case round =>
    obtain ⟨i, hi, rfl, hbr⟩ := hrel
    obtain ⟨wo, rfl⟩ : ∃ wo : World, wo = wr := ⟨_, rfl⟩
    by_cases hlt : i < L
    · have HL := Lib.hid F.out.len
      obtain ⟨b1, o1, B1, d1, ea1, _, hc1, _, hin1⟩ := (T5.below hbr).at_ (k := i) hlt
      obtain ⟨b2, o2, B2, d2, ea2, _, hc2, _, hin2⟩ := (R5.below hbr).at_ (k := i) hlt
      obtain ⟨b3, o3, B3, d3, ea3, _, hc3, _, hin3⟩ := (E5.below hbr).at_ (k := i) hlt
      cases ea1
      cases ea2
      cases ea3
      have e1 := F.out.row _ (rx_mem (xss := t) (j := i) (by rw [HL.out]; exact hlt))
      have e2 := F.out.rrow _ (rx_mem (xss := rndT t) (j := i) (by rw [F.out.rl]; exact hlt))
      have e3 := F.out.erow _ (rx_mem (xss := roundR t) (j := i) (by rw [roundR_len, HL.out]; exact hlt))
      rw [e1] at hc1 hin1
      rw [e2] at hc2
      rw [e3] at hc3 hin3
      have X1 := Lib.hid e1
      clear e1 e2 e3 hin2
      go_wp2_with fail
      go_loopw [12, 13, 124] (fun _ _ i wr => ∃ j : Nat, j ≤ k ∧ i = .int .i64 j ∧ Below wo.heap.size wo wr) (fun _ _ i _ => k - (intOf i).toNat)
      case atStart => exact ⟨0, Nat.zero_le _, rfl, Below.refl _ _⟩
      case round =>
        obtain ⟨j, hj, rfl, hbi⟩ := hrel
        by_cases hjl : j < k
        · obtain ⟨g1, p1, rfl, _, hd1⟩ := (hin1.below hbi).at_ hjl
          obtain ⟨g3, p3, rfl, _, hd3⟩ := (hin3.below hbi).at_ hjl
          have x1 := hd1 j hjl
          have x3 := hd3 j hjl
          have hx := F.out.ent _ (rx_mem (xss := t) (j := i) (by rw [HL.out]; exact hlt)) _ (ix_mem (xs := rx t i) (j := j) (by rw [X1.out]; exact hjl))
          have hy : ix (rx (roundR t) i) j = roundNum (ix (rx t i) j) := by
            have h1 : i < t.length := by rw [HL.out]; exact hlt
            have h2 : j < (rx t i).length := by rw [X1.out]; exact hjl
            have h3 : rx (roundR t) i = roundRow (rx t i) := by rw [rx_lt (by rw [roundR_len]; exact h1), rx_lt h1]; simp [roundR]
            rw [h3, ix_lt (by rw [roundRow_len]; exact h2), ix_lt h2]; simp [roundRow]
          rw [hy] at x3
          have cE := cell_carry hbi hc3
          clear hd1 hd3 hy
          generalize ix (rx t i) j = x at *
          have hr1 : isRnd x (roundNum x) = true := by
            unfold isRnd roundNum
            have : ((x + 5) / 10 * 10).tmod 10 = 0 := by rw [Int.tmod_eq_emod_of_nonneg (by omega)]; omega
            simp only [Bool.and_eq_true, beq_iff_eq, decide_eq_true_eq, inB_iff]
            omega
          have hy2 : x - 5 ≤ roundNum x ∧ roundNum x ≤ x + 5 := by unfold roundNum; omega
          generalize roundNum x = y at *
          have K0 : ∀ w', Calls Try.prog 17 #[.int .i64 x, .int .i64 y] w' fun e w'' => e = .returned (.bool true) ∧ w' = w'' := fun w' => by rw [← hr1]; exact implIsRoundedTo x y w'
          clear hr1
          have K1 := Lib.hid (fun q => Calls.quiet_of_same (n := q) ((K0 (wr.drewN q)).mono fun _ _ ⟨he, hw⟩ => ⟨he, hw.symm⟩))
          have ha := hx.1; have hb1 := hx.2; have hc := hy2.1; have hd := hy2.2
          have t3 : decide ((10 : Int) < 2 * max (x - y) (y - x)) = false := by simp; omega
          clear hx hy2 hc1 hc3 hin1 hin3 hc2 K0
          go_upto_region 18 with fail
          go_quiet ((with_reducible exact K1.out _))
          go_wp2_with fail
          go_roundw
          case rel => exact ⟨j + 1, by omega, by go_num, hbi.trans (below_of_drewN rfl)⟩
          case measure => simp [intOf]; omega
        · obtain rfl : j = k := by omega
          go_wp2_with fail
          go_roundw
          case rel => exact ⟨i + 1, by omega, by go_num, hbr.trans (hbi.mono hbr.size)⟩
          case measure => simp [intOf]; omega
    · obtain rfl : i = L := by omega
      go_wp2_with fail
      (with_reducible refine (implIsRoundedTo 15 10 _).mono ?_)
      rintro e w17 ⟨rfl, rfl⟩
      rw [show isRnd 15 10 = true by decide]
      go_wp2_with fail
      (with_reducible refine (implIsRoundedTo 15 30 _).mono ?_)
      rintro e w18 ⟨rfl, rfl⟩
      rw [show isRnd 15 30 = false by decide]
      go_wp2_with fail
      go_ret
      exact ⟨rfl, bt5.trans (hbr.mono bt5.size)⟩
end Go.Proofs.Ytefppihanblhmaa

namespace Go.Proofs.Ytefppihanblhmaa.fnTables
open Go.ChangeShapes Go.WideShapes Go.ChangeAt Go.RowKit
open Go.ChangeMaps (open_string shut_string)
set_option linter.unusedVariables false

set_option maxRecDepth 100000 in
theorem lifted (os : Os) (started : os.Started) (H : Type) (enc : TypeId × Value → H) :
    ReturnsInHanded {} Try.checked os 3 .any (Rows.fnTablesSpec.pre6 enc Try.prog Try.f3 Rows.fnTablesRow.domain false) (Rows.fnTablesSpec.post enc Try.prog Try.f3 false true false false) := by
  refine returnsInHanded_of_change (C := Try.checked) own started (by kernel_rfl) Try.func3
    (ChangeSpec.witness6 (enc := enc) (C := Try.checked) false ⟨#[], #[.slice none 0 0], []⟩ 8 (by kernel_rfl) (by kernel_rfl) (by kernel_rfl) (by kernel_rfl)) ?_
  intro W base args ds gs before hval0 hW hcnd _
  have hval : ∀ (j : Nat) t v, Try.f3.params[j]? = some t → args[j]? = some v → Value.okWide Try.prog W .any base t v := hval0
  have hW' := hW
  obtain ⟨p, q, hA0, hV, rfl, hfz, hnd⟩ := hW
  have hA : DataW.TrodAll enc Try.prog W 0 (fun _ => true) true Try.f3.params.toList args.toList ds p := hA0
  rw [Try.params3] at hA hval
  obtain ⟨v0, vs0, d0, ds0, p0, q0, hargs, rfl, rfl, h0, r0⟩ := trodAll_cons hA
  obtain ⟨rfl, rfl, rfl⟩ := trodAll_nil r0
  obtain rfl : args = #[v0] := by cases args; simp_all
  obtain ⟨rfl, rfl⟩ := trodVars_none hV
  have k0 := h0
  have lt0 : ∀ x ∈ p0, x.block < W.heap.size := by obtain ⟨m, hm⟩ := k0; exact DataW.trod_lt m _ _ _ hm
  obtain ⟨a0, len0, cap0, rfl⟩ := okWide_slice Try.underlying22 (hval 0 22 v0 rfl rfl)
  obtain ⟨z0, m0⟩ := bytes_open h0
  clear hA0 hval0
  refine (law_FnTables a0 len0 cap0 W z0 m0).mono fun e W' ⟨he, bel⟩ => ?_
  subst he
  exact ⟨_, rfl, _, _, _, [], _, [], hW', trodAll_mk1 (shut_bool Try.underlying4 _), (trodAll_cons_mk (Below.trod laidOut (by kernel_rfl) (of_decide_eq_true (by kernel_rfl)) k0 bel lt0) trodAll_mk0), rfl, bel.frame _, fun h => by cases h⟩

theorem over : Rows.fnTablesRow.holds Try.pinned (OpenSpec.ofChange Rows.fnTablesSpec) :=
  OpenClaim.holds_of_wide 3 Try.f3 rfl rfl rfl rfl rfl rfl rfl ⟨rfl, rfl, rfl, rfl, rfl⟩ rfl rfl rfl rfl rfl (by kernel_rfl) Try.func3 (by kernel_rfl)
    (of_decide_eq_true (by kernel_rfl)) (by unfold Func.isWrapper; first | (rw [if_pos (by decide +kernel)]; kernel_rfl) | (rw [if_neg (by decide +kernel)]; exact ⟨rfl, rfl⟩))
    (fun os started H enc _ => lifted os started H enc)

theorem proved : Rows.FnTablesSaid := over
end Go.Proofs.Ytefppihanblhmaa.fnTables
