/- The exact law on RoundTable: for every input the call returns true, and each argument reads as before. No condition. -/
import Derived.Test.YtmkfahcffeegeaaOpen
import Derived.Test.YtmkfahcffeegeaaRoundTW
import Derived.Test.YtmkfahcffeegeaaLawRow
namespace Go.Proofs.Ytmkfahcffeegeaa
open Go.RowKit

set_option maxHeartbeats 1000000 in
theorem law_FnExactRoundTable (w : World) (A0 : Option Addr) (n0 c0 : Nat) (z0 : List (List Int)) (h0 : RowsAt w A0 n0 z0) (f0 : ∀ xs ∈ z0, xs.length ≤ 9223372036854775807 ∧ ∀ x ∈ xs, (Lit.int .i64 x).wf = true) (l0 : n0 ≤ c0) (m0 : c0 ≤ maxLen) :
    Calls Try.prog 4 #[.slice A0 n0 c0] w fun e w' => e = .returned (.bool true) ∧ Below w.heap.size w w' := by
  unfold maxLen at m0
  have HF0 := Lib.hid f0; clear f0
  go_enter Try.func4, Try.ntmps4
  have hT : Below w.heap.size w w := Below.refl _ _
  go_wp2_with fail
  (with_reducible refine (szIntSS_any _ _ _ _ _ _ (h0.below hT) (by omega) (fun xs hx => (HF0.out xs hx).1) (by omega) (by omega)).mono ?_)
  rintro e wz ⟨r0, rfl, hr0, hq0, rfl⟩
  by_cases hneg0 : r0 < 0
  · go_wp2_with fail
    go_ret
    exact ⟨rfl, hT⟩
  have hnn0 : 0 ≤ r0 := by omega
  obtain ⟨hs0, sm0, hx0⟩ := hr0 hnn0
  have HX0 := Lib.hid hx0; clear hx0
  clear hr0 hneg0
  go_wp2_with fail
  (with_reducible refine (toIntSS_any _ _ _ _ _ (h0.below hT) sm0 HX0.out).mono ?_)
  rintro e w1 ⟨A_t1, c_t1, rfl, o_t1, b_t1⟩
  replace hT := hT.trans (b_t1.mono hT.size)
  have s_w1 := b_t1.size
  clear b_t1
  go_wp2_with fail
  (with_reducible refine (specRoundTable _ _ _ _ _ o_t1.at_ sm0 HX0.out).mono ?_)
  rintro e w2 ⟨A_w0, c_w0, rfl, o_w0, q_w0, r_w0, b_w2⟩
  replace o_t1 := o_t1.belowW b_w2
  replace hT := hT.trans (b_w2.mono hT.size)
  have s_w2 := b_w2.size
  clear b_w2
  have R_w0 := Lib.hid r_w0; clear r_w0
  go_wp2_with fail
  (with_reducible refine (toIntSS_any _ _ _ _ _ (h0.below hT) sm0 HX0.out).mono ?_)
  rintro e w3 ⟨A_t2, c_t2, rfl, o_t2, b_t2⟩
  replace o_t1 := o_t1.belowW b_t2
  replace o_w0 := o_w0.belowW b_t2
  replace hT := hT.trans (b_t2.mono hT.size)
  have s_w3 := b_t2.size
  clear b_t2
  go_wp2_with fail
  (with_reducible refine (implRoundTable _ _ _ _ _ o_t2.at_ sm0 HX0.out).mono ?_)
  rintro e w4 ⟨A_g0, c_g0, rfl, o_g0, q_g0, r_g0, b_w4⟩
  replace o_t1 := o_t1.belowW b_w4
  replace o_w0 := o_w0.belowW b_w4
  replace o_t2 := o_t2.belowW b_w4
  replace hT := hT.trans (b_w4.mono hT.size)
  have s_w4 := b_w4.size
  clear b_w4
  have R_g0 := Lib.hid r_g0; clear r_g0
  go_wp2_with fail
  (with_reducible refine (eqIntSS_eq _ _ _ _ _ _ _ _ o_g0.at_ o_w0.at_ q_g0 R_g0.out).mono ?_)
  rintro e w5 ⟨rfl, md, hd_w5⟩
  have b_w5 : Below w4.heap.size w4 w5 := below_of_drewN hd_w5
  clear hd_w5
  replace o_t1 := o_t1.belowW b_w5
  replace o_w0 := o_w0.belowW b_w5
  replace o_t2 := o_t2.belowW b_w5
  replace o_g0 := o_g0.belowW b_w5
  replace hT := hT.trans (b_w5.mono hT.size)
  have s_w5 := b_w5.size
  clear b_w5
  go_wp2_with fail
  (with_reducible refine (toIntSS_any _ _ _ _ _ (h0.below hT) sm0 HX0.out).mono ?_)
  rintro e w6 ⟨A_t3, c_t3, rfl, o_t3, b_t3⟩
  replace o_t1 := o_t1.belowW b_t3
  replace o_w0 := o_w0.belowW b_t3
  replace o_t2 := o_t2.belowW b_t3
  replace o_g0 := o_g0.belowW b_t3
  replace hT := hT.trans (b_t3.mono hT.size)
  have s_w6 := b_t3.size
  clear b_t3
  go_wp2_with fail
  (with_reducible refine (eqIntSS_eq _ _ _ _ _ _ _ _ o_t2.at_ o_t3.at_ sm0 HX0.out).mono ?_)
  rintro e w7 ⟨rfl, md, hd_w7⟩
  have b_w7 : Below w6.heap.size w6 w7 := below_of_drewN hd_w7
  clear hd_w7
  replace o_t1 := o_t1.belowW b_w7
  replace o_w0 := o_w0.belowW b_w7
  replace o_t2 := o_t2.belowW b_w7
  replace o_g0 := o_g0.belowW b_w7
  replace o_t3 := o_t3.belowW b_w7
  replace hT := hT.trans (b_w7.mono hT.size)
  have s_w7 := b_w7.size
  clear b_w7
  go_wp2_with fail
  (with_reducible refine (markIntSS_any _ _ _ _ _ _ _ _ o_t2 sm0 HX0.out (by omega) (by omega)).mono ?_)
  rintro e w8 ⟨rfl, mo_t2, ho_w8, ge_w8, le_w8⟩
  replace o_t1 := o_t1.only ho_w8 (by omega)
  replace o_w0 := o_w0.only ho_w8 (by omega)
  replace o_g0 := o_g0.only ho_w8 (by omega)
  replace hT := hT.trans (ho_w8.toBelow (by omega) hT.size)
  have s_w8 := ho_w8.size
  clear ho_w8
  clear o_t2
  go_wp2_with fail
  (with_reducible refine (eqIntSS_eq _ _ _ _ _ _ _ _ o_g0.at_ o_w0.at_ q_g0 R_g0.out).mono ?_)
  rintro e w9 ⟨rfl, md, hd_w9⟩
  have b_w9 : Below w8.heap.size w8 w9 := below_of_drewN hd_w9
  clear hd_w9
  replace o_t1 := o_t1.belowW b_w9
  replace o_w0 := o_w0.belowW b_w9
  replace mo_t2 := mo_t2.belowW b_w9
  replace o_g0 := o_g0.belowW b_w9
  replace hT := hT.trans (b_w9.mono hT.size)
  have s_w9 := b_w9.size
  clear b_w9
  go_wp2_with fail
  (with_reducible refine (markIntSS_any _ _ _ _ _ _ _ _ o_g0 q_g0 R_g0.out (by omega) (by omega)).mono ?_)
  rintro e w10 ⟨rfl, mo_g0, ho_w10, ge_w10, le_w10⟩
  replace o_t1 := o_t1.only ho_w10 (by omega)
  replace o_w0 := o_w0.only ho_w10 (by omega)
  replace mo_t2 := mo_t2.only ho_w10 (by omega)
  replace hT := hT.trans (ho_w10.toBelow (by omega) hT.size)
  have s_w10 := ho_w10.size
  clear ho_w10
  clear o_g0
  go_wp2_with fail
  (with_reducible refine (heldIntSS_any _ _ _ _ _ _ mo_g0.at_ q_g0 R_g0.out (by omega) (by omega)).mono ?_)
  rintro e wh ⟨rfl, rfl⟩
  go_wp2_with fail
  (with_reducible refine (toIntSS_any _ _ _ _ _ (h0.below hT) sm0 HX0.out).mono ?_)
  rintro e w11 ⟨A_t4, c_t4, rfl, o_t4, b_t4⟩
  replace o_t1 := o_t1.belowW b_t4
  replace o_w0 := o_w0.belowW b_t4
  replace mo_t2 := mo_t2.belowW b_t4
  replace mo_g0 := mo_g0.belowW b_t4
  replace hT := hT.trans (b_t4.mono hT.size)
  have s_w11 := b_t4.size
  clear b_t4
  go_wp2_with fail
  (with_reducible refine (implRoundTable _ _ _ _ _ o_t4.at_ sm0 HX0.out).mono ?_)
  rintro e w12 ⟨A_h0, c_h0, rfl, o_h0, q_h0, r_h0, b_w12⟩
  replace o_t1 := o_t1.belowW b_w12
  replace o_w0 := o_w0.belowW b_w12
  replace mo_t2 := mo_t2.belowW b_w12
  replace mo_g0 := mo_g0.belowW b_w12
  replace o_t4 := o_t4.belowW b_w12
  replace hT := hT.trans (b_w12.mono hT.size)
  have s_w12 := b_w12.size
  clear b_w12
  have R_h0 := Lib.hid r_h0; clear r_h0
  go_wp2_with fail
  (with_reducible refine (eqIntSS_eq _ _ _ _ _ _ _ _ o_h0.at_ o_w0.at_ q_h0 R_h0.out).mono ?_)
  rintro e w13 ⟨rfl, md, hd_w13⟩
  have b_w13 : Below w12.heap.size w12 w13 := below_of_drewN hd_w13
  clear hd_w13
  replace o_t1 := o_t1.belowW b_w13
  replace o_w0 := o_w0.belowW b_w13
  replace mo_t2 := mo_t2.belowW b_w13
  replace mo_g0 := mo_g0.belowW b_w13
  replace o_t4 := o_t4.belowW b_w13
  replace o_h0 := o_h0.belowW b_w13
  replace hT := hT.trans (b_w13.mono hT.size)
  have s_w13 := b_w13.size
  clear b_w13
  go_wp2_with fail
  (with_reducible refine (heldIntSS_any _ _ _ _ _ _ mo_g0.at_ q_g0 R_g0.out (by omega) (by omega)).mono ?_)
  rintro e wh ⟨rfl, rfl⟩
  go_wp2_with fail
  go_ret
  exact ⟨rfl, hT⟩
end Go.Proofs.Ytmkfahcffeegeaa
namespace Go.Proofs.Ytmkfahcffeegeaa.fnExactRoundTable
open Go.ChangeShapes Go.WideShapes Go.ChangeAt Go.RowKit
open Go.ChangeMaps (open_string shut_string)
set_option linter.unusedVariables false

set_option maxRecDepth 100000 in
theorem lifted (os : Os) (started : os.Started) (H : Type) (enc : TypeId × Value → H) :
    ReturnsInHanded {} Try.checked os 4 .any (Rows.fnExactRoundTableSpec.pre6 enc Try.prog Try.f4 Rows.fnExactRoundTableRow.domain false) (Rows.fnExactRoundTableSpec.post enc Try.prog Try.f4 false true false false) := by
  refine returnsInHanded_of_change (C := Try.checked) own started (by kernel_rfl) Try.func4
    (ChangeSpec.witness6 (enc := enc) (C := Try.checked) false ⟨#[], #[.slice none 0 0], []⟩ 8 (by kernel_rfl) (by kernel_rfl) (by kernel_rfl) (by kernel_rfl)) ?_
  intro W base args ds gs before hval0 hW hcnd _
  have hval : ∀ (j : Nat) t v, Try.f4.params[j]? = some t → args[j]? = some v → Value.okWide Try.prog W .any base t v := hval0
  have hW' := hW
  obtain ⟨p, q, hA0, hV, rfl, hfz, hnd⟩ := hW
  have hA : DataW.TrodAll enc Try.prog W 0 (fun _ => true) true Try.f4.params.toList args.toList ds p := hA0
  rw [Try.params4] at hA hval
  obtain ⟨v0, vs0, d0, ds0, p0, q0, hargs, rfl, rfl, h0, r0⟩ := trodAll_cons hA
  obtain ⟨rfl, rfl, rfl⟩ := trodAll_nil r0
  obtain rfl : args = #[v0] := by cases args; simp_all
  obtain ⟨rfl, rfl⟩ := trodVars_none hV
  have k0 := h0
  have lt0 : ∀ x ∈ p0, x.block < W.heap.size := by obtain ⟨m, hm⟩ := k0; exact DataW.trod_lt m _ _ _ hm
  obtain ⟨a0, len0, cap0, rfl⟩ := okWide_slice Try.underlying22 (hval 0 22 v0 rfl rfl)
  obtain ⟨z0, w0, f0, l0, m0⟩ := rows_open h0
  clear hA0 hval0
  refine (law_FnExactRoundTable W a0 len0 cap0 z0 w0 f0 l0 m0).mono fun e W' ⟨he, bel⟩ => ?_
  subst he
  exact ⟨_, rfl, _, _, _, [], _, [], hW', trodAll_mk1 (shut_bool Try.underlying4 _), (trodAll_cons_mk (Below.trod laidOut (by kernel_rfl) (of_decide_eq_true (by kernel_rfl)) k0 bel lt0) trodAll_mk0), rfl, bel.frame _, fun h => by cases h⟩

theorem over : Rows.fnExactRoundTableRow.holds Try.pinned (OpenSpec.ofChange Rows.fnExactRoundTableSpec) :=
  OpenClaim.holds_of_wide 4 Try.f4 rfl rfl rfl rfl rfl rfl rfl ⟨rfl, rfl, rfl, rfl, rfl⟩ rfl rfl rfl rfl rfl (by kernel_rfl) Try.func4 (by kernel_rfl)
    (of_decide_eq_true (by kernel_rfl)) (by unfold Func.isWrapper; first | (rw [if_pos (by decide +kernel)]; kernel_rfl) | (rw [if_neg (by decide +kernel)]; exact ⟨rfl, rfl⟩))
    (fun os started H enc _ => lifted os started H enc)

theorem proved : Rows.FnExactRoundTableSaid := over
end Go.Proofs.Ytmkfahcffeegeaa.fnExactRoundTable
