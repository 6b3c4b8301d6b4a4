/- The exact law on AllPairings: for every input the call returns true, and each argument reads as before. No condition. -/
import Derived.Test.YteglddkeagicmaaOpen
import Derived.Test.YteglddkeagicmaaAllPair
import Derived.Test.YteglddkeagicmaaLawRow
namespace Go.Proofs.Yteglddkeagicmaa
open Go.RowKit

set_option maxHeartbeats 1000000 in
theorem law_FnExactAllPairings (w : World) (a0 : Int) (wf0 : (Lit.int .i64 a0).wf = true) :
    Calls Try.prog 5 #[.int .i64 a0] w fun e w' => e = .returned (.bool true) ∧ Below w.heap.size w w' := by
  go_enter Try.func5, Try.ntmps5
  have hT : Below w.heap.size w w := Below.refl _ _
  go_wp2_with fail
  (with_reducible refine (specAllPairings _ _ ).mono ?_)
  rintro e w1 ⟨A_w0, c_w0, rfl, o_w0, q_w0, r_w0, b_w1⟩
  replace hT := hT.trans (b_w1.mono hT.size)
  have s_w1 := b_w1.size
  clear b_w1
  have R_w0 := Lib.hid r_w0; clear r_w0
  go_wp2_with fail
  (with_reducible refine (implAllPairings _ _ ).mono ?_)
  rintro e w2 ⟨A_g0, c_g0, rfl, o_g0, q_g0, r_g0, b_w2⟩
  replace o_w0 := o_w0.belowW b_w2
  replace hT := hT.trans (b_w2.mono hT.size)
  have s_w2 := b_w2.size
  clear b_w2
  have R_g0 := Lib.hid r_g0; clear r_g0
  go_wp2_with fail
  (with_reducible refine (eqIntSS_eq _ _ _ _ _ _ _ _ o_g0.at_ o_w0.at_ q_g0 R_g0.out).mono ?_)
  rintro e w3 ⟨rfl, md, hd_w3⟩
  have b_w3 : Below w2.heap.size w2 w3 := below_of_drewN hd_w3
  clear hd_w3
  replace o_w0 := o_w0.belowW b_w3
  replace o_g0 := o_g0.belowW b_w3
  replace hT := hT.trans (b_w3.mono hT.size)
  have s_w3 := b_w3.size
  clear b_w3
  go_wp2_with fail
  (with_reducible refine (markIntSS_any _ _ _ _ _ _ _ _ o_g0 q_g0 R_g0.out (by omega) (by omega)).mono ?_)
  rintro e w4 ⟨rfl, mo_g0, ho_w4, ge_w4, le_w4⟩
  replace o_w0 := o_w0.only ho_w4 (by omega)
  replace hT := hT.trans (ho_w4.toBelow (by omega) hT.size)
  have s_w4 := ho_w4.size
  clear ho_w4
  clear o_g0
  go_wp2_with fail
  (with_reducible refine (heldIntSS_any _ _ _ _ _ _ mo_g0.at_ q_g0 R_g0.out (by omega) (by omega)).mono ?_)
  rintro e wh ⟨rfl, rfl⟩
  go_wp2_with fail
  (with_reducible refine (implAllPairings _ _ ).mono ?_)
  rintro e w5 ⟨A_h0, c_h0, rfl, o_h0, q_h0, r_h0, b_w5⟩
  replace o_w0 := o_w0.belowW b_w5
  replace mo_g0 := mo_g0.belowW b_w5
  replace hT := hT.trans (b_w5.mono hT.size)
  have s_w5 := b_w5.size
  clear b_w5
  have R_h0 := Lib.hid r_h0; clear r_h0
  go_wp2_with fail
  (with_reducible refine (eqIntSS_eq _ _ _ _ _ _ _ _ o_h0.at_ o_w0.at_ q_h0 R_h0.out).mono ?_)
  rintro e w6 ⟨rfl, md, hd_w6⟩
  have b_w6 : Below w5.heap.size w5 w6 := below_of_drewN hd_w6
  clear hd_w6
  replace o_w0 := o_w0.belowW b_w6
  replace mo_g0 := mo_g0.belowW b_w6
  replace o_h0 := o_h0.belowW b_w6
  replace hT := hT.trans (b_w6.mono hT.size)
  have s_w6 := b_w6.size
  clear b_w6
  go_wp2_with fail
  (with_reducible refine (heldIntSS_any _ _ _ _ _ _ mo_g0.at_ q_g0 R_g0.out (by omega) (by omega)).mono ?_)
  rintro e wh ⟨rfl, rfl⟩
  go_wp2_with fail
  go_ret
  exact ⟨rfl, hT⟩
end Go.Proofs.Yteglddkeagicmaa
namespace Go.Proofs.Yteglddkeagicmaa.fnExactAllPairings
open Go.ChangeShapes Go.WideShapes Go.ChangeAt Go.RowKit
open Go.ChangeMaps (open_string shut_string)
set_option linter.unusedVariables false

set_option maxRecDepth 100000 in
theorem lifted (os : Os) (started : os.Started) (H : Type) (enc : TypeId × Value → H) :
    ReturnsInHanded {} Try.checked os 5 .any (Rows.fnExactAllPairingsSpec.pre6 enc Try.prog Try.f5 Rows.fnExactAllPairingsRow.domain false) (Rows.fnExactAllPairingsSpec.post enc Try.prog Try.f5 false true false false) := by
  refine returnsInHanded_of_change (C := Try.checked) own started (by kernel_rfl) Try.func5
    (ChangeSpec.witness6 (enc := enc) (C := Try.checked) false ⟨#[], #[.int .i64 0], []⟩ 8 (by kernel_rfl) (by kernel_rfl) (by kernel_rfl) (by kernel_rfl)) ?_
  intro W base args ds gs before hval0 hW hcnd _
  have hval : ∀ (j : Nat) t v, Try.f5.params[j]? = some t → args[j]? = some v → Value.okWide Try.prog W .any base t v := hval0
  have hW' := hW
  obtain ⟨p, q, hA0, hV, rfl, hfz, hnd⟩ := hW
  have hA : DataW.TrodAll enc Try.prog W 0 (fun _ => true) true Try.f5.params.toList args.toList ds p := hA0
  rw [Try.params5] at hA hval
  obtain ⟨v0, vs0, d0, ds0, p0, q0, hargs, rfl, rfl, h0, r0⟩ := trodAll_cons hA
  obtain ⟨rfl, rfl, rfl⟩ := trodAll_nil r0
  obtain rfl : args = #[v0] := by cases args; simp_all
  obtain ⟨rfl, rfl⟩ := trodVars_none hV
  obtain ⟨a0, rfl, rfl, rfl, w0⟩ := open_int Try.underlying3 (hval 0 3 v0 rfl rfl) h0
  clear hA0 hval0
  refine (law_FnExactAllPairings W a0 w0).mono fun e W' ⟨he, bel⟩ => ?_
  subst he
  exact ⟨_, rfl, _, _, _, [], _, [], hW', trodAll_mk1 (shut_bool Try.underlying4 _), (trodAll_cons_mk (shut_int Try.underlying3 w0) trodAll_mk0), rfl, bel.frame _, fun h => by cases h⟩

theorem over : Rows.fnExactAllPairingsRow.holds Try.pinned (OpenSpec.ofChange Rows.fnExactAllPairingsSpec) :=
  OpenClaim.holds_of_wide 5 Try.f5 rfl rfl rfl rfl rfl rfl rfl ⟨rfl, rfl, rfl, rfl, rfl⟩ rfl rfl rfl rfl rfl (by kernel_rfl) Try.func5 (by kernel_rfl)
    (of_decide_eq_true (by kernel_rfl)) (by unfold Func.isWrapper; first | (rw [if_pos (by decide +kernel)]; kernel_rfl) | (rw [if_neg (by decide +kernel)]; exact ⟨rfl, rfl⟩))
    (fun os started H enc _ => lifted os started H enc)

theorem proved : Rows.FnExactAllPairingsSaid := over
end Go.Proofs.Yteglddkeagicmaa.fnExactAllPairings
