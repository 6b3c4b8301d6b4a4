/- The exact law on CountRoundings: for every input the call returns true, and each argument reads as before. No condition. -/
import Derived.Test.YtmkfahcffeegeaaOpen
import Derived.Test.YtmkfahcffeegeaaCountS
import Derived.Test.YtmkfahcffeegeaaLawRow
namespace Go.Proofs.Ytmkfahcffeegeaa
open Go.RowKit

set_option maxHeartbeats 1000000 in
theorem law_FnExactCountRoundings (w : World) (A0 : Option Addr) (n0 c0 : Nat) (z0 : List (List Int)) (h0 : RowsAt w A0 n0 z0) (f0 : ∀ xs ∈ z0, xs.length ≤ 9223372036854775807 ∧ ∀ x ∈ xs, (Lit.int .i64 x).wf = true) (l0 : n0 ≤ c0) (m0 : c0 ≤ maxLen) :
    Calls Try.prog 3 #[.slice A0 n0 c0] w fun e w' => e = .returned (.bool true) ∧ Below w.heap.size w w' := by
  unfold maxLen at m0
  have HF0 := Lib.hid f0; clear f0
  go_enter Try.func3, Try.ntmps3
  have hT : Below w.heap.size w w := Below.refl _ _
  go_wp2_with fail
  (with_reducible refine (szIntSS_any _ _ _ _ _ _ (h0.below hT) (by omega) (fun xs hx => (HF0.out xs hx).1) (by omega) (by omega)).mono ?_)
  rintro e wz ⟨r0, rfl, hr0, hq0, rfl⟩
  by_cases hneg0 : r0 < 0
  · go_wp2_with fail
    go_ret
    exact ⟨rfl, hT⟩
  have hnn0 : 0 ≤ r0 := by omega
  obtain ⟨hs0, sm0, hx0⟩ := hr0 hnn0
  have HX0 := Lib.hid hx0; clear hx0
  clear hr0 hneg0
  go_wp2_with fail
  (with_reducible refine (toIntSS_any _ _ _ _ _ (h0.below hT) sm0 HX0.out).mono ?_)
  rintro e w1 ⟨A_t1, c_t1, rfl, o_t1, b_t1⟩
  replace hT := hT.trans (b_t1.mono hT.size)
  have s_w1 := b_t1.size
  clear b_t1
  go_wp2_with fail
  (with_reducible refine (specCountRoundings _ _ _ _ _ o_t1.at_ sm0 HX0.out).mono ?_)
  rintro e w2 ⟨rfl, b_w2⟩
  replace o_t1 := o_t1.belowW b_w2
  replace hT := hT.trans (b_w2.mono hT.size)
  have s_w2 := b_w2.size
  clear b_w2
  go_wp2_with fail
  (with_reducible refine (toIntSS_any _ _ _ _ _ (h0.below hT) sm0 HX0.out).mono ?_)
  rintro e w3 ⟨A_t2, c_t2, rfl, o_t2, b_t2⟩
  replace o_t1 := o_t1.belowW b_t2
  replace hT := hT.trans (b_t2.mono hT.size)
  have s_w3 := b_t2.size
  clear b_t2
  go_wp2_with fail
  (with_reducible refine (implCountRoundings _ _ _ _ _ o_t2.at_ sm0 HX0.out).mono ?_)
  rintro e w4 ⟨rfl, b_w4⟩
  replace o_t1 := o_t1.belowW b_w4
  replace o_t2 := o_t2.belowW b_w4
  replace hT := hT.trans (b_w4.mono hT.size)
  have s_w4 := b_w4.size
  clear b_w4
  go_wp2_with fail
  (with_reducible refine (toIntSS_any _ _ _ _ _ (h0.below hT) sm0 HX0.out).mono ?_)
  rintro e w5 ⟨A_t3, c_t3, rfl, o_t3, b_t3⟩
  replace o_t1 := o_t1.belowW b_t3
  replace o_t2 := o_t2.belowW b_t3
  replace hT := hT.trans (b_t3.mono hT.size)
  have s_w5 := b_t3.size
  clear b_t3
  go_wp2_with fail
  (with_reducible refine (eqIntSS_eq _ _ _ _ _ _ _ _ o_t2.at_ o_t3.at_ sm0 HX0.out).mono ?_)
  rintro e w6 ⟨rfl, md, hd_w6⟩
  have b_w6 : Below w5.heap.size w5 w6 := below_of_drewN hd_w6
  clear hd_w6
  replace o_t1 := o_t1.belowW b_w6
  replace o_t2 := o_t2.belowW b_w6
  replace o_t3 := o_t3.belowW b_w6
  replace hT := hT.trans (b_w6.mono hT.size)
  have s_w6 := b_w6.size
  clear b_w6
  go_wp2_with fail
  go_ret
  exact ⟨rfl, hT⟩
end Go.Proofs.Ytmkfahcffeegeaa
namespace Go.Proofs.Ytmkfahcffeegeaa.fnExactCountRoundings
open Go.ChangeShapes Go.WideShapes Go.ChangeAt Go.RowKit
open Go.ChangeMaps (open_string shut_string)
set_option linter.unusedVariables false

set_option maxRecDepth 100000 in
theorem lifted (os : Os) (started : os.Started) (H : Type) (enc : TypeId × Value → H) :
    ReturnsInHanded {} Try.checked os 3 .any (Rows.fnExactCountRoundingsSpec.pre6 enc Try.prog Try.f3 Rows.fnExactCountRoundingsRow.domain false) (Rows.fnExactCountRoundingsSpec.post enc Try.prog Try.f3 false true false false) := by
  refine returnsInHanded_of_change (C := Try.checked) own started (by kernel_rfl) Try.func3
    (ChangeSpec.witness6 (enc := enc) (C := Try.checked) false ⟨#[], #[.slice none 0 0], []⟩ 8 (by kernel_rfl) (by kernel_rfl) (by kernel_rfl) (by kernel_rfl)) ?_
  intro W base args ds gs before hval0 hW hcnd _
  have hval : ∀ (j : Nat) t v, Try.f3.params[j]? = some t → args[j]? = some v → Value.okWide Try.prog W .any base t v := hval0
  have hW' := hW
  obtain ⟨p, q, hA0, hV, rfl, hfz, hnd⟩ := hW
  have hA : DataW.TrodAll enc Try.prog W 0 (fun _ => true) true Try.f3.params.toList args.toList ds p := hA0
  rw [Try.params3] at hA hval
  obtain ⟨v0, vs0, d0, ds0, p0, q0, hargs, rfl, rfl, h0, r0⟩ := trodAll_cons hA
  obtain ⟨rfl, rfl, rfl⟩ := trodAll_nil r0
  obtain rfl : args = #[v0] := by cases args; simp_all
  obtain ⟨rfl, rfl⟩ := trodVars_none hV
  have k0 := h0
  have lt0 : ∀ x ∈ p0, x.block < W.heap.size := by obtain ⟨m, hm⟩ := k0; exact DataW.trod_lt m _ _ _ hm
  obtain ⟨a0, len0, cap0, rfl⟩ := okWide_slice Try.underlying22 (hval 0 22 v0 rfl rfl)
  obtain ⟨z0, w0, f0, l0, m0⟩ := rows_open h0
  clear hA0 hval0
  refine (law_FnExactCountRoundings W a0 len0 cap0 z0 w0 f0 l0 m0).mono fun e W' ⟨he, bel⟩ => ?_
  subst he
  exact ⟨_, rfl, _, _, _, [], _, [], hW', trodAll_mk1 (shut_bool Try.underlying4 _), (trodAll_cons_mk (Below.trod laidOut (by kernel_rfl) (of_decide_eq_true (by kernel_rfl)) k0 bel lt0) trodAll_mk0), rfl, bel.frame _, fun h => by cases h⟩

theorem over : Rows.fnExactCountRoundingsRow.holds Try.pinned (OpenSpec.ofChange Rows.fnExactCountRoundingsSpec) :=
  OpenClaim.holds_of_wide 3 Try.f3 rfl rfl rfl rfl rfl rfl rfl ⟨rfl, rfl, rfl, rfl, rfl⟩ rfl rfl rfl rfl rfl (by kernel_rfl) Try.func3 (by kernel_rfl)
    (of_decide_eq_true (by kernel_rfl)) (by unfold Func.isWrapper; first | (rw [if_pos (by decide +kernel)]; kernel_rfl) | (rw [if_neg (by decide +kernel)]; exact ⟨rfl, rfl⟩))
    (fun os started H enc _ => lifted os started H enc)

theorem proved : Rows.FnExactCountRoundingsSaid := over
end Go.Proofs.Ytmkfahcffeegeaa.fnExactCountRoundings
