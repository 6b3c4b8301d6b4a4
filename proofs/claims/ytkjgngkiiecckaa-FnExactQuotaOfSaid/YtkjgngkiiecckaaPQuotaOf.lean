/- The exact law on QuotaOf: for every input the call returns true, and each argument reads as before. No condition. -/
import Derived.Test.YtkjgngkiiecckaaOpen
import Derived.Test.YtkjgngkiiecckaaQuotaOf
import Derived.Test.YtkjgngkiiecckaaLawInt
namespace Go.Proofs.Ytkjgngkiiecckaa
open Go.RowKit

set_option maxHeartbeats 1000000 in
theorem law_FnExactQuotaOf (w : World) (A0 : Option Addr) (n0 c0 : Nat) (z0 : List Int) (h0 : IntsAt w A0 n0 z0) (f0 : ∀ x ∈ z0, (Lit.int .i64 x).wf = true) (l0 : n0 ≤ c0) (m0 : c0 ≤ maxLen) (a1 : Int) (wf1 : (Lit.int .i64 a1).wf = true) (a2 : Int) (wf2 : (Lit.int .i64 a2).wf = true) :
    Calls Try.prog 7 #[.slice A0 n0 c0, .int .i64 a1, .int .i64 a2] w fun e w' => e = .returned (.bool true) ∧ Below w.heap.size w w' := by
  unfold maxLen at m0
  have HF0 := Lib.hid f0; clear f0
  by_cases big0 : 1048576 < n0
  · go_enter Try.func7, Try.ntmps7
    go_wp2_with fail
    go_ret
    exact ⟨rfl, Below.refl _ _⟩
  have sm0 : n0 ≤ 1048576 := by omega
  clear big0
  go_enter Try.func7, Try.ntmps7
  have hT : Below w.heap.size w w := Below.refl _ _
  go_wp2_with fail
  refine (toIntS_any _ _ _ _ _ (h0.below hT) sm0).mono ?_
  rintro e w1 ⟨A_t1, c_t1, rfl, o_t1, b_t1⟩
  replace hT := hT.trans (b_t1.mono hT.size)
  have s_w1 := b_t1.size
  clear b_t1
  go_wp2_with fail
  refine (specQuotaOf _ _ _ _ _ _ _ o_t1.at_ sm0).mono ?_
  rintro e w2 ⟨rfl, b_w2⟩
  replace o_t1 := o_t1.belowW b_w2
  replace hT := hT.trans (b_w2.mono hT.size)
  have s_w2 := b_w2.size
  clear b_w2
  have k_w0 := new_pair w2 (Value.int IntKind.i64 ((quotaTop z0 a1 a2 : Nat) : Int)) (Value.int IntKind.i64 ((quotaBot z0 a1 a2 : Nat) : Int)) 30 rfl
  have b_w3 : Below w2.heap.size w2 (w2.alloc (Obj.cells #[Value.int IntKind.i64 ((quotaTop z0 a1 a2 : Nat) : Int), Value.int IntKind.i64 ((quotaBot z0 a1 a2 : Nat) : Int)] 30)) := (Below.refl _ _).alloc (Nat.le_refl _) _
  go_wp2_with fail
  generalize w2.alloc (Obj.cells #[Value.int IntKind.i64 ((quotaTop z0 a1 a2 : Nat) : Int), Value.int IntKind.i64 ((quotaBot z0 a1 a2 : Nat) : Int)] 30) = w3 at *
  obtain ⟨k_w00, k_w01⟩ := k_w0
  replace o_t1 := o_t1.belowW b_w3
  replace hT := hT.trans (b_w3.mono hT.size)
  have s_w3 := b_w3.size
  clear b_w3
  go_wp2_with fail
  refine (toIntS_any _ _ _ _ _ (h0.below hT) sm0).mono ?_
  rintro e w4 ⟨A_t2, c_t2, rfl, o_t2, b_t2⟩
  replace o_t1 := o_t1.belowW b_t2
  replace k_w00 := cell_carry b_t2 k_w00
  replace k_w01 := cell_carry b_t2 k_w01
  replace hT := hT.trans (b_t2.mono hT.size)
  have s_w4 := b_t2.size
  clear b_t2
  go_wp2_with fail
  refine (implQuotaOf _ _ _ _ _ _ _ o_t2.at_ sm0).mono ?_
  rintro e w5 ⟨rfl, b_w5⟩
  replace o_t1 := o_t1.belowW b_w5
  replace o_t2 := o_t2.belowW b_w5
  replace k_w00 := cell_carry b_w5 k_w00
  replace k_w01 := cell_carry b_w5 k_w01
  replace hT := hT.trans (b_w5.mono hT.size)
  have s_w5 := b_w5.size
  clear b_w5
  have k_g0 := new_pair w5 (Value.int IntKind.i64 ((quotaTop z0 a1 a2 : Nat) : Int)) (Value.int IntKind.i64 ((quotaBot z0 a1 a2 : Nat) : Int)) 30 rfl
  have b_w6 : Below w5.heap.size w5 (w5.alloc (Obj.cells #[Value.int IntKind.i64 ((quotaTop z0 a1 a2 : Nat) : Int), Value.int IntKind.i64 ((quotaBot z0 a1 a2 : Nat) : Int)] 30)) := (Below.refl _ _).alloc (Nat.le_refl _) _
  replace k_w00 := old_cell k_w00 (Obj.cells #[Value.int IntKind.i64 ((quotaTop z0 a1 a2 : Nat) : Int), Value.int IntKind.i64 ((quotaBot z0 a1 a2 : Nat) : Int)] 30)
  replace k_w01 := old_cell k_w01 (Obj.cells #[Value.int IntKind.i64 ((quotaTop z0 a1 a2 : Nat) : Int), Value.int IntKind.i64 ((quotaBot z0 a1 a2 : Nat) : Int)] 30)
  go_wp2_with fail
  generalize w5.alloc (Obj.cells #[Value.int IntKind.i64 ((quotaTop z0 a1 a2 : Nat) : Int), Value.int IntKind.i64 ((quotaBot z0 a1 a2 : Nat) : Int)] 30) = w6 at *
  obtain ⟨k_g00, k_g01⟩ := k_g0
  replace o_t1 := o_t1.belowW b_w6
  replace o_t2 := o_t2.belowW b_w6
  replace hT := hT.trans (b_w6.mono hT.size)
  have s_w6 := b_w6.size
  clear b_w6
  go_wp2_with fail
  refine (eqFraction_eq _ _ _).mono ?_
  rintro e w7 ⟨rfl, b_w7⟩
  clear k_w00 k_w01 k_g00 k_g01
  replace o_t1 := o_t1.belowW b_w7
  replace o_t2 := o_t2.belowW b_w7
  replace hT := hT.trans (b_w7.mono hT.size)
  have s_w7 := b_w7.size
  clear b_w7
  go_wp2_with fail
  refine (toIntS_any _ _ _ _ _ (h0.below hT) sm0).mono ?_
  rintro e w8 ⟨A_t3, c_t3, rfl, o_t3, b_t3⟩
  replace o_t1 := o_t1.belowW b_t3
  replace o_t2 := o_t2.belowW b_t3
  replace hT := hT.trans (b_t3.mono hT.size)
  have s_w8 := b_t3.size
  clear b_t3
  go_wp2_with fail
  refine (eqIntS_eq _ _ _ _ _ _ _ _ o_t2.at_ o_t3.at_ (Nat.le_trans sm0 (by omega))).mono ?_
  rintro e w9 ⟨rfl, md, hd_w9⟩
  have b_w9 : Below w8.heap.size w8 w9 := below_of_drewN hd_w9
  clear hd_w9
  replace o_t1 := o_t1.belowW b_w9
  replace o_t2 := o_t2.belowW b_w9
  replace o_t3 := o_t3.belowW b_w9
  replace hT := hT.trans (b_w9.mono hT.size)
  have s_w9 := b_w9.size
  clear b_w9
  go_wp2_with fail
  go_ret
  exact ⟨rfl, hT⟩
end Go.Proofs.Ytkjgngkiiecckaa
namespace Go.Proofs.Ytkjgngkiiecckaa.fnExactQuotaOf
open Go.ChangeShapes Go.WideShapes Go.ChangeAt Go.RowKit
open Go.ChangeMaps (open_string shut_string)
set_option linter.unusedVariables false

set_option maxRecDepth 100000 in
theorem lifted (os : Os) (started : os.Started) (H : Type) (enc : TypeId × Value → H) :
    ReturnsInHanded {} Try.checked os 7 .any (Rows.fnExactQuotaOfSpec.pre6 enc Try.prog Try.f7 Rows.fnExactQuotaOfRow.domain false) (Rows.fnExactQuotaOfSpec.post enc Try.prog Try.f7 false true false false) := by
  refine returnsInHanded_of_change (C := Try.checked) own started (by kernel_rfl) Try.func7
    (ChangeSpec.witness6 (enc := enc) (C := Try.checked) false ⟨#[], #[.slice none 0 0, .int .i64 0, .int .i64 0], []⟩ 8 (by kernel_rfl) (by kernel_rfl) (by kernel_rfl) (by kernel_rfl)) ?_
  intro W base args ds gs before hval0 hW hcnd _
  have hval : ∀ (j : Nat) t v, Try.f7.params[j]? = some t → args[j]? = some v → Value.okWide Try.prog W .any base t v := hval0
  have hW' := hW
  obtain ⟨p, q, hA0, hV, rfl, hfz, hnd⟩ := hW
  have hA : DataW.TrodAll enc Try.prog W 0 (fun _ => true) true Try.f7.params.toList args.toList ds p := hA0
  rw [Try.params7] at hA hval
  obtain ⟨v0, vs0, d0, ds0, p0, q0, hargs, rfl, rfl, h0, r0⟩ := trodAll_cons hA
  obtain ⟨v1, vs1, d1, ds1, p1, q1, rfl, rfl, rfl, h1, r1⟩ := trodAll_cons r0
  obtain ⟨v2, vs2, d2, ds2, p2, q2, rfl, rfl, rfl, h2, r2⟩ := trodAll_cons r1
  obtain ⟨rfl, rfl, rfl⟩ := trodAll_nil r2
  obtain rfl : args = #[v0, v1, v2] := by cases args; simp_all
  obtain ⟨rfl, rfl⟩ := trodVars_none hV
  have k0 := h0
  have lt0 : ∀ x ∈ p0, x.block < W.heap.size := by obtain ⟨m, hm⟩ := k0; exact DataW.trod_lt m _ _ _ hm
  obtain ⟨a0, len0, cap0, rfl⟩ := okWide_slice Try.underlying22 (hval 0 22 v0 rfl rfl)
  obtain ⟨z0, w0, f0, l0, m0⟩ := ints_open h0
  obtain ⟨a1, rfl, rfl, rfl, w1⟩ := open_int Try.underlying3 (hval 1 3 v1 rfl rfl) h1
  obtain ⟨a2, rfl, rfl, rfl, w2⟩ := open_int Try.underlying3 (hval 2 3 v2 rfl rfl) h2
  clear hA0 hval0
  refine (law_FnExactQuotaOf W a0 len0 cap0 z0 w0 f0 l0 m0 a1 w1 a2 w2).mono fun e W' ⟨he, bel⟩ => ?_
  subst he
  exact ⟨_, rfl, _, _, _, [], _, [], hW', trodAll_mk1 (shut_bool Try.underlying4 _), (trodAll_cons_mk (Below.trod laidOut (by kernel_rfl) (of_decide_eq_true (by kernel_rfl)) k0 bel lt0) (trodAll_cons_mk (shut_int Try.underlying3 w1) (trodAll_cons_mk (shut_int Try.underlying3 w2) trodAll_mk0))), rfl, bel.frame _, fun h => by cases h⟩

theorem over : Rows.fnExactQuotaOfRow.holds Try.pinned (OpenSpec.ofChange Rows.fnExactQuotaOfSpec) :=
  OpenClaim.holds_of_wide 7 Try.f7 rfl rfl rfl rfl rfl rfl rfl ⟨rfl, rfl, rfl, rfl, rfl⟩ rfl rfl rfl rfl rfl (by kernel_rfl) Try.func7 (by kernel_rfl)
    (of_decide_eq_true (by kernel_rfl)) (by unfold Func.isWrapper; first | (rw [if_pos (by decide +kernel)]; kernel_rfl) | (rw [if_neg (by decide +kernel)]; exact ⟨rfl, rfl⟩))
    (fun os started H enc _ => lifted os started H enc)

theorem proved : Rows.FnExactQuotaOfSaid := over
end Go.Proofs.Ytkjgngkiiecckaa.fnExactQuotaOf
