/- The exact law on IsFairBy: for every input the call returns true, and each argument reads as before. No condition. -/
import Derived.Test.YtoledjljccccaaaOpen
import Derived.Test.YtoledjljccccaaaFair
import Derived.Test.YtoledjljccccaaaLawInt
namespace Go.Proofs.Ytoledjljccccaaa
open Go.RowKit

set_option maxHeartbeats 1000000 in
theorem law_FnExactIsFairBy (w : World) (a0 : Int) (wf0 : (Lit.int .i64 a0).wf = true) (A1 : Option Addr) (n1 c1 : Nat) (z1 : List Int) (h1 : IntsAt w A1 n1 z1) (f1 : ∀ x ∈ z1, (Lit.int .i64 x).wf = true) (l1 : n1 ≤ c1) (m1 : c1 ≤ maxLen) (A2 : Option Addr) (n2 c2 : Nat) (z2 : List Int) (h2 : IntsAt w A2 n2 z2) (f2 : ∀ x ∈ z2, (Lit.int .i64 x).wf = true) (l2 : n2 ≤ c2) (m2 : c2 ≤ maxLen) :
    Calls Try.prog 6 #[.int .i64 a0, .slice A1 n1 c1, .slice A2 n2 c2] w fun e w' => e = .returned (.bool true) ∧ Below w.heap.size w w' := by
  unfold maxLen at m1
  have HF1 := Lib.hid f1; clear f1
  unfold maxLen at m2
  have HF2 := Lib.hid f2; clear f2
  by_cases big1 : 1048576 < n1
  · go_enter Try.func6, Try.ntmps6
    go_wp2_with fail
    go_ret
    exact ⟨rfl, Below.refl _ _⟩
  have sm1 : n1 ≤ 1048576 := by omega
  clear big1
  by_cases big2 : 1048576 < n2
  · go_enter Try.func6, Try.ntmps6
    go_wp2_with fail
    go_ret
    exact ⟨rfl, Below.refl _ _⟩
  have sm2 : n2 ≤ 1048576 := by omega
  clear big2
  go_enter Try.func6, Try.ntmps6
  have hT : Below w.heap.size w w := Below.refl _ _
  go_wp2_with fail
  (with_reducible refine (toIntS_any _ _ _ _ _ (h1.below hT) sm1).mono ?_)
  rintro e w1 ⟨A_t1, c_t1, rfl, o_t1, b_t1⟩
  replace hT := hT.trans (b_t1.mono hT.size)
  have s_w1 := b_t1.size
  clear b_t1
  go_wp2_with fail
  (with_reducible refine (toIntS_any _ _ _ _ _ (h2.below hT) sm2).mono ?_)
  rintro e w2 ⟨A_t2, c_t2, rfl, o_t2, b_t2⟩
  replace o_t1 := o_t1.belowW b_t2
  replace hT := hT.trans (b_t2.mono hT.size)
  have s_w2 := b_t2.size
  clear b_t2
  go_wp2_with fail
  (with_reducible refine (specIsFairBy _ _ _ _ _ _ _ _ _ _ o_t1.at_ sm1 o_t2.at_ sm2).mono ?_)
  rintro e w3 ⟨rfl, b_w3⟩
  replace o_t1 := o_t1.belowW b_w3
  replace o_t2 := o_t2.belowW b_w3
  replace hT := hT.trans (b_w3.mono hT.size)
  have s_w3 := b_w3.size
  clear b_w3
  go_wp2_with fail
  (with_reducible refine (toIntS_any _ _ _ _ _ (h1.below hT) sm1).mono ?_)
  rintro e w4 ⟨A_t3, c_t3, rfl, o_t3, b_t3⟩
  replace o_t1 := o_t1.belowW b_t3
  replace o_t2 := o_t2.belowW b_t3
  replace hT := hT.trans (b_t3.mono hT.size)
  have s_w4 := b_t3.size
  clear b_t3
  go_wp2_with fail
  (with_reducible refine (toIntS_any _ _ _ _ _ (h2.below hT) sm2).mono ?_)
  rintro e w5 ⟨A_t4, c_t4, rfl, o_t4, b_t4⟩
  replace o_t1 := o_t1.belowW b_t4
  replace o_t2 := o_t2.belowW b_t4
  replace o_t3 := o_t3.belowW b_t4
  replace hT := hT.trans (b_t4.mono hT.size)
  have s_w5 := b_t4.size
  clear b_t4
  go_wp2_with fail
  (with_reducible refine (implIsFairBy _ _ _ _ _ _ _ _ _ _ o_t3.at_ sm1 o_t4.at_ sm2).mono ?_)
  rintro e w6 ⟨rfl, b_w6⟩
  replace o_t1 := o_t1.belowW b_w6
  replace o_t2 := o_t2.belowW b_w6
  replace o_t3 := o_t3.belowW b_w6
  replace o_t4 := o_t4.belowW b_w6
  replace hT := hT.trans (b_w6.mono hT.size)
  have s_w6 := b_w6.size
  clear b_w6
  go_wp2_with fail
  (with_reducible refine (toIntS_any _ _ _ _ _ (h1.below hT) sm1).mono ?_)
  rintro e w7 ⟨A_t5, c_t5, rfl, o_t5, b_t5⟩
  replace o_t1 := o_t1.belowW b_t5
  replace o_t2 := o_t2.belowW b_t5
  replace o_t3 := o_t3.belowW b_t5
  replace o_t4 := o_t4.belowW b_t5
  replace hT := hT.trans (b_t5.mono hT.size)
  have s_w7 := b_t5.size
  clear b_t5
  go_wp2_with fail
  (with_reducible refine (eqIntS_eq _ _ _ _ _ _ _ _ o_t3.at_ o_t5.at_ (Nat.le_trans sm1 (by omega))).mono ?_)
  rintro e w8 ⟨rfl, md, hd_w8⟩
  have b_w8 : Below w7.heap.size w7 w8 := below_of_drewN hd_w8
  clear hd_w8
  replace o_t1 := o_t1.belowW b_w8
  replace o_t2 := o_t2.belowW b_w8
  replace o_t3 := o_t3.belowW b_w8
  replace o_t4 := o_t4.belowW b_w8
  replace o_t5 := o_t5.belowW b_w8
  replace hT := hT.trans (b_w8.mono hT.size)
  have s_w8 := b_w8.size
  clear b_w8
  go_wp2_with fail
  (with_reducible refine (toIntS_any _ _ _ _ _ (h2.below hT) sm2).mono ?_)
  rintro e w9 ⟨A_t6, c_t6, rfl, o_t6, b_t6⟩
  replace o_t1 := o_t1.belowW b_t6
  replace o_t2 := o_t2.belowW b_t6
  replace o_t3 := o_t3.belowW b_t6
  replace o_t4 := o_t4.belowW b_t6
  replace o_t5 := o_t5.belowW b_t6
  replace hT := hT.trans (b_t6.mono hT.size)
  have s_w9 := b_t6.size
  clear b_t6
  go_wp2_with fail
  (with_reducible refine (eqIntS_eq _ _ _ _ _ _ _ _ o_t4.at_ o_t6.at_ (Nat.le_trans sm2 (by omega))).mono ?_)
  rintro e w10 ⟨rfl, md, hd_w10⟩
  have b_w10 : Below w9.heap.size w9 w10 := below_of_drewN hd_w10
  clear hd_w10
  replace o_t1 := o_t1.belowW b_w10
  replace o_t2 := o_t2.belowW b_w10
  replace o_t3 := o_t3.belowW b_w10
  replace o_t4 := o_t4.belowW b_w10
  replace o_t5 := o_t5.belowW b_w10
  replace o_t6 := o_t6.belowW b_w10
  replace hT := hT.trans (b_w10.mono hT.size)
  have s_w10 := b_w10.size
  clear b_w10
  go_wp2_with fail
  go_ret
  exact ⟨rfl, hT⟩
end Go.Proofs.Ytoledjljccccaaa
namespace Go.Proofs.Ytoledjljccccaaa.fnExactIsFairBy
open Go.ChangeShapes Go.WideShapes Go.ChangeAt Go.RowKit
open Go.ChangeMaps (open_string shut_string)
set_option linter.unusedVariables false

set_option maxRecDepth 100000 in
theorem lifted (os : Os) (started : os.Started) (H : Type) (enc : TypeId × Value → H) :
    ReturnsInHanded {} Try.checked os 6 .any (Rows.fnExactIsFairBySpec.pre6 enc Try.prog Try.f6 Rows.fnExactIsFairByRow.domain false) (Rows.fnExactIsFairBySpec.post enc Try.prog Try.f6 false true false false) := by
  refine returnsInHanded_of_change (C := Try.checked) own started (by kernel_rfl) Try.func6
    (ChangeSpec.witness6 (enc := enc) (C := Try.checked) false ⟨#[], #[.int .i64 0, .slice none 0 0, .slice none 0 0], []⟩ 8 (by kernel_rfl) (by kernel_rfl) (by kernel_rfl) (by kernel_rfl)) ?_
  intro W base args ds gs before hval0 hW hcnd _
  have hval : ∀ (j : Nat) t v, Try.f6.params[j]? = some t → args[j]? = some v → Value.okWide Try.prog W .any base t v := hval0
  have hW' := hW
  obtain ⟨p, q, hA0, hV, rfl, hfz, hnd⟩ := hW
  have hA : DataW.TrodAll enc Try.prog W 0 (fun _ => true) true Try.f6.params.toList args.toList ds p := hA0
  rw [Try.params6] at hA hval
  obtain ⟨v0, vs0, d0, ds0, p0, q0, hargs, rfl, rfl, h0, r0⟩ := trodAll_cons hA
  obtain ⟨v1, vs1, d1, ds1, p1, q1, rfl, rfl, rfl, h1, r1⟩ := trodAll_cons r0
  obtain ⟨v2, vs2, d2, ds2, p2, q2, rfl, rfl, rfl, h2, r2⟩ := trodAll_cons r1
  obtain ⟨rfl, rfl, rfl⟩ := trodAll_nil r2
  obtain rfl : args = #[v0, v1, v2] := by cases args; simp_all
  obtain ⟨rfl, rfl⟩ := trodVars_none hV
  obtain ⟨a0, rfl, rfl, rfl, w0⟩ := open_int Try.underlying3 (hval 0 3 v0 rfl rfl) h0
  have k1 := h1
  have lt1 : ∀ x ∈ p1, x.block < W.heap.size := by obtain ⟨m, hm⟩ := k1; exact DataW.trod_lt m _ _ _ hm
  obtain ⟨a1, len1, cap1, rfl⟩ := okWide_slice Try.underlying24 (hval 1 24 v1 rfl rfl)
  obtain ⟨z1, w1, f1, l1, m1⟩ := ints_open h1
  have k2 := h2
  have lt2 : ∀ x ∈ p2, x.block < W.heap.size := by obtain ⟨m, hm⟩ := k2; exact DataW.trod_lt m _ _ _ hm
  obtain ⟨a2, len2, cap2, rfl⟩ := okWide_slice Try.underlying24 (hval 2 24 v2 rfl rfl)
  obtain ⟨z2, w2, f2, l2, m2⟩ := ints_open h2
  clear hA0 hval0
  refine (law_FnExactIsFairBy W a0 w0 a1 len1 cap1 z1 w1 f1 l1 m1 a2 len2 cap2 z2 w2 f2 l2 m2).mono fun e W' ⟨he, bel⟩ => ?_
  subst he
  exact ⟨_, rfl, _, _, _, [], _, [], hW', trodAll_mk1 (shut_bool Try.underlying4 _), (trodAll_cons_mk (shut_int Try.underlying3 w0) (trodAll_cons_mk (Below.trod laidOut (by kernel_rfl) (of_decide_eq_true (by kernel_rfl)) k1 bel lt1) (trodAll_cons_mk (Below.trod laidOut (by kernel_rfl) (of_decide_eq_true (by kernel_rfl)) k2 bel lt2) trodAll_mk0))), rfl, bel.frame _, fun h => by cases h⟩

theorem over : Rows.fnExactIsFairByRow.holds Try.pinned (OpenSpec.ofChange Rows.fnExactIsFairBySpec) :=
  OpenClaim.holds_of_wide 6 Try.f6 rfl rfl rfl rfl rfl rfl rfl ⟨rfl, rfl, rfl, rfl, rfl⟩ rfl rfl rfl rfl rfl (by kernel_rfl) Try.func6 (by kernel_rfl)
    (of_decide_eq_true (by kernel_rfl)) (by unfold Func.isWrapper; first | (rw [if_pos (by decide +kernel)]; kernel_rfl) | (rw [if_neg (by decide +kernel)]; exact ⟨rfl, rfl⟩))
    (fun os started H enc _ => lifted os started H enc)

theorem proved : Rows.FnExactIsFairBySaid := over
end Go.Proofs.Ytoledjljccccaaa.fnExactIsFairBy
