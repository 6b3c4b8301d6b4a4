/- The exact law on DistanceOf: for every input the call returns true, and each argument reads as before. No condition. -/
import Derived.Test.YtkjgngkiiecckaaOpen
import Derived.Test.YtkjgngkiiecckaaDistance
import Derived.Test.YtkjgngkiiecckaaLawInt
namespace Go.Proofs.Ytkjgngkiiecckaa
open Go.RowKit

set_option maxHeartbeats 1000000 in
theorem law_FnExactDistanceOf (w : World) (A0 : Option Addr) (n0 c0 : Nat) (z0 : List Int) (h0 : IntsAt w A0 n0 z0) (f0 : ∀ x ∈ z0, (Lit.int .i64 x).wf = true) (l0 : n0 ≤ c0) (m0 : c0 ≤ maxLen) (A1 : Option Addr) (n1 c1 : Nat) (z1 : List Int) (h1 : IntsAt w A1 n1 z1) (f1 : ∀ x ∈ z1, (Lit.int .i64 x).wf = true) (l1 : n1 ≤ c1) (m1 : c1 ≤ maxLen) :
    Calls Try.prog 9 #[.slice A0 n0 c0, .slice A1 n1 c1] w fun e w' => e = .returned (.bool true) ∧ Below w.heap.size w w' := by
  unfold maxLen at m0
  have HF0 := Lib.hid f0; clear f0
  unfold maxLen at m1
  have HF1 := Lib.hid f1; clear f1
  by_cases big0 : 1048576 < n0
  · go_enter Try.func9, Try.ntmps9
    go_wp2_with fail
    go_ret
    exact ⟨rfl, Below.refl _ _⟩
  have sm0 : n0 ≤ 1048576 := by omega
  clear big0
  by_cases big1 : 1048576 < n1
  · go_enter Try.func9, Try.ntmps9
    go_wp2_with fail
    go_ret
    exact ⟨rfl, Below.refl _ _⟩
  have sm1 : n1 ≤ 1048576 := by omega
  clear big1
  go_enter Try.func9, Try.ntmps9
  have hT : Below w.heap.size w w := Below.refl _ _
  go_wp2_with fail
  refine (toIntS_any _ _ _ _ _ (h0.below hT) sm0).mono ?_
  rintro e w1 ⟨A_t1, c_t1, rfl, o_t1, b_t1⟩
  replace hT := hT.trans (b_t1.mono hT.size)
  have s_w1 := b_t1.size
  clear b_t1
  go_wp2_with fail
  refine (toIntS_any _ _ _ _ _ (h1.below hT) sm1).mono ?_
  rintro e w2 ⟨A_t2, c_t2, rfl, o_t2, b_t2⟩
  replace o_t1 := o_t1.belowW b_t2
  replace hT := hT.trans (b_t2.mono hT.size)
  have s_w2 := b_t2.size
  clear b_t2
  go_wp2_with fail
  refine (specDistanceOf _ _ _ _ _ _ _ _ _ o_t1.at_ sm0 o_t2.at_ sm1).mono ?_
  rintro e w3 ⟨rfl, b_w3⟩
  replace o_t1 := o_t1.belowW b_w3
  replace o_t2 := o_t2.belowW b_w3
  replace hT := hT.trans (b_w3.mono hT.size)
  have s_w3 := b_w3.size
  clear b_w3
  have k_w0 := new_pair w3 (Value.int IntKind.i64 ((distTop z0 z1 : Nat) : Int)) (Value.int IntKind.i64 ((distBot z0 z1 : Nat) : Int)) 30 rfl
  have b_w4 : Below w3.heap.size w3 (w3.alloc (Obj.cells #[Value.int IntKind.i64 ((distTop z0 z1 : Nat) : Int), Value.int IntKind.i64 ((distBot z0 z1 : Nat) : Int)] 30)) := (Below.refl _ _).alloc (Nat.le_refl _) _
  go_wp2_with fail
  generalize w3.alloc (Obj.cells #[Value.int IntKind.i64 ((distTop z0 z1 : Nat) : Int), Value.int IntKind.i64 ((distBot z0 z1 : Nat) : Int)] 30) = w4 at *
  obtain ⟨k_w00, k_w01⟩ := k_w0
  replace o_t1 := o_t1.belowW b_w4
  replace o_t2 := o_t2.belowW b_w4
  replace hT := hT.trans (b_w4.mono hT.size)
  have s_w4 := b_w4.size
  clear b_w4
  go_wp2_with fail
  refine (toIntS_any _ _ _ _ _ (h0.below hT) sm0).mono ?_
  rintro e w5 ⟨A_t3, c_t3, rfl, o_t3, b_t3⟩
  replace o_t1 := o_t1.belowW b_t3
  replace o_t2 := o_t2.belowW b_t3
  replace k_w00 := cell_carry b_t3 k_w00
  replace k_w01 := cell_carry b_t3 k_w01
  replace hT := hT.trans (b_t3.mono hT.size)
  have s_w5 := b_t3.size
  clear b_t3
  go_wp2_with fail
  refine (toIntS_any _ _ _ _ _ (h1.below hT) sm1).mono ?_
  rintro e w6 ⟨A_t4, c_t4, rfl, o_t4, b_t4⟩
  replace o_t1 := o_t1.belowW b_t4
  replace o_t2 := o_t2.belowW b_t4
  replace o_t3 := o_t3.belowW b_t4
  replace k_w00 := cell_carry b_t4 k_w00
  replace k_w01 := cell_carry b_t4 k_w01
  replace hT := hT.trans (b_t4.mono hT.size)
  have s_w6 := b_t4.size
  clear b_t4
  go_wp2_with fail
  refine (implDistanceOf _ _ _ _ _ _ _ _ _ o_t3.at_ sm0 o_t4.at_ sm1).mono ?_
  rintro e w7 ⟨rfl, b_w7⟩
  replace o_t1 := o_t1.belowW b_w7
  replace o_t2 := o_t2.belowW b_w7
  replace o_t3 := o_t3.belowW b_w7
  replace o_t4 := o_t4.belowW b_w7
  replace k_w00 := cell_carry b_w7 k_w00
  replace k_w01 := cell_carry b_w7 k_w01
  replace hT := hT.trans (b_w7.mono hT.size)
  have s_w7 := b_w7.size
  clear b_w7
  have k_g0 := new_pair w7 (Value.int IntKind.i64 ((distTop z0 z1 : Nat) : Int)) (Value.int IntKind.i64 ((distBot z0 z1 : Nat) : Int)) 30 rfl
  have b_w8 : Below w7.heap.size w7 (w7.alloc (Obj.cells #[Value.int IntKind.i64 ((distTop z0 z1 : Nat) : Int), Value.int IntKind.i64 ((distBot z0 z1 : Nat) : Int)] 30)) := (Below.refl _ _).alloc (Nat.le_refl _) _
  replace k_w00 := old_cell k_w00 (Obj.cells #[Value.int IntKind.i64 ((distTop z0 z1 : Nat) : Int), Value.int IntKind.i64 ((distBot z0 z1 : Nat) : Int)] 30)
  replace k_w01 := old_cell k_w01 (Obj.cells #[Value.int IntKind.i64 ((distTop z0 z1 : Nat) : Int), Value.int IntKind.i64 ((distBot z0 z1 : Nat) : Int)] 30)
  go_wp2_with fail
  generalize w7.alloc (Obj.cells #[Value.int IntKind.i64 ((distTop z0 z1 : Nat) : Int), Value.int IntKind.i64 ((distBot z0 z1 : Nat) : Int)] 30) = w8 at *
  obtain ⟨k_g00, k_g01⟩ := k_g0
  replace o_t1 := o_t1.belowW b_w8
  replace o_t2 := o_t2.belowW b_w8
  replace o_t3 := o_t3.belowW b_w8
  replace o_t4 := o_t4.belowW b_w8
  replace hT := hT.trans (b_w8.mono hT.size)
  have s_w8 := b_w8.size
  clear b_w8
  go_wp2_with fail
  refine (eqFraction_eq _ _ _).mono ?_
  rintro e w9 ⟨rfl, b_w9⟩
  clear k_w00 k_w01 k_g00 k_g01
  replace o_t1 := o_t1.belowW b_w9
  replace o_t2 := o_t2.belowW b_w9
  replace o_t3 := o_t3.belowW b_w9
  replace o_t4 := o_t4.belowW b_w9
  replace hT := hT.trans (b_w9.mono hT.size)
  have s_w9 := b_w9.size
  clear b_w9
  go_wp2_with fail
  refine (toIntS_any _ _ _ _ _ (h0.below hT) sm0).mono ?_
  rintro e w10 ⟨A_t5, c_t5, rfl, o_t5, b_t5⟩
  replace o_t1 := o_t1.belowW b_t5
  replace o_t2 := o_t2.belowW b_t5
  replace o_t3 := o_t3.belowW b_t5
  replace o_t4 := o_t4.belowW b_t5
  replace hT := hT.trans (b_t5.mono hT.size)
  have s_w10 := b_t5.size
  clear b_t5
  go_wp2_with fail
  refine (eqIntS_eq _ _ _ _ _ _ _ _ o_t3.at_ o_t5.at_ (Nat.le_trans sm0 (by omega))).mono ?_
  rintro e w11 ⟨rfl, md, hd_w11⟩
  have b_w11 : Below w10.heap.size w10 w11 := below_of_drewN hd_w11
  clear hd_w11
  replace o_t1 := o_t1.belowW b_w11
  replace o_t2 := o_t2.belowW b_w11
  replace o_t3 := o_t3.belowW b_w11
  replace o_t4 := o_t4.belowW b_w11
  replace o_t5 := o_t5.belowW b_w11
  replace hT := hT.trans (b_w11.mono hT.size)
  have s_w11 := b_w11.size
  clear b_w11
  go_wp2_with fail
  refine (toIntS_any _ _ _ _ _ (h1.below hT) sm1).mono ?_
  rintro e w12 ⟨A_t6, c_t6, rfl, o_t6, b_t6⟩
  replace o_t1 := o_t1.belowW b_t6
  replace o_t2 := o_t2.belowW b_t6
  replace o_t3 := o_t3.belowW b_t6
  replace o_t4 := o_t4.belowW b_t6
  replace o_t5 := o_t5.belowW b_t6
  replace hT := hT.trans (b_t6.mono hT.size)
  have s_w12 := b_t6.size
  clear b_t6
  go_wp2_with fail
  refine (eqIntS_eq _ _ _ _ _ _ _ _ o_t4.at_ o_t6.at_ (Nat.le_trans sm1 (by omega))).mono ?_
  rintro e w13 ⟨rfl, md, hd_w13⟩
  have b_w13 : Below w12.heap.size w12 w13 := below_of_drewN hd_w13
  clear hd_w13
  replace o_t1 := o_t1.belowW b_w13
  replace o_t2 := o_t2.belowW b_w13
  replace o_t3 := o_t3.belowW b_w13
  replace o_t4 := o_t4.belowW b_w13
  replace o_t5 := o_t5.belowW b_w13
  replace o_t6 := o_t6.belowW b_w13
  replace hT := hT.trans (b_w13.mono hT.size)
  have s_w13 := b_w13.size
  clear b_w13
  go_wp2_with fail
  go_ret
  exact ⟨rfl, hT⟩
end Go.Proofs.Ytkjgngkiiecckaa
namespace Go.Proofs.Ytkjgngkiiecckaa.fnExactDistanceOf
open Go.ChangeShapes Go.WideShapes Go.ChangeAt Go.RowKit
open Go.ChangeMaps (open_string shut_string)
set_option linter.unusedVariables false

set_option maxRecDepth 100000 in
theorem lifted (os : Os) (started : os.Started) (H : Type) (enc : TypeId × Value → H) :
    ReturnsInHanded {} Try.checked os 9 .any (Rows.fnExactDistanceOfSpec.pre6 enc Try.prog Try.f9 Rows.fnExactDistanceOfRow.domain false) (Rows.fnExactDistanceOfSpec.post enc Try.prog Try.f9 false true false false) := by
  refine returnsInHanded_of_change (C := Try.checked) own started (by kernel_rfl) Try.func9
    (ChangeSpec.witness6 (enc := enc) (C := Try.checked) false ⟨#[], #[.slice none 0 0, .slice none 0 0], []⟩ 8 (by kernel_rfl) (by kernel_rfl) (by kernel_rfl) (by kernel_rfl)) ?_
  intro W base args ds gs before hval0 hW hcnd _
  have hval : ∀ (j : Nat) t v, Try.f9.params[j]? = some t → args[j]? = some v → Value.okWide Try.prog W .any base t v := hval0
  have hW' := hW
  obtain ⟨p, q, hA0, hV, rfl, hfz, hnd⟩ := hW
  have hA : DataW.TrodAll enc Try.prog W 0 (fun _ => true) true Try.f9.params.toList args.toList ds p := hA0
  rw [Try.params9] at hA hval
  obtain ⟨v0, vs0, d0, ds0, p0, q0, hargs, rfl, rfl, h0, r0⟩ := trodAll_cons hA
  obtain ⟨v1, vs1, d1, ds1, p1, q1, rfl, rfl, rfl, h1, r1⟩ := trodAll_cons r0
  obtain ⟨rfl, rfl, rfl⟩ := trodAll_nil r1
  obtain rfl : args = #[v0, v1] := by cases args; simp_all
  obtain ⟨rfl, rfl⟩ := trodVars_none hV
  have k0 := h0
  have lt0 : ∀ x ∈ p0, x.block < W.heap.size := by obtain ⟨m, hm⟩ := k0; exact DataW.trod_lt m _ _ _ hm
  obtain ⟨a0, len0, cap0, rfl⟩ := okWide_slice Try.underlying22 (hval 0 22 v0 rfl rfl)
  obtain ⟨z0, w0, f0, l0, m0⟩ := ints_open h0
  have k1 := h1
  have lt1 : ∀ x ∈ p1, x.block < W.heap.size := by obtain ⟨m, hm⟩ := k1; exact DataW.trod_lt m _ _ _ hm
  obtain ⟨a1, len1, cap1, rfl⟩ := okWide_slice Try.underlying22 (hval 1 22 v1 rfl rfl)
  obtain ⟨z1, w1, f1, l1, m1⟩ := ints_open h1
  clear hA0 hval0
  refine (law_FnExactDistanceOf W a0 len0 cap0 z0 w0 f0 l0 m0 a1 len1 cap1 z1 w1 f1 l1 m1).mono fun e W' ⟨he, bel⟩ => ?_
  subst he
  exact ⟨_, rfl, _, _, _, [], _, [], hW', trodAll_mk1 (shut_bool Try.underlying4 _), (trodAll_cons_mk (Below.trod laidOut (by kernel_rfl) (of_decide_eq_true (by kernel_rfl)) k0 bel lt0) (trodAll_cons_mk (Below.trod laidOut (by kernel_rfl) (of_decide_eq_true (by kernel_rfl)) k1 bel lt1) trodAll_mk0)), rfl, bel.frame _, fun h => by cases h⟩

theorem over : Rows.fnExactDistanceOfRow.holds Try.pinned (OpenSpec.ofChange Rows.fnExactDistanceOfSpec) :=
  OpenClaim.holds_of_wide 9 Try.f9 rfl rfl rfl rfl rfl rfl rfl ⟨rfl, rfl, rfl, rfl, rfl⟩ rfl rfl rfl rfl rfl (by kernel_rfl) Try.func9 (by kernel_rfl)
    (of_decide_eq_true (by kernel_rfl)) (by unfold Func.isWrapper; first | (rw [if_pos (by decide +kernel)]; kernel_rfl) | (rw [if_neg (by decide +kernel)]; exact ⟨rfl, rfl⟩))
    (fun os started H enc _ => lifted os started H enc)

theorem proved : Rows.FnExactDistanceOfSaid := over
end Go.Proofs.Ytkjgngkiiecckaa.fnExactDistanceOf
