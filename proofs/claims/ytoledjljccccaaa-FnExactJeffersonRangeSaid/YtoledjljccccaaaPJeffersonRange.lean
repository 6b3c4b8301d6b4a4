/- The exact law on JeffersonRange: for every input the call returns true, and each argument reads as before. No condition. -/
import Derived.Test.YtoledjljccccaaaOpen
import Derived.Test.YtoledjljccccaaaJeffI
import Derived.Test.YtoledjljccccaaaJeffS
import Derived.Test.YtoledjljccccaaaLawInt
namespace Go.Proofs.Ytoledjljccccaaa
open Go.RowKit

set_option maxHeartbeats 1000000 in
theorem law_FnExactJeffersonRange (w : World) (A0 : Option Addr) (n0 c0 : Nat) (z0 : List Int) (h0 : IntsAt w A0 n0 z0) (f0 : ∀ x ∈ z0, (Lit.int .i64 x).wf = true) (l0 : n0 ≤ c0) (m0 : c0 ≤ maxLen) (a1 : Int) (wf1 : (Lit.int .i64 a1).wf = true) :
    Calls Try.prog 8 #[.slice A0 n0 c0, .int .i64 a1] w fun e w' => e = .returned (.bool true) ∧ Below w.heap.size w w' := by
  unfold maxLen at m0
  have HF0 := Lib.hid f0; clear f0
  by_cases big0 : 1048576 < n0
  · go_enter Try.func8, Try.ntmps8
    go_wp2_with fail
    go_ret
    exact ⟨rfl, Below.refl _ _⟩
  have sm0 : n0 ≤ 1048576 := by omega
  clear big0
  go_enter Try.func8, Try.ntmps8
  have hT : Below w.heap.size w w := Below.refl _ _
  go_wp2_with fail
  (with_reducible refine (toIntS_any _ _ _ _ _ (h0.below hT) sm0).mono ?_)
  rintro e w1 ⟨A_t1, c_t1, rfl, o_t1, b_t1⟩
  replace hT := hT.trans (b_t1.mono hT.size)
  have s_w1 := b_t1.size
  clear b_t1
  go_wp2_with fail
  (with_reducible refine (specJefferson _ _ _ _ _ _ o_t1.at_ sm0).mono ?_)
  rintro e w2 ⟨rfl, b_w2⟩
  replace o_t1 := o_t1.belowW b_w2
  replace hT := hT.trans (b_w2.mono hT.size)
  have s_w2 := b_w2.size
  clear b_w2
  have k_w0 := new_pair w2 (Value.int IntKind.i64 ((jLt z0 a1 : Nat) : Int)) (Value.int IntKind.i64 ((jLb z0 a1 : Nat) : Int)) 32 (g := w2.heap.size) (by simp)
  have k_w1 := new_pair (w2.alloc (Obj.cells #[Value.int IntKind.i64 ((jLt z0 a1 : Nat) : Int), Value.int IntKind.i64 ((jLb z0 a1 : Nat) : Int)] 32)) (Value.int IntKind.i64 ((jHt z0 a1 : Nat) : Int)) (Value.int IntKind.i64 ((jHb z0 a1 : Nat) : Int)) 32 (g := w2.heap.size + 1) (by simp)
  replace k_w0 := (And.intro (old_cell k_w0.1 (Obj.cells #[Value.int IntKind.i64 ((jHt z0 a1 : Nat) : Int), Value.int IntKind.i64 ((jHb z0 a1 : Nat) : Int)] 32)) (old_cell k_w0.2 (Obj.cells #[Value.int IntKind.i64 ((jHt z0 a1 : Nat) : Int), Value.int IntKind.i64 ((jHb z0 a1 : Nat) : Int)] 32)))
  have b_w3 : Below w2.heap.size w2 ((w2.alloc (Obj.cells #[Value.int IntKind.i64 ((jLt z0 a1 : Nat) : Int), Value.int IntKind.i64 ((jLb z0 a1 : Nat) : Int)] 32)).alloc (Obj.cells #[Value.int IntKind.i64 ((jHt z0 a1 : Nat) : Int), Value.int IntKind.i64 ((jHb z0 a1 : Nat) : Int)] 32)) := ((Below.refl _ _).alloc (Nat.le_refl _) _).alloc (by simp) _
  go_wp2_with fail
  generalize ((w2.alloc (Obj.cells #[Value.int IntKind.i64 ((jLt z0 a1 : Nat) : Int), Value.int IntKind.i64 ((jLb z0 a1 : Nat) : Int)] 32)).alloc (Obj.cells #[Value.int IntKind.i64 ((jHt z0 a1 : Nat) : Int), Value.int IntKind.i64 ((jHb z0 a1 : Nat) : Int)] 32)) = w3 at *
  obtain ⟨k_w00, k_w01⟩ := k_w0
  obtain ⟨k_w10, k_w11⟩ := k_w1
  replace o_t1 := o_t1.belowW b_w3
  replace hT := hT.trans (b_w3.mono hT.size)
  have s_w3 := b_w3.size
  clear b_w3
  go_wp2_with fail
  (with_reducible refine (toIntS_any _ _ _ _ _ (h0.below hT) sm0).mono ?_)
  rintro e w4 ⟨A_t2, c_t2, rfl, o_t2, b_t2⟩
  replace o_t1 := o_t1.belowW b_t2
  replace k_w00 := cell_carry b_t2 k_w00
  replace k_w01 := cell_carry b_t2 k_w01
  replace k_w10 := cell_carry b_t2 k_w10
  replace k_w11 := cell_carry b_t2 k_w11
  replace hT := hT.trans (b_t2.mono hT.size)
  have s_w4 := b_t2.size
  clear b_t2
  go_wp2_with fail
  (with_reducible refine (implJefferson _ _ _ _ _ _ o_t2.at_ sm0).mono ?_)
  rintro e w5 ⟨rfl, b_w5⟩
  replace o_t1 := o_t1.belowW b_w5
  replace o_t2 := o_t2.belowW b_w5
  replace k_w00 := cell_carry b_w5 k_w00
  replace k_w01 := cell_carry b_w5 k_w01
  replace k_w10 := cell_carry b_w5 k_w10
  replace k_w11 := cell_carry b_w5 k_w11
  replace hT := hT.trans (b_w5.mono hT.size)
  have s_w5 := b_w5.size
  clear b_w5
  have k_g0 := new_pair w5 (Value.int IntKind.i64 ((jLt z0 a1 : Nat) : Int)) (Value.int IntKind.i64 ((jLb z0 a1 : Nat) : Int)) 32 (g := w5.heap.size) (by simp)
  replace k_w00 := old_cell k_w00 (Obj.cells #[Value.int IntKind.i64 ((jLt z0 a1 : Nat) : Int), Value.int IntKind.i64 ((jLb z0 a1 : Nat) : Int)] 32)
  replace k_w01 := old_cell k_w01 (Obj.cells #[Value.int IntKind.i64 ((jLt z0 a1 : Nat) : Int), Value.int IntKind.i64 ((jLb z0 a1 : Nat) : Int)] 32)
  replace k_w10 := old_cell k_w10 (Obj.cells #[Value.int IntKind.i64 ((jLt z0 a1 : Nat) : Int), Value.int IntKind.i64 ((jLb z0 a1 : Nat) : Int)] 32)
  replace k_w11 := old_cell k_w11 (Obj.cells #[Value.int IntKind.i64 ((jLt z0 a1 : Nat) : Int), Value.int IntKind.i64 ((jLb z0 a1 : Nat) : Int)] 32)
  have k_g1 := new_pair (w5.alloc (Obj.cells #[Value.int IntKind.i64 ((jLt z0 a1 : Nat) : Int), Value.int IntKind.i64 ((jLb z0 a1 : Nat) : Int)] 32)) (Value.int IntKind.i64 ((jHt z0 a1 : Nat) : Int)) (Value.int IntKind.i64 ((jHb z0 a1 : Nat) : Int)) 32 (g := w5.heap.size + 1) (by simp)
  replace k_w00 := old_cell k_w00 (Obj.cells #[Value.int IntKind.i64 ((jHt z0 a1 : Nat) : Int), Value.int IntKind.i64 ((jHb z0 a1 : Nat) : Int)] 32)
  replace k_w01 := old_cell k_w01 (Obj.cells #[Value.int IntKind.i64 ((jHt z0 a1 : Nat) : Int), Value.int IntKind.i64 ((jHb z0 a1 : Nat) : Int)] 32)
  replace k_w10 := old_cell k_w10 (Obj.cells #[Value.int IntKind.i64 ((jHt z0 a1 : Nat) : Int), Value.int IntKind.i64 ((jHb z0 a1 : Nat) : Int)] 32)
  replace k_w11 := old_cell k_w11 (Obj.cells #[Value.int IntKind.i64 ((jHt z0 a1 : Nat) : Int), Value.int IntKind.i64 ((jHb z0 a1 : Nat) : Int)] 32)
  replace k_g0 := (And.intro (old_cell k_g0.1 (Obj.cells #[Value.int IntKind.i64 ((jHt z0 a1 : Nat) : Int), Value.int IntKind.i64 ((jHb z0 a1 : Nat) : Int)] 32)) (old_cell k_g0.2 (Obj.cells #[Value.int IntKind.i64 ((jHt z0 a1 : Nat) : Int), Value.int IntKind.i64 ((jHb z0 a1 : Nat) : Int)] 32)))
  have b_w6 : Below w5.heap.size w5 ((w5.alloc (Obj.cells #[Value.int IntKind.i64 ((jLt z0 a1 : Nat) : Int), Value.int IntKind.i64 ((jLb z0 a1 : Nat) : Int)] 32)).alloc (Obj.cells #[Value.int IntKind.i64 ((jHt z0 a1 : Nat) : Int), Value.int IntKind.i64 ((jHb z0 a1 : Nat) : Int)] 32)) := ((Below.refl _ _).alloc (Nat.le_refl _) _).alloc (by simp) _
  go_wp2_with fail
  generalize ((w5.alloc (Obj.cells #[Value.int IntKind.i64 ((jLt z0 a1 : Nat) : Int), Value.int IntKind.i64 ((jLb z0 a1 : Nat) : Int)] 32)).alloc (Obj.cells #[Value.int IntKind.i64 ((jHt z0 a1 : Nat) : Int), Value.int IntKind.i64 ((jHb z0 a1 : Nat) : Int)] 32)) = w6 at *
  obtain ⟨k_g00, k_g01⟩ := k_g0
  obtain ⟨k_g10, k_g11⟩ := k_g1
  replace o_t1 := o_t1.belowW b_w6
  replace o_t2 := o_t2.belowW b_w6
  replace hT := hT.trans (b_w6.mono hT.size)
  have s_w6 := b_w6.size
  clear b_w6
  go_wp2_with fail
  (with_reducible refine (eqFraction_eq _ _ _).mono ?_)
  rintro e w7 ⟨rfl, b_w7⟩
  clear k_w00 k_w01 k_g00 k_g01
  replace o_t1 := o_t1.belowW b_w7
  replace o_t2 := o_t2.belowW b_w7
  replace k_w10 := cell_carry b_w7 k_w10
  replace k_w11 := cell_carry b_w7 k_w11
  replace k_g10 := cell_carry b_w7 k_g10
  replace k_g11 := cell_carry b_w7 k_g11
  replace hT := hT.trans (b_w7.mono hT.size)
  have s_w7 := b_w7.size
  clear b_w7
  go_wp2_with fail
  (with_reducible refine (eqFraction_eq _ _ _).mono ?_)
  rintro e w8 ⟨rfl, b_w8⟩
  clear k_w10 k_w11 k_g10 k_g11
  replace o_t1 := o_t1.belowW b_w8
  replace o_t2 := o_t2.belowW b_w8
  replace hT := hT.trans (b_w8.mono hT.size)
  have s_w8 := b_w8.size
  clear b_w8
  go_wp2_with fail
  (with_reducible refine (toIntS_any _ _ _ _ _ (h0.below hT) sm0).mono ?_)
  rintro e w9 ⟨A_t3, c_t3, rfl, o_t3, b_t3⟩
  replace o_t1 := o_t1.belowW b_t3
  replace o_t2 := o_t2.belowW b_t3
  replace hT := hT.trans (b_t3.mono hT.size)
  have s_w9 := b_t3.size
  clear b_t3
  go_wp2_with fail
  (with_reducible refine (eqIntS_eq _ _ _ _ _ _ _ _ o_t2.at_ o_t3.at_ (Nat.le_trans sm0 (by omega))).mono ?_)
  rintro e w10 ⟨rfl, md, hd_w10⟩
  have b_w10 : Below w9.heap.size w9 w10 := below_of_drewN hd_w10
  clear hd_w10
  replace o_t1 := o_t1.belowW b_w10
  replace o_t2 := o_t2.belowW b_w10
  replace o_t3 := o_t3.belowW b_w10
  replace hT := hT.trans (b_w10.mono hT.size)
  have s_w10 := b_w10.size
  clear b_w10
  go_wp2_with fail
  go_ret
  exact ⟨rfl, hT⟩
end Go.Proofs.Ytoledjljccccaaa
namespace Go.Proofs.Ytoledjljccccaaa.fnExactJeffersonRange
open Go.ChangeShapes Go.WideShapes Go.ChangeAt Go.RowKit
open Go.ChangeMaps (open_string shut_string)
set_option linter.unusedVariables false

set_option maxRecDepth 100000 in
theorem lifted (os : Os) (started : os.Started) (H : Type) (enc : TypeId × Value → H) :
    ReturnsInHanded {} Try.checked os 8 .any (Rows.fnExactJeffersonRangeSpec.pre6 enc Try.prog Try.f8 Rows.fnExactJeffersonRangeRow.domain false) (Rows.fnExactJeffersonRangeSpec.post enc Try.prog Try.f8 false true false false) := by
  refine returnsInHanded_of_change (C := Try.checked) own started (by kernel_rfl) Try.func8
    (ChangeSpec.witness6 (enc := enc) (C := Try.checked) false ⟨#[], #[.slice none 0 0, .int .i64 0], []⟩ 8 (by kernel_rfl) (by kernel_rfl) (by kernel_rfl) (by kernel_rfl)) ?_
  intro W base args ds gs before hval0 hW hcnd _
  have hval : ∀ (j : Nat) t v, Try.f8.params[j]? = some t → args[j]? = some v → Value.okWide Try.prog W .any base t v := hval0
  have hW' := hW
  obtain ⟨p, q, hA0, hV, rfl, hfz, hnd⟩ := hW
  have hA : DataW.TrodAll enc Try.prog W 0 (fun _ => true) true Try.f8.params.toList args.toList ds p := hA0
  rw [Try.params8] at hA hval
  obtain ⟨v0, vs0, d0, ds0, p0, q0, hargs, rfl, rfl, h0, r0⟩ := trodAll_cons hA
  obtain ⟨v1, vs1, d1, ds1, p1, q1, rfl, rfl, rfl, h1, r1⟩ := trodAll_cons r0
  obtain ⟨rfl, rfl, rfl⟩ := trodAll_nil r1
  obtain rfl : args = #[v0, v1] := by cases args; simp_all
  obtain ⟨rfl, rfl⟩ := trodVars_none hV
  have k0 := h0
  have lt0 : ∀ x ∈ p0, x.block < W.heap.size := by obtain ⟨m, hm⟩ := k0; exact DataW.trod_lt m _ _ _ hm
  obtain ⟨a0, len0, cap0, rfl⟩ := okWide_slice Try.underlying24 (hval 0 24 v0 rfl rfl)
  obtain ⟨z0, w0, f0, l0, m0⟩ := ints_open h0
  obtain ⟨a1, rfl, rfl, rfl, w1⟩ := open_int Try.underlying3 (hval 1 3 v1 rfl rfl) h1
  clear hA0 hval0
  refine (law_FnExactJeffersonRange W a0 len0 cap0 z0 w0 f0 l0 m0 a1 w1).mono fun e W' ⟨he, bel⟩ => ?_
  subst he
  exact ⟨_, rfl, _, _, _, [], _, [], hW', trodAll_mk1 (shut_bool Try.underlying4 _), (trodAll_cons_mk (Below.trod laidOut (by kernel_rfl) (of_decide_eq_true (by kernel_rfl)) k0 bel lt0) (trodAll_cons_mk (shut_int Try.underlying3 w1) trodAll_mk0)), rfl, bel.frame _, fun h => by cases h⟩

theorem over : Rows.fnExactJeffersonRangeRow.holds Try.pinned (OpenSpec.ofChange Rows.fnExactJeffersonRangeSpec) :=
  OpenClaim.holds_of_wide 8 Try.f8 rfl rfl rfl rfl rfl rfl rfl ⟨rfl, rfl, rfl, rfl, rfl⟩ rfl rfl rfl rfl rfl (by kernel_rfl) Try.func8 (by kernel_rfl)
    (of_decide_eq_true (by kernel_rfl)) (by unfold Func.isWrapper; first | (rw [if_pos (by decide +kernel)]; kernel_rfl) | (rw [if_neg (by decide +kernel)]; exact ⟨rfl, rfl⟩))
    (fun os started H enc _ => lifted os started H enc)

theorem proved : Rows.FnExactJeffersonRangeSaid := over
end Go.Proofs.Ytoledjljccccaaa.fnExactJeffersonRange
