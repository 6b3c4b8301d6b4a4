/- The exact law on AtLeastAsGood: for every input the call returns true, and each argument reads as before. No condition. -/
import Derived.Test.YtgehbpeeljifnaaOpen
import Derived.Test.YtgehbpeeljifnaaAtLeast
import Derived.Test.YtgehbpeeljifnaaLawMarket
namespace Go.Proofs.Ytgehbpeeljifnaa
open Go.RowKit

set_option maxHeartbeats 1000000 in
theorem law_FnExactAtLeastAsGood (w : World) (A0a : Option Addr) (n0a c0a : Nat) (z0a : List (List Int)) (A0b : Option Addr) (n0b c0b : Nat) (z0b : List (List Int)) (h0a : RowsAt w A0a n0a z0a) (f0a : ∀ xs ∈ z0a, xs.length ≤ 9223372036854775807 ∧ ∀ x ∈ xs, (Lit.int .i64 x).wf = true) (l0a : n0a ≤ c0a) (m0a : c0a ≤ maxLen) (h0b : RowsAt w A0b n0b z0b) (f0b : ∀ xs ∈ z0b, xs.length ≤ 9223372036854775807 ∧ ∀ x ∈ xs, (Lit.int .i64 x).wf = true) (l0b : n0b ≤ c0b) (m0b : c0b ≤ maxLen) (A1 : Option Addr) (n1 c1 : Nat) (z1 : List Int) (h1 : IntsAt w A1 n1 z1) (f1 : ∀ x ∈ z1, (Lit.int .i64 x).wf = true) (l1 : n1 ≤ c1) (m1 : c1 ≤ maxLen) (A2 : Option Addr) (n2 c2 : Nat) (z2 : List Int) (h2 : IntsAt w A2 n2 z2) (f2 : ∀ x ∈ z2, (Lit.int .i64 x).wf = true) (l2 : n2 ≤ c2) (m2 : c2 ≤ maxLen) :
    Calls Try.prog 6 #[.agg #[.slice A0a n0a c0a, .slice A0b n0b c0b], .slice A1 n1 c1, .slice A2 n2 c2] w fun e w' => e = .returned (.bool true) ∧ Below w.heap.size w w' := by
  unfold maxLen at m0a
  have HF0a := Lib.hid f0a; clear f0a
  unfold maxLen at m0b
  have HF0b := Lib.hid f0b; clear f0b
  unfold maxLen at m1
  have HF1 := Lib.hid f1; clear f1
  unfold maxLen at m2
  have HF2 := Lib.hid f2; clear f2
  by_cases big1 : 1048576 < n1
  · go_enter Try.func6, Try.ntmps6
    go_wp2_with fail
    go_ret
    exact ⟨rfl, (Below.refl _ _).alloc (Nat.le_refl _) _⟩
  have sm1 : n1 ≤ 1048576 := by omega
  clear big1
  by_cases big2 : 1048576 < n2
  · go_enter Try.func6, Try.ntmps6
    go_wp2_with fail
    go_ret
    exact ⟨rfl, (Below.refl _ _).alloc (Nat.le_refl _) _⟩
  have sm2 : n2 ≤ 1048576 := by omega
  clear big2
  go_enter Try.func6, Try.ntmps6
  have hT : Below w.heap.size w (w.alloc (Obj.cells #[Value.slice A0a n0a c0a, Value.slice A0b n0b c0b] 29)) := (Below.refl _ _).alloc (Nat.le_refl _) _
  have hN := World.size_alloc w (Obj.cells #[Value.slice A0a n0a c0a, Value.slice A0b n0b c0b] 29)
  have k_a := new_pair w (Value.slice A0a n0a c0a) (Value.slice A0b n0b c0b) 29 rfl
  go_wp2_with fail
  generalize (w.alloc (Obj.cells #[Value.slice A0a n0a c0a, Value.slice A0b n0b c0b] 29)) = w0 at *
  obtain ⟨k_a0, k_a1⟩ := k_a
  have s_w0 : w.heap.size < w0.heap.size := by omega
  clear hN
  go_wp2_with fail
  (with_reducible refine (szMarket_any _ _ _ _ _ _ _ _ _ _ (h0a.below hT) (by omega) (fun xs hx => (HF0a.out xs hx).1) (h0b.below hT) (by omega) (fun xs hx => (HF0b.out xs hx).1) (by omega) (by omega)).mono ?_)
  rintro e w1 ⟨r0, rfl, hr0, hq0, b_w1⟩
  replace k_a0 := cell_carry b_w1 k_a0
  replace k_a1 := cell_carry b_w1 k_a1
  replace hT := hT.trans (b_w1.mono hT.size)
  have s_w1 := b_w1.size
  clear b_w1
  by_cases hneg0 : r0 < 0
  · go_wp2_with fail
    go_ret
    exact ⟨rfl, hT⟩
  have hnn0 : 0 ≤ r0 := by omega
  obtain ⟨hs0, sm0a, hx0a, sm0b, hx0b⟩ := hr0 hnn0
  have HX0a := Lib.hid hx0a; clear hx0a
  have HX0b := Lib.hid hx0b; clear hx0b
  clear hr0 hneg0
  go_wp2_with fail
  (with_reducible refine (toMarket_any _ _ _ _ _ _ _ _ _ (h0a.below hT) sm0a HX0a.out (h0b.below hT) sm0b HX0b.out).mono ?_)
  rintro e w2 ⟨A_t1a, c_t1a, A_t1b, c_t1b, ma_t1, rfl, o_t1a, o_t1b, p_t1a, p_t1b, b_t1⟩
  replace k_a0 := cell_carry b_t1 k_a0
  replace k_a1 := cell_carry b_t1 k_a1
  replace hT := hT.trans (b_t1.mono hT.size)
  have s_w2 := b_t1.size
  clear b_t1
  go_wp2_with fail
  (with_reducible refine (toIntS_any _ _ _ _ _ (h1.below hT) sm1).mono ?_)
  rintro e w3 ⟨A_t2, c_t2, rfl, o_t2, b_t2⟩
  replace o_t1a := o_t1a.belowW b_t2
  replace o_t1b := o_t1b.belowW b_t2
  replace k_a0 := cell_carry b_t2 k_a0
  replace k_a1 := cell_carry b_t2 k_a1
  replace hT := hT.trans (b_t2.mono hT.size)
  have s_w3 := b_t2.size
  clear b_t2
  go_wp2_with fail
  (with_reducible refine (toIntS_any _ _ _ _ _ (h2.below hT) sm2).mono ?_)
  rintro e w4 ⟨A_t3, c_t3, rfl, o_t3, b_t3⟩
  replace o_t1a := o_t1a.belowW b_t3
  replace o_t1b := o_t1b.belowW b_t3
  replace o_t2 := o_t2.belowW b_t3
  replace k_a0 := cell_carry b_t3 k_a0
  replace k_a1 := cell_carry b_t3 k_a1
  replace hT := hT.trans (b_t3.mono hT.size)
  have s_w4 := b_t3.size
  clear b_t3
  go_wp2_with fail
  (with_reducible refine (specAtLeastAsGood _ _ _ _ _ _ _ _ _ _ _ _ _ _ _ _ _ o_t1a.at_ sm0a HX0a.out o_t1b.at_ sm0b HX0b.out o_t2.at_ sm1 o_t2.ints.2.2.1 o_t3.at_ sm2 o_t3.ints.2.2.1).mono ?_)
  rintro e w5 ⟨rfl, b_w5⟩
  replace o_t1a := o_t1a.belowW b_w5
  replace o_t1b := o_t1b.belowW b_w5
  replace o_t2 := o_t2.belowW b_w5
  replace o_t3 := o_t3.belowW b_w5
  replace k_a0 := cell_carry b_w5 k_a0
  replace k_a1 := cell_carry b_w5 k_a1
  replace hT := hT.trans (b_w5.mono hT.size)
  have s_w5 := b_w5.size
  clear b_w5
  go_wp2_with fail
  (with_reducible refine (toMarket_any _ _ _ _ _ _ _ _ _ (h0a.below hT) sm0a HX0a.out (h0b.below hT) sm0b HX0b.out).mono ?_)
  rintro e w6 ⟨A_t4a, c_t4a, A_t4b, c_t4b, ma_t4, rfl, o_t4a, o_t4b, p_t4a, p_t4b, b_t4⟩
  replace o_t1a := o_t1a.belowW b_t4
  replace o_t1b := o_t1b.belowW b_t4
  replace o_t2 := o_t2.belowW b_t4
  replace o_t3 := o_t3.belowW b_t4
  replace k_a0 := cell_carry b_t4 k_a0
  replace k_a1 := cell_carry b_t4 k_a1
  replace hT := hT.trans (b_t4.mono hT.size)
  have s_w6 := b_t4.size
  clear b_t4
  have k_t4 := new_pair w6 (Value.slice A_t4a n0a c_t4a) (Value.slice A_t4b n0b c_t4b) 32 rfl
  have b_w7 : Below w6.heap.size w6 (w6.alloc (Obj.cells #[Value.slice A_t4a n0a c_t4a, Value.slice A_t4b n0b c_t4b] 32)) := (Below.refl _ _).alloc (Nat.le_refl _) _
  have z_w7 := World.size_alloc w6 (Obj.cells #[Value.slice A_t4a n0a c_t4a, Value.slice A_t4b n0b c_t4b] 32)
  replace k_a0 := old_cell k_a0 (Obj.cells #[Value.slice A_t4a n0a c_t4a, Value.slice A_t4b n0b c_t4b] 32)
  replace k_a1 := old_cell k_a1 (Obj.cells #[Value.slice A_t4a n0a c_t4a, Value.slice A_t4b n0b c_t4b] 32)
  go_wp2_with fail
  generalize w6.alloc (Obj.cells #[Value.slice A_t4a n0a c_t4a, Value.slice A_t4b n0b c_t4b] 32) = w7 at *
  obtain ⟨k_t40, k_t41⟩ := k_t4
  have y_w7 : w6.heap.size < w7.heap.size := by omega
  clear z_w7
  replace o_t1a := o_t1a.belowW b_w7
  replace o_t1b := o_t1b.belowW b_w7
  replace o_t2 := o_t2.belowW b_w7
  replace o_t3 := o_t3.belowW b_w7
  replace o_t4a := o_t4a.belowW b_w7
  replace o_t4b := o_t4b.belowW b_w7
  replace hT := hT.trans (b_w7.mono hT.size)
  have s_w7 := b_w7.size
  clear b_w7
  go_wp2_with fail
  (with_reducible refine (toIntS_any _ _ _ _ _ (h1.below hT) sm1).mono ?_)
  rintro e w8 ⟨A_t5, c_t5, rfl, o_t5, b_t5⟩
  replace o_t1a := o_t1a.belowW b_t5
  replace o_t1b := o_t1b.belowW b_t5
  replace o_t2 := o_t2.belowW b_t5
  replace o_t3 := o_t3.belowW b_t5
  replace o_t4a := o_t4a.belowW b_t5
  replace o_t4b := o_t4b.belowW b_t5
  replace k_a0 := cell_carry b_t5 k_a0
  replace k_a1 := cell_carry b_t5 k_a1
  replace k_t40 := cell_carry b_t5 k_t40
  replace k_t41 := cell_carry b_t5 k_t41
  replace hT := hT.trans (b_t5.mono hT.size)
  have s_w8 := b_t5.size
  clear b_t5
  go_wp2_with fail
  (with_reducible refine (toIntS_any _ _ _ _ _ (h2.below hT) sm2).mono ?_)
  rintro e w9 ⟨A_t6, c_t6, rfl, o_t6, b_t6⟩
  replace o_t1a := o_t1a.belowW b_t6
  replace o_t1b := o_t1b.belowW b_t6
  replace o_t2 := o_t2.belowW b_t6
  replace o_t3 := o_t3.belowW b_t6
  replace o_t4a := o_t4a.belowW b_t6
  replace o_t4b := o_t4b.belowW b_t6
  replace o_t5 := o_t5.belowW b_t6
  replace k_a0 := cell_carry b_t6 k_a0
  replace k_a1 := cell_carry b_t6 k_a1
  replace k_t40 := cell_carry b_t6 k_t40
  replace k_t41 := cell_carry b_t6 k_t41
  replace hT := hT.trans (b_t6.mono hT.size)
  have s_w9 := b_t6.size
  clear b_t6
  go_wp2_with fail
  (with_reducible refine (implAtLeastAsGood _ _ _ _ _ _ _ _ _ _ _ _ _ _ _ _ _ o_t4a.at_ sm0a HX0a.out o_t4b.at_ sm0b HX0b.out o_t5.at_ sm1 o_t5.ints.2.2.1 o_t6.at_ sm2 o_t6.ints.2.2.1).mono ?_)
  rintro e w10 ⟨rfl, b_w10⟩
  replace o_t1a := o_t1a.belowW b_w10
  replace o_t1b := o_t1b.belowW b_w10
  replace o_t2 := o_t2.belowW b_w10
  replace o_t3 := o_t3.belowW b_w10
  replace o_t4a := o_t4a.belowW b_w10
  replace o_t4b := o_t4b.belowW b_w10
  replace o_t5 := o_t5.belowW b_w10
  replace o_t6 := o_t6.belowW b_w10
  replace k_a0 := cell_carry b_w10 k_a0
  replace k_a1 := cell_carry b_w10 k_a1
  replace k_t40 := cell_carry b_w10 k_t40
  replace k_t41 := cell_carry b_w10 k_t41
  replace hT := hT.trans (b_w10.mono hT.size)
  have s_w10 := b_w10.size
  clear b_w10
  go_wp2_with fail
  go_region_held3 (fun w' => w'.cell? ⟨w6.heap.size, 0, none⟩ = some (Value.slice A_t4a n0a c_t4a) ∧ w'.cell? ⟨w6.heap.size, 1, none⟩ = some (Value.slice A_t4b n0b c_t4b) ∧ w'.cell? ⟨w.heap.size, 0, none⟩ = some (Value.slice A0a n0a c0a) ∧ w'.cell? ⟨w.heap.size, 1, none⟩ = some (Value.slice A0b n0b c0b)) ((refine ⟨?_, ?_, ?_, ?_⟩ <;> (first | assumption | go_keep))) (first | (go_at_call 20; (with_reducible refine (toMarket_any _ _ _ _ _ _ _ _ _ (h0a.below hT.drew) sm0a HX0a.out (h0b.below hT.drew) sm0b HX0b.out).mono ?_); rintro e w11 ⟨A_t7a, c_t7a, A_t7b, c_t7b, ma_t7, rfl, o_t7a, o_t7b, p_t7a, p_t7b, b_t7⟩; replace b_t7 : Below w10.heap.size w10 w11 := ((Below.refl _ w10).drew).trans b_t7; replace o_t1a := o_t1a.belowW b_t7; replace o_t1b := o_t1b.belowW b_t7; replace o_t2 := o_t2.belowW b_t7; replace o_t3 := o_t3.belowW b_t7; replace o_t4a := o_t4a.belowW b_t7; replace o_t4b := o_t4b.belowW b_t7; replace o_t5 := o_t5.belowW b_t7; replace o_t6 := o_t6.belowW b_t7; replace k_a0 := cell_carry b_t7 k_a0; replace k_a1 := cell_carry b_t7 k_a1; replace k_t40 := cell_carry b_t7 k_t40; replace k_t41 := cell_carry b_t7 k_t41; replace hT := hT.trans (b_t7.mono hT.size); have s_w11 := b_t7.size; clear b_t7) | (go_at_call 22; (with_reducible refine (eqMarket_eq _ _ _ _ _ _ _ _ _ _ _ _ _ _ _ o_t4a.at_ o_t7a.at_ sm0a HX0a.out o_t4b.at_ o_t7b.at_ sm0b HX0b.out).mono ?_); rintro e w12 ⟨rfl, b_w12⟩; replace o_t1a := o_t1a.belowW b_w12; replace o_t1b := o_t1b.belowW b_w12; replace o_t2 := o_t2.belowW b_w12; replace o_t3 := o_t3.belowW b_w12; replace o_t4a := o_t4a.belowW b_w12; replace o_t4b := o_t4b.belowW b_w12; replace o_t5 := o_t5.belowW b_w12; replace o_t6 := o_t6.belowW b_w12; replace o_t7a := o_t7a.belowW b_w12; replace o_t7b := o_t7b.belowW b_w12; replace k_a0 := cell_carry b_w12 k_a0; replace k_a1 := cell_carry b_w12 k_a1; replace k_t40 := cell_carry b_w12 k_t40; replace k_t41 := cell_carry b_w12 k_t41; replace hT := hT.trans (b_w12.mono hT.size); have s_w12 := b_w12.size; clear b_w12))
  go_wp2_with fail
  (with_reducible refine (toIntS_any _ _ _ _ _ (h1.below hT) sm1).mono ?_)
  rintro e w13 ⟨A_t8, c_t8, rfl, o_t8, b_t8⟩
  replace o_t1a := o_t1a.belowW b_t8
  replace o_t1b := o_t1b.belowW b_t8
  replace o_t2 := o_t2.belowW b_t8
  replace o_t3 := o_t3.belowW b_t8
  replace o_t4a := o_t4a.belowW b_t8
  replace o_t4b := o_t4b.belowW b_t8
  replace o_t5 := o_t5.belowW b_t8
  replace o_t6 := o_t6.belowW b_t8
  replace o_t7a := o_t7a.belowW b_t8
  replace o_t7b := o_t7b.belowW b_t8
  replace k_a0 := cell_carry b_t8 k_a0
  replace k_a1 := cell_carry b_t8 k_a1
  replace k_t40 := cell_carry b_t8 k_t40
  replace k_t41 := cell_carry b_t8 k_t41
  replace hT := hT.trans (b_t8.mono hT.size)
  have s_w13 := b_t8.size
  clear b_t8
  go_wp2_with fail
  (with_reducible refine (eqIntS_eq _ _ _ _ _ _ _ _ o_t5.at_ o_t8.at_ (Nat.le_trans sm1 (by omega))).mono ?_)
  rintro e w14 ⟨rfl, md, hd_w14⟩
  have b_w14 : Below w13.heap.size w13 w14 := below_of_drewN hd_w14
  clear hd_w14
  replace o_t1a := o_t1a.belowW b_w14
  replace o_t1b := o_t1b.belowW b_w14
  replace o_t2 := o_t2.belowW b_w14
  replace o_t3 := o_t3.belowW b_w14
  replace o_t4a := o_t4a.belowW b_w14
  replace o_t4b := o_t4b.belowW b_w14
  replace o_t5 := o_t5.belowW b_w14
  replace o_t6 := o_t6.belowW b_w14
  replace o_t7a := o_t7a.belowW b_w14
  replace o_t7b := o_t7b.belowW b_w14
  replace o_t8 := o_t8.belowW b_w14
  replace k_a0 := cell_carry b_w14 k_a0
  replace k_a1 := cell_carry b_w14 k_a1
  replace k_t40 := cell_carry b_w14 k_t40
  replace k_t41 := cell_carry b_w14 k_t41
  replace hT := hT.trans (b_w14.mono hT.size)
  have s_w14 := b_w14.size
  clear b_w14
  go_wp2_with fail
  (with_reducible refine (toIntS_any _ _ _ _ _ (h2.below hT) sm2).mono ?_)
  rintro e w15 ⟨A_t9, c_t9, rfl, o_t9, b_t9⟩
  replace o_t1a := o_t1a.belowW b_t9
  replace o_t1b := o_t1b.belowW b_t9
  replace o_t2 := o_t2.belowW b_t9
  replace o_t3 := o_t3.belowW b_t9
  replace o_t4a := o_t4a.belowW b_t9
  replace o_t4b := o_t4b.belowW b_t9
  replace o_t5 := o_t5.belowW b_t9
  replace o_t6 := o_t6.belowW b_t9
  replace o_t7a := o_t7a.belowW b_t9
  replace o_t7b := o_t7b.belowW b_t9
  replace o_t8 := o_t8.belowW b_t9
  replace k_a0 := cell_carry b_t9 k_a0
  replace k_a1 := cell_carry b_t9 k_a1
  replace k_t40 := cell_carry b_t9 k_t40
  replace k_t41 := cell_carry b_t9 k_t41
  replace hT := hT.trans (b_t9.mono hT.size)
  have s_w15 := b_t9.size
  clear b_t9
  go_wp2_with fail
  (with_reducible refine (eqIntS_eq _ _ _ _ _ _ _ _ o_t6.at_ o_t9.at_ (Nat.le_trans sm2 (by omega))).mono ?_)
  rintro e w16 ⟨rfl, md, hd_w16⟩
  have b_w16 : Below w15.heap.size w15 w16 := below_of_drewN hd_w16
  clear hd_w16
  replace o_t1a := o_t1a.belowW b_w16
  replace o_t1b := o_t1b.belowW b_w16
  replace o_t2 := o_t2.belowW b_w16
  replace o_t3 := o_t3.belowW b_w16
  replace o_t4a := o_t4a.belowW b_w16
  replace o_t4b := o_t4b.belowW b_w16
  replace o_t5 := o_t5.belowW b_w16
  replace o_t6 := o_t6.belowW b_w16
  replace o_t7a := o_t7a.belowW b_w16
  replace o_t7b := o_t7b.belowW b_w16
  replace o_t8 := o_t8.belowW b_w16
  replace o_t9 := o_t9.belowW b_w16
  replace k_a0 := cell_carry b_w16 k_a0
  replace k_a1 := cell_carry b_w16 k_a1
  replace k_t40 := cell_carry b_w16 k_t40
  replace k_t41 := cell_carry b_w16 k_t41
  replace hT := hT.trans (b_w16.mono hT.size)
  have s_w16 := b_w16.size
  clear b_w16
  go_wp2_with fail
  go_ret
  exact ⟨rfl, hT⟩
end Go.Proofs.Ytgehbpeeljifnaa
namespace Go.Proofs.Ytgehbpeeljifnaa.fnExactAtLeastAsGood
open Go.ChangeShapes Go.WideShapes Go.ChangeAt Go.RowKit
open Go.ChangeMaps (open_string shut_string)
set_option linter.unusedVariables false

set_option maxRecDepth 100000 in
theorem lifted (os : Os) (started : os.Started) (H : Type) (enc : TypeId × Value → H) :
    ReturnsInHanded {} Try.checked os 6 .any (Rows.fnExactAtLeastAsGoodSpec.pre6 enc Try.prog Try.f6 Rows.fnExactAtLeastAsGoodRow.domain false) (Rows.fnExactAtLeastAsGoodSpec.post enc Try.prog Try.f6 false true false false) := by
  refine returnsInHanded_of_change (C := Try.checked) own started (by kernel_rfl) Try.func6
    (ChangeSpec.witness6 (enc := enc) (C := Try.checked) false ⟨#[], #[.agg #[.slice none 0 0, .slice none 0 0], .slice none 0 0, .slice none 0 0], []⟩ 8 (by kernel_rfl) (by kernel_rfl) (by kernel_rfl) (by kernel_rfl)) ?_
  intro W base args ds gs before hval0 hW hcnd _
  have hval : ∀ (j : Nat) t v, Try.f6.params[j]? = some t → args[j]? = some v → Value.okWide Try.prog W .any base t v := hval0
  have hW' := hW
  obtain ⟨p, q, hA0, hV, rfl, hfz, hnd⟩ := hW
  have hA : DataW.TrodAll enc Try.prog W 0 (fun _ => true) true Try.f6.params.toList args.toList ds p := hA0
  rw [Try.params6] at hA hval
  obtain ⟨v0, vs0, d0, ds0, p0, q0, hargs, rfl, rfl, h0, r0⟩ := trodAll_cons hA
  obtain ⟨v1, vs1, d1, ds1, p1, q1, rfl, rfl, rfl, h1, r1⟩ := trodAll_cons r0
  obtain ⟨v2, vs2, d2, ds2, p2, q2, rfl, rfl, rfl, h2, r2⟩ := trodAll_cons r1
  obtain ⟨rfl, rfl, rfl⟩ := trodAll_nil r2
  obtain rfl : args = #[v0, v1, v2] := by cases args; simp_all
  obtain ⟨rfl, rfl⟩ := trodVars_none hV
  have k0 := h0
  have lt0 : ∀ x ∈ p0, x.block < W.heap.size := by obtain ⟨m, hm⟩ := k0; exact DataW.trod_lt m _ _ _ hm
  obtain ⟨am0, nm0, cm0, zm0, aw0, nw0, cw0, zw0, rfl, hm0, fm0, lm0, mm0, hw0, fw0, lw0, mw0⟩ := market_open (hval 0 29 v0 rfl rfl) h0
  have k1 := h1
  have lt1 : ∀ x ∈ p1, x.block < W.heap.size := by obtain ⟨m, hm⟩ := k1; exact DataW.trod_lt m _ _ _ hm
  obtain ⟨a1, len1, cap1, rfl⟩ := okWide_slice Try.underlying22 (hval 1 22 v1 rfl rfl)
  obtain ⟨z1, w1, f1, l1, m1⟩ := ints_open h1
  have k2 := h2
  have lt2 : ∀ x ∈ p2, x.block < W.heap.size := by obtain ⟨m, hm⟩ := k2; exact DataW.trod_lt m _ _ _ hm
  obtain ⟨a2, len2, cap2, rfl⟩ := okWide_slice Try.underlying22 (hval 2 22 v2 rfl rfl)
  obtain ⟨z2, w2, f2, l2, m2⟩ := ints_open h2
  clear hA0 hval0
  refine (law_FnExactAtLeastAsGood W am0 nm0 cm0 zm0 aw0 nw0 cw0 zw0 hm0 fm0 lm0 mm0 hw0 fw0 lw0 mw0 a1 len1 cap1 z1 w1 f1 l1 m1 a2 len2 cap2 z2 w2 f2 l2 m2).mono fun e W' ⟨he, bel⟩ => ?_
  subst he
  exact ⟨_, rfl, _, _, _, [], _, [], hW', trodAll_mk1 (shut_bool Try.underlying4 _), (trodAll_cons_mk (Below.trod laidOut (by kernel_rfl) (of_decide_eq_true (by kernel_rfl)) k0 bel lt0) (trodAll_cons_mk (Below.trod laidOut (by kernel_rfl) (of_decide_eq_true (by kernel_rfl)) k1 bel lt1) (trodAll_cons_mk (Below.trod laidOut (by kernel_rfl) (of_decide_eq_true (by kernel_rfl)) k2 bel lt2) trodAll_mk0))), rfl, bel.frame _, fun h => by cases h⟩

theorem over : Rows.fnExactAtLeastAsGoodRow.holds Try.pinned (OpenSpec.ofChange Rows.fnExactAtLeastAsGoodSpec) :=
  OpenClaim.holds_of_wide 6 Try.f6 rfl rfl rfl rfl rfl rfl rfl ⟨rfl, rfl, rfl, rfl, rfl⟩ rfl rfl rfl rfl rfl (by kernel_rfl) Try.func6 (by kernel_rfl)
    (of_decide_eq_true (by kernel_rfl)) (by unfold Func.isWrapper; first | (rw [if_pos (by decide +kernel)]; kernel_rfl) | (rw [if_neg (by decide +kernel)]; exact ⟨rfl, rfl⟩))
    (fun os started H enc _ => lifted os started H enc)

theorem proved : Rows.FnExactAtLeastAsGoodSaid := over
end Go.Proofs.Ytgehbpeeljifnaa.fnExactAtLeastAsGood
