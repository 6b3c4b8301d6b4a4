/- The exact law on WorseOf: for every input the call returns true, and each argument reads as before. No condition. -/
import Derived.Test.YtbhkpingpipdpaaOpen
import Derived.Test.YtbhkpingpipdpaaJoin
import Derived.Test.YtbhkpingpipdpaaLawMarket
namespace Go.Proofs.Ytbhkpingpipdpaa
open Go.RowKit

set_option maxHeartbeats 1000000 in
theorem law_FnExactWorseOf (w : World) (A0a : Option Addr) (n0a c0a : Nat) (z0a : List (List Int)) (A0b : Option Addr) (n0b c0b : Nat) (z0b : List (List Int)) (h0a : RowsAt w A0a n0a z0a) (f0a : ∀ xs ∈ z0a, xs.length ≤ 9223372036854775807 ∧ ∀ x ∈ xs, (Lit.int .i64 x).wf = true) (l0a : n0a ≤ c0a) (m0a : c0a ≤ maxLen) (h0b : RowsAt w A0b n0b z0b) (f0b : ∀ xs ∈ z0b, xs.length ≤ 9223372036854775807 ∧ ∀ x ∈ xs, (Lit.int .i64 x).wf = true) (l0b : n0b ≤ c0b) (m0b : c0b ≤ maxLen) (A1 : Option Addr) (n1 c1 : Nat) (z1 : List Int) (h1 : IntsAt w A1 n1 z1) (f1 : ∀ x ∈ z1, (Lit.int .i64 x).wf = true) (l1 : n1 ≤ c1) (m1 : c1 ≤ maxLen) (A2 : Option Addr) (n2 c2 : Nat) (z2 : List Int) (h2 : IntsAt w A2 n2 z2) (f2 : ∀ x ∈ z2, (Lit.int .i64 x).wf = true) (l2 : n2 ≤ c2) (m2 : c2 ≤ maxLen) :
    Calls Try.prog 5 #[.agg #[.slice A0a n0a c0a, .slice A0b n0b c0b], .slice A1 n1 c1, .slice A2 n2 c2] w fun e w' => e = .returned (.bool true) ∧ Below w.heap.size w w' := by
  unfold maxLen at m0a
  have HF0a := Lib.hid f0a; clear f0a
  unfold maxLen at m0b
  have HF0b := Lib.hid f0b; clear f0b
  unfold maxLen at m1
  have HF1 := Lib.hid f1; clear f1
  unfold maxLen at m2
  have HF2 := Lib.hid f2; clear f2
  by_cases big1 : 1048576 < n1
  · go_enter Try.func5, Try.ntmps5
    go_wp2_with fail
    go_ret
    exact ⟨rfl, (Below.refl _ _).alloc (Nat.le_refl _) _⟩
  have sm1 : n1 ≤ 1048576 := by omega
  clear big1
  by_cases big2 : 1048576 < n2
  · go_enter Try.func5, Try.ntmps5
    go_wp2_with fail
    go_ret
    exact ⟨rfl, (Below.refl _ _).alloc (Nat.le_refl _) _⟩
  have sm2 : n2 ≤ 1048576 := by omega
  clear big2
  go_enter Try.func5, Try.ntmps5
  have hT : Below w.heap.size w (w.alloc (Obj.cells #[Value.slice A0a n0a c0a, Value.slice A0b n0b c0b] 24)) := (Below.refl _ _).alloc (Nat.le_refl _) _
  have hN := World.size_alloc w (Obj.cells #[Value.slice A0a n0a c0a, Value.slice A0b n0b c0b] 24)
  have k_a := new_pair w (Value.slice A0a n0a c0a) (Value.slice A0b n0b c0b) 24 rfl
  go_wp2_with fail
  generalize (w.alloc (Obj.cells #[Value.slice A0a n0a c0a, Value.slice A0b n0b c0b] 24)) = w0 at *
  obtain ⟨k_a0, k_a1⟩ := k_a
  have s_w0 : w.heap.size < w0.heap.size := by omega
  clear hN
  go_wp2_with fail
  (with_reducible refine (szMarket_any _ _ _ _ _ _ _ _ _ _ (h0a.below hT) (by omega) (fun xs hx => (HF0a.out xs hx).1) (h0b.below hT) (by omega) (fun xs hx => (HF0b.out xs hx).1) (by omega) (by omega)).mono ?_)
  rintro e w1 ⟨r0, rfl, hr0, hq0, b_w1⟩
  replace k_a0 := cell_carry b_w1 k_a0
  replace k_a1 := cell_carry b_w1 k_a1
  replace hT := hT.trans (b_w1.mono hT.size)
  have s_w1 := b_w1.size
  clear b_w1
  by_cases hneg0 : r0 < 0
  · go_wp2_with fail
    go_ret
    exact ⟨rfl, hT⟩
  have hnn0 : 0 ≤ r0 := by omega
  obtain ⟨hs0, sm0a, hx0a, sm0b, hx0b⟩ := hr0 hnn0
  have HX0a := Lib.hid hx0a; clear hx0a
  have HX0b := Lib.hid hx0b; clear hx0b
  clear hr0 hneg0
  go_wp2_with fail
  (with_reducible refine (toMarket_any _ _ _ _ _ _ _ _ _ (h0a.below hT) sm0a HX0a.out (h0b.below hT) sm0b HX0b.out).mono ?_)
  rintro e w2 ⟨A_t1a, c_t1a, A_t1b, c_t1b, ma_t1, rfl, o_t1a, o_t1b, p_t1a, p_t1b, b_t1⟩
  replace k_a0 := cell_carry b_t1 k_a0
  replace k_a1 := cell_carry b_t1 k_a1
  replace hT := hT.trans (b_t1.mono hT.size)
  have s_w2 := b_t1.size
  clear b_t1
  go_wp2_with fail
  (with_reducible refine (toIntS_any _ _ _ _ _ (h1.below hT) sm1).mono ?_)
  rintro e w3 ⟨A_t2, c_t2, rfl, o_t2, b_t2⟩
  replace o_t1a := o_t1a.belowW b_t2
  replace o_t1b := o_t1b.belowW b_t2
  replace k_a0 := cell_carry b_t2 k_a0
  replace k_a1 := cell_carry b_t2 k_a1
  replace hT := hT.trans (b_t2.mono hT.size)
  have s_w3 := b_t2.size
  clear b_t2
  go_wp2_with fail
  (with_reducible refine (toIntS_any _ _ _ _ _ (h2.below hT) sm2).mono ?_)
  rintro e w4 ⟨A_t3, c_t3, rfl, o_t3, b_t3⟩
  replace o_t1a := o_t1a.belowW b_t3
  replace o_t1b := o_t1b.belowW b_t3
  replace o_t2 := o_t2.belowW b_t3
  replace k_a0 := cell_carry b_t3 k_a0
  replace k_a1 := cell_carry b_t3 k_a1
  replace hT := hT.trans (b_t3.mono hT.size)
  have s_w4 := b_t3.size
  clear b_t3
  go_wp2_with fail
  (with_reducible refine (specWorseOf _ _ _ _ _ _ _ _ _ _ _ _ _ _ _ _ _ o_t1a.at_ sm0a HX0a.out o_t1b.at_ sm0b HX0b.out o_t2.at_ sm1 o_t2.ints.2.2.1 o_t3.at_ sm2 o_t3.ints.2.2.1).mono ?_)
  rintro e w5 ⟨A_w0, c_w0, rfl, o_w0, q_w0, b_w5⟩
  replace o_t1a := o_t1a.belowW b_w5
  replace o_t1b := o_t1b.belowW b_w5
  replace o_t2 := o_t2.belowW b_w5
  replace o_t3 := o_t3.belowW b_w5
  replace k_a0 := cell_carry b_w5 k_a0
  replace k_a1 := cell_carry b_w5 k_a1
  replace hT := hT.trans (b_w5.mono hT.size)
  have s_w5 := b_w5.size
  clear b_w5
  go_wp2_with fail
  (with_reducible refine (toMarket_any _ _ _ _ _ _ _ _ _ (h0a.below hT) sm0a HX0a.out (h0b.below hT) sm0b HX0b.out).mono ?_)
  rintro e w6 ⟨A_t4a, c_t4a, A_t4b, c_t4b, ma_t4, rfl, o_t4a, o_t4b, p_t4a, p_t4b, b_t4⟩
  replace o_t1a := o_t1a.belowW b_t4
  replace o_t1b := o_t1b.belowW b_t4
  replace o_t2 := o_t2.belowW b_t4
  replace o_t3 := o_t3.belowW b_t4
  replace o_w0 := o_w0.belowW b_t4
  replace k_a0 := cell_carry b_t4 k_a0
  replace k_a1 := cell_carry b_t4 k_a1
  replace hT := hT.trans (b_t4.mono hT.size)
  have s_w6 := b_t4.size
  clear b_t4
  have k_t4 := new_pair w6 (Value.slice A_t4a n0a c_t4a) (Value.slice A_t4b n0b c_t4b) 26 rfl
  have b_w7 : Below w6.heap.size w6 (w6.alloc (Obj.cells #[Value.slice A_t4a n0a c_t4a, Value.slice A_t4b n0b c_t4b] 26)) := (Below.refl _ _).alloc (Nat.le_refl _) _
  have z_w7 := World.size_alloc w6 (Obj.cells #[Value.slice A_t4a n0a c_t4a, Value.slice A_t4b n0b c_t4b] 26)
  replace k_a0 := old_cell k_a0 (Obj.cells #[Value.slice A_t4a n0a c_t4a, Value.slice A_t4b n0b c_t4b] 26)
  replace k_a1 := old_cell k_a1 (Obj.cells #[Value.slice A_t4a n0a c_t4a, Value.slice A_t4b n0b c_t4b] 26)
  go_wp2_with fail
  generalize w6.alloc (Obj.cells #[Value.slice A_t4a n0a c_t4a, Value.slice A_t4b n0b c_t4b] 26) = w7 at *
  obtain ⟨k_t40, k_t41⟩ := k_t4
  have y_w7 : w6.heap.size < w7.heap.size := by omega
  clear z_w7
  replace o_t1a := o_t1a.belowW b_w7
  replace o_t1b := o_t1b.belowW b_w7
  replace o_t2 := o_t2.belowW b_w7
  replace o_t3 := o_t3.belowW b_w7
  replace o_w0 := o_w0.belowW b_w7
  replace o_t4a := o_t4a.belowW b_w7
  replace o_t4b := o_t4b.belowW b_w7
  replace hT := hT.trans (b_w7.mono hT.size)
  have s_w7 := b_w7.size
  clear b_w7
  go_wp2_with fail
  (with_reducible refine (toIntS_any _ _ _ _ _ (h1.below hT) sm1).mono ?_)
  rintro e w8 ⟨A_t5, c_t5, rfl, o_t5, b_t5⟩
  replace o_t1a := o_t1a.belowW b_t5
  replace o_t1b := o_t1b.belowW b_t5
  replace o_t2 := o_t2.belowW b_t5
  replace o_t3 := o_t3.belowW b_t5
  replace o_w0 := o_w0.belowW b_t5
  replace o_t4a := o_t4a.belowW b_t5
  replace o_t4b := o_t4b.belowW b_t5
  replace k_a0 := cell_carry b_t5 k_a0
  replace k_a1 := cell_carry b_t5 k_a1
  replace k_t40 := cell_carry b_t5 k_t40
  replace k_t41 := cell_carry b_t5 k_t41
  replace hT := hT.trans (b_t5.mono hT.size)
  have s_w8 := b_t5.size
  clear b_t5
  go_wp2_with fail
  (with_reducible refine (toIntS_any _ _ _ _ _ (h2.below hT) sm2).mono ?_)
  rintro e w9 ⟨A_t6, c_t6, rfl, o_t6, b_t6⟩
  replace o_t1a := o_t1a.belowW b_t6
  replace o_t1b := o_t1b.belowW b_t6
  replace o_t2 := o_t2.belowW b_t6
  replace o_t3 := o_t3.belowW b_t6
  replace o_w0 := o_w0.belowW b_t6
  replace o_t4a := o_t4a.belowW b_t6
  replace o_t4b := o_t4b.belowW b_t6
  replace o_t5 := o_t5.belowW b_t6
  replace k_a0 := cell_carry b_t6 k_a0
  replace k_a1 := cell_carry b_t6 k_a1
  replace k_t40 := cell_carry b_t6 k_t40
  replace k_t41 := cell_carry b_t6 k_t41
  replace hT := hT.trans (b_t6.mono hT.size)
  have s_w9 := b_t6.size
  clear b_t6
  go_wp2_with fail
  (with_reducible refine (implWorseOf _ _ _ _ _ _ _ _ _ _ _ _ _ _ _ _ _ o_t4a.at_ sm0a HX0a.out o_t4b.at_ sm0b HX0b.out o_t5.at_ sm1 o_t5.ints.2.2.1 o_t6.at_ sm2 o_t6.ints.2.2.1).mono ?_)
  rintro e w10 ⟨A_g0, c_g0, rfl, o_g0, q_g0, b_w10⟩
  replace o_t1a := o_t1a.belowW b_w10
  replace o_t1b := o_t1b.belowW b_w10
  replace o_t2 := o_t2.belowW b_w10
  replace o_t3 := o_t3.belowW b_w10
  replace o_w0 := o_w0.belowW b_w10
  replace o_t4a := o_t4a.belowW b_w10
  replace o_t4b := o_t4b.belowW b_w10
  replace o_t5 := o_t5.belowW b_w10
  replace o_t6 := o_t6.belowW b_w10
  replace k_a0 := cell_carry b_w10 k_a0
  replace k_a1 := cell_carry b_w10 k_a1
  replace k_t40 := cell_carry b_w10 k_t40
  replace k_t41 := cell_carry b_w10 k_t41
  replace hT := hT.trans (b_w10.mono hT.size)
  have s_w10 := b_w10.size
  clear b_w10
  go_wp2_with fail
  (with_reducible refine (eqIntS_eq _ _ _ _ _ _ _ _ o_g0.at_ o_w0.at_ (Nat.le_trans q_g0 (by omega))).mono ?_)
  rintro e w11 ⟨rfl, md, hd_w11⟩
  have b_w11 : Below w10.heap.size w10 w11 := below_of_drewN hd_w11
  clear hd_w11
  replace o_t1a := o_t1a.belowW b_w11
  replace o_t1b := o_t1b.belowW b_w11
  replace o_t2 := o_t2.belowW b_w11
  replace o_t3 := o_t3.belowW b_w11
  replace o_w0 := o_w0.belowW b_w11
  replace o_t4a := o_t4a.belowW b_w11
  replace o_t4b := o_t4b.belowW b_w11
  replace o_t5 := o_t5.belowW b_w11
  replace o_t6 := o_t6.belowW b_w11
  replace o_g0 := o_g0.belowW b_w11
  replace k_a0 := cell_carry b_w11 k_a0
  replace k_a1 := cell_carry b_w11 k_a1
  replace k_t40 := cell_carry b_w11 k_t40
  replace k_t41 := cell_carry b_w11 k_t41
  replace hT := hT.trans (b_w11.mono hT.size)
  have s_w11 := b_w11.size
  clear b_w11
  go_wp2_with fail
  go_region_held3 (fun w' => w'.cell? ⟨w6.heap.size, 0, none⟩ = some (Value.slice A_t4a n0a c_t4a) ∧ w'.cell? ⟨w6.heap.size, 1, none⟩ = some (Value.slice A_t4b n0b c_t4b) ∧ w'.cell? ⟨w.heap.size, 0, none⟩ = some (Value.slice A0a n0a c0a) ∧ w'.cell? ⟨w.heap.size, 1, none⟩ = some (Value.slice A0b n0b c0b)) ((refine ⟨?_, ?_, ?_, ?_⟩ <;> (first | assumption | go_keep))) (first | (go_at_call 10; (with_reducible refine (toMarket_any _ _ _ _ _ _ _ _ _ (h0a.below hT.drew) sm0a HX0a.out (h0b.below hT.drew) sm0b HX0b.out).mono ?_); rintro e w12 ⟨A_t7a, c_t7a, A_t7b, c_t7b, ma_t7, rfl, o_t7a, o_t7b, p_t7a, p_t7b, b_t7⟩; replace b_t7 : Below w11.heap.size w11 w12 := ((Below.refl _ w11).drew).trans b_t7; replace o_t1a := o_t1a.belowW b_t7; replace o_t1b := o_t1b.belowW b_t7; replace o_t2 := o_t2.belowW b_t7; replace o_t3 := o_t3.belowW b_t7; replace o_w0 := o_w0.belowW b_t7; replace o_t4a := o_t4a.belowW b_t7; replace o_t4b := o_t4b.belowW b_t7; replace o_t5 := o_t5.belowW b_t7; replace o_t6 := o_t6.belowW b_t7; replace o_g0 := o_g0.belowW b_t7; replace k_a0 := cell_carry b_t7 k_a0; replace k_a1 := cell_carry b_t7 k_a1; replace k_t40 := cell_carry b_t7 k_t40; replace k_t41 := cell_carry b_t7 k_t41; replace hT := hT.trans (b_t7.mono hT.size); have s_w12 := b_t7.size; clear b_t7) | (go_at_call 12; (with_reducible refine (eqMarket_eq _ _ _ _ _ _ _ _ _ _ _ _ _ _ _ o_t4a.at_ o_t7a.at_ sm0a HX0a.out o_t4b.at_ o_t7b.at_ sm0b HX0b.out).mono ?_); rintro e w13 ⟨rfl, b_w13⟩; replace o_t1a := o_t1a.belowW b_w13; replace o_t1b := o_t1b.belowW b_w13; replace o_t2 := o_t2.belowW b_w13; replace o_t3 := o_t3.belowW b_w13; replace o_w0 := o_w0.belowW b_w13; replace o_t4a := o_t4a.belowW b_w13; replace o_t4b := o_t4b.belowW b_w13; replace o_t5 := o_t5.belowW b_w13; replace o_t6 := o_t6.belowW b_w13; replace o_g0 := o_g0.belowW b_w13; replace o_t7a := o_t7a.belowW b_w13; replace o_t7b := o_t7b.belowW b_w13; replace k_a0 := cell_carry b_w13 k_a0; replace k_a1 := cell_carry b_w13 k_a1; replace k_t40 := cell_carry b_w13 k_t40; replace k_t41 := cell_carry b_w13 k_t41; replace hT := hT.trans (b_w13.mono hT.size); have s_w13 := b_w13.size; clear b_w13))
  go_wp2_with fail
  (with_reducible refine (toIntS_any _ _ _ _ _ (h1.below hT) sm1).mono ?_)
  rintro e w14 ⟨A_t8, c_t8, rfl, o_t8, b_t8⟩
  replace o_t1a := o_t1a.belowW b_t8
  replace o_t1b := o_t1b.belowW b_t8
  replace o_t2 := o_t2.belowW b_t8
  replace o_t3 := o_t3.belowW b_t8
  replace o_w0 := o_w0.belowW b_t8
  replace o_t4a := o_t4a.belowW b_t8
  replace o_t4b := o_t4b.belowW b_t8
  replace o_t5 := o_t5.belowW b_t8
  replace o_t6 := o_t6.belowW b_t8
  replace o_g0 := o_g0.belowW b_t8
  replace k_a0 := cell_carry b_t8 k_a0
  replace k_a1 := cell_carry b_t8 k_a1
  replace k_t40 := cell_carry b_t8 k_t40
  replace k_t41 := cell_carry b_t8 k_t41
  replace hT := hT.trans (b_t8.mono hT.size)
  have s_w14 := b_t8.size
  clear b_t8
  go_wp2_with fail
  (with_reducible refine (eqIntS_eq _ _ _ _ _ _ _ _ o_t5.at_ o_t8.at_ (Nat.le_trans sm1 (by omega))).mono ?_)
  rintro e w15 ⟨rfl, md, hd_w15⟩
  have b_w15 : Below w14.heap.size w14 w15 := below_of_drewN hd_w15
  clear hd_w15
  replace o_t1a := o_t1a.belowW b_w15
  replace o_t1b := o_t1b.belowW b_w15
  replace o_t2 := o_t2.belowW b_w15
  replace o_t3 := o_t3.belowW b_w15
  replace o_w0 := o_w0.belowW b_w15
  replace o_t4a := o_t4a.belowW b_w15
  replace o_t4b := o_t4b.belowW b_w15
  replace o_t5 := o_t5.belowW b_w15
  replace o_t6 := o_t6.belowW b_w15
  replace o_g0 := o_g0.belowW b_w15
  replace o_t8 := o_t8.belowW b_w15
  replace k_a0 := cell_carry b_w15 k_a0
  replace k_a1 := cell_carry b_w15 k_a1
  replace k_t40 := cell_carry b_w15 k_t40
  replace k_t41 := cell_carry b_w15 k_t41
  replace hT := hT.trans (b_w15.mono hT.size)
  have s_w15 := b_w15.size
  clear b_w15
  go_wp2_with fail
  (with_reducible refine (toIntS_any _ _ _ _ _ (h2.below hT) sm2).mono ?_)
  rintro e w16 ⟨A_t9, c_t9, rfl, o_t9, b_t9⟩
  replace o_t1a := o_t1a.belowW b_t9
  replace o_t1b := o_t1b.belowW b_t9
  replace o_t2 := o_t2.belowW b_t9
  replace o_t3 := o_t3.belowW b_t9
  replace o_w0 := o_w0.belowW b_t9
  replace o_t4a := o_t4a.belowW b_t9
  replace o_t4b := o_t4b.belowW b_t9
  replace o_t5 := o_t5.belowW b_t9
  replace o_t6 := o_t6.belowW b_t9
  replace o_g0 := o_g0.belowW b_t9
  replace k_a0 := cell_carry b_t9 k_a0
  replace k_a1 := cell_carry b_t9 k_a1
  replace k_t40 := cell_carry b_t9 k_t40
  replace k_t41 := cell_carry b_t9 k_t41
  replace hT := hT.trans (b_t9.mono hT.size)
  have s_w16 := b_t9.size
  clear b_t9
  go_wp2_with fail
  (with_reducible refine (eqIntS_eq _ _ _ _ _ _ _ _ o_t6.at_ o_t9.at_ (Nat.le_trans sm2 (by omega))).mono ?_)
  rintro e w17 ⟨rfl, md, hd_w17⟩
  have b_w17 : Below w16.heap.size w16 w17 := below_of_drewN hd_w17
  clear hd_w17
  replace o_t1a := o_t1a.belowW b_w17
  replace o_t1b := o_t1b.belowW b_w17
  replace o_t2 := o_t2.belowW b_w17
  replace o_t3 := o_t3.belowW b_w17
  replace o_w0 := o_w0.belowW b_w17
  replace o_t4a := o_t4a.belowW b_w17
  replace o_t4b := o_t4b.belowW b_w17
  replace o_t5 := o_t5.belowW b_w17
  replace o_t6 := o_t6.belowW b_w17
  replace o_g0 := o_g0.belowW b_w17
  replace o_t9 := o_t9.belowW b_w17
  replace k_a0 := cell_carry b_w17 k_a0
  replace k_a1 := cell_carry b_w17 k_a1
  replace k_t40 := cell_carry b_w17 k_t40
  replace k_t41 := cell_carry b_w17 k_t41
  replace hT := hT.trans (b_w17.mono hT.size)
  have s_w17 := b_w17.size
  clear b_w17
  go_wp2_with fail
  (with_reducible refine (markMarket_any _ _ _ _ _ _ _ _ _ _ _ _ _ _ o_t4a sm0a HX0a.out o_t4b sm0b HX0b.out (by omega) (by omega) (by omega) (by omega) (by omega) (by omega)).mono ?_)
  rintro e w18 ⟨rfl, mo_t4a, mo_t4b, ho_w18, ge_w18, le_w18⟩
  replace o_t1a := o_t1a.only ho_w18 (by omega)
  replace o_t1b := o_t1b.only ho_w18 (by omega)
  replace o_t2 := o_t2.only ho_w18 (by omega)
  replace o_t3 := o_t3.only ho_w18 (by omega)
  replace o_w0 := o_w0.only ho_w18 (by omega)
  replace o_t5 := o_t5.only ho_w18 (by omega)
  replace o_t6 := o_t6.only ho_w18 (by omega)
  replace o_g0 := o_g0.only ho_w18 (by omega)
  replace k_a0 := ho_w18.cell k_a0 (by (try simp) <;> (try omega))
  replace k_a1 := ho_w18.cell k_a1 (by (try simp) <;> (try omega))
  replace k_t40 := ho_w18.cell k_t40 (by (try simp) <;> (try omega))
  replace k_t41 := ho_w18.cell k_t41 (by (try simp) <;> (try omega))
  replace hT := hT.trans (ho_w18.toBelow (by omega) hT.size)
  have s_w18 := ho_w18.size
  clear ho_w18
  clear o_t4a
  clear o_t4b
  go_wp2_with fail
  (with_reducible refine (markIntS_any _ _ _ _ _ _ _ _ o_t5 (Nat.le_trans sm1 (by omega)) (by omega) (by omega)).mono ?_)
  rintro e w19 ⟨rfl, mo_t5, ho_w19⟩
  replace o_t1a := o_t1a.only ho_w19 (by omega)
  replace o_t1b := o_t1b.only ho_w19 (by omega)
  replace o_t2 := o_t2.only ho_w19 (by omega)
  replace o_t3 := o_t3.only ho_w19 (by omega)
  replace o_w0 := o_w0.only ho_w19 (by omega)
  replace mo_t4a := mo_t4a.only ho_w19 (by omega)
  replace mo_t4b := mo_t4b.only ho_w19 (by omega)
  replace o_t6 := o_t6.only ho_w19 (by omega)
  replace o_g0 := o_g0.only ho_w19 (by omega)
  replace k_a0 := ho_w19.cell k_a0 (by (try simp) <;> (try omega))
  replace k_a1 := ho_w19.cell k_a1 (by (try simp) <;> (try omega))
  replace k_t40 := ho_w19.cell k_t40 (by (try simp) <;> (try omega))
  replace k_t41 := ho_w19.cell k_t41 (by (try simp) <;> (try omega))
  replace hT := hT.trans (ho_w19.toBelow (by omega) hT.size)
  have s_w19 := ho_w19.size
  clear ho_w19
  clear o_t5
  go_wp2_with fail
  (with_reducible refine (markIntS_any _ _ _ _ _ _ _ _ o_t6 (Nat.le_trans sm2 (by omega)) (by omega) (by omega)).mono ?_)
  rintro e w20 ⟨rfl, mo_t6, ho_w20⟩
  replace o_t1a := o_t1a.only ho_w20 (by omega)
  replace o_t1b := o_t1b.only ho_w20 (by omega)
  replace o_t2 := o_t2.only ho_w20 (by omega)
  replace o_t3 := o_t3.only ho_w20 (by omega)
  replace o_w0 := o_w0.only ho_w20 (by omega)
  replace mo_t4a := mo_t4a.only ho_w20 (by omega)
  replace mo_t4b := mo_t4b.only ho_w20 (by omega)
  replace mo_t5 := mo_t5.only ho_w20 (by omega)
  replace o_g0 := o_g0.only ho_w20 (by omega)
  replace k_a0 := ho_w20.cell k_a0 (by (try simp) <;> (try omega))
  replace k_a1 := ho_w20.cell k_a1 (by (try simp) <;> (try omega))
  replace k_t40 := ho_w20.cell k_t40 (by (try simp) <;> (try omega))
  replace k_t41 := ho_w20.cell k_t41 (by (try simp) <;> (try omega))
  replace hT := hT.trans (ho_w20.toBelow (by omega) hT.size)
  have s_w20 := ho_w20.size
  clear ho_w20
  clear o_t6
  go_wp2_with fail
  (with_reducible refine (eqIntS_eq _ _ _ _ _ _ _ _ o_g0.at_ o_w0.at_ (Nat.le_trans q_g0 (by omega))).mono ?_)
  rintro e w21 ⟨rfl, md, hd_w21⟩
  have b_w21 : Below w20.heap.size w20 w21 := below_of_drewN hd_w21
  clear hd_w21
  replace o_t1a := o_t1a.belowW b_w21
  replace o_t1b := o_t1b.belowW b_w21
  replace o_t2 := o_t2.belowW b_w21
  replace o_t3 := o_t3.belowW b_w21
  replace o_w0 := o_w0.belowW b_w21
  replace mo_t4a := mo_t4a.belowW b_w21
  replace mo_t4b := mo_t4b.belowW b_w21
  replace mo_t5 := mo_t5.belowW b_w21
  replace mo_t6 := mo_t6.belowW b_w21
  replace o_g0 := o_g0.belowW b_w21
  replace k_a0 := cell_carry b_w21 k_a0
  replace k_a1 := cell_carry b_w21 k_a1
  replace k_t40 := cell_carry b_w21 k_t40
  replace k_t41 := cell_carry b_w21 k_t41
  replace hT := hT.trans (b_w21.mono hT.size)
  have s_w21 := b_w21.size
  clear b_w21
  go_wp2_with fail
  (with_reducible refine (markIntS_any _ _ _ _ _ _ _ _ o_g0 (Nat.le_trans q_g0 (by omega)) (by omega) (by omega)).mono ?_)
  rintro e w22 ⟨rfl, mo_g0, ho_w22⟩
  replace o_t1a := o_t1a.only ho_w22 (by omega)
  replace o_t1b := o_t1b.only ho_w22 (by omega)
  replace o_t2 := o_t2.only ho_w22 (by omega)
  replace o_t3 := o_t3.only ho_w22 (by omega)
  replace o_w0 := o_w0.only ho_w22 (by omega)
  replace mo_t4a := mo_t4a.only ho_w22 (by omega)
  replace mo_t4b := mo_t4b.only ho_w22 (by omega)
  replace mo_t5 := mo_t5.only ho_w22 (by omega)
  replace mo_t6 := mo_t6.only ho_w22 (by omega)
  replace k_a0 := ho_w22.cell k_a0 (by (try simp) <;> (try omega))
  replace k_a1 := ho_w22.cell k_a1 (by (try simp) <;> (try omega))
  replace k_t40 := ho_w22.cell k_t40 (by (try simp) <;> (try omega))
  replace k_t41 := ho_w22.cell k_t41 (by (try simp) <;> (try omega))
  replace hT := hT.trans (ho_w22.toBelow (by omega) hT.size)
  have s_w22 := ho_w22.size
  clear ho_w22
  clear o_g0
  go_wp2_with fail
  (with_reducible refine (heldIntS_any _ _ _ _ _ mo_g0.at_ (Nat.le_trans q_g0 (by omega)) (by omega) (by omega)).mono ?_)
  rintro e wh ⟨rfl, rfl⟩
  go_wp2_with fail
  (with_reducible refine (toMarket_any _ _ _ _ _ _ _ _ _ (h0a.below hT) sm0a HX0a.out (h0b.below hT) sm0b HX0b.out).mono ?_)
  rintro e w23 ⟨A_t10a, c_t10a, A_t10b, c_t10b, ma_t10, rfl, o_t10a, o_t10b, p_t10a, p_t10b, b_t10⟩
  replace o_t1a := o_t1a.belowW b_t10
  replace o_t1b := o_t1b.belowW b_t10
  replace o_t2 := o_t2.belowW b_t10
  replace o_t3 := o_t3.belowW b_t10
  replace o_w0 := o_w0.belowW b_t10
  replace mo_t4a := mo_t4a.belowW b_t10
  replace mo_t4b := mo_t4b.belowW b_t10
  replace mo_t5 := mo_t5.belowW b_t10
  replace mo_t6 := mo_t6.belowW b_t10
  replace mo_g0 := mo_g0.belowW b_t10
  replace k_a0 := cell_carry b_t10 k_a0
  replace k_a1 := cell_carry b_t10 k_a1
  replace k_t40 := cell_carry b_t10 k_t40
  replace k_t41 := cell_carry b_t10 k_t41
  replace hT := hT.trans (b_t10.mono hT.size)
  have s_w23 := b_t10.size
  clear b_t10
  go_wp2_with fail
  (with_reducible refine (toIntS_any _ _ _ _ _ (h1.below hT) sm1).mono ?_)
  rintro e w24 ⟨A_t11, c_t11, rfl, o_t11, b_t11⟩
  replace o_t1a := o_t1a.belowW b_t11
  replace o_t1b := o_t1b.belowW b_t11
  replace o_t2 := o_t2.belowW b_t11
  replace o_t3 := o_t3.belowW b_t11
  replace o_w0 := o_w0.belowW b_t11
  replace mo_t4a := mo_t4a.belowW b_t11
  replace mo_t4b := mo_t4b.belowW b_t11
  replace mo_t5 := mo_t5.belowW b_t11
  replace mo_t6 := mo_t6.belowW b_t11
  replace mo_g0 := mo_g0.belowW b_t11
  replace o_t10a := o_t10a.belowW b_t11
  replace o_t10b := o_t10b.belowW b_t11
  replace k_a0 := cell_carry b_t11 k_a0
  replace k_a1 := cell_carry b_t11 k_a1
  replace k_t40 := cell_carry b_t11 k_t40
  replace k_t41 := cell_carry b_t11 k_t41
  replace hT := hT.trans (b_t11.mono hT.size)
  have s_w24 := b_t11.size
  clear b_t11
  go_wp2_with fail
  (with_reducible refine (toIntS_any _ _ _ _ _ (h2.below hT) sm2).mono ?_)
  rintro e w25 ⟨A_t12, c_t12, rfl, o_t12, b_t12⟩
  replace o_t1a := o_t1a.belowW b_t12
  replace o_t1b := o_t1b.belowW b_t12
  replace o_t2 := o_t2.belowW b_t12
  replace o_t3 := o_t3.belowW b_t12
  replace o_w0 := o_w0.belowW b_t12
  replace mo_t4a := mo_t4a.belowW b_t12
  replace mo_t4b := mo_t4b.belowW b_t12
  replace mo_t5 := mo_t5.belowW b_t12
  replace mo_t6 := mo_t6.belowW b_t12
  replace mo_g0 := mo_g0.belowW b_t12
  replace o_t10a := o_t10a.belowW b_t12
  replace o_t10b := o_t10b.belowW b_t12
  replace o_t11 := o_t11.belowW b_t12
  replace k_a0 := cell_carry b_t12 k_a0
  replace k_a1 := cell_carry b_t12 k_a1
  replace k_t40 := cell_carry b_t12 k_t40
  replace k_t41 := cell_carry b_t12 k_t41
  replace hT := hT.trans (b_t12.mono hT.size)
  have s_w25 := b_t12.size
  clear b_t12
  go_wp2_with fail
  (with_reducible refine (implWorseOf _ _ _ _ _ _ _ _ _ _ _ _ _ _ _ _ _ o_t10a.at_ sm0a HX0a.out o_t10b.at_ sm0b HX0b.out o_t11.at_ sm1 o_t11.ints.2.2.1 o_t12.at_ sm2 o_t12.ints.2.2.1).mono ?_)
  rintro e w26 ⟨A_h0, c_h0, rfl, o_h0, q_h0, b_w26⟩
  replace o_t1a := o_t1a.belowW b_w26
  replace o_t1b := o_t1b.belowW b_w26
  replace o_t2 := o_t2.belowW b_w26
  replace o_t3 := o_t3.belowW b_w26
  replace o_w0 := o_w0.belowW b_w26
  replace mo_t4a := mo_t4a.belowW b_w26
  replace mo_t4b := mo_t4b.belowW b_w26
  replace mo_t5 := mo_t5.belowW b_w26
  replace mo_t6 := mo_t6.belowW b_w26
  replace mo_g0 := mo_g0.belowW b_w26
  replace o_t10a := o_t10a.belowW b_w26
  replace o_t10b := o_t10b.belowW b_w26
  replace o_t11 := o_t11.belowW b_w26
  replace o_t12 := o_t12.belowW b_w26
  replace k_a0 := cell_carry b_w26 k_a0
  replace k_a1 := cell_carry b_w26 k_a1
  replace k_t40 := cell_carry b_w26 k_t40
  replace k_t41 := cell_carry b_w26 k_t41
  replace hT := hT.trans (b_w26.mono hT.size)
  have s_w26 := b_w26.size
  clear b_w26
  go_wp2_with fail
  (with_reducible refine (eqIntS_eq _ _ _ _ _ _ _ _ o_h0.at_ o_w0.at_ (Nat.le_trans q_h0 (by omega))).mono ?_)
  rintro e w27 ⟨rfl, md, hd_w27⟩
  have b_w27 : Below w26.heap.size w26 w27 := below_of_drewN hd_w27
  clear hd_w27
  replace o_t1a := o_t1a.belowW b_w27
  replace o_t1b := o_t1b.belowW b_w27
  replace o_t2 := o_t2.belowW b_w27
  replace o_t3 := o_t3.belowW b_w27
  replace o_w0 := o_w0.belowW b_w27
  replace mo_t4a := mo_t4a.belowW b_w27
  replace mo_t4b := mo_t4b.belowW b_w27
  replace mo_t5 := mo_t5.belowW b_w27
  replace mo_t6 := mo_t6.belowW b_w27
  replace mo_g0 := mo_g0.belowW b_w27
  replace o_t10a := o_t10a.belowW b_w27
  replace o_t10b := o_t10b.belowW b_w27
  replace o_t11 := o_t11.belowW b_w27
  replace o_t12 := o_t12.belowW b_w27
  replace o_h0 := o_h0.belowW b_w27
  replace k_a0 := cell_carry b_w27 k_a0
  replace k_a1 := cell_carry b_w27 k_a1
  replace k_t40 := cell_carry b_w27 k_t40
  replace k_t41 := cell_carry b_w27 k_t41
  replace hT := hT.trans (b_w27.mono hT.size)
  have s_w27 := b_w27.size
  clear b_w27
  go_wp2_with fail
  (with_reducible refine (heldIntS_any _ _ _ _ _ mo_g0.at_ (Nat.le_trans q_g0 (by omega)) (by omega) (by omega)).mono ?_)
  rintro e wh ⟨rfl, rfl⟩
  go_wp2_with fail
  go_ret
  exact ⟨rfl, hT⟩
end Go.Proofs.Ytbhkpingpipdpaa
namespace Go.Proofs.Ytbhkpingpipdpaa.fnExactWorseOf
open Go.ChangeShapes Go.WideShapes Go.ChangeAt Go.RowKit
open Go.ChangeMaps (open_string shut_string)
set_option linter.unusedVariables false

set_option maxRecDepth 100000 in
theorem lifted (os : Os) (started : os.Started) (H : Type) (enc : TypeId × Value → H) :
    ReturnsInHanded {} Try.checked os 5 .any (Rows.fnExactWorseOfSpec.pre6 enc Try.prog Try.f5 Rows.fnExactWorseOfRow.domain false) (Rows.fnExactWorseOfSpec.post enc Try.prog Try.f5 false true false false) := by
  refine returnsInHanded_of_change (C := Try.checked) own started (by kernel_rfl) Try.func5
    (ChangeSpec.witness6 (enc := enc) (C := Try.checked) false ⟨#[], #[.agg #[.slice none 0 0, .slice none 0 0], .slice none 0 0, .slice none 0 0], []⟩ 8 (by kernel_rfl) (by kernel_rfl) (by kernel_rfl) (by kernel_rfl)) ?_
  intro W base args ds gs before hval0 hW hcnd _
  have hval : ∀ (j : Nat) t v, Try.f5.params[j]? = some t → args[j]? = some v → Value.okWide Try.prog W .any base t v := hval0
  have hW' := hW
  obtain ⟨p, q, hA0, hV, rfl, hfz, hnd⟩ := hW
  have hA : DataW.TrodAll enc Try.prog W 0 (fun _ => true) true Try.f5.params.toList args.toList ds p := hA0
  rw [Try.params5] at hA hval
  obtain ⟨v0, vs0, d0, ds0, p0, q0, hargs, rfl, rfl, h0, r0⟩ := trodAll_cons hA
  obtain ⟨v1, vs1, d1, ds1, p1, q1, rfl, rfl, rfl, h1, r1⟩ := trodAll_cons r0
  obtain ⟨v2, vs2, d2, ds2, p2, q2, rfl, rfl, rfl, h2, r2⟩ := trodAll_cons r1
  obtain ⟨rfl, rfl, rfl⟩ := trodAll_nil r2
  obtain rfl : args = #[v0, v1, v2] := by cases args; simp_all
  obtain ⟨rfl, rfl⟩ := trodVars_none hV
  have k0 := h0
  have lt0 : ∀ x ∈ p0, x.block < W.heap.size := by obtain ⟨m, hm⟩ := k0; exact DataW.trod_lt m _ _ _ hm
  obtain ⟨am0, nm0, cm0, zm0, aw0, nw0, cw0, zw0, rfl, hm0, fm0, lm0, mm0, hw0, fw0, lw0, mw0⟩ := market_open (hval 0 24 v0 rfl rfl) h0
  have k1 := h1
  have lt1 : ∀ x ∈ p1, x.block < W.heap.size := by obtain ⟨m, hm⟩ := k1; exact DataW.trod_lt m _ _ _ hm
  obtain ⟨a1, len1, cap1, rfl⟩ := okWide_slice Try.underlying33 (hval 1 33 v1 rfl rfl)
  obtain ⟨z1, w1, f1, l1, m1⟩ := ints_open h1
  have k2 := h2
  have lt2 : ∀ x ∈ p2, x.block < W.heap.size := by obtain ⟨m, hm⟩ := k2; exact DataW.trod_lt m _ _ _ hm
  obtain ⟨a2, len2, cap2, rfl⟩ := okWide_slice Try.underlying33 (hval 2 33 v2 rfl rfl)
  obtain ⟨z2, w2, f2, l2, m2⟩ := ints_open h2
  clear hA0 hval0
  refine (law_FnExactWorseOf W am0 nm0 cm0 zm0 aw0 nw0 cw0 zw0 hm0 fm0 lm0 mm0 hw0 fw0 lw0 mw0 a1 len1 cap1 z1 w1 f1 l1 m1 a2 len2 cap2 z2 w2 f2 l2 m2).mono fun e W' ⟨he, bel⟩ => ?_
  subst he
  exact ⟨_, rfl, _, _, _, [], _, [], hW', trodAll_mk1 (shut_bool Try.underlying4 _), (trodAll_cons_mk (Below.trod laidOut (by kernel_rfl) (of_decide_eq_true (by kernel_rfl)) k0 bel lt0) (trodAll_cons_mk (Below.trod laidOut (by kernel_rfl) (of_decide_eq_true (by kernel_rfl)) k1 bel lt1) (trodAll_cons_mk (Below.trod laidOut (by kernel_rfl) (of_decide_eq_true (by kernel_rfl)) k2 bel lt2) trodAll_mk0))), rfl, bel.frame _, fun h => by cases h⟩

theorem over : Rows.fnExactWorseOfRow.holds Try.pinned (OpenSpec.ofChange Rows.fnExactWorseOfSpec) :=
  OpenClaim.holds_of_wide 5 Try.f5 rfl rfl rfl rfl rfl rfl rfl ⟨rfl, rfl, rfl, rfl, rfl⟩ rfl rfl rfl rfl rfl (by kernel_rfl) Try.func5 (by kernel_rfl)
    (of_decide_eq_true (by kernel_rfl)) (by unfold Func.isWrapper; first | (rw [if_pos (by decide +kernel)]; kernel_rfl) | (rw [if_neg (by decide +kernel)]; exact ⟨rfl, rfl⟩))
    (fun os started H enc _ => lifted os started H enc)

theorem proved : Rows.FnExactWorseOfSaid := over
end Go.Proofs.Ytbhkpingpipdpaa.fnExactWorseOf
