/- The exact law on BlockingPairs: for every input the call returns true, and each argument reads as before. No condition. -/
import Derived.Test.YtgehbpeeljifnaaOpen
import Derived.Test.YtgehbpeeljifnaaBlockP
import Derived.Test.YtgehbpeeljifnaaLawMarket
namespace Go.Proofs.Ytgehbpeeljifnaa
open Go.RowKit

set_option maxHeartbeats 1000000 in
theorem law_FnExactBlockingPairs (w : World) (A0a : Option Addr) (n0a c0a : Nat) (z0a : List (List Int)) (A0b : Option Addr) (n0b c0b : Nat) (z0b : List (List Int)) (h0a : RowsAt w A0a n0a z0a) (f0a : ∀ xs ∈ z0a, xs.length ≤ 9223372036854775807 ∧ ∀ x ∈ xs, (Lit.int .i64 x).wf = true) (l0a : n0a ≤ c0a) (m0a : c0a ≤ maxLen) (h0b : RowsAt w A0b n0b z0b) (f0b : ∀ xs ∈ z0b, xs.length ≤ 9223372036854775807 ∧ ∀ x ∈ xs, (Lit.int .i64 x).wf = true) (l0b : n0b ≤ c0b) (m0b : c0b ≤ maxLen) (A1 : Option Addr) (n1 c1 : Nat) (z1 : List Int) (h1 : IntsAt w A1 n1 z1) (f1 : ∀ x ∈ z1, (Lit.int .i64 x).wf = true) (l1 : n1 ≤ c1) (m1 : c1 ≤ maxLen) :
    Calls Try.prog 10 #[.agg #[.slice A0a n0a c0a, .slice A0b n0b c0b], .slice A1 n1 c1] w fun e w' => e = .returned (.bool true) ∧ Below w.heap.size w w' := by
  unfold maxLen at m0a
  have HF0a := Lib.hid f0a; clear f0a
  unfold maxLen at m0b
  have HF0b := Lib.hid f0b; clear f0b
  unfold maxLen at m1
  have HF1 := Lib.hid f1; clear f1
  by_cases big1 : 1048576 < n1
  · go_enter Try.func10, Try.ntmps10
    go_wp2_with fail
    go_ret
    exact ⟨rfl, (Below.refl _ _).alloc (Nat.le_refl _) _⟩
  have sm1 : n1 ≤ 1048576 := by omega
  clear big1
  go_enter Try.func10, Try.ntmps10
  have hT : Below w.heap.size w (w.alloc (Obj.cells #[Value.slice A0a n0a c0a, Value.slice A0b n0b c0b] 29)) := (Below.refl _ _).alloc (Nat.le_refl _) _
  have hN := World.size_alloc w (Obj.cells #[Value.slice A0a n0a c0a, Value.slice A0b n0b c0b] 29)
  have k_a := new_pair w (Value.slice A0a n0a c0a) (Value.slice A0b n0b c0b) 29 rfl
  go_wp2_with fail
  generalize (w.alloc (Obj.cells #[Value.slice A0a n0a c0a, Value.slice A0b n0b c0b] 29)) = w0 at *
  obtain ⟨k_a0, k_a1⟩ := k_a
  have s_w0 : w.heap.size < w0.heap.size := by omega
  clear hN
  go_wp2_with fail
  (with_reducible refine (szMarket_any _ _ _ _ _ _ _ _ _ _ (h0a.below hT) (by omega) (fun xs hx => (HF0a.out xs hx).1) (h0b.below hT) (by omega) (fun xs hx => (HF0b.out xs hx).1) (by omega) (by omega)).mono ?_)
  rintro e w1 ⟨r0, rfl, hr0, hq0, b_w1⟩
  replace k_a0 := cell_carry b_w1 k_a0
  replace k_a1 := cell_carry b_w1 k_a1
  replace hT := hT.trans (b_w1.mono hT.size)
  have s_w1 := b_w1.size
  clear b_w1
  by_cases hneg0 : r0 < 0
  · go_wp2_with fail
    go_ret
    exact ⟨rfl, hT⟩
  have hnn0 : 0 ≤ r0 := by omega
  obtain ⟨hs0, sm0a, hx0a, sm0b, hx0b⟩ := hr0 hnn0
  have HX0a := Lib.hid hx0a; clear hx0a
  have HX0b := Lib.hid hx0b; clear hx0b
  clear hr0 hneg0
  go_wp2_with fail
  (with_reducible refine (toMarket_any _ _ _ _ _ _ _ _ _ (h0a.below hT) sm0a HX0a.out (h0b.below hT) sm0b HX0b.out).mono ?_)
  rintro e w2 ⟨A_t1a, c_t1a, A_t1b, c_t1b, ma_t1, rfl, o_t1a, o_t1b, p_t1a, p_t1b, b_t1⟩
  replace k_a0 := cell_carry b_t1 k_a0
  replace k_a1 := cell_carry b_t1 k_a1
  replace hT := hT.trans (b_t1.mono hT.size)
  have s_w2 := b_t1.size
  clear b_t1
  go_wp2_with fail
  (with_reducible refine (toIntS_any _ _ _ _ _ (h1.below hT) sm1).mono ?_)
  rintro e w3 ⟨A_t2, c_t2, rfl, o_t2, b_t2⟩
  replace o_t1a := o_t1a.belowW b_t2
  replace o_t1b := o_t1b.belowW b_t2
  replace k_a0 := cell_carry b_t2 k_a0
  replace k_a1 := cell_carry b_t2 k_a1
  replace hT := hT.trans (b_t2.mono hT.size)
  have s_w3 := b_t2.size
  clear b_t2
  go_wp2_with fail
  (with_reducible refine (specBlockingPairs _ _ _ _ _ _ _ _ _ _ _ _ _ o_t1a.at_ sm0a HX0a.out o_t1b.at_ sm0b HX0b.out o_t2.at_ sm1 o_t2.ints.2.2.1).mono ?_)
  rintro e w4 ⟨A_w0, c_w0, rfl, o_w0, q_w0, r_w0, b_w4⟩
  replace o_t1a := o_t1a.belowW b_w4
  replace o_t1b := o_t1b.belowW b_w4
  replace o_t2 := o_t2.belowW b_w4
  replace k_a0 := cell_carry b_w4 k_a0
  replace k_a1 := cell_carry b_w4 k_a1
  replace hT := hT.trans (b_w4.mono hT.size)
  have s_w4 := b_w4.size
  clear b_w4
  have R_w0 := Lib.hid r_w0; clear r_w0
  go_wp2_with fail
  (with_reducible refine (toMarket_any _ _ _ _ _ _ _ _ _ (h0a.below hT) sm0a HX0a.out (h0b.below hT) sm0b HX0b.out).mono ?_)
  rintro e w5 ⟨A_t3a, c_t3a, A_t3b, c_t3b, ma_t3, rfl, o_t3a, o_t3b, p_t3a, p_t3b, b_t3⟩
  replace o_t1a := o_t1a.belowW b_t3
  replace o_t1b := o_t1b.belowW b_t3
  replace o_t2 := o_t2.belowW b_t3
  replace o_w0 := o_w0.belowW b_t3
  replace k_a0 := cell_carry b_t3 k_a0
  replace k_a1 := cell_carry b_t3 k_a1
  replace hT := hT.trans (b_t3.mono hT.size)
  have s_w5 := b_t3.size
  clear b_t3
  have k_t3 := new_pair w5 (Value.slice A_t3a n0a c_t3a) (Value.slice A_t3b n0b c_t3b) 32 rfl
  have b_w6 : Below w5.heap.size w5 (w5.alloc (Obj.cells #[Value.slice A_t3a n0a c_t3a, Value.slice A_t3b n0b c_t3b] 32)) := (Below.refl _ _).alloc (Nat.le_refl _) _
  have z_w6 := World.size_alloc w5 (Obj.cells #[Value.slice A_t3a n0a c_t3a, Value.slice A_t3b n0b c_t3b] 32)
  replace k_a0 := old_cell k_a0 (Obj.cells #[Value.slice A_t3a n0a c_t3a, Value.slice A_t3b n0b c_t3b] 32)
  replace k_a1 := old_cell k_a1 (Obj.cells #[Value.slice A_t3a n0a c_t3a, Value.slice A_t3b n0b c_t3b] 32)
  go_wp2_with fail
  generalize w5.alloc (Obj.cells #[Value.slice A_t3a n0a c_t3a, Value.slice A_t3b n0b c_t3b] 32) = w6 at *
  obtain ⟨k_t30, k_t31⟩ := k_t3
  have y_w6 : w5.heap.size < w6.heap.size := by omega
  clear z_w6
  replace o_t1a := o_t1a.belowW b_w6
  replace o_t1b := o_t1b.belowW b_w6
  replace o_t2 := o_t2.belowW b_w6
  replace o_w0 := o_w0.belowW b_w6
  replace o_t3a := o_t3a.belowW b_w6
  replace o_t3b := o_t3b.belowW b_w6
  replace hT := hT.trans (b_w6.mono hT.size)
  have s_w6 := b_w6.size
  clear b_w6
  go_wp2_with fail
  (with_reducible refine (toIntS_any _ _ _ _ _ (h1.below hT) sm1).mono ?_)
  rintro e w7 ⟨A_t4, c_t4, rfl, o_t4, b_t4⟩
  replace o_t1a := o_t1a.belowW b_t4
  replace o_t1b := o_t1b.belowW b_t4
  replace o_t2 := o_t2.belowW b_t4
  replace o_w0 := o_w0.belowW b_t4
  replace o_t3a := o_t3a.belowW b_t4
  replace o_t3b := o_t3b.belowW b_t4
  replace k_a0 := cell_carry b_t4 k_a0
  replace k_a1 := cell_carry b_t4 k_a1
  replace k_t30 := cell_carry b_t4 k_t30
  replace k_t31 := cell_carry b_t4 k_t31
  replace hT := hT.trans (b_t4.mono hT.size)
  have s_w7 := b_t4.size
  clear b_t4
  go_wp2_with fail
  (with_reducible refine (implBlockingPairs _ _ _ _ _ _ _ _ _ _ _ _ _ o_t3a.at_ sm0a HX0a.out o_t3b.at_ sm0b HX0b.out o_t4.at_ sm1 o_t4.ints.2.2.1).mono ?_)
  rintro e w8 ⟨A_g0, c_g0, rfl, o_g0, q_g0, r_g0, b_w8⟩
  replace o_t1a := o_t1a.belowW b_w8
  replace o_t1b := o_t1b.belowW b_w8
  replace o_t2 := o_t2.belowW b_w8
  replace o_w0 := o_w0.belowW b_w8
  replace o_t3a := o_t3a.belowW b_w8
  replace o_t3b := o_t3b.belowW b_w8
  replace o_t4 := o_t4.belowW b_w8
  replace k_a0 := cell_carry b_w8 k_a0
  replace k_a1 := cell_carry b_w8 k_a1
  replace k_t30 := cell_carry b_w8 k_t30
  replace k_t31 := cell_carry b_w8 k_t31
  replace hT := hT.trans (b_w8.mono hT.size)
  have s_w8 := b_w8.size
  clear b_w8
  have R_g0 := Lib.hid r_g0; clear r_g0
  go_wp2_with fail
  (with_reducible refine (eqIntSS_eq _ _ _ _ _ _ _ _ o_g0.at_ o_w0.at_ q_g0 R_g0.out).mono ?_)
  rintro e w9 ⟨rfl, md, hd_w9⟩
  have b_w9 : Below w8.heap.size w8 w9 := below_of_drewN hd_w9
  clear hd_w9
  replace o_t1a := o_t1a.belowW b_w9
  replace o_t1b := o_t1b.belowW b_w9
  replace o_t2 := o_t2.belowW b_w9
  replace o_w0 := o_w0.belowW b_w9
  replace o_t3a := o_t3a.belowW b_w9
  replace o_t3b := o_t3b.belowW b_w9
  replace o_t4 := o_t4.belowW b_w9
  replace o_g0 := o_g0.belowW b_w9
  replace k_a0 := cell_carry b_w9 k_a0
  replace k_a1 := cell_carry b_w9 k_a1
  replace k_t30 := cell_carry b_w9 k_t30
  replace k_t31 := cell_carry b_w9 k_t31
  replace hT := hT.trans (b_w9.mono hT.size)
  have s_w9 := b_w9.size
  clear b_w9
  go_wp2_with fail
  go_region_held3 (fun w' => w'.cell? ⟨w5.heap.size, 0, none⟩ = some (Value.slice A_t3a n0a c_t3a) ∧ w'.cell? ⟨w5.heap.size, 1, none⟩ = some (Value.slice A_t3b n0b c_t3b) ∧ w'.cell? ⟨w.heap.size, 0, none⟩ = some (Value.slice A0a n0a c0a) ∧ w'.cell? ⟨w.heap.size, 1, none⟩ = some (Value.slice A0b n0b c0b)) ((refine ⟨?_, ?_, ?_, ?_⟩ <;> (first | assumption | go_keep))) (first | (go_at_call 20; (with_reducible refine (toMarket_any _ _ _ _ _ _ _ _ _ (h0a.below hT.drew) sm0a HX0a.out (h0b.below hT.drew) sm0b HX0b.out).mono ?_); rintro e w10 ⟨A_t5a, c_t5a, A_t5b, c_t5b, ma_t5, rfl, o_t5a, o_t5b, p_t5a, p_t5b, b_t5⟩; replace b_t5 : Below w9.heap.size w9 w10 := ((Below.refl _ w9).drew).trans b_t5; replace o_t1a := o_t1a.belowW b_t5; replace o_t1b := o_t1b.belowW b_t5; replace o_t2 := o_t2.belowW b_t5; replace o_w0 := o_w0.belowW b_t5; replace o_t3a := o_t3a.belowW b_t5; replace o_t3b := o_t3b.belowW b_t5; replace o_t4 := o_t4.belowW b_t5; replace o_g0 := o_g0.belowW b_t5; replace k_a0 := cell_carry b_t5 k_a0; replace k_a1 := cell_carry b_t5 k_a1; replace k_t30 := cell_carry b_t5 k_t30; replace k_t31 := cell_carry b_t5 k_t31; replace hT := hT.trans (b_t5.mono hT.size); have s_w10 := b_t5.size; clear b_t5) | (go_at_call 22; (with_reducible refine (eqMarket_eq _ _ _ _ _ _ _ _ _ _ _ _ _ _ _ o_t3a.at_ o_t5a.at_ sm0a HX0a.out o_t3b.at_ o_t5b.at_ sm0b HX0b.out).mono ?_); rintro e w11 ⟨rfl, b_w11⟩; replace o_t1a := o_t1a.belowW b_w11; replace o_t1b := o_t1b.belowW b_w11; replace o_t2 := o_t2.belowW b_w11; replace o_w0 := o_w0.belowW b_w11; replace o_t3a := o_t3a.belowW b_w11; replace o_t3b := o_t3b.belowW b_w11; replace o_t4 := o_t4.belowW b_w11; replace o_g0 := o_g0.belowW b_w11; replace o_t5a := o_t5a.belowW b_w11; replace o_t5b := o_t5b.belowW b_w11; replace k_a0 := cell_carry b_w11 k_a0; replace k_a1 := cell_carry b_w11 k_a1; replace k_t30 := cell_carry b_w11 k_t30; replace k_t31 := cell_carry b_w11 k_t31; replace hT := hT.trans (b_w11.mono hT.size); have s_w11 := b_w11.size; clear b_w11))
  go_wp2_with fail
  (with_reducible refine (toIntS_any _ _ _ _ _ (h1.below hT) sm1).mono ?_)
  rintro e w12 ⟨A_t6, c_t6, rfl, o_t6, b_t6⟩
  replace o_t1a := o_t1a.belowW b_t6
  replace o_t1b := o_t1b.belowW b_t6
  replace o_t2 := o_t2.belowW b_t6
  replace o_w0 := o_w0.belowW b_t6
  replace o_t3a := o_t3a.belowW b_t6
  replace o_t3b := o_t3b.belowW b_t6
  replace o_t4 := o_t4.belowW b_t6
  replace o_g0 := o_g0.belowW b_t6
  replace k_a0 := cell_carry b_t6 k_a0
  replace k_a1 := cell_carry b_t6 k_a1
  replace k_t30 := cell_carry b_t6 k_t30
  replace k_t31 := cell_carry b_t6 k_t31
  replace hT := hT.trans (b_t6.mono hT.size)
  have s_w12 := b_t6.size
  clear b_t6
  go_wp2_with fail
  (with_reducible refine (eqIntS_eq _ _ _ _ _ _ _ _ o_t4.at_ o_t6.at_ (Nat.le_trans sm1 (by omega))).mono ?_)
  rintro e w13 ⟨rfl, md, hd_w13⟩
  have b_w13 : Below w12.heap.size w12 w13 := below_of_drewN hd_w13
  clear hd_w13
  replace o_t1a := o_t1a.belowW b_w13
  replace o_t1b := o_t1b.belowW b_w13
  replace o_t2 := o_t2.belowW b_w13
  replace o_w0 := o_w0.belowW b_w13
  replace o_t3a := o_t3a.belowW b_w13
  replace o_t3b := o_t3b.belowW b_w13
  replace o_t4 := o_t4.belowW b_w13
  replace o_g0 := o_g0.belowW b_w13
  replace o_t6 := o_t6.belowW b_w13
  replace k_a0 := cell_carry b_w13 k_a0
  replace k_a1 := cell_carry b_w13 k_a1
  replace k_t30 := cell_carry b_w13 k_t30
  replace k_t31 := cell_carry b_w13 k_t31
  replace hT := hT.trans (b_w13.mono hT.size)
  have s_w13 := b_w13.size
  clear b_w13
  go_wp2_with fail
  (with_reducible refine (markMarket_any _ _ _ _ _ _ _ _ _ _ _ _ _ _ o_t3a sm0a HX0a.out o_t3b sm0b HX0b.out (by omega) (by omega) (by omega) (by omega) (by omega) (by omega)).mono ?_)
  rintro e w14 ⟨rfl, mo_t3a, mo_t3b, ho_w14, ge_w14, le_w14⟩
  replace o_t1a := o_t1a.only ho_w14 (by omega)
  replace o_t1b := o_t1b.only ho_w14 (by omega)
  replace o_t2 := o_t2.only ho_w14 (by omega)
  replace o_w0 := o_w0.only ho_w14 (by omega)
  replace o_t4 := o_t4.only ho_w14 (by omega)
  replace o_g0 := o_g0.only ho_w14 (by omega)
  replace k_a0 := ho_w14.cell k_a0 (by (try simp) <;> (try omega))
  replace k_a1 := ho_w14.cell k_a1 (by (try simp) <;> (try omega))
  replace k_t30 := ho_w14.cell k_t30 (by (try simp) <;> (try omega))
  replace k_t31 := ho_w14.cell k_t31 (by (try simp) <;> (try omega))
  replace hT := hT.trans (ho_w14.toBelow (by omega) hT.size)
  have s_w14 := ho_w14.size
  clear ho_w14
  clear o_t3a
  clear o_t3b
  go_wp2_with fail
  (with_reducible refine (markIntS_any _ _ _ _ _ _ _ _ o_t4 (Nat.le_trans sm1 (by omega)) (by omega) (by omega)).mono ?_)
  rintro e w15 ⟨rfl, mo_t4, ho_w15⟩
  replace o_t1a := o_t1a.only ho_w15 (by omega)
  replace o_t1b := o_t1b.only ho_w15 (by omega)
  replace o_t2 := o_t2.only ho_w15 (by omega)
  replace o_w0 := o_w0.only ho_w15 (by omega)
  replace mo_t3a := mo_t3a.only ho_w15 (by omega)
  replace mo_t3b := mo_t3b.only ho_w15 (by omega)
  replace o_g0 := o_g0.only ho_w15 (by omega)
  replace k_a0 := ho_w15.cell k_a0 (by (try simp) <;> (try omega))
  replace k_a1 := ho_w15.cell k_a1 (by (try simp) <;> (try omega))
  replace k_t30 := ho_w15.cell k_t30 (by (try simp) <;> (try omega))
  replace k_t31 := ho_w15.cell k_t31 (by (try simp) <;> (try omega))
  replace hT := hT.trans (ho_w15.toBelow (by omega) hT.size)
  have s_w15 := ho_w15.size
  clear ho_w15
  clear o_t4
  go_wp2_with fail
  (with_reducible refine (eqIntSS_eq _ _ _ _ _ _ _ _ o_g0.at_ o_w0.at_ q_g0 R_g0.out).mono ?_)
  rintro e w16 ⟨rfl, md, hd_w16⟩
  have b_w16 : Below w15.heap.size w15 w16 := below_of_drewN hd_w16
  clear hd_w16
  replace o_t1a := o_t1a.belowW b_w16
  replace o_t1b := o_t1b.belowW b_w16
  replace o_t2 := o_t2.belowW b_w16
  replace o_w0 := o_w0.belowW b_w16
  replace mo_t3a := mo_t3a.belowW b_w16
  replace mo_t3b := mo_t3b.belowW b_w16
  replace mo_t4 := mo_t4.belowW b_w16
  replace o_g0 := o_g0.belowW b_w16
  replace k_a0 := cell_carry b_w16 k_a0
  replace k_a1 := cell_carry b_w16 k_a1
  replace k_t30 := cell_carry b_w16 k_t30
  replace k_t31 := cell_carry b_w16 k_t31
  replace hT := hT.trans (b_w16.mono hT.size)
  have s_w16 := b_w16.size
  clear b_w16
  go_wp2_with fail
  (with_reducible refine (markIntSS_any _ _ _ _ _ _ _ _ o_g0 q_g0 R_g0.out (by omega) (by omega)).mono ?_)
  rintro e w17 ⟨rfl, mo_g0, ho_w17, ge_w17, le_w17⟩
  replace o_t1a := o_t1a.only ho_w17 (by omega)
  replace o_t1b := o_t1b.only ho_w17 (by omega)
  replace o_t2 := o_t2.only ho_w17 (by omega)
  replace o_w0 := o_w0.only ho_w17 (by omega)
  replace mo_t3a := mo_t3a.only ho_w17 (by omega)
  replace mo_t3b := mo_t3b.only ho_w17 (by omega)
  replace mo_t4 := mo_t4.only ho_w17 (by omega)
  replace k_a0 := ho_w17.cell k_a0 (by (try simp) <;> (try omega))
  replace k_a1 := ho_w17.cell k_a1 (by (try simp) <;> (try omega))
  replace k_t30 := ho_w17.cell k_t30 (by (try simp) <;> (try omega))
  replace k_t31 := ho_w17.cell k_t31 (by (try simp) <;> (try omega))
  replace hT := hT.trans (ho_w17.toBelow (by omega) hT.size)
  have s_w17 := ho_w17.size
  clear ho_w17
  clear o_g0
  go_wp2_with fail
  (with_reducible refine (heldIntSS_any _ _ _ _ _ _ mo_g0.at_ q_g0 R_g0.out (by omega) (by omega)).mono ?_)
  rintro e wh ⟨rfl, rfl⟩
  go_wp2_with fail
  (with_reducible refine (toMarket_any _ _ _ _ _ _ _ _ _ (h0a.below hT) sm0a HX0a.out (h0b.below hT) sm0b HX0b.out).mono ?_)
  rintro e w18 ⟨A_t7a, c_t7a, A_t7b, c_t7b, ma_t7, rfl, o_t7a, o_t7b, p_t7a, p_t7b, b_t7⟩
  replace o_t1a := o_t1a.belowW b_t7
  replace o_t1b := o_t1b.belowW b_t7
  replace o_t2 := o_t2.belowW b_t7
  replace o_w0 := o_w0.belowW b_t7
  replace mo_t3a := mo_t3a.belowW b_t7
  replace mo_t3b := mo_t3b.belowW b_t7
  replace mo_t4 := mo_t4.belowW b_t7
  replace mo_g0 := mo_g0.belowW b_t7
  replace k_a0 := cell_carry b_t7 k_a0
  replace k_a1 := cell_carry b_t7 k_a1
  replace k_t30 := cell_carry b_t7 k_t30
  replace k_t31 := cell_carry b_t7 k_t31
  replace hT := hT.trans (b_t7.mono hT.size)
  have s_w18 := b_t7.size
  clear b_t7
  go_wp2_with fail
  (with_reducible refine (toIntS_any _ _ _ _ _ (h1.below hT) sm1).mono ?_)
  rintro e w19 ⟨A_t8, c_t8, rfl, o_t8, b_t8⟩
  replace o_t1a := o_t1a.belowW b_t8
  replace o_t1b := o_t1b.belowW b_t8
  replace o_t2 := o_t2.belowW b_t8
  replace o_w0 := o_w0.belowW b_t8
  replace mo_t3a := mo_t3a.belowW b_t8
  replace mo_t3b := mo_t3b.belowW b_t8
  replace mo_t4 := mo_t4.belowW b_t8
  replace mo_g0 := mo_g0.belowW b_t8
  replace o_t7a := o_t7a.belowW b_t8
  replace o_t7b := o_t7b.belowW b_t8
  replace k_a0 := cell_carry b_t8 k_a0
  replace k_a1 := cell_carry b_t8 k_a1
  replace k_t30 := cell_carry b_t8 k_t30
  replace k_t31 := cell_carry b_t8 k_t31
  replace hT := hT.trans (b_t8.mono hT.size)
  have s_w19 := b_t8.size
  clear b_t8
  go_wp2_with fail
  (with_reducible refine (implBlockingPairs _ _ _ _ _ _ _ _ _ _ _ _ _ o_t7a.at_ sm0a HX0a.out o_t7b.at_ sm0b HX0b.out o_t8.at_ sm1 o_t8.ints.2.2.1).mono ?_)
  rintro e w20 ⟨A_h0, c_h0, rfl, o_h0, q_h0, r_h0, b_w20⟩
  replace o_t1a := o_t1a.belowW b_w20
  replace o_t1b := o_t1b.belowW b_w20
  replace o_t2 := o_t2.belowW b_w20
  replace o_w0 := o_w0.belowW b_w20
  replace mo_t3a := mo_t3a.belowW b_w20
  replace mo_t3b := mo_t3b.belowW b_w20
  replace mo_t4 := mo_t4.belowW b_w20
  replace mo_g0 := mo_g0.belowW b_w20
  replace o_t7a := o_t7a.belowW b_w20
  replace o_t7b := o_t7b.belowW b_w20
  replace o_t8 := o_t8.belowW b_w20
  replace k_a0 := cell_carry b_w20 k_a0
  replace k_a1 := cell_carry b_w20 k_a1
  replace k_t30 := cell_carry b_w20 k_t30
  replace k_t31 := cell_carry b_w20 k_t31
  replace hT := hT.trans (b_w20.mono hT.size)
  have s_w20 := b_w20.size
  clear b_w20
  have R_h0 := Lib.hid r_h0; clear r_h0
  go_wp2_with fail
  (with_reducible refine (eqIntSS_eq _ _ _ _ _ _ _ _ o_h0.at_ o_w0.at_ q_h0 R_h0.out).mono ?_)
  rintro e w21 ⟨rfl, md, hd_w21⟩
  have b_w21 : Below w20.heap.size w20 w21 := below_of_drewN hd_w21
  clear hd_w21
  replace o_t1a := o_t1a.belowW b_w21
  replace o_t1b := o_t1b.belowW b_w21
  replace o_t2 := o_t2.belowW b_w21
  replace o_w0 := o_w0.belowW b_w21
  replace mo_t3a := mo_t3a.belowW b_w21
  replace mo_t3b := mo_t3b.belowW b_w21
  replace mo_t4 := mo_t4.belowW b_w21
  replace mo_g0 := mo_g0.belowW b_w21
  replace o_t7a := o_t7a.belowW b_w21
  replace o_t7b := o_t7b.belowW b_w21
  replace o_t8 := o_t8.belowW b_w21
  replace o_h0 := o_h0.belowW b_w21
  replace k_a0 := cell_carry b_w21 k_a0
  replace k_a1 := cell_carry b_w21 k_a1
  replace k_t30 := cell_carry b_w21 k_t30
  replace k_t31 := cell_carry b_w21 k_t31
  replace hT := hT.trans (b_w21.mono hT.size)
  have s_w21 := b_w21.size
  clear b_w21
  go_wp2_with fail
  (with_reducible refine (heldIntSS_any _ _ _ _ _ _ mo_g0.at_ q_g0 R_g0.out (by omega) (by omega)).mono ?_)
  rintro e wh ⟨rfl, rfl⟩
  go_wp2_with fail
  go_ret
  exact ⟨rfl, hT⟩
end Go.Proofs.Ytgehbpeeljifnaa
namespace Go.Proofs.Ytgehbpeeljifnaa.fnExactBlockingPairs
open Go.ChangeShapes Go.WideShapes Go.ChangeAt Go.RowKit
open Go.ChangeMaps (open_string shut_string)
set_option linter.unusedVariables false

set_option maxRecDepth 100000 in
theorem lifted (os : Os) (started : os.Started) (H : Type) (enc : TypeId × Value → H) :
    ReturnsInHanded {} Try.checked os 10 .any (Rows.fnExactBlockingPairsSpec.pre6 enc Try.prog Try.f10 Rows.fnExactBlockingPairsRow.domain false) (Rows.fnExactBlockingPairsSpec.post enc Try.prog Try.f10 false true false false) := by
  refine returnsInHanded_of_change (C := Try.checked) own started (by kernel_rfl) Try.func10
    (ChangeSpec.witness6 (enc := enc) (C := Try.checked) false ⟨#[], #[.agg #[.slice none 0 0, .slice none 0 0], .slice none 0 0], []⟩ 8 (by kernel_rfl) (by kernel_rfl) (by kernel_rfl) (by kernel_rfl)) ?_
  intro W base args ds gs before hval0 hW hcnd _
  have hval : ∀ (j : Nat) t v, Try.f10.params[j]? = some t → args[j]? = some v → Value.okWide Try.prog W .any base t v := hval0
  have hW' := hW
  obtain ⟨p, q, hA0, hV, rfl, hfz, hnd⟩ := hW
  have hA : DataW.TrodAll enc Try.prog W 0 (fun _ => true) true Try.f10.params.toList args.toList ds p := hA0
  rw [Try.params10] at hA hval
  obtain ⟨v0, vs0, d0, ds0, p0, q0, hargs, rfl, rfl, h0, r0⟩ := trodAll_cons hA
  obtain ⟨v1, vs1, d1, ds1, p1, q1, rfl, rfl, rfl, h1, r1⟩ := trodAll_cons r0
  obtain ⟨rfl, rfl, rfl⟩ := trodAll_nil r1
  obtain rfl : args = #[v0, v1] := by cases args; simp_all
  obtain ⟨rfl, rfl⟩ := trodVars_none hV
  have k0 := h0
  have lt0 : ∀ x ∈ p0, x.block < W.heap.size := by obtain ⟨m, hm⟩ := k0; exact DataW.trod_lt m _ _ _ hm
  obtain ⟨am0, nm0, cm0, zm0, aw0, nw0, cw0, zw0, rfl, hm0, fm0, lm0, mm0, hw0, fw0, lw0, mw0⟩ := market_open (hval 0 29 v0 rfl rfl) h0
  have k1 := h1
  have lt1 : ∀ x ∈ p1, x.block < W.heap.size := by obtain ⟨m, hm⟩ := k1; exact DataW.trod_lt m _ _ _ hm
  obtain ⟨a1, len1, cap1, rfl⟩ := okWide_slice Try.underlying22 (hval 1 22 v1 rfl rfl)
  obtain ⟨z1, w1, f1, l1, m1⟩ := ints_open h1
  clear hA0 hval0
  refine (law_FnExactBlockingPairs W am0 nm0 cm0 zm0 aw0 nw0 cw0 zw0 hm0 fm0 lm0 mm0 hw0 fw0 lw0 mw0 a1 len1 cap1 z1 w1 f1 l1 m1).mono fun e W' ⟨he, bel⟩ => ?_
  subst he
  exact ⟨_, rfl, _, _, _, [], _, [], hW', trodAll_mk1 (shut_bool Try.underlying4 _), (trodAll_cons_mk (Below.trod laidOut (by kernel_rfl) (of_decide_eq_true (by kernel_rfl)) k0 bel lt0) (trodAll_cons_mk (Below.trod laidOut (by kernel_rfl) (of_decide_eq_true (by kernel_rfl)) k1 bel lt1) trodAll_mk0)), rfl, bel.frame _, fun h => by cases h⟩

theorem over : Rows.fnExactBlockingPairsRow.holds Try.pinned (OpenSpec.ofChange Rows.fnExactBlockingPairsSpec) :=
  OpenClaim.holds_of_wide 10 Try.f10 rfl rfl rfl rfl rfl rfl rfl ⟨rfl, rfl, rfl, rfl, rfl⟩ rfl rfl rfl rfl rfl (by kernel_rfl) Try.func10 (by kernel_rfl)
    (of_decide_eq_true (by kernel_rfl)) (by unfold Func.isWrapper; first | (rw [if_pos (by decide +kernel)]; kernel_rfl) | (rw [if_neg (by decide +kernel)]; exact ⟨rfl, rfl⟩))
    (fun os started H enc _ => lifted os started H enc)

theorem proved : Rows.FnExactBlockingPairsSaid := over
end Go.Proofs.Ytgehbpeeljifnaa.fnExactBlockingPairs
