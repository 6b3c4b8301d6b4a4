/- The exact law on PlayReplies: for every input the call returns true, and each argument reads as before. No condition. -/
import Derived.Test.YtcjnjnegaoihoaaGreatW01
import Derived.Test.YtcjnjnegaoihoaaGreatW32
import Derived.Test.YtcjnjnegaoihoaaGreatW33
namespace Go.Proofs.YtcjnjnegaoihoaaGreat
set_option linter.unusedSimpArgs false
set_option linter.unusedVariables false
open Go.RowKit

set_option maxHeartbeats 1000000 in
theorem law_FnExactPlayReplies (w : World) (a0 : Int) (wf0 : (Lit.int .i64 a0).wf = true) (u1 : Int) (A1 : Option Addr) (n1 c1 : Nat) (z1 : List Vt) (wf1 : (Lit.int .i64 u1).wf = true) (h1 : VotesAt w A1 n1 z1) (f1 : ∀ x ∈ z1, x.r.length ≤ 9223372036854775807 ∧ (∀ u ∈ x.r, (Lit.int .i64 u).wf = true) ∧ (Lit.int .i64 x.c).wf = true) (l1 : n1 ≤ c1) (m1 : c1 ≤ maxLen) (a2 : Int) (wf2 : (Lit.int .i64 a2).wf = true) :
    Calls Tryz.prog 4 #[.int .i64 a0, .agg #[.int .i64 u1, .slice A1 n1 c1], .int .i64 a2] w fun e w' => e = .returned (.bool true) ∧ Below w.heap.size w w' := by
  unfold maxLen at m1
  have HF1 := Lib.hid f1; clear f1
  go_enter Tryz.func4, Tryz.ntmps4
  have hT : Below w.heap.size w (w.alloc (Obj.cells #[Value.int IntKind.i64 u1, Value.slice A1 n1 c1] 24)) := (Below.refl _ _).alloc (Nat.le_refl _) _
  have hN := World.size_alloc w (Obj.cells #[Value.int IntKind.i64 u1, Value.slice A1 n1 c1] 24)
  have k_a := new_pair w (Value.int IntKind.i64 u1) (Value.slice A1 n1 c1) 24 rfl
  go_wp2_with fail
  generalize (w.alloc (Obj.cells #[Value.int IntKind.i64 u1, Value.slice A1 n1 c1] 24)) = w0 at *
  obtain ⟨k_a0, k_a1⟩ := k_a
  have s_w0 : w.heap.size < w0.heap.size := by omega
  clear hN
  go_wp2_with fail
  (with_reducible refine (szProfile_any _ _ _ _ _ _ _ (h1.below hT) (by omega) (fun xs hx => (HF1.out xs hx).1) (by omega) (by omega)).mono ?_)
  rintro e w1 ⟨r1, rfl, hr1, hq1, b_w1⟩
  replace k_a0 := cell_carry b_w1 k_a0
  replace k_a1 := cell_carry b_w1 k_a1
  replace hT := hT.trans (b_w1.mono hT.size)
  have s_w1 := b_w1.size
  clear b_w1
  by_cases hneg1 : r1 < 0
  · go_wp2_with fail
    go_ret
    exact ⟨rfl, hT⟩
  have hnn1 : 0 ≤ r1 := by omega
  obtain ⟨hs1, sm1, hx1⟩ := hr1 hnn1
  have HX1 := Lib.hid hx1; clear hx1
  clear hr1 hneg1
  go_wp2_with fail
  (with_reducible refine (toProfile_any _ _ _ _ _ _ (h1.below hT) sm1 HX1.out).mono ?_)
  rintro e w2 ⟨A_t1, c_t1, rfl, o_t1, b_t1⟩
  replace k_a0 := cell_carry b_t1 k_a0
  replace k_a1 := cell_carry b_t1 k_a1
  replace hT := hT.trans (b_t1.mono hT.size)
  have s_w2 := b_t1.size
  clear b_t1
  go_wp2_with fail
  (with_reducible refine (specPlayC _ _ _ _ _ _ _ _ o_t1.at_ sm1 HX1.out).mono ?_)
  rintro e w3 ⟨A_w0, c_w0, rfl, o_w0, q_w0, r_w0, b_w3⟩
  replace o_t1 := o_t1.belowW b_w3
  replace k_a0 := cell_carry b_w3 k_a0
  replace k_a1 := cell_carry b_w3 k_a1
  replace hT := hT.trans (b_w3.mono hT.size)
  have s_w3 := b_w3.size
  clear b_w3
  have R_w0 := Lib.hid r_w0; clear r_w0
  have k_w0 := new_pair w3 (Value.int IntKind.i64 (playM a0 u1 z1 a2)) (Value.slice A_w0 (playV a0 u1 z1 a2).length c_w0) 31 rfl
  have b_w4 : Below w3.heap.size w3 (w3.alloc (Obj.cells #[Value.int IntKind.i64 (playM a0 u1 z1 a2), Value.slice A_w0 (playV a0 u1 z1 a2).length c_w0] 31)) := (Below.refl _ _).alloc (Nat.le_refl _) _
  have z_w4 := World.size_alloc w3 (Obj.cells #[Value.int IntKind.i64 (playM a0 u1 z1 a2), Value.slice A_w0 (playV a0 u1 z1 a2).length c_w0] 31)
  replace k_a0 := old_cell k_a0 (Obj.cells #[Value.int IntKind.i64 (playM a0 u1 z1 a2), Value.slice A_w0 (playV a0 u1 z1 a2).length c_w0] 31)
  replace k_a1 := old_cell k_a1 (Obj.cells #[Value.int IntKind.i64 (playM a0 u1 z1 a2), Value.slice A_w0 (playV a0 u1 z1 a2).length c_w0] 31)
  go_wp2_with fail
  generalize w3.alloc (Obj.cells #[Value.int IntKind.i64 (playM a0 u1 z1 a2), Value.slice A_w0 (playV a0 u1 z1 a2).length c_w0] 31) = w4 at *
  obtain ⟨k_w00, k_w01⟩ := k_w0
  have y_w4 : w3.heap.size < w4.heap.size := by omega
  clear z_w4
  replace o_t1 := o_t1.belowW b_w4
  replace o_w0 := o_w0.belowW b_w4
  replace hT := hT.trans (b_w4.mono hT.size)
  have s_w4 := b_w4.size
  clear b_w4
  go_wp2_with fail
  (with_reducible refine (toProfile_any _ _ _ _ _ _ (h1.below hT) sm1 HX1.out).mono ?_)
  rintro e w5 ⟨A_t2, c_t2, rfl, o_t2, b_t2⟩
  replace o_t1 := o_t1.belowW b_t2
  replace o_w0 := o_w0.belowW b_t2
  replace k_a0 := cell_carry b_t2 k_a0
  replace k_a1 := cell_carry b_t2 k_a1
  replace k_w00 := cell_carry b_t2 k_w00
  replace k_w01 := cell_carry b_t2 k_w01
  replace hT := hT.trans (b_t2.mono hT.size)
  have s_w5 := b_t2.size
  clear b_t2
  have k_t2 := new_pair w5 (Value.int IntKind.i64 u1) (Value.slice A_t2 n1 c_t2) 31 rfl
  have b_w6 : Below w5.heap.size w5 (w5.alloc (Obj.cells #[Value.int IntKind.i64 u1, Value.slice A_t2 n1 c_t2] 31)) := (Below.refl _ _).alloc (Nat.le_refl _) _
  have z_w6 := World.size_alloc w5 (Obj.cells #[Value.int IntKind.i64 u1, Value.slice A_t2 n1 c_t2] 31)
  replace k_a0 := old_cell k_a0 (Obj.cells #[Value.int IntKind.i64 u1, Value.slice A_t2 n1 c_t2] 31)
  replace k_a1 := old_cell k_a1 (Obj.cells #[Value.int IntKind.i64 u1, Value.slice A_t2 n1 c_t2] 31)
  replace k_w00 := old_cell k_w00 (Obj.cells #[Value.int IntKind.i64 u1, Value.slice A_t2 n1 c_t2] 31)
  replace k_w01 := old_cell k_w01 (Obj.cells #[Value.int IntKind.i64 u1, Value.slice A_t2 n1 c_t2] 31)
  go_wp2_with fail
  generalize w5.alloc (Obj.cells #[Value.int IntKind.i64 u1, Value.slice A_t2 n1 c_t2] 31) = w6 at *
  obtain ⟨k_t20, k_t21⟩ := k_t2
  have y_w6 : w5.heap.size < w6.heap.size := by omega
  clear z_w6
  replace o_t1 := o_t1.belowW b_w6
  replace o_w0 := o_w0.belowW b_w6
  replace o_t2 := o_t2.belowW b_w6
  replace hT := hT.trans (b_w6.mono hT.size)
  have s_w6 := b_w6.size
  clear b_w6
  go_wp2_with fail
  (with_reducible refine (implPlayC _ _ _ _ _ _ _ _ o_t2.at_ sm1 HX1.out).mono ?_)
  rintro e w7 ⟨A_g0, c_g0, rfl, o_g0, q_g0, r_g0, b_w7⟩
  replace o_t1 := o_t1.belowW b_w7
  replace o_w0 := o_w0.belowW b_w7
  replace o_t2 := o_t2.belowW b_w7
  replace k_a0 := cell_carry b_w7 k_a0
  replace k_a1 := cell_carry b_w7 k_a1
  replace k_w00 := cell_carry b_w7 k_w00
  replace k_w01 := cell_carry b_w7 k_w01
  replace k_t20 := cell_carry b_w7 k_t20
  replace k_t21 := cell_carry b_w7 k_t21
  replace hT := hT.trans (b_w7.mono hT.size)
  have s_w7 := b_w7.size
  clear b_w7
  have R_g0 := Lib.hid r_g0; clear r_g0
  have k_g0 := new_pair w7 (Value.int IntKind.i64 (playM a0 u1 z1 a2)) (Value.slice A_g0 (playV a0 u1 z1 a2).length c_g0) 31 rfl
  have b_w8 : Below w7.heap.size w7 (w7.alloc (Obj.cells #[Value.int IntKind.i64 (playM a0 u1 z1 a2), Value.slice A_g0 (playV a0 u1 z1 a2).length c_g0] 31)) := (Below.refl _ _).alloc (Nat.le_refl _) _
  have z_w8 := World.size_alloc w7 (Obj.cells #[Value.int IntKind.i64 (playM a0 u1 z1 a2), Value.slice A_g0 (playV a0 u1 z1 a2).length c_g0] 31)
  replace k_a0 := old_cell k_a0 (Obj.cells #[Value.int IntKind.i64 (playM a0 u1 z1 a2), Value.slice A_g0 (playV a0 u1 z1 a2).length c_g0] 31)
  replace k_a1 := old_cell k_a1 (Obj.cells #[Value.int IntKind.i64 (playM a0 u1 z1 a2), Value.slice A_g0 (playV a0 u1 z1 a2).length c_g0] 31)
  replace k_w00 := old_cell k_w00 (Obj.cells #[Value.int IntKind.i64 (playM a0 u1 z1 a2), Value.slice A_g0 (playV a0 u1 z1 a2).length c_g0] 31)
  replace k_w01 := old_cell k_w01 (Obj.cells #[Value.int IntKind.i64 (playM a0 u1 z1 a2), Value.slice A_g0 (playV a0 u1 z1 a2).length c_g0] 31)
  replace k_t20 := old_cell k_t20 (Obj.cells #[Value.int IntKind.i64 (playM a0 u1 z1 a2), Value.slice A_g0 (playV a0 u1 z1 a2).length c_g0] 31)
  replace k_t21 := old_cell k_t21 (Obj.cells #[Value.int IntKind.i64 (playM a0 u1 z1 a2), Value.slice A_g0 (playV a0 u1 z1 a2).length c_g0] 31)
  go_wp2_with fail
  generalize w7.alloc (Obj.cells #[Value.int IntKind.i64 (playM a0 u1 z1 a2), Value.slice A_g0 (playV a0 u1 z1 a2).length c_g0] 31) = w8 at *
  obtain ⟨k_g00, k_g01⟩ := k_g0
  have y_w8 : w7.heap.size < w8.heap.size := by omega
  clear z_w8
  replace o_t1 := o_t1.belowW b_w8
  replace o_w0 := o_w0.belowW b_w8
  replace o_t2 := o_t2.belowW b_w8
  replace o_g0 := o_g0.belowW b_w8
  replace hT := hT.trans (b_w8.mono hT.size)
  have s_w8 := b_w8.size
  clear b_w8
  go_wp2_with fail
  (with_reducible refine (eqProfile_eq _ _ _ _ _ _ _ _ _ o_g0.at_ o_w0.at_ q_g0 R_g0.out).mono ?_)
  rintro e w9 ⟨rfl, b_w9⟩
  replace o_t1 := o_t1.belowW b_w9
  replace o_w0 := o_w0.belowW b_w9
  replace o_t2 := o_t2.belowW b_w9
  replace o_g0 := o_g0.belowW b_w9
  replace k_a0 := cell_carry b_w9 k_a0
  replace k_a1 := cell_carry b_w9 k_a1
  replace k_w00 := cell_carry b_w9 k_w00
  replace k_w01 := cell_carry b_w9 k_w01
  replace k_t20 := cell_carry b_w9 k_t20
  replace k_t21 := cell_carry b_w9 k_t21
  replace k_g00 := cell_carry b_w9 k_g00
  replace k_g01 := cell_carry b_w9 k_g01
  replace hT := hT.trans (b_w9.mono hT.size)
  have s_w9 := b_w9.size
  clear b_w9
  go_wp2_with fail
  go_region_held3 (fun w' => w'.cell? ⟨w5.heap.size, 0, none⟩ = some (Value.int IntKind.i64 u1) ∧ w'.cell? ⟨w5.heap.size, 1, none⟩ = some (Value.slice A_t2 n1 c_t2) ∧ w'.cell? ⟨w.heap.size, 0, none⟩ = some (Value.int IntKind.i64 u1) ∧ w'.cell? ⟨w.heap.size, 1, none⟩ = some (Value.slice A1 n1 c1)) ((refine ⟨?_, ?_, ?_, ?_⟩ <;> (first | assumption | go_keep))) (first | (go_at_call 7; (with_reducible refine (toProfile_any _ _ _ _ _ _ (h1.below hT.drew) sm1 HX1.out).mono ?_); rintro e w10 ⟨A_t3, c_t3, rfl, o_t3, b_t3⟩; replace b_t3 : Below w9.heap.size w9 w10 := ((Below.refl _ w9).drew).trans b_t3; replace o_t1 := o_t1.belowW b_t3; replace o_w0 := o_w0.belowW b_t3; replace o_t2 := o_t2.belowW b_t3; replace o_g0 := o_g0.belowW b_t3; replace k_a0 := cell_carry b_t3 k_a0; replace k_a1 := cell_carry b_t3 k_a1; replace k_w00 := cell_carry b_t3 k_w00; replace k_w01 := cell_carry b_t3 k_w01; replace k_t20 := cell_carry b_t3 k_t20; replace k_t21 := cell_carry b_t3 k_t21; replace k_g00 := cell_carry b_t3 k_g00; replace k_g01 := cell_carry b_t3 k_g01; replace hT := hT.trans (b_t3.mono hT.size); have s_w10 := b_t3.size; clear b_t3) | (go_at_call 10; (with_reducible refine (eqProfile_eq _ _ _ _ _ _ _ _ _ o_t2.at_ o_t3.at_ sm1 HX1.out).mono ?_); rintro e w11 ⟨rfl, b_w11⟩; replace o_t1 := o_t1.belowW b_w11; replace o_w0 := o_w0.belowW b_w11; replace o_t2 := o_t2.belowW b_w11; replace o_g0 := o_g0.belowW b_w11; replace o_t3 := o_t3.belowW b_w11; replace k_a0 := cell_carry b_w11 k_a0; replace k_a1 := cell_carry b_w11 k_a1; replace k_w00 := cell_carry b_w11 k_w00; replace k_w01 := cell_carry b_w11 k_w01; replace k_t20 := cell_carry b_w11 k_t20; replace k_t21 := cell_carry b_w11 k_t21; replace k_g00 := cell_carry b_w11 k_g00; replace k_g01 := cell_carry b_w11 k_g01; replace hT := hT.trans (b_w11.mono hT.size); have s_w11 := b_w11.size; clear b_w11))
  go_wp2_with fail
  (with_reducible refine (markProfile_any _ _ _ _ _ _ _ _ _ o_t2 sm1 HX1.out (by omega) (by omega) (by omega) (by omega)).mono ?_)
  rintro e w12 ⟨rfl, mo_t2, ho_w12, ge_w12, le_w12⟩
  replace o_t1 := o_t1.only ho_w12 (by omega)
  replace o_w0 := o_w0.only ho_w12 (by omega)
  replace o_g0 := o_g0.only ho_w12 (by omega)
  replace k_a0 := ho_w12.cell k_a0 (by (try simp) <;> (try omega))
  replace k_a1 := ho_w12.cell k_a1 (by (try simp) <;> (try omega))
  replace k_w00 := ho_w12.cell k_w00 (by (try simp) <;> (try omega))
  replace k_w01 := ho_w12.cell k_w01 (by (try simp) <;> (try omega))
  replace k_t20 := ho_w12.cell k_t20 (by (try simp) <;> (try omega))
  replace k_t21 := ho_w12.cell k_t21 (by (try simp) <;> (try omega))
  replace k_g00 := ho_w12.cell k_g00 (by (try simp) <;> (try omega))
  replace k_g01 := ho_w12.cell k_g01 (by (try simp) <;> (try omega))
  replace hT := hT.trans (ho_w12.toBelow (by omega) hT.size)
  have s_w12 := ho_w12.size
  clear ho_w12
  clear o_t2
  go_wp2_with fail
  (with_reducible refine (eqProfile_eq _ _ _ _ _ _ _ _ _ o_g0.at_ o_w0.at_ q_g0 R_g0.out).mono ?_)
  rintro e w13 ⟨rfl, b_w13⟩
  replace o_t1 := o_t1.belowW b_w13
  replace o_w0 := o_w0.belowW b_w13
  replace mo_t2 := mo_t2.belowW b_w13
  replace o_g0 := o_g0.belowW b_w13
  replace k_a0 := cell_carry b_w13 k_a0
  replace k_a1 := cell_carry b_w13 k_a1
  replace k_w00 := cell_carry b_w13 k_w00
  replace k_w01 := cell_carry b_w13 k_w01
  replace k_t20 := cell_carry b_w13 k_t20
  replace k_t21 := cell_carry b_w13 k_t21
  replace k_g00 := cell_carry b_w13 k_g00
  replace k_g01 := cell_carry b_w13 k_g01
  replace hT := hT.trans (b_w13.mono hT.size)
  have s_w13 := b_w13.size
  clear b_w13
  go_wp2_with fail
  (with_reducible refine (markProfile_any _ _ _ _ _ _ _ _ _ o_g0 q_g0 R_g0.out (by omega) (by omega) (by omega) (by omega)).mono ?_)
  rintro e w14 ⟨rfl, mo_g0, ho_w14, ge_w14, le_w14⟩
  replace o_t1 := o_t1.only ho_w14 (by omega)
  replace o_w0 := o_w0.only ho_w14 (by omega)
  replace mo_t2 := mo_t2.only ho_w14 (by omega)
  replace k_a0 := ho_w14.cell k_a0 (by (try simp) <;> (try omega))
  replace k_a1 := ho_w14.cell k_a1 (by (try simp) <;> (try omega))
  replace k_w00 := ho_w14.cell k_w00 (by (try simp) <;> (try omega))
  replace k_w01 := ho_w14.cell k_w01 (by (try simp) <;> (try omega))
  replace k_t20 := ho_w14.cell k_t20 (by (try simp) <;> (try omega))
  replace k_t21 := ho_w14.cell k_t21 (by (try simp) <;> (try omega))
  replace k_g00 := ho_w14.cell k_g00 (by (try simp) <;> (try omega))
  replace k_g01 := ho_w14.cell k_g01 (by (try simp) <;> (try omega))
  replace hT := hT.trans (ho_w14.toBelow (by omega) hT.size)
  have s_w14 := ho_w14.size
  clear ho_w14
  clear o_g0
  go_wp2_with fail
  (with_reducible refine (heldProfile_any _ _ _ _ _ _ _ mo_g0.at_ q_g0 R_g0.out (by omega) (by omega)).mono ?_)
  rintro e w15 ⟨rfl, b_w15⟩
  replace o_t1 := o_t1.belowW b_w15
  replace o_w0 := o_w0.belowW b_w15
  replace mo_t2 := mo_t2.belowW b_w15
  replace mo_g0 := mo_g0.belowW b_w15
  replace k_a0 := cell_carry b_w15 k_a0
  replace k_a1 := cell_carry b_w15 k_a1
  replace k_w00 := cell_carry b_w15 k_w00
  replace k_w01 := cell_carry b_w15 k_w01
  replace k_t20 := cell_carry b_w15 k_t20
  replace k_t21 := cell_carry b_w15 k_t21
  replace k_g00 := cell_carry b_w15 k_g00
  replace k_g01 := cell_carry b_w15 k_g01
  replace hT := hT.trans (b_w15.mono hT.size)
  have s_w15 := b_w15.size
  clear b_w15
  go_wp2_with fail
  (with_reducible refine (toProfile_any _ _ _ _ _ _ (h1.below hT) sm1 HX1.out).mono ?_)
  rintro e w16 ⟨A_t4, c_t4, rfl, o_t4, b_t4⟩
  replace o_t1 := o_t1.belowW b_t4
  replace o_w0 := o_w0.belowW b_t4
  replace mo_t2 := mo_t2.belowW b_t4
  replace mo_g0 := mo_g0.belowW b_t4
  replace k_a0 := cell_carry b_t4 k_a0
  replace k_a1 := cell_carry b_t4 k_a1
  replace k_w00 := cell_carry b_t4 k_w00
  replace k_w01 := cell_carry b_t4 k_w01
  replace k_t20 := cell_carry b_t4 k_t20
  replace k_t21 := cell_carry b_t4 k_t21
  replace k_g00 := cell_carry b_t4 k_g00
  replace k_g01 := cell_carry b_t4 k_g01
  replace hT := hT.trans (b_t4.mono hT.size)
  have s_w16 := b_t4.size
  clear b_t4
  go_wp2_with fail
  (with_reducible refine (implPlayC _ _ _ _ _ _ _ _ o_t4.at_ sm1 HX1.out).mono ?_)
  rintro e w17 ⟨A_h0, c_h0, rfl, o_h0, q_h0, r_h0, b_w17⟩
  replace o_t1 := o_t1.belowW b_w17
  replace o_w0 := o_w0.belowW b_w17
  replace mo_t2 := mo_t2.belowW b_w17
  replace mo_g0 := mo_g0.belowW b_w17
  replace o_t4 := o_t4.belowW b_w17
  replace k_a0 := cell_carry b_w17 k_a0
  replace k_a1 := cell_carry b_w17 k_a1
  replace k_w00 := cell_carry b_w17 k_w00
  replace k_w01 := cell_carry b_w17 k_w01
  replace k_t20 := cell_carry b_w17 k_t20
  replace k_t21 := cell_carry b_w17 k_t21
  replace k_g00 := cell_carry b_w17 k_g00
  replace k_g01 := cell_carry b_w17 k_g01
  replace hT := hT.trans (b_w17.mono hT.size)
  have s_w17 := b_w17.size
  clear b_w17
  have R_h0 := Lib.hid r_h0; clear r_h0
  have k_h0 := new_pair w17 (Value.int IntKind.i64 (playM a0 u1 z1 a2)) (Value.slice A_h0 (playV a0 u1 z1 a2).length c_h0) 31 rfl
  have b_w18 : Below w17.heap.size w17 (w17.alloc (Obj.cells #[Value.int IntKind.i64 (playM a0 u1 z1 a2), Value.slice A_h0 (playV a0 u1 z1 a2).length c_h0] 31)) := (Below.refl _ _).alloc (Nat.le_refl _) _
  have z_w18 := World.size_alloc w17 (Obj.cells #[Value.int IntKind.i64 (playM a0 u1 z1 a2), Value.slice A_h0 (playV a0 u1 z1 a2).length c_h0] 31)
  replace k_a0 := old_cell k_a0 (Obj.cells #[Value.int IntKind.i64 (playM a0 u1 z1 a2), Value.slice A_h0 (playV a0 u1 z1 a2).length c_h0] 31)
  replace k_a1 := old_cell k_a1 (Obj.cells #[Value.int IntKind.i64 (playM a0 u1 z1 a2), Value.slice A_h0 (playV a0 u1 z1 a2).length c_h0] 31)
  replace k_w00 := old_cell k_w00 (Obj.cells #[Value.int IntKind.i64 (playM a0 u1 z1 a2), Value.slice A_h0 (playV a0 u1 z1 a2).length c_h0] 31)
  replace k_w01 := old_cell k_w01 (Obj.cells #[Value.int IntKind.i64 (playM a0 u1 z1 a2), Value.slice A_h0 (playV a0 u1 z1 a2).length c_h0] 31)
  replace k_t20 := old_cell k_t20 (Obj.cells #[Value.int IntKind.i64 (playM a0 u1 z1 a2), Value.slice A_h0 (playV a0 u1 z1 a2).length c_h0] 31)
  replace k_t21 := old_cell k_t21 (Obj.cells #[Value.int IntKind.i64 (playM a0 u1 z1 a2), Value.slice A_h0 (playV a0 u1 z1 a2).length c_h0] 31)
  replace k_g00 := old_cell k_g00 (Obj.cells #[Value.int IntKind.i64 (playM a0 u1 z1 a2), Value.slice A_h0 (playV a0 u1 z1 a2).length c_h0] 31)
  replace k_g01 := old_cell k_g01 (Obj.cells #[Value.int IntKind.i64 (playM a0 u1 z1 a2), Value.slice A_h0 (playV a0 u1 z1 a2).length c_h0] 31)
  go_wp2_with fail
  generalize w17.alloc (Obj.cells #[Value.int IntKind.i64 (playM a0 u1 z1 a2), Value.slice A_h0 (playV a0 u1 z1 a2).length c_h0] 31) = w18 at *
  obtain ⟨k_h00, k_h01⟩ := k_h0
  have y_w18 : w17.heap.size < w18.heap.size := by omega
  clear z_w18
  replace o_t1 := o_t1.belowW b_w18
  replace o_w0 := o_w0.belowW b_w18
  replace mo_t2 := mo_t2.belowW b_w18
  replace mo_g0 := mo_g0.belowW b_w18
  replace o_t4 := o_t4.belowW b_w18
  replace o_h0 := o_h0.belowW b_w18
  replace hT := hT.trans (b_w18.mono hT.size)
  have s_w18 := b_w18.size
  clear b_w18
  go_wp2_with fail
  (with_reducible refine (eqProfile_eq _ _ _ _ _ _ _ _ _ o_h0.at_ o_w0.at_ q_h0 R_h0.out).mono ?_)
  rintro e w19 ⟨rfl, b_w19⟩
  replace o_t1 := o_t1.belowW b_w19
  replace o_w0 := o_w0.belowW b_w19
  replace mo_t2 := mo_t2.belowW b_w19
  replace mo_g0 := mo_g0.belowW b_w19
  replace o_t4 := o_t4.belowW b_w19
  replace o_h0 := o_h0.belowW b_w19
  replace k_a0 := cell_carry b_w19 k_a0
  replace k_a1 := cell_carry b_w19 k_a1
  replace k_w00 := cell_carry b_w19 k_w00
  replace k_w01 := cell_carry b_w19 k_w01
  replace k_t20 := cell_carry b_w19 k_t20
  replace k_t21 := cell_carry b_w19 k_t21
  replace k_g00 := cell_carry b_w19 k_g00
  replace k_g01 := cell_carry b_w19 k_g01
  replace k_h00 := cell_carry b_w19 k_h00
  replace k_h01 := cell_carry b_w19 k_h01
  replace hT := hT.trans (b_w19.mono hT.size)
  have s_w19 := b_w19.size
  clear b_w19
  go_wp2_with fail
  (with_reducible refine (heldProfile_any _ _ _ _ _ _ _ mo_g0.at_ q_g0 R_g0.out (by omega) (by omega)).mono ?_)
  rintro e w20 ⟨rfl, b_w20⟩
  replace o_t1 := o_t1.belowW b_w20
  replace o_w0 := o_w0.belowW b_w20
  replace mo_t2 := mo_t2.belowW b_w20
  replace mo_g0 := mo_g0.belowW b_w20
  replace o_t4 := o_t4.belowW b_w20
  replace o_h0 := o_h0.belowW b_w20
  replace k_a0 := cell_carry b_w20 k_a0
  replace k_a1 := cell_carry b_w20 k_a1
  replace k_w00 := cell_carry b_w20 k_w00
  replace k_w01 := cell_carry b_w20 k_w01
  replace k_t20 := cell_carry b_w20 k_t20
  replace k_t21 := cell_carry b_w20 k_t21
  replace k_g00 := cell_carry b_w20 k_g00
  replace k_g01 := cell_carry b_w20 k_g01
  replace k_h00 := cell_carry b_w20 k_h00
  replace k_h01 := cell_carry b_w20 k_h01
  replace hT := hT.trans (b_w20.mono hT.size)
  have s_w20 := b_w20.size
  clear b_w20
  go_wp2_with fail
  go_ret
  exact ⟨rfl, hT⟩
end Go.Proofs.YtcjnjnegaoihoaaGreat
namespace Go.Proofs.YtcjnjnegaoihoaaGreat.fnExactPlayReplies
set_option linter.unusedSimpArgs false
set_option linter.unusedVariables false
open Go.ChangeShapes Go.WideShapes Go.ChangeAt Go.RowKit
open Go.ChangeMaps (open_string shut_string)
set_option linter.unusedVariables false

set_option maxRecDepth 100000 in
theorem lifted (os : Os) (started : os.Started) (H : Type) (enc : TypeId × Value → H) :
    ReturnsInHanded {} Tryz.checked os 4 .any (Rows.fnExactPlayRepliesSpec.pre6 enc Tryz.prog Tryz.f4 Rows.fnExactPlayRepliesRow.domain false) (Rows.fnExactPlayRepliesSpec.post enc Tryz.prog Tryz.f4 false true false false) := by
  refine returnsInHanded_of_change (C := Tryz.checked) own started (by kernel_rfl) Tryz.func4
    (ChangeSpec.witness6 (enc := enc) (C := Tryz.checked) false ⟨#[], #[.int .i64 0, .agg #[.int .i64 0, .slice none 0 0], .int .i64 0], []⟩ 8 (by kernel_rfl) (by kernel_rfl) (by kernel_rfl) (by kernel_rfl)) ?_
  intro W base args ds gs before hval0 hW hcnd _
  have hval : ∀ (j : Nat) t v, Tryz.f4.params[j]? = some t → args[j]? = some v → Value.okWide Tryz.prog W .any base t v := hval0
  have hW' := hW
  obtain ⟨p, q, hA0, hV, rfl, hfz, hnd⟩ := hW
  have hA : DataW.TrodAll enc Tryz.prog W 0 (fun _ => true) true Tryz.f4.params.toList args.toList ds p := hA0
  rw [Tryz.params4] at hA hval
  obtain ⟨v0, vs0, d0, ds0, p0, q0, hargs, rfl, rfl, h0, r0⟩ := trodAll_cons hA
  obtain ⟨v1, vs1, d1, ds1, p1, q1, rfl, rfl, rfl, h1, r1⟩ := trodAll_cons r0
  obtain ⟨v2, vs2, d2, ds2, p2, q2, rfl, rfl, rfl, h2, r2⟩ := trodAll_cons r1
  obtain ⟨rfl, rfl, rfl⟩ := trodAll_nil r2
  obtain rfl : args = #[v0, v1, v2] := by cases args; simp_all
  obtain ⟨rfl, rfl⟩ := trodVars_none hV
  obtain ⟨a0, rfl, rfl, rfl, w0⟩ := open_int Tryz.underlying3 (hval 0 3 v0 rfl rfl) h0
  have k1 := h1
  have lt1 : ∀ x ∈ p1, x.block < W.heap.size := by obtain ⟨m, hm⟩ := k1; exact DataW.trod_lt m _ _ _ hm
  obtain ⟨u1, a1, n1, c1, z1, rfl, w1, hv1, f1, l1, m1⟩ := profile_open (hval 1 24 v1 rfl rfl) h1
  obtain ⟨a2, rfl, rfl, rfl, w2⟩ := open_int Tryz.underlying3 (hval 2 3 v2 rfl rfl) h2
  clear hA0 hval0
  refine (law_FnExactPlayReplies W a0 w0 u1 a1 n1 c1 z1 w1 hv1 f1 l1 m1 a2 w2).mono fun e W' ⟨he, bel⟩ => ?_
  subst he
  exact ⟨_, rfl, _, _, _, [], _, [], hW', trodAll_mk1 (shut_bool Tryz.underlying4 _), (trodAll_cons_mk (shut_int Tryz.underlying3 w0) (trodAll_cons_mk (Below.trod laidOut (by kernel_rfl) (of_decide_eq_true (by kernel_rfl)) k1 bel lt1) (trodAll_cons_mk (shut_int Tryz.underlying3 w2) trodAll_mk0))), rfl, bel.frame _, fun h => by cases h⟩

theorem over : Rows.fnExactPlayRepliesRow.holds Tryz.pinned (OpenSpec.ofChange Rows.fnExactPlayRepliesSpec) :=
  OpenClaim.holds_of_wide 4 Tryz.f4 rfl rfl rfl rfl rfl rfl rfl ⟨rfl, rfl, rfl, rfl, rfl⟩ rfl rfl rfl rfl rfl (by kernel_rfl) Tryz.func4 (by kernel_rfl)
    (of_decide_eq_true (by kernel_rfl)) (by unfold Func.isWrapper; first | (rw [if_pos (by decide +kernel)]; kernel_rfl) | (rw [if_neg (by decide +kernel)]; exact ⟨rfl, rfl⟩))
    (fun os started H enc _ => lifted os started H enc)

theorem proved : Rows.FnExactPlayRepliesSaid := over
end Go.Proofs.YtcjnjnegaoihoaaGreat.fnExactPlayReplies
