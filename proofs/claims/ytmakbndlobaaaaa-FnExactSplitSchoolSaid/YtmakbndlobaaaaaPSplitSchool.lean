/- The exact law on SplitSchool: for every input the call returns true, and each argument reads as before. No condition. -/
import Derived.Test.YtmakbndlobaaaaaOpen
import Derived.Test.YtmakbndlobaaaaaSplitC
import Derived.Test.YtmakbndlobaaaaaLawSchool
namespace Go.Proofs.Ytmakbndlobaaaaa
open Go.RowKit

set_option maxHeartbeats 1000000 in
theorem law_FnExactSplitSchool (w : World) (A0a : Option Addr) (n0a c0a : Nat) (z0a : List (List Int)) (A0b : Option Addr) (n0b c0b : Nat) (z0b : List (List Int)) (A0c : Option Addr) (n0c c0c : Nat) (z0c : List Int) (h0a : RowsAt w A0a n0a z0a) (f0a : ∀ xs ∈ z0a, xs.length ≤ 9223372036854775807 ∧ ∀ x ∈ xs, (Lit.int .i64 x).wf = true) (l0a : n0a ≤ c0a) (m0a : c0a ≤ maxLen) (h0b : RowsAt w A0b n0b z0b) (f0b : ∀ xs ∈ z0b, xs.length ≤ 9223372036854775807 ∧ ∀ x ∈ xs, (Lit.int .i64 x).wf = true) (l0b : n0b ≤ c0b) (m0b : c0b ≤ maxLen) (h0c : IntsAt w A0c n0c z0c) (f0c : ∀ x ∈ z0c, (Lit.int .i64 x).wf = true) (l0c : n0c ≤ c0c) (m0c : c0c ≤ maxLen) :
    Calls Try.prog 7 #[.agg #[.slice A0a n0a c0a, .slice A0b n0b c0b, .slice A0c n0c c0c]] w fun e w' => e = .returned (.bool true) ∧ Below w.heap.size w w' := by
  unfold maxLen at m0a
  have HF0a := Lib.hid f0a; clear f0a
  unfold maxLen at m0b
  have HF0b := Lib.hid f0b; clear f0b
  unfold maxLen at m0c
  have HF0c := Lib.hid f0c; clear f0c
  go_enter Try.func7, Try.ntmps7
  have hT : Below w.heap.size w (w.alloc (Obj.cells #[Value.slice A0a n0a c0a, Value.slice A0b n0b c0b, Value.slice A0c n0c c0c] 25)) := (Below.refl _ _).alloc (Nat.le_refl _) _
  have hN := World.size_alloc w (Obj.cells #[Value.slice A0a n0a c0a, Value.slice A0b n0b c0b, Value.slice A0c n0c c0c] 25)
  have k_a := new_triple w (Value.slice A0a n0a c0a) (Value.slice A0b n0b c0b) (Value.slice A0c n0c c0c) 25 rfl
  go_wp2_with fail
  generalize (w.alloc (Obj.cells #[Value.slice A0a n0a c0a, Value.slice A0b n0b c0b, Value.slice A0c n0c c0c] 25)) = w0 at *
  obtain ⟨k_a0, k_a1, k_a2⟩ := k_a
  have s_w0 : w.heap.size < w0.heap.size := by omega
  clear hN
  go_wp2_with fail
  (with_reducible refine (szSchool_any _ _ _ _ _ _ _ _ _ _ _ _ _ _ (h0a.below hT) (by omega) (fun xs hx => (HF0a.out xs hx).1) (h0b.below hT) (by omega) (fun xs hx => (HF0b.out xs hx).1) (h0c.below hT) (by omega) (by omega) (by omega)).mono ?_)
  rintro e w1 ⟨r0, rfl, hr0, hq0, b_w1⟩
  replace k_a0 := cell_carry b_w1 k_a0
  replace k_a1 := cell_carry b_w1 k_a1
  replace k_a2 := cell_carry b_w1 k_a2
  replace hT := hT.trans (b_w1.mono hT.size)
  have s_w1 := b_w1.size
  clear b_w1
  by_cases hneg0 : r0 < 0
  · go_wp2_with fail
    go_ret
    exact ⟨rfl, hT⟩
  have hnn0 : 0 ≤ r0 := by omega
  obtain ⟨hs0, sm0a, hx0a, sm0b, hx0b, sm0c⟩ := hr0 hnn0
  have HX0a := Lib.hid hx0a; clear hx0a
  have HX0b := Lib.hid hx0b; clear hx0b
  clear hr0 hneg0
  go_wp2_with fail
  (with_reducible refine (toSchool_any _ _ _ _ _ _ _ _ _ _ _ _ _ (h0a.below hT) sm0a HX0a.out (h0b.below hT) sm0b HX0b.out (h0c.below hT) sm0c).mono ?_)
  rintro e w2 ⟨A_t1a, c_t1a, A_t1b, c_t1b, A_t1c, c_t1c, ma_t1, mb_t1, rfl, o_t1a, o_t1b, o_t1c, p_t1a, p_t1b, p_t1c, b_t1⟩
  replace k_a0 := cell_carry b_t1 k_a0
  replace k_a1 := cell_carry b_t1 k_a1
  replace k_a2 := cell_carry b_t1 k_a2
  replace hT := hT.trans (b_t1.mono hT.size)
  have s_w2 := b_t1.size
  clear b_t1
  go_wp2_with fail
  (with_reducible refine (specSplitSchoolC _ _ _ _ _ _ _ _ _ _ _ _ _ o_t1a.at_ sm0a HX0a.out o_t1b.at_ sm0b HX0b.out o_t1c.at_ sm0c).mono ?_)
  rintro e w3 ⟨A_w0a, c_w0a, A_w0b, c_w0b, A_w0c, c_w0c, rfl, o_w0, q_w0a, r_w0a, q_w0b, r_w0b, q_w0c, b_w3⟩
  replace o_t1a := o_t1a.belowW b_w3
  replace o_t1b := o_t1b.belowW b_w3
  replace o_t1c := o_t1c.belowW b_w3
  replace k_a0 := cell_carry b_w3 k_a0
  replace k_a1 := cell_carry b_w3 k_a1
  replace k_a2 := cell_carry b_w3 k_a2
  replace hT := hT.trans (b_w3.mono hT.size)
  have s_w3 := b_w3.size
  clear b_w3
  have R_w0a := Lib.hid r_w0a; clear r_w0a
  have R_w0b := Lib.hid r_w0b; clear r_w0b
  have k_w0 := new_triple w3 (Value.slice A_w0a (splitS z0a z0b z0c).length c_w0a) (Value.slice A_w0b (splitC z0a z0b z0c).length c_w0b) (Value.slice A_w0c (splitP z0a z0b z0c).length c_w0c) 28 rfl
  have b_w4 : Below w3.heap.size w3 (w3.alloc (Obj.cells #[Value.slice A_w0a (splitS z0a z0b z0c).length c_w0a, Value.slice A_w0b (splitC z0a z0b z0c).length c_w0b, Value.slice A_w0c (splitP z0a z0b z0c).length c_w0c] 28)) := (Below.refl _ _).alloc (Nat.le_refl _) _
  have z_w4 := World.size_alloc w3 (Obj.cells #[Value.slice A_w0a (splitS z0a z0b z0c).length c_w0a, Value.slice A_w0b (splitC z0a z0b z0c).length c_w0b, Value.slice A_w0c (splitP z0a z0b z0c).length c_w0c] 28)
  replace k_a0 := old_cell k_a0 (Obj.cells #[Value.slice A_w0a (splitS z0a z0b z0c).length c_w0a, Value.slice A_w0b (splitC z0a z0b z0c).length c_w0b, Value.slice A_w0c (splitP z0a z0b z0c).length c_w0c] 28)
  replace k_a1 := old_cell k_a1 (Obj.cells #[Value.slice A_w0a (splitS z0a z0b z0c).length c_w0a, Value.slice A_w0b (splitC z0a z0b z0c).length c_w0b, Value.slice A_w0c (splitP z0a z0b z0c).length c_w0c] 28)
  replace k_a2 := old_cell k_a2 (Obj.cells #[Value.slice A_w0a (splitS z0a z0b z0c).length c_w0a, Value.slice A_w0b (splitC z0a z0b z0c).length c_w0b, Value.slice A_w0c (splitP z0a z0b z0c).length c_w0c] 28)
  go_wp2_with fail
  generalize w3.alloc (Obj.cells #[Value.slice A_w0a (splitS z0a z0b z0c).length c_w0a, Value.slice A_w0b (splitC z0a z0b z0c).length c_w0b, Value.slice A_w0c (splitP z0a z0b z0c).length c_w0c] 28) = w4 at *
  obtain ⟨k_w00, k_w01, k_w02⟩ := k_w0
  have y_w4 : w3.heap.size < w4.heap.size := by omega
  clear z_w4
  replace o_t1a := o_t1a.belowW b_w4
  replace o_t1b := o_t1b.belowW b_w4
  replace o_t1c := o_t1c.belowW b_w4
  replace o_w0 := o_w0.belowW b_w4
  replace hT := hT.trans (b_w4.mono hT.size)
  have s_w4 := b_w4.size
  clear b_w4
  go_wp2_with fail
  (with_reducible refine (toSchool_any _ _ _ _ _ _ _ _ _ _ _ _ _ (h0a.below hT) sm0a HX0a.out (h0b.below hT) sm0b HX0b.out (h0c.below hT) sm0c).mono ?_)
  rintro e w5 ⟨A_t2a, c_t2a, A_t2b, c_t2b, A_t2c, c_t2c, ma_t2, mb_t2, rfl, o_t2a, o_t2b, o_t2c, p_t2a, p_t2b, p_t2c, b_t2⟩
  replace o_t1a := o_t1a.belowW b_t2
  replace o_t1b := o_t1b.belowW b_t2
  replace o_t1c := o_t1c.belowW b_t2
  replace o_w0 := o_w0.belowW b_t2
  replace k_a0 := cell_carry b_t2 k_a0
  replace k_a1 := cell_carry b_t2 k_a1
  replace k_a2 := cell_carry b_t2 k_a2
  replace k_w00 := cell_carry b_t2 k_w00
  replace k_w01 := cell_carry b_t2 k_w01
  replace k_w02 := cell_carry b_t2 k_w02
  replace hT := hT.trans (b_t2.mono hT.size)
  have s_w5 := b_t2.size
  clear b_t2
  have k_t2 := new_triple w5 (Value.slice A_t2a n0a c_t2a) (Value.slice A_t2b n0b c_t2b) (Value.slice A_t2c n0c c_t2c) 28 rfl
  have b_w6 : Below w5.heap.size w5 (w5.alloc (Obj.cells #[Value.slice A_t2a n0a c_t2a, Value.slice A_t2b n0b c_t2b, Value.slice A_t2c n0c c_t2c] 28)) := (Below.refl _ _).alloc (Nat.le_refl _) _
  have z_w6 := World.size_alloc w5 (Obj.cells #[Value.slice A_t2a n0a c_t2a, Value.slice A_t2b n0b c_t2b, Value.slice A_t2c n0c c_t2c] 28)
  replace k_a0 := old_cell k_a0 (Obj.cells #[Value.slice A_t2a n0a c_t2a, Value.slice A_t2b n0b c_t2b, Value.slice A_t2c n0c c_t2c] 28)
  replace k_a1 := old_cell k_a1 (Obj.cells #[Value.slice A_t2a n0a c_t2a, Value.slice A_t2b n0b c_t2b, Value.slice A_t2c n0c c_t2c] 28)
  replace k_a2 := old_cell k_a2 (Obj.cells #[Value.slice A_t2a n0a c_t2a, Value.slice A_t2b n0b c_t2b, Value.slice A_t2c n0c c_t2c] 28)
  replace k_w00 := old_cell k_w00 (Obj.cells #[Value.slice A_t2a n0a c_t2a, Value.slice A_t2b n0b c_t2b, Value.slice A_t2c n0c c_t2c] 28)
  replace k_w01 := old_cell k_w01 (Obj.cells #[Value.slice A_t2a n0a c_t2a, Value.slice A_t2b n0b c_t2b, Value.slice A_t2c n0c c_t2c] 28)
  replace k_w02 := old_cell k_w02 (Obj.cells #[Value.slice A_t2a n0a c_t2a, Value.slice A_t2b n0b c_t2b, Value.slice A_t2c n0c c_t2c] 28)
  go_wp2_with fail
  generalize w5.alloc (Obj.cells #[Value.slice A_t2a n0a c_t2a, Value.slice A_t2b n0b c_t2b, Value.slice A_t2c n0c c_t2c] 28) = w6 at *
  obtain ⟨k_t20, k_t21, k_t22⟩ := k_t2
  have y_w6 : w5.heap.size < w6.heap.size := by omega
  clear z_w6
  replace o_t1a := o_t1a.belowW b_w6
  replace o_t1b := o_t1b.belowW b_w6
  replace o_t1c := o_t1c.belowW b_w6
  replace o_w0 := o_w0.belowW b_w6
  replace o_t2a := o_t2a.belowW b_w6
  replace o_t2b := o_t2b.belowW b_w6
  replace o_t2c := o_t2c.belowW b_w6
  replace hT := hT.trans (b_w6.mono hT.size)
  have s_w6 := b_w6.size
  clear b_w6
  go_wp2_with fail
  (with_reducible refine (implSplitSchoolC _ _ _ _ _ _ _ _ _ _ _ _ _ o_t2a.at_ sm0a HX0a.out o_t2b.at_ sm0b HX0b.out o_t2c.at_ sm0c).mono ?_)
  rintro e w7 ⟨A_g0a, c_g0a, A_g0b, c_g0b, A_g0c, c_g0c, rfl, o_g0, q_g0a, r_g0a, q_g0b, r_g0b, q_g0c, b_w7⟩
  replace o_t1a := o_t1a.belowW b_w7
  replace o_t1b := o_t1b.belowW b_w7
  replace o_t1c := o_t1c.belowW b_w7
  replace o_w0 := o_w0.belowW b_w7
  replace o_t2a := o_t2a.belowW b_w7
  replace o_t2b := o_t2b.belowW b_w7
  replace o_t2c := o_t2c.belowW b_w7
  replace k_a0 := cell_carry b_w7 k_a0
  replace k_a1 := cell_carry b_w7 k_a1
  replace k_a2 := cell_carry b_w7 k_a2
  replace k_w00 := cell_carry b_w7 k_w00
  replace k_w01 := cell_carry b_w7 k_w01
  replace k_w02 := cell_carry b_w7 k_w02
  replace k_t20 := cell_carry b_w7 k_t20
  replace k_t21 := cell_carry b_w7 k_t21
  replace k_t22 := cell_carry b_w7 k_t22
  replace hT := hT.trans (b_w7.mono hT.size)
  have s_w7 := b_w7.size
  clear b_w7
  have R_g0a := Lib.hid r_g0a; clear r_g0a
  have R_g0b := Lib.hid r_g0b; clear r_g0b
  have k_g0 := new_triple w7 (Value.slice A_g0a (splitS z0a z0b z0c).length c_g0a) (Value.slice A_g0b (splitC z0a z0b z0c).length c_g0b) (Value.slice A_g0c (splitP z0a z0b z0c).length c_g0c) 28 rfl
  have b_w8 : Below w7.heap.size w7 (w7.alloc (Obj.cells #[Value.slice A_g0a (splitS z0a z0b z0c).length c_g0a, Value.slice A_g0b (splitC z0a z0b z0c).length c_g0b, Value.slice A_g0c (splitP z0a z0b z0c).length c_g0c] 28)) := (Below.refl _ _).alloc (Nat.le_refl _) _
  have z_w8 := World.size_alloc w7 (Obj.cells #[Value.slice A_g0a (splitS z0a z0b z0c).length c_g0a, Value.slice A_g0b (splitC z0a z0b z0c).length c_g0b, Value.slice A_g0c (splitP z0a z0b z0c).length c_g0c] 28)
  replace k_a0 := old_cell k_a0 (Obj.cells #[Value.slice A_g0a (splitS z0a z0b z0c).length c_g0a, Value.slice A_g0b (splitC z0a z0b z0c).length c_g0b, Value.slice A_g0c (splitP z0a z0b z0c).length c_g0c] 28)
  replace k_a1 := old_cell k_a1 (Obj.cells #[Value.slice A_g0a (splitS z0a z0b z0c).length c_g0a, Value.slice A_g0b (splitC z0a z0b z0c).length c_g0b, Value.slice A_g0c (splitP z0a z0b z0c).length c_g0c] 28)
  replace k_a2 := old_cell k_a2 (Obj.cells #[Value.slice A_g0a (splitS z0a z0b z0c).length c_g0a, Value.slice A_g0b (splitC z0a z0b z0c).length c_g0b, Value.slice A_g0c (splitP z0a z0b z0c).length c_g0c] 28)
  replace k_w00 := old_cell k_w00 (Obj.cells #[Value.slice A_g0a (splitS z0a z0b z0c).length c_g0a, Value.slice A_g0b (splitC z0a z0b z0c).length c_g0b, Value.slice A_g0c (splitP z0a z0b z0c).length c_g0c] 28)
  replace k_w01 := old_cell k_w01 (Obj.cells #[Value.slice A_g0a (splitS z0a z0b z0c).length c_g0a, Value.slice A_g0b (splitC z0a z0b z0c).length c_g0b, Value.slice A_g0c (splitP z0a z0b z0c).length c_g0c] 28)
  replace k_w02 := old_cell k_w02 (Obj.cells #[Value.slice A_g0a (splitS z0a z0b z0c).length c_g0a, Value.slice A_g0b (splitC z0a z0b z0c).length c_g0b, Value.slice A_g0c (splitP z0a z0b z0c).length c_g0c] 28)
  replace k_t20 := old_cell k_t20 (Obj.cells #[Value.slice A_g0a (splitS z0a z0b z0c).length c_g0a, Value.slice A_g0b (splitC z0a z0b z0c).length c_g0b, Value.slice A_g0c (splitP z0a z0b z0c).length c_g0c] 28)
  replace k_t21 := old_cell k_t21 (Obj.cells #[Value.slice A_g0a (splitS z0a z0b z0c).length c_g0a, Value.slice A_g0b (splitC z0a z0b z0c).length c_g0b, Value.slice A_g0c (splitP z0a z0b z0c).length c_g0c] 28)
  replace k_t22 := old_cell k_t22 (Obj.cells #[Value.slice A_g0a (splitS z0a z0b z0c).length c_g0a, Value.slice A_g0b (splitC z0a z0b z0c).length c_g0b, Value.slice A_g0c (splitP z0a z0b z0c).length c_g0c] 28)
  go_wp2_with fail
  generalize w7.alloc (Obj.cells #[Value.slice A_g0a (splitS z0a z0b z0c).length c_g0a, Value.slice A_g0b (splitC z0a z0b z0c).length c_g0b, Value.slice A_g0c (splitP z0a z0b z0c).length c_g0c] 28) = w8 at *
  obtain ⟨k_g00, k_g01, k_g02⟩ := k_g0
  have y_w8 : w7.heap.size < w8.heap.size := by omega
  clear z_w8
  replace o_t1a := o_t1a.belowW b_w8
  replace o_t1b := o_t1b.belowW b_w8
  replace o_t1c := o_t1c.belowW b_w8
  replace o_w0 := o_w0.belowW b_w8
  replace o_t2a := o_t2a.belowW b_w8
  replace o_t2b := o_t2b.belowW b_w8
  replace o_t2c := o_t2c.belowW b_w8
  replace o_g0 := o_g0.belowW b_w8
  replace hT := hT.trans (b_w8.mono hT.size)
  have s_w8 := b_w8.size
  clear b_w8
  go_wp2_with fail
  (with_reducible refine (eqSchool_eq _ _ _ _ _ _ _ _ _ _ _ _ _ _ _ _ _ _ _ _ _ _ o_g0.stu o_w0.stu q_g0a R_g0a.out o_g0.col o_w0.col q_g0b R_g0b.out o_g0.pla o_w0.pla q_g0c).mono ?_)
  rintro e w9 ⟨rfl, b_w9⟩
  replace o_t1a := o_t1a.belowW b_w9
  replace o_t1b := o_t1b.belowW b_w9
  replace o_t1c := o_t1c.belowW b_w9
  replace o_w0 := o_w0.belowW b_w9
  replace o_t2a := o_t2a.belowW b_w9
  replace o_t2b := o_t2b.belowW b_w9
  replace o_t2c := o_t2c.belowW b_w9
  replace o_g0 := o_g0.belowW b_w9
  replace k_a0 := cell_carry b_w9 k_a0
  replace k_a1 := cell_carry b_w9 k_a1
  replace k_a2 := cell_carry b_w9 k_a2
  replace k_w00 := cell_carry b_w9 k_w00
  replace k_w01 := cell_carry b_w9 k_w01
  replace k_w02 := cell_carry b_w9 k_w02
  replace k_t20 := cell_carry b_w9 k_t20
  replace k_t21 := cell_carry b_w9 k_t21
  replace k_t22 := cell_carry b_w9 k_t22
  replace k_g00 := cell_carry b_w9 k_g00
  replace k_g01 := cell_carry b_w9 k_g01
  replace k_g02 := cell_carry b_w9 k_g02
  replace hT := hT.trans (b_w9.mono hT.size)
  have s_w9 := b_w9.size
  clear b_w9
  go_wp2_with fail
  go_region_held3 (fun w' => w'.cell? ⟨w5.heap.size, 0, none⟩ = some (Value.slice A_t2a n0a c_t2a) ∧ w'.cell? ⟨w5.heap.size, 1, none⟩ = some (Value.slice A_t2b n0b c_t2b) ∧ w'.cell? ⟨w5.heap.size, 2, none⟩ = some (Value.slice A_t2c n0c c_t2c) ∧ w'.cell? ⟨w.heap.size, 0, none⟩ = some (Value.slice A0a n0a c0a) ∧ w'.cell? ⟨w.heap.size, 1, none⟩ = some (Value.slice A0b n0b c0b) ∧ w'.cell? ⟨w.heap.size, 2, none⟩ = some (Value.slice A0c n0c c0c)) ((refine ⟨?_, ?_, ?_, ?_, ?_, ?_⟩ <;> (first | assumption | go_keep))) (first | (go_at_call 10; (with_reducible refine (toSchool_any _ _ _ _ _ _ _ _ _ _ _ _ _ (h0a.below hT.drew) sm0a HX0a.out (h0b.below hT.drew) sm0b HX0b.out (h0c.below hT.drew) sm0c).mono ?_); rintro e w10 ⟨A_t3a, c_t3a, A_t3b, c_t3b, A_t3c, c_t3c, ma_t3, mb_t3, rfl, o_t3a, o_t3b, o_t3c, p_t3a, p_t3b, p_t3c, b_t3⟩; replace b_t3 : Below w9.heap.size w9 w10 := ((Below.refl _ w9).drew).trans b_t3; replace o_t1a := o_t1a.belowW b_t3; replace o_t1b := o_t1b.belowW b_t3; replace o_t1c := o_t1c.belowW b_t3; replace o_w0 := o_w0.belowW b_t3; replace o_t2a := o_t2a.belowW b_t3; replace o_t2b := o_t2b.belowW b_t3; replace o_t2c := o_t2c.belowW b_t3; replace o_g0 := o_g0.belowW b_t3; replace k_a0 := cell_carry b_t3 k_a0; replace k_a1 := cell_carry b_t3 k_a1; replace k_a2 := cell_carry b_t3 k_a2; replace k_w00 := cell_carry b_t3 k_w00; replace k_w01 := cell_carry b_t3 k_w01; replace k_w02 := cell_carry b_t3 k_w02; replace k_t20 := cell_carry b_t3 k_t20; replace k_t21 := cell_carry b_t3 k_t21; replace k_t22 := cell_carry b_t3 k_t22; replace k_g00 := cell_carry b_t3 k_g00; replace k_g01 := cell_carry b_t3 k_g01; replace k_g02 := cell_carry b_t3 k_g02; replace hT := hT.trans (b_t3.mono hT.size); have s_w10 := b_t3.size; clear b_t3) | (go_at_call 12; (with_reducible refine (eqSchool_eq _ _ _ _ _ _ _ _ _ _ _ _ _ _ _ _ _ _ _ _ _ _ o_t2a.at_ o_t3a.at_ sm0a HX0a.out o_t2b.at_ o_t3b.at_ sm0b HX0b.out o_t2c.at_ o_t3c.at_ sm0c).mono ?_); rintro e w11 ⟨rfl, b_w11⟩; replace o_t1a := o_t1a.belowW b_w11; replace o_t1b := o_t1b.belowW b_w11; replace o_t1c := o_t1c.belowW b_w11; replace o_w0 := o_w0.belowW b_w11; replace o_t2a := o_t2a.belowW b_w11; replace o_t2b := o_t2b.belowW b_w11; replace o_t2c := o_t2c.belowW b_w11; replace o_g0 := o_g0.belowW b_w11; replace o_t3a := o_t3a.belowW b_w11; replace o_t3b := o_t3b.belowW b_w11; replace o_t3c := o_t3c.belowW b_w11; replace k_a0 := cell_carry b_w11 k_a0; replace k_a1 := cell_carry b_w11 k_a1; replace k_a2 := cell_carry b_w11 k_a2; replace k_w00 := cell_carry b_w11 k_w00; replace k_w01 := cell_carry b_w11 k_w01; replace k_w02 := cell_carry b_w11 k_w02; replace k_t20 := cell_carry b_w11 k_t20; replace k_t21 := cell_carry b_w11 k_t21; replace k_t22 := cell_carry b_w11 k_t22; replace k_g00 := cell_carry b_w11 k_g00; replace k_g01 := cell_carry b_w11 k_g01; replace k_g02 := cell_carry b_w11 k_g02; replace hT := hT.trans (b_w11.mono hT.size); have s_w11 := b_w11.size; clear b_w11))
  go_wp2_with fail
  (with_reducible refine (markSchool_any _ _ _ _ _ _ _ _ _ _ _ _ _ _ _ _ _ _ _ _ o_t2a sm0a HX0a.out o_t2b sm0b HX0b.out o_t2c sm0c (by omega) (by omega) (by omega) (by omega) (by omega) (by omega) (by omega) (by omega)).mono ?_)
  rintro e w12 ⟨rfl, mo_t2a, mo_t2b, mo_t2c, ho_w12, ge_w12, le_w12⟩
  replace o_t1a := o_t1a.only ho_w12 (by omega)
  replace o_t1b := o_t1b.only ho_w12 (by omega)
  replace o_t1c := o_t1c.only ho_w12 (by omega)
  replace o_w0 := o_w0.only ho_w12 (by omega)
  replace o_g0 := o_g0.only ho_w12 (by omega)
  replace k_a0 := ho_w12.cell k_a0 (by (try simp) <;> (try omega))
  replace k_a1 := ho_w12.cell k_a1 (by (try simp) <;> (try omega))
  replace k_a2 := ho_w12.cell k_a2 (by (try simp) <;> (try omega))
  replace k_w00 := ho_w12.cell k_w00 (by (try simp) <;> (try omega))
  replace k_w01 := ho_w12.cell k_w01 (by (try simp) <;> (try omega))
  replace k_w02 := ho_w12.cell k_w02 (by (try simp) <;> (try omega))
  replace k_t20 := ho_w12.cell k_t20 (by (try simp) <;> (try omega))
  replace k_t21 := ho_w12.cell k_t21 (by (try simp) <;> (try omega))
  replace k_t22 := ho_w12.cell k_t22 (by (try simp) <;> (try omega))
  replace k_g00 := ho_w12.cell k_g00 (by (try simp) <;> (try omega))
  replace k_g01 := ho_w12.cell k_g01 (by (try simp) <;> (try omega))
  replace k_g02 := ho_w12.cell k_g02 (by (try simp) <;> (try omega))
  replace hT := hT.trans (ho_w12.toBelow (by omega) hT.size)
  have s_w12 := ho_w12.size
  clear ho_w12
  clear o_t2a
  clear o_t2b
  clear o_t2c
  go_wp2_with fail
  (with_reducible refine (eqSchool_eq _ _ _ _ _ _ _ _ _ _ _ _ _ _ _ _ _ _ _ _ _ _ o_g0.stu o_w0.stu q_g0a R_g0a.out o_g0.col o_w0.col q_g0b R_g0b.out o_g0.pla o_w0.pla q_g0c).mono ?_)
  rintro e w13 ⟨rfl, b_w13⟩
  replace o_t1a := o_t1a.belowW b_w13
  replace o_t1b := o_t1b.belowW b_w13
  replace o_t1c := o_t1c.belowW b_w13
  replace o_w0 := o_w0.belowW b_w13
  replace mo_t2a := mo_t2a.belowW b_w13
  replace mo_t2b := mo_t2b.belowW b_w13
  replace mo_t2c := mo_t2c.belowW b_w13
  replace o_g0 := o_g0.belowW b_w13
  replace k_a0 := cell_carry b_w13 k_a0
  replace k_a1 := cell_carry b_w13 k_a1
  replace k_a2 := cell_carry b_w13 k_a2
  replace k_w00 := cell_carry b_w13 k_w00
  replace k_w01 := cell_carry b_w13 k_w01
  replace k_w02 := cell_carry b_w13 k_w02
  replace k_t20 := cell_carry b_w13 k_t20
  replace k_t21 := cell_carry b_w13 k_t21
  replace k_t22 := cell_carry b_w13 k_t22
  replace k_g00 := cell_carry b_w13 k_g00
  replace k_g01 := cell_carry b_w13 k_g01
  replace k_g02 := cell_carry b_w13 k_g02
  replace hT := hT.trans (b_w13.mono hT.size)
  have s_w13 := b_w13.size
  clear b_w13
  go_wp2_with fail
  (with_reducible refine (markSchoolS_any _ _ _ _ _ _ _ _ _ _ _ _ _ _ _ _ o_g0 q_g0a R_g0a.out q_g0b R_g0b.out q_g0c (by omega) (by omega) (by omega) (by omega)).mono ?_)
  rintro e w14 ⟨rfl, mo_g0, ho_w14, ge_w14, le_w14⟩
  replace o_t1a := o_t1a.only ho_w14 (by omega)
  replace o_t1b := o_t1b.only ho_w14 (by omega)
  replace o_t1c := o_t1c.only ho_w14 (by omega)
  replace o_w0 := o_w0.only ho_w14 (by omega)
  replace mo_t2a := mo_t2a.only ho_w14 (by omega)
  replace mo_t2b := mo_t2b.only ho_w14 (by omega)
  replace mo_t2c := mo_t2c.only ho_w14 (by omega)
  replace k_a0 := ho_w14.cell k_a0 (by (try simp) <;> (try omega))
  replace k_a1 := ho_w14.cell k_a1 (by (try simp) <;> (try omega))
  replace k_a2 := ho_w14.cell k_a2 (by (try simp) <;> (try omega))
  replace k_w00 := ho_w14.cell k_w00 (by (try simp) <;> (try omega))
  replace k_w01 := ho_w14.cell k_w01 (by (try simp) <;> (try omega))
  replace k_w02 := ho_w14.cell k_w02 (by (try simp) <;> (try omega))
  replace k_t20 := ho_w14.cell k_t20 (by (try simp) <;> (try omega))
  replace k_t21 := ho_w14.cell k_t21 (by (try simp) <;> (try omega))
  replace k_t22 := ho_w14.cell k_t22 (by (try simp) <;> (try omega))
  replace k_g00 := ho_w14.cell k_g00 (by (try simp) <;> (try omega))
  replace k_g01 := ho_w14.cell k_g01 (by (try simp) <;> (try omega))
  replace k_g02 := ho_w14.cell k_g02 (by (try simp) <;> (try omega))
  replace hT := hT.trans (ho_w14.toBelow (by omega) hT.size)
  have s_w14 := ho_w14.size
  clear ho_w14
  clear o_g0
  go_wp2_with fail
  (with_reducible refine (heldSchool_any _ _ _ _ _ _ _ _ _ _ _ _ _ _ mo_g0.stu q_g0a R_g0a.out mo_g0.col q_g0b R_g0b.out mo_g0.pla q_g0c (by omega) (by omega)).mono ?_)
  rintro e w15 ⟨rfl, b_w15⟩
  replace o_t1a := o_t1a.belowW b_w15
  replace o_t1b := o_t1b.belowW b_w15
  replace o_t1c := o_t1c.belowW b_w15
  replace o_w0 := o_w0.belowW b_w15
  replace mo_t2a := mo_t2a.belowW b_w15
  replace mo_t2b := mo_t2b.belowW b_w15
  replace mo_t2c := mo_t2c.belowW b_w15
  replace mo_g0 := mo_g0.belowW b_w15
  replace k_a0 := cell_carry b_w15 k_a0
  replace k_a1 := cell_carry b_w15 k_a1
  replace k_a2 := cell_carry b_w15 k_a2
  replace k_w00 := cell_carry b_w15 k_w00
  replace k_w01 := cell_carry b_w15 k_w01
  replace k_w02 := cell_carry b_w15 k_w02
  replace k_t20 := cell_carry b_w15 k_t20
  replace k_t21 := cell_carry b_w15 k_t21
  replace k_t22 := cell_carry b_w15 k_t22
  replace k_g00 := cell_carry b_w15 k_g00
  replace k_g01 := cell_carry b_w15 k_g01
  replace k_g02 := cell_carry b_w15 k_g02
  replace hT := hT.trans (b_w15.mono hT.size)
  have s_w15 := b_w15.size
  clear b_w15
  go_wp2_with fail
  (with_reducible refine (toSchool_any _ _ _ _ _ _ _ _ _ _ _ _ _ (h0a.below hT) sm0a HX0a.out (h0b.below hT) sm0b HX0b.out (h0c.below hT) sm0c).mono ?_)
  rintro e w16 ⟨A_t4a, c_t4a, A_t4b, c_t4b, A_t4c, c_t4c, ma_t4, mb_t4, rfl, o_t4a, o_t4b, o_t4c, p_t4a, p_t4b, p_t4c, b_t4⟩
  replace o_t1a := o_t1a.belowW b_t4
  replace o_t1b := o_t1b.belowW b_t4
  replace o_t1c := o_t1c.belowW b_t4
  replace o_w0 := o_w0.belowW b_t4
  replace mo_t2a := mo_t2a.belowW b_t4
  replace mo_t2b := mo_t2b.belowW b_t4
  replace mo_t2c := mo_t2c.belowW b_t4
  replace mo_g0 := mo_g0.belowW b_t4
  replace k_a0 := cell_carry b_t4 k_a0
  replace k_a1 := cell_carry b_t4 k_a1
  replace k_a2 := cell_carry b_t4 k_a2
  replace k_w00 := cell_carry b_t4 k_w00
  replace k_w01 := cell_carry b_t4 k_w01
  replace k_w02 := cell_carry b_t4 k_w02
  replace k_t20 := cell_carry b_t4 k_t20
  replace k_t21 := cell_carry b_t4 k_t21
  replace k_t22 := cell_carry b_t4 k_t22
  replace k_g00 := cell_carry b_t4 k_g00
  replace k_g01 := cell_carry b_t4 k_g01
  replace k_g02 := cell_carry b_t4 k_g02
  replace hT := hT.trans (b_t4.mono hT.size)
  have s_w16 := b_t4.size
  clear b_t4
  go_wp2_with fail
  (with_reducible refine (implSplitSchoolC _ _ _ _ _ _ _ _ _ _ _ _ _ o_t4a.at_ sm0a HX0a.out o_t4b.at_ sm0b HX0b.out o_t4c.at_ sm0c).mono ?_)
  rintro e w17 ⟨A_h0a, c_h0a, A_h0b, c_h0b, A_h0c, c_h0c, rfl, o_h0, q_h0a, r_h0a, q_h0b, r_h0b, q_h0c, b_w17⟩
  replace o_t1a := o_t1a.belowW b_w17
  replace o_t1b := o_t1b.belowW b_w17
  replace o_t1c := o_t1c.belowW b_w17
  replace o_w0 := o_w0.belowW b_w17
  replace mo_t2a := mo_t2a.belowW b_w17
  replace mo_t2b := mo_t2b.belowW b_w17
  replace mo_t2c := mo_t2c.belowW b_w17
  replace mo_g0 := mo_g0.belowW b_w17
  replace o_t4a := o_t4a.belowW b_w17
  replace o_t4b := o_t4b.belowW b_w17
  replace o_t4c := o_t4c.belowW b_w17
  replace k_a0 := cell_carry b_w17 k_a0
  replace k_a1 := cell_carry b_w17 k_a1
  replace k_a2 := cell_carry b_w17 k_a2
  replace k_w00 := cell_carry b_w17 k_w00
  replace k_w01 := cell_carry b_w17 k_w01
  replace k_w02 := cell_carry b_w17 k_w02
  replace k_t20 := cell_carry b_w17 k_t20
  replace k_t21 := cell_carry b_w17 k_t21
  replace k_t22 := cell_carry b_w17 k_t22
  replace k_g00 := cell_carry b_w17 k_g00
  replace k_g01 := cell_carry b_w17 k_g01
  replace k_g02 := cell_carry b_w17 k_g02
  replace hT := hT.trans (b_w17.mono hT.size)
  have s_w17 := b_w17.size
  clear b_w17
  have R_h0a := Lib.hid r_h0a; clear r_h0a
  have R_h0b := Lib.hid r_h0b; clear r_h0b
  have k_h0 := new_triple w17 (Value.slice A_h0a (splitS z0a z0b z0c).length c_h0a) (Value.slice A_h0b (splitC z0a z0b z0c).length c_h0b) (Value.slice A_h0c (splitP z0a z0b z0c).length c_h0c) 28 rfl
  have b_w18 : Below w17.heap.size w17 (w17.alloc (Obj.cells #[Value.slice A_h0a (splitS z0a z0b z0c).length c_h0a, Value.slice A_h0b (splitC z0a z0b z0c).length c_h0b, Value.slice A_h0c (splitP z0a z0b z0c).length c_h0c] 28)) := (Below.refl _ _).alloc (Nat.le_refl _) _
  have z_w18 := World.size_alloc w17 (Obj.cells #[Value.slice A_h0a (splitS z0a z0b z0c).length c_h0a, Value.slice A_h0b (splitC z0a z0b z0c).length c_h0b, Value.slice A_h0c (splitP z0a z0b z0c).length c_h0c] 28)
  replace k_a0 := old_cell k_a0 (Obj.cells #[Value.slice A_h0a (splitS z0a z0b z0c).length c_h0a, Value.slice A_h0b (splitC z0a z0b z0c).length c_h0b, Value.slice A_h0c (splitP z0a z0b z0c).length c_h0c] 28)
  replace k_a1 := old_cell k_a1 (Obj.cells #[Value.slice A_h0a (splitS z0a z0b z0c).length c_h0a, Value.slice A_h0b (splitC z0a z0b z0c).length c_h0b, Value.slice A_h0c (splitP z0a z0b z0c).length c_h0c] 28)
  replace k_a2 := old_cell k_a2 (Obj.cells #[Value.slice A_h0a (splitS z0a z0b z0c).length c_h0a, Value.slice A_h0b (splitC z0a z0b z0c).length c_h0b, Value.slice A_h0c (splitP z0a z0b z0c).length c_h0c] 28)
  replace k_w00 := old_cell k_w00 (Obj.cells #[Value.slice A_h0a (splitS z0a z0b z0c).length c_h0a, Value.slice A_h0b (splitC z0a z0b z0c).length c_h0b, Value.slice A_h0c (splitP z0a z0b z0c).length c_h0c] 28)
  replace k_w01 := old_cell k_w01 (Obj.cells #[Value.slice A_h0a (splitS z0a z0b z0c).length c_h0a, Value.slice A_h0b (splitC z0a z0b z0c).length c_h0b, Value.slice A_h0c (splitP z0a z0b z0c).length c_h0c] 28)
  replace k_w02 := old_cell k_w02 (Obj.cells #[Value.slice A_h0a (splitS z0a z0b z0c).length c_h0a, Value.slice A_h0b (splitC z0a z0b z0c).length c_h0b, Value.slice A_h0c (splitP z0a z0b z0c).length c_h0c] 28)
  replace k_t20 := old_cell k_t20 (Obj.cells #[Value.slice A_h0a (splitS z0a z0b z0c).length c_h0a, Value.slice A_h0b (splitC z0a z0b z0c).length c_h0b, Value.slice A_h0c (splitP z0a z0b z0c).length c_h0c] 28)
  replace k_t21 := old_cell k_t21 (Obj.cells #[Value.slice A_h0a (splitS z0a z0b z0c).length c_h0a, Value.slice A_h0b (splitC z0a z0b z0c).length c_h0b, Value.slice A_h0c (splitP z0a z0b z0c).length c_h0c] 28)
  replace k_t22 := old_cell k_t22 (Obj.cells #[Value.slice A_h0a (splitS z0a z0b z0c).length c_h0a, Value.slice A_h0b (splitC z0a z0b z0c).length c_h0b, Value.slice A_h0c (splitP z0a z0b z0c).length c_h0c] 28)
  replace k_g00 := old_cell k_g00 (Obj.cells #[Value.slice A_h0a (splitS z0a z0b z0c).length c_h0a, Value.slice A_h0b (splitC z0a z0b z0c).length c_h0b, Value.slice A_h0c (splitP z0a z0b z0c).length c_h0c] 28)
  replace k_g01 := old_cell k_g01 (Obj.cells #[Value.slice A_h0a (splitS z0a z0b z0c).length c_h0a, Value.slice A_h0b (splitC z0a z0b z0c).length c_h0b, Value.slice A_h0c (splitP z0a z0b z0c).length c_h0c] 28)
  replace k_g02 := old_cell k_g02 (Obj.cells #[Value.slice A_h0a (splitS z0a z0b z0c).length c_h0a, Value.slice A_h0b (splitC z0a z0b z0c).length c_h0b, Value.slice A_h0c (splitP z0a z0b z0c).length c_h0c] 28)
  go_wp2_with fail
  generalize w17.alloc (Obj.cells #[Value.slice A_h0a (splitS z0a z0b z0c).length c_h0a, Value.slice A_h0b (splitC z0a z0b z0c).length c_h0b, Value.slice A_h0c (splitP z0a z0b z0c).length c_h0c] 28) = w18 at *
  obtain ⟨k_h00, k_h01, k_h02⟩ := k_h0
  have y_w18 : w17.heap.size < w18.heap.size := by omega
  clear z_w18
  replace o_t1a := o_t1a.belowW b_w18
  replace o_t1b := o_t1b.belowW b_w18
  replace o_t1c := o_t1c.belowW b_w18
  replace o_w0 := o_w0.belowW b_w18
  replace mo_t2a := mo_t2a.belowW b_w18
  replace mo_t2b := mo_t2b.belowW b_w18
  replace mo_t2c := mo_t2c.belowW b_w18
  replace mo_g0 := mo_g0.belowW b_w18
  replace o_t4a := o_t4a.belowW b_w18
  replace o_t4b := o_t4b.belowW b_w18
  replace o_t4c := o_t4c.belowW b_w18
  replace o_h0 := o_h0.belowW b_w18
  replace hT := hT.trans (b_w18.mono hT.size)
  have s_w18 := b_w18.size
  clear b_w18
  go_wp2_with fail
  (with_reducible refine (eqSchool_eq _ _ _ _ _ _ _ _ _ _ _ _ _ _ _ _ _ _ _ _ _ _ o_h0.stu o_w0.stu q_h0a R_h0a.out o_h0.col o_w0.col q_h0b R_h0b.out o_h0.pla o_w0.pla q_h0c).mono ?_)
  rintro e w19 ⟨rfl, b_w19⟩
  replace o_t1a := o_t1a.belowW b_w19
  replace o_t1b := o_t1b.belowW b_w19
  replace o_t1c := o_t1c.belowW b_w19
  replace o_w0 := o_w0.belowW b_w19
  replace mo_t2a := mo_t2a.belowW b_w19
  replace mo_t2b := mo_t2b.belowW b_w19
  replace mo_t2c := mo_t2c.belowW b_w19
  replace mo_g0 := mo_g0.belowW b_w19
  replace o_t4a := o_t4a.belowW b_w19
  replace o_t4b := o_t4b.belowW b_w19
  replace o_t4c := o_t4c.belowW b_w19
  replace o_h0 := o_h0.belowW b_w19
  replace k_a0 := cell_carry b_w19 k_a0
  replace k_a1 := cell_carry b_w19 k_a1
  replace k_a2 := cell_carry b_w19 k_a2
  replace k_w00 := cell_carry b_w19 k_w00
  replace k_w01 := cell_carry b_w19 k_w01
  replace k_w02 := cell_carry b_w19 k_w02
  replace k_t20 := cell_carry b_w19 k_t20
  replace k_t21 := cell_carry b_w19 k_t21
  replace k_t22 := cell_carry b_w19 k_t22
  replace k_g00 := cell_carry b_w19 k_g00
  replace k_g01 := cell_carry b_w19 k_g01
  replace k_g02 := cell_carry b_w19 k_g02
  replace k_h00 := cell_carry b_w19 k_h00
  replace k_h01 := cell_carry b_w19 k_h01
  replace k_h02 := cell_carry b_w19 k_h02
  replace hT := hT.trans (b_w19.mono hT.size)
  have s_w19 := b_w19.size
  clear b_w19
  go_wp2_with fail
  (with_reducible refine (heldSchool_any _ _ _ _ _ _ _ _ _ _ _ _ _ _ mo_g0.stu q_g0a R_g0a.out mo_g0.col q_g0b R_g0b.out mo_g0.pla q_g0c (by omega) (by omega)).mono ?_)
  rintro e w20 ⟨rfl, b_w20⟩
  replace o_t1a := o_t1a.belowW b_w20
  replace o_t1b := o_t1b.belowW b_w20
  replace o_t1c := o_t1c.belowW b_w20
  replace o_w0 := o_w0.belowW b_w20
  replace mo_t2a := mo_t2a.belowW b_w20
  replace mo_t2b := mo_t2b.belowW b_w20
  replace mo_t2c := mo_t2c.belowW b_w20
  replace mo_g0 := mo_g0.belowW b_w20
  replace o_t4a := o_t4a.belowW b_w20
  replace o_t4b := o_t4b.belowW b_w20
  replace o_t4c := o_t4c.belowW b_w20
  replace o_h0 := o_h0.belowW b_w20
  replace k_a0 := cell_carry b_w20 k_a0
  replace k_a1 := cell_carry b_w20 k_a1
  replace k_a2 := cell_carry b_w20 k_a2
  replace k_w00 := cell_carry b_w20 k_w00
  replace k_w01 := cell_carry b_w20 k_w01
  replace k_w02 := cell_carry b_w20 k_w02
  replace k_t20 := cell_carry b_w20 k_t20
  replace k_t21 := cell_carry b_w20 k_t21
  replace k_t22 := cell_carry b_w20 k_t22
  replace k_g00 := cell_carry b_w20 k_g00
  replace k_g01 := cell_carry b_w20 k_g01
  replace k_g02 := cell_carry b_w20 k_g02
  replace k_h00 := cell_carry b_w20 k_h00
  replace k_h01 := cell_carry b_w20 k_h01
  replace k_h02 := cell_carry b_w20 k_h02
  replace hT := hT.trans (b_w20.mono hT.size)
  have s_w20 := b_w20.size
  clear b_w20
  go_wp2_with fail
  go_ret
  exact ⟨rfl, hT⟩
end Go.Proofs.Ytmakbndlobaaaaa
namespace Go.Proofs.Ytmakbndlobaaaaa.fnExactSplitSchool
open Go.ChangeShapes Go.WideShapes Go.ChangeAt Go.RowKit
open Go.ChangeMaps (open_string shut_string)
set_option linter.unusedVariables false

set_option maxRecDepth 100000 in
theorem lifted (os : Os) (started : os.Started) (H : Type) (enc : TypeId × Value → H) :
    ReturnsInHanded {} Try.checked os 7 .any (Rows.fnExactSplitSchoolSpec.pre6 enc Try.prog Try.f7 Rows.fnExactSplitSchoolRow.domain false) (Rows.fnExactSplitSchoolSpec.post enc Try.prog Try.f7 false true false false) := by
  refine returnsInHanded_of_change (C := Try.checked) own started (by kernel_rfl) Try.func7
    (ChangeSpec.witness6 (enc := enc) (C := Try.checked) false ⟨#[], #[.agg #[.slice none 0 0, .slice none 0 0, .slice none 0 0]], []⟩ 8 (by kernel_rfl) (by kernel_rfl) (by kernel_rfl) (by kernel_rfl)) ?_
  intro W base args ds gs before hval0 hW hcnd _
  have hval : ∀ (j : Nat) t v, Try.f7.params[j]? = some t → args[j]? = some v → Value.okWide Try.prog W .any base t v := hval0
  have hW' := hW
  obtain ⟨p, q, hA0, hV, rfl, hfz, hnd⟩ := hW
  have hA : DataW.TrodAll enc Try.prog W 0 (fun _ => true) true Try.f7.params.toList args.toList ds p := hA0
  rw [Try.params7] at hA hval
  obtain ⟨v0, vs0, d0, ds0, p0, q0, hargs, rfl, rfl, h0, r0⟩ := trodAll_cons hA
  obtain ⟨rfl, rfl, rfl⟩ := trodAll_nil r0
  obtain rfl : args = #[v0] := by cases args; simp_all
  obtain ⟨rfl, rfl⟩ := trodVars_none hV
  have k0 := h0
  have lt0 : ∀ x ∈ p0, x.block < W.heap.size := by obtain ⟨m, hm⟩ := k0; exact DataW.trod_lt m _ _ _ hm
  obtain ⟨am0, nm0, cm0, zm0, aw0, nw0, cw0, zw0, ap0, np0, cp0, zp0, rfl, hm0, fm0, lm0, mm0, hw0, fw0, lw0, mw0, hp0, fp0, lp0, mp0⟩ := school_open (hval 0 25 v0 rfl rfl) h0
  clear hA0 hval0
  refine (law_FnExactSplitSchool W am0 nm0 cm0 zm0 aw0 nw0 cw0 zw0 ap0 np0 cp0 zp0 hm0 fm0 lm0 mm0 hw0 fw0 lw0 mw0 hp0 fp0 lp0 mp0).mono fun e W' ⟨he, bel⟩ => ?_
  subst he
  exact ⟨_, rfl, _, _, _, [], _, [], hW', trodAll_mk1 (shut_bool Try.underlying4 _), (trodAll_cons_mk (Below.trod laidOut (by kernel_rfl) (of_decide_eq_true (by kernel_rfl)) k0 bel lt0) trodAll_mk0), rfl, bel.frame _, fun h => by cases h⟩

theorem over : Rows.fnExactSplitSchoolRow.holds Try.pinned (OpenSpec.ofChange Rows.fnExactSplitSchoolSpec) :=
  OpenClaim.holds_of_wide 7 Try.f7 rfl rfl rfl rfl rfl rfl rfl ⟨rfl, rfl, rfl, rfl, rfl⟩ rfl rfl rfl rfl rfl (by kernel_rfl) Try.func7 (by kernel_rfl)
    (of_decide_eq_true (by kernel_rfl)) (by unfold Func.isWrapper; first | (rw [if_pos (by decide +kernel)]; kernel_rfl) | (rw [if_neg (by decide +kernel)]; exact ⟨rfl, rfl⟩))
    (fun os started H enc _ => lifted os started H enc)

theorem proved : Rows.FnExactSplitSchoolSaid := over
end Go.Proofs.Ytmakbndlobaaaaa.fnExactSplitSchool
