/- The exact law on IsStableEntry: for every input the call returns true, and each argument reads as before. No condition. -/
import Derived.Test.YtmakbndlobaaaaaOpen
import Derived.Test.YtmakbndlobaaaaaEntryBI
import Derived.Test.YtmakbndlobaaaaaEntryBS
import Derived.Test.YtmakbndlobaaaaaLawSchool
namespace Go.Proofs.Ytmakbndlobaaaaa
open Go.RowKit

set_option maxHeartbeats 1000000 in
theorem law_FnExactIsStableEntry (w : World) (A0a : Option Addr) (n0a c0a : Nat) (z0a : List (List Int)) (A0b : Option Addr) (n0b c0b : Nat) (z0b : List (List Int)) (A0c : Option Addr) (n0c c0c : Nat) (z0c : List Int) (h0a : RowsAt w A0a n0a z0a) (f0a : ∀ xs ∈ z0a, xs.length ≤ 9223372036854775807 ∧ ∀ x ∈ xs, (Lit.int .i64 x).wf = true) (l0a : n0a ≤ c0a) (m0a : c0a ≤ maxLen) (h0b : RowsAt w A0b n0b z0b) (f0b : ∀ xs ∈ z0b, xs.length ≤ 9223372036854775807 ∧ ∀ x ∈ xs, (Lit.int .i64 x).wf = true) (l0b : n0b ≤ c0b) (m0b : c0b ≤ maxLen) (h0c : IntsAt w A0c n0c z0c) (f0c : ∀ x ∈ z0c, (Lit.int .i64 x).wf = true) (l0c : n0c ≤ c0c) (m0c : c0c ≤ maxLen) (A1 : Option Addr) (n1 c1 : Nat) (z1 : List Int) (h1 : IntsAt w A1 n1 z1) (f1 : ∀ x ∈ z1, (Lit.int .i64 x).wf = true) (l1 : n1 ≤ c1) (m1 : c1 ≤ maxLen) :
    Calls Try.prog 6 #[.agg #[.slice A0a n0a c0a, .slice A0b n0b c0b, .slice A0c n0c c0c], .slice A1 n1 c1] w fun e w' => e = .returned (.bool true) ∧ Below w.heap.size w w' := by
  unfold maxLen at m0a
  have HF0a := Lib.hid f0a; clear f0a
  unfold maxLen at m0b
  have HF0b := Lib.hid f0b; clear f0b
  unfold maxLen at m0c
  have HF0c := Lib.hid f0c; clear f0c
  unfold maxLen at m1
  have HF1 := Lib.hid f1; clear f1
  by_cases big1 : 1048576 < n1
  · go_enter Try.func6, Try.ntmps6
    go_wp2_with fail
    go_ret
    exact ⟨rfl, (Below.refl _ _).alloc (Nat.le_refl _) _⟩
  have sm1 : n1 ≤ 1048576 := by omega
  clear big1
  go_enter Try.func6, Try.ntmps6
  have hT : Below w.heap.size w (w.alloc (Obj.cells #[Value.slice A0a n0a c0a, Value.slice A0b n0b c0b, Value.slice A0c n0c c0c] 25)) := (Below.refl _ _).alloc (Nat.le_refl _) _
  have hN := World.size_alloc w (Obj.cells #[Value.slice A0a n0a c0a, Value.slice A0b n0b c0b, Value.slice A0c n0c c0c] 25)
  have k_a := new_triple w (Value.slice A0a n0a c0a) (Value.slice A0b n0b c0b) (Value.slice A0c n0c c0c) 25 rfl
  go_wp2_with fail
  generalize (w.alloc (Obj.cells #[Value.slice A0a n0a c0a, Value.slice A0b n0b c0b, Value.slice A0c n0c c0c] 25)) = w0 at *
  obtain ⟨k_a0, k_a1, k_a2⟩ := k_a
  have s_w0 : w.heap.size < w0.heap.size := by omega
  clear hN
  go_wp2_with fail
  (with_reducible refine (szSchool_any _ _ _ _ _ _ _ _ _ _ _ _ _ _ (h0a.below hT) (by omega) (fun xs hx => (HF0a.out xs hx).1) (h0b.below hT) (by omega) (fun xs hx => (HF0b.out xs hx).1) (h0c.below hT) (by omega) (by omega) (by omega)).mono ?_)
  rintro e w1 ⟨r0, rfl, hr0, hq0, b_w1⟩
  replace k_a0 := cell_carry b_w1 k_a0
  replace k_a1 := cell_carry b_w1 k_a1
  replace k_a2 := cell_carry b_w1 k_a2
  replace hT := hT.trans (b_w1.mono hT.size)
  have s_w1 := b_w1.size
  clear b_w1
  by_cases hneg0 : r0 < 0
  · go_wp2_with fail
    go_ret
    exact ⟨rfl, hT⟩
  have hnn0 : 0 ≤ r0 := by omega
  obtain ⟨hs0, sm0a, hx0a, sm0b, hx0b, sm0c⟩ := hr0 hnn0
  have HX0a := Lib.hid hx0a; clear hx0a
  have HX0b := Lib.hid hx0b; clear hx0b
  clear hr0 hneg0
  go_wp2_with fail
  (with_reducible refine (toSchool_any _ _ _ _ _ _ _ _ _ _ _ _ _ (h0a.below hT) sm0a HX0a.out (h0b.below hT) sm0b HX0b.out (h0c.below hT) sm0c).mono ?_)
  rintro e w2 ⟨A_t1a, c_t1a, A_t1b, c_t1b, A_t1c, c_t1c, ma_t1, mb_t1, rfl, o_t1a, o_t1b, o_t1c, p_t1a, p_t1b, p_t1c, b_t1⟩
  replace k_a0 := cell_carry b_t1 k_a0
  replace k_a1 := cell_carry b_t1 k_a1
  replace k_a2 := cell_carry b_t1 k_a2
  replace hT := hT.trans (b_t1.mono hT.size)
  have s_w2 := b_t1.size
  clear b_t1
  go_wp2_with fail
  (with_reducible refine (toIntS_any _ _ _ _ _ (h1.below hT) sm1).mono ?_)
  rintro e w3 ⟨A_t2, c_t2, rfl, o_t2, b_t2⟩
  replace o_t1a := o_t1a.belowW b_t2
  replace o_t1b := o_t1b.belowW b_t2
  replace o_t1c := o_t1c.belowW b_t2
  replace k_a0 := cell_carry b_t2 k_a0
  replace k_a1 := cell_carry b_t2 k_a1
  replace k_a2 := cell_carry b_t2 k_a2
  replace hT := hT.trans (b_t2.mono hT.size)
  have s_w3 := b_t2.size
  clear b_t2
  go_wp2_with fail
  (with_reducible refine (specIsStableEntry _ _ _ _ _ _ _ _ _ _ _ _ _ _ _ _ _ o_t1a.at_ sm0a HX0a.out o_t1b.at_ sm0b HX0b.out o_t1c.at_ sm0c o_t2.at_ sm1).mono ?_)
  rintro e w4 ⟨rfl, b_w4⟩
  replace o_t1a := o_t1a.belowW b_w4
  replace o_t1b := o_t1b.belowW b_w4
  replace o_t1c := o_t1c.belowW b_w4
  replace o_t2 := o_t2.belowW b_w4
  replace k_a0 := cell_carry b_w4 k_a0
  replace k_a1 := cell_carry b_w4 k_a1
  replace k_a2 := cell_carry b_w4 k_a2
  replace hT := hT.trans (b_w4.mono hT.size)
  have s_w4 := b_w4.size
  clear b_w4
  go_wp2_with fail
  (with_reducible refine (toSchool_any _ _ _ _ _ _ _ _ _ _ _ _ _ (h0a.below hT) sm0a HX0a.out (h0b.below hT) sm0b HX0b.out (h0c.below hT) sm0c).mono ?_)
  rintro e w5 ⟨A_t3a, c_t3a, A_t3b, c_t3b, A_t3c, c_t3c, ma_t3, mb_t3, rfl, o_t3a, o_t3b, o_t3c, p_t3a, p_t3b, p_t3c, b_t3⟩
  replace o_t1a := o_t1a.belowW b_t3
  replace o_t1b := o_t1b.belowW b_t3
  replace o_t1c := o_t1c.belowW b_t3
  replace o_t2 := o_t2.belowW b_t3
  replace k_a0 := cell_carry b_t3 k_a0
  replace k_a1 := cell_carry b_t3 k_a1
  replace k_a2 := cell_carry b_t3 k_a2
  replace hT := hT.trans (b_t3.mono hT.size)
  have s_w5 := b_t3.size
  clear b_t3
  have k_t3 := new_triple w5 (Value.slice A_t3a n0a c_t3a) (Value.slice A_t3b n0b c_t3b) (Value.slice A_t3c n0c c_t3c) 28 rfl
  have b_w6 : Below w5.heap.size w5 (w5.alloc (Obj.cells #[Value.slice A_t3a n0a c_t3a, Value.slice A_t3b n0b c_t3b, Value.slice A_t3c n0c c_t3c] 28)) := (Below.refl _ _).alloc (Nat.le_refl _) _
  have z_w6 := World.size_alloc w5 (Obj.cells #[Value.slice A_t3a n0a c_t3a, Value.slice A_t3b n0b c_t3b, Value.slice A_t3c n0c c_t3c] 28)
  replace k_a0 := old_cell k_a0 (Obj.cells #[Value.slice A_t3a n0a c_t3a, Value.slice A_t3b n0b c_t3b, Value.slice A_t3c n0c c_t3c] 28)
  replace k_a1 := old_cell k_a1 (Obj.cells #[Value.slice A_t3a n0a c_t3a, Value.slice A_t3b n0b c_t3b, Value.slice A_t3c n0c c_t3c] 28)
  replace k_a2 := old_cell k_a2 (Obj.cells #[Value.slice A_t3a n0a c_t3a, Value.slice A_t3b n0b c_t3b, Value.slice A_t3c n0c c_t3c] 28)
  go_wp2_with fail
  generalize w5.alloc (Obj.cells #[Value.slice A_t3a n0a c_t3a, Value.slice A_t3b n0b c_t3b, Value.slice A_t3c n0c c_t3c] 28) = w6 at *
  obtain ⟨k_t30, k_t31, k_t32⟩ := k_t3
  have y_w6 : w5.heap.size < w6.heap.size := by omega
  clear z_w6
  replace o_t1a := o_t1a.belowW b_w6
  replace o_t1b := o_t1b.belowW b_w6
  replace o_t1c := o_t1c.belowW b_w6
  replace o_t2 := o_t2.belowW b_w6
  replace o_t3a := o_t3a.belowW b_w6
  replace o_t3b := o_t3b.belowW b_w6
  replace o_t3c := o_t3c.belowW b_w6
  replace hT := hT.trans (b_w6.mono hT.size)
  have s_w6 := b_w6.size
  clear b_w6
  go_wp2_with fail
  (with_reducible refine (toIntS_any _ _ _ _ _ (h1.below hT) sm1).mono ?_)
  rintro e w7 ⟨A_t4, c_t4, rfl, o_t4, b_t4⟩
  replace o_t1a := o_t1a.belowW b_t4
  replace o_t1b := o_t1b.belowW b_t4
  replace o_t1c := o_t1c.belowW b_t4
  replace o_t2 := o_t2.belowW b_t4
  replace o_t3a := o_t3a.belowW b_t4
  replace o_t3b := o_t3b.belowW b_t4
  replace o_t3c := o_t3c.belowW b_t4
  replace k_a0 := cell_carry b_t4 k_a0
  replace k_a1 := cell_carry b_t4 k_a1
  replace k_a2 := cell_carry b_t4 k_a2
  replace k_t30 := cell_carry b_t4 k_t30
  replace k_t31 := cell_carry b_t4 k_t31
  replace k_t32 := cell_carry b_t4 k_t32
  replace hT := hT.trans (b_t4.mono hT.size)
  have s_w7 := b_t4.size
  clear b_t4
  go_wp2_with fail
  (with_reducible refine (implIsStableEntry _ _ _ _ _ _ _ _ _ _ _ _ _ _ _ _ _ o_t3a.at_ sm0a HX0a.out o_t3b.at_ sm0b HX0b.out o_t3c.at_ sm0c o_t4.at_ sm1).mono ?_)
  rintro e w8 ⟨rfl, b_w8⟩
  replace o_t1a := o_t1a.belowW b_w8
  replace o_t1b := o_t1b.belowW b_w8
  replace o_t1c := o_t1c.belowW b_w8
  replace o_t2 := o_t2.belowW b_w8
  replace o_t3a := o_t3a.belowW b_w8
  replace o_t3b := o_t3b.belowW b_w8
  replace o_t3c := o_t3c.belowW b_w8
  replace o_t4 := o_t4.belowW b_w8
  replace k_a0 := cell_carry b_w8 k_a0
  replace k_a1 := cell_carry b_w8 k_a1
  replace k_a2 := cell_carry b_w8 k_a2
  replace k_t30 := cell_carry b_w8 k_t30
  replace k_t31 := cell_carry b_w8 k_t31
  replace k_t32 := cell_carry b_w8 k_t32
  replace hT := hT.trans (b_w8.mono hT.size)
  have s_w8 := b_w8.size
  clear b_w8
  go_wp2_with fail
  go_region_held3 (fun w' => w'.cell? ⟨w5.heap.size, 0, none⟩ = some (Value.slice A_t3a n0a c_t3a) ∧ w'.cell? ⟨w5.heap.size, 1, none⟩ = some (Value.slice A_t3b n0b c_t3b) ∧ w'.cell? ⟨w5.heap.size, 2, none⟩ = some (Value.slice A_t3c n0c c_t3c) ∧ w'.cell? ⟨w.heap.size, 0, none⟩ = some (Value.slice A0a n0a c0a) ∧ w'.cell? ⟨w.heap.size, 1, none⟩ = some (Value.slice A0b n0b c0b) ∧ w'.cell? ⟨w.heap.size, 2, none⟩ = some (Value.slice A0c n0c c0c)) ((refine ⟨?_, ?_, ?_, ?_, ?_, ?_⟩ <;> (first | assumption | go_keep))) (first | (go_at_call 10; (with_reducible refine (toSchool_any _ _ _ _ _ _ _ _ _ _ _ _ _ (h0a.below hT.drew) sm0a HX0a.out (h0b.below hT.drew) sm0b HX0b.out (h0c.below hT.drew) sm0c).mono ?_); rintro e w9 ⟨A_t5a, c_t5a, A_t5b, c_t5b, A_t5c, c_t5c, ma_t5, mb_t5, rfl, o_t5a, o_t5b, o_t5c, p_t5a, p_t5b, p_t5c, b_t5⟩; replace b_t5 : Below w8.heap.size w8 w9 := ((Below.refl _ w8).drew).trans b_t5; replace o_t1a := o_t1a.belowW b_t5; replace o_t1b := o_t1b.belowW b_t5; replace o_t1c := o_t1c.belowW b_t5; replace o_t2 := o_t2.belowW b_t5; replace o_t3a := o_t3a.belowW b_t5; replace o_t3b := o_t3b.belowW b_t5; replace o_t3c := o_t3c.belowW b_t5; replace o_t4 := o_t4.belowW b_t5; replace k_a0 := cell_carry b_t5 k_a0; replace k_a1 := cell_carry b_t5 k_a1; replace k_a2 := cell_carry b_t5 k_a2; replace k_t30 := cell_carry b_t5 k_t30; replace k_t31 := cell_carry b_t5 k_t31; replace k_t32 := cell_carry b_t5 k_t32; replace hT := hT.trans (b_t5.mono hT.size); have s_w9 := b_t5.size; clear b_t5) | (go_at_call 12; (with_reducible refine (eqSchool_eq _ _ _ _ _ _ _ _ _ _ _ _ _ _ _ _ _ _ _ _ _ _ o_t3a.at_ o_t5a.at_ sm0a HX0a.out o_t3b.at_ o_t5b.at_ sm0b HX0b.out o_t3c.at_ o_t5c.at_ sm0c).mono ?_); rintro e w10 ⟨rfl, b_w10⟩; replace o_t1a := o_t1a.belowW b_w10; replace o_t1b := o_t1b.belowW b_w10; replace o_t1c := o_t1c.belowW b_w10; replace o_t2 := o_t2.belowW b_w10; replace o_t3a := o_t3a.belowW b_w10; replace o_t3b := o_t3b.belowW b_w10; replace o_t3c := o_t3c.belowW b_w10; replace o_t4 := o_t4.belowW b_w10; replace o_t5a := o_t5a.belowW b_w10; replace o_t5b := o_t5b.belowW b_w10; replace o_t5c := o_t5c.belowW b_w10; replace k_a0 := cell_carry b_w10 k_a0; replace k_a1 := cell_carry b_w10 k_a1; replace k_a2 := cell_carry b_w10 k_a2; replace k_t30 := cell_carry b_w10 k_t30; replace k_t31 := cell_carry b_w10 k_t31; replace k_t32 := cell_carry b_w10 k_t32; replace hT := hT.trans (b_w10.mono hT.size); have s_w10 := b_w10.size; clear b_w10))
  go_wp2_with fail
  (with_reducible refine (toIntS_any _ _ _ _ _ (h1.below hT) sm1).mono ?_)
  rintro e w11 ⟨A_t6, c_t6, rfl, o_t6, b_t6⟩
  replace o_t1a := o_t1a.belowW b_t6
  replace o_t1b := o_t1b.belowW b_t6
  replace o_t1c := o_t1c.belowW b_t6
  replace o_t2 := o_t2.belowW b_t6
  replace o_t3a := o_t3a.belowW b_t6
  replace o_t3b := o_t3b.belowW b_t6
  replace o_t3c := o_t3c.belowW b_t6
  replace o_t4 := o_t4.belowW b_t6
  replace k_a0 := cell_carry b_t6 k_a0
  replace k_a1 := cell_carry b_t6 k_a1
  replace k_a2 := cell_carry b_t6 k_a2
  replace k_t30 := cell_carry b_t6 k_t30
  replace k_t31 := cell_carry b_t6 k_t31
  replace k_t32 := cell_carry b_t6 k_t32
  replace hT := hT.trans (b_t6.mono hT.size)
  have s_w11 := b_t6.size
  clear b_t6
  go_wp2_with fail
  (with_reducible refine (eqIntS_eq _ _ _ _ _ _ _ _ o_t4.at_ o_t6.at_ (Nat.le_trans sm1 (by omega))).mono ?_)
  rintro e w12 ⟨rfl, md, hd_w12⟩
  have b_w12 : Below w11.heap.size w11 w12 := below_of_drewN hd_w12
  clear hd_w12
  replace o_t1a := o_t1a.belowW b_w12
  replace o_t1b := o_t1b.belowW b_w12
  replace o_t1c := o_t1c.belowW b_w12
  replace o_t2 := o_t2.belowW b_w12
  replace o_t3a := o_t3a.belowW b_w12
  replace o_t3b := o_t3b.belowW b_w12
  replace o_t3c := o_t3c.belowW b_w12
  replace o_t4 := o_t4.belowW b_w12
  replace o_t6 := o_t6.belowW b_w12
  replace k_a0 := cell_carry b_w12 k_a0
  replace k_a1 := cell_carry b_w12 k_a1
  replace k_a2 := cell_carry b_w12 k_a2
  replace k_t30 := cell_carry b_w12 k_t30
  replace k_t31 := cell_carry b_w12 k_t31
  replace k_t32 := cell_carry b_w12 k_t32
  replace hT := hT.trans (b_w12.mono hT.size)
  have s_w12 := b_w12.size
  clear b_w12
  go_wp2_with fail
  go_ret
  exact ⟨rfl, hT⟩
end Go.Proofs.Ytmakbndlobaaaaa
namespace Go.Proofs.Ytmakbndlobaaaaa.fnExactIsStableEntry
open Go.ChangeShapes Go.WideShapes Go.ChangeAt Go.RowKit
open Go.ChangeMaps (open_string shut_string)
set_option linter.unusedVariables false

set_option maxRecDepth 100000 in
theorem lifted (os : Os) (started : os.Started) (H : Type) (enc : TypeId × Value → H) :
    ReturnsInHanded {} Try.checked os 6 .any (Rows.fnExactIsStableEntrySpec.pre6 enc Try.prog Try.f6 Rows.fnExactIsStableEntryRow.domain false) (Rows.fnExactIsStableEntrySpec.post enc Try.prog Try.f6 false true false false) := by
  refine returnsInHanded_of_change (C := Try.checked) own started (by kernel_rfl) Try.func6
    (ChangeSpec.witness6 (enc := enc) (C := Try.checked) false ⟨#[], #[.agg #[.slice none 0 0, .slice none 0 0, .slice none 0 0], .slice none 0 0], []⟩ 8 (by kernel_rfl) (by kernel_rfl) (by kernel_rfl) (by kernel_rfl)) ?_
  intro W base args ds gs before hval0 hW hcnd _
  have hval : ∀ (j : Nat) t v, Try.f6.params[j]? = some t → args[j]? = some v → Value.okWide Try.prog W .any base t v := hval0
  have hW' := hW
  obtain ⟨p, q, hA0, hV, rfl, hfz, hnd⟩ := hW
  have hA : DataW.TrodAll enc Try.prog W 0 (fun _ => true) true Try.f6.params.toList args.toList ds p := hA0
  rw [Try.params6] at hA hval
  obtain ⟨v0, vs0, d0, ds0, p0, q0, hargs, rfl, rfl, h0, r0⟩ := trodAll_cons hA
  obtain ⟨v1, vs1, d1, ds1, p1, q1, rfl, rfl, rfl, h1, r1⟩ := trodAll_cons r0
  obtain ⟨rfl, rfl, rfl⟩ := trodAll_nil r1
  obtain rfl : args = #[v0, v1] := by cases args; simp_all
  obtain ⟨rfl, rfl⟩ := trodVars_none hV
  have k0 := h0
  have lt0 : ∀ x ∈ p0, x.block < W.heap.size := by obtain ⟨m, hm⟩ := k0; exact DataW.trod_lt m _ _ _ hm
  obtain ⟨am0, nm0, cm0, zm0, aw0, nw0, cw0, zw0, ap0, np0, cp0, zp0, rfl, hm0, fm0, lm0, mm0, hw0, fw0, lw0, mw0, hp0, fp0, lp0, mp0⟩ := school_open (hval 0 25 v0 rfl rfl) h0
  have k1 := h1
  have lt1 : ∀ x ∈ p1, x.block < W.heap.size := by obtain ⟨m, hm⟩ := k1; exact DataW.trod_lt m _ _ _ hm
  obtain ⟨a1, len1, cap1, rfl⟩ := okWide_slice Try.underlying23 (hval 1 23 v1 rfl rfl)
  obtain ⟨z1, w1, f1, l1, m1⟩ := ints_open h1
  clear hA0 hval0
  refine (law_FnExactIsStableEntry W am0 nm0 cm0 zm0 aw0 nw0 cw0 zw0 ap0 np0 cp0 zp0 hm0 fm0 lm0 mm0 hw0 fw0 lw0 mw0 hp0 fp0 lp0 mp0 a1 len1 cap1 z1 w1 f1 l1 m1).mono fun e W' ⟨he, bel⟩ => ?_
  subst he
  exact ⟨_, rfl, _, _, _, [], _, [], hW', trodAll_mk1 (shut_bool Try.underlying4 _), (trodAll_cons_mk (Below.trod laidOut (by kernel_rfl) (of_decide_eq_true (by kernel_rfl)) k0 bel lt0) (trodAll_cons_mk (Below.trod laidOut (by kernel_rfl) (of_decide_eq_true (by kernel_rfl)) k1 bel lt1) trodAll_mk0)), rfl, bel.frame _, fun h => by cases h⟩

theorem over : Rows.fnExactIsStableEntryRow.holds Try.pinned (OpenSpec.ofChange Rows.fnExactIsStableEntrySpec) :=
  OpenClaim.holds_of_wide 6 Try.f6 rfl rfl rfl rfl rfl rfl rfl ⟨rfl, rfl, rfl, rfl, rfl⟩ rfl rfl rfl rfl rfl (by kernel_rfl) Try.func6 (by kernel_rfl)
    (of_decide_eq_true (by kernel_rfl)) (by unfold Func.isWrapper; first | (rw [if_pos (by decide +kernel)]; kernel_rfl) | (rw [if_neg (by decide +kernel)]; exact ⟨rfl, rfl⟩))
    (fun os started H enc _ => lifted os started H enc)

theorem proved : Rows.FnExactIsStableEntrySaid := over
end Go.Proofs.Ytmakbndlobaaaaa.fnExactIsStableEntry
