/- The exact law on FormatMarket: for every input the call returns true, and each argument reads as before. No condition. -/
import Derived.Test.YtnoanomihifobaaOpen
import Derived.Test.YtnoanomihifobaaFmtS
import Derived.Test.YtnoanomihifobaaLawMarket
namespace Go.Proofs.Ytnoanomihifobaa
open Go.RowKit

set_option maxHeartbeats 1000000 in
theorem law_FnExactFormatMarket (w : World) (A0a : Option Addr) (n0a c0a : Nat) (z0a : List (List Int)) (A0b : Option Addr) (n0b c0b : Nat) (z0b : List (List Int)) (h0a : RowsAt w A0a n0a z0a) (f0a : ∀ xs ∈ z0a, xs.length ≤ 9223372036854775807 ∧ ∀ x ∈ xs, (Lit.int .i64 x).wf = true) (l0a : n0a ≤ c0a) (m0a : c0a ≤ maxLen) (h0b : RowsAt w A0b n0b z0b) (f0b : ∀ xs ∈ z0b, xs.length ≤ 9223372036854775807 ∧ ∀ x ∈ xs, (Lit.int .i64 x).wf = true) (l0b : n0b ≤ c0b) (m0b : c0b ≤ maxLen) :
    Calls Try.prog 5 #[.agg #[.slice A0a n0a c0a, .slice A0b n0b c0b]] w fun e w' => e = .returned (.bool true) ∧ Below w.heap.size w w' := by
  unfold maxLen at m0a
  have HF0a := Lib.hid f0a; clear f0a
  unfold maxLen at m0b
  have HF0b := Lib.hid f0b; clear f0b
  go_enter Try.func5, Try.ntmps5
  have hT : Below w.heap.size w (w.alloc (Obj.cells #[Value.slice A0a n0a c0a, Value.slice A0b n0b c0b] 24)) := (Below.refl _ _).alloc (Nat.le_refl _) _
  have hN := World.size_alloc w (Obj.cells #[Value.slice A0a n0a c0a, Value.slice A0b n0b c0b] 24)
  have k_a := new_pair w (Value.slice A0a n0a c0a) (Value.slice A0b n0b c0b) 24 rfl
  go_wp2_with fail
  generalize (w.alloc (Obj.cells #[Value.slice A0a n0a c0a, Value.slice A0b n0b c0b] 24)) = w0 at *
  obtain ⟨k_a0, k_a1⟩ := k_a
  have s_w0 : w.heap.size < w0.heap.size := by omega
  clear hN
  go_wp2_with fail
  (with_reducible refine (szMarket_any _ _ _ _ _ _ _ _ _ _ (h0a.below hT) (by omega) (fun xs hx => (HF0a.out xs hx).1) (h0b.below hT) (by omega) (fun xs hx => (HF0b.out xs hx).1) (by omega) (by omega)).mono ?_)
  rintro e w1 ⟨r0, rfl, hr0, hq0, b_w1⟩
  replace k_a0 := cell_carry b_w1 k_a0
  replace k_a1 := cell_carry b_w1 k_a1
  replace hT := hT.trans (b_w1.mono hT.size)
  have s_w1 := b_w1.size
  clear b_w1
  by_cases hneg0 : r0 < 0
  · go_wp2_with fail
    go_ret
    exact ⟨rfl, hT⟩
  have hnn0 : 0 ≤ r0 := by omega
  obtain ⟨hs0, sm0a, hx0a, sm0b, hx0b⟩ := hr0 hnn0
  have HX0a := Lib.hid hx0a; clear hx0a
  have HX0b := Lib.hid hx0b; clear hx0b
  clear hr0 hneg0
  go_wp2_with fail
  (with_reducible refine (toMarket_any _ _ _ _ _ _ _ _ _ (h0a.below hT) sm0a HX0a.out (h0b.below hT) sm0b HX0b.out).mono ?_)
  rintro e w2 ⟨A_t1a, c_t1a, A_t1b, c_t1b, ma_t1, rfl, o_t1a, o_t1b, p_t1a, p_t1b, b_t1⟩
  replace k_a0 := cell_carry b_t1 k_a0
  replace k_a1 := cell_carry b_t1 k_a1
  replace hT := hT.trans (b_t1.mono hT.size)
  have s_w2 := b_t1.size
  clear b_t1
  go_wp2_with fail
  (with_reducible refine (specFormatMarket _ _ _ _ _ _ _ _ _ o_t1a.at_ sm0a HX0a.out o_t1b.at_ sm0b HX0b.out).mono ?_)
  rintro e w3 ⟨rfl, b_w3⟩
  replace o_t1a := o_t1a.belowW b_w3
  replace o_t1b := o_t1b.belowW b_w3
  replace k_a0 := cell_carry b_w3 k_a0
  replace k_a1 := cell_carry b_w3 k_a1
  replace hT := hT.trans (b_w3.mono hT.size)
  have s_w3 := b_w3.size
  clear b_w3
  go_wp2_with fail
  (with_reducible refine (toMarket_any _ _ _ _ _ _ _ _ _ (h0a.below hT) sm0a HX0a.out (h0b.below hT) sm0b HX0b.out).mono ?_)
  rintro e w4 ⟨A_t2a, c_t2a, A_t2b, c_t2b, ma_t2, rfl, o_t2a, o_t2b, p_t2a, p_t2b, b_t2⟩
  replace o_t1a := o_t1a.belowW b_t2
  replace o_t1b := o_t1b.belowW b_t2
  replace k_a0 := cell_carry b_t2 k_a0
  replace k_a1 := cell_carry b_t2 k_a1
  replace hT := hT.trans (b_t2.mono hT.size)
  have s_w4 := b_t2.size
  clear b_t2
  have k_t2 := new_pair w4 (Value.slice A_t2a n0a c_t2a) (Value.slice A_t2b n0b c_t2b) 27 rfl
  have b_w5 : Below w4.heap.size w4 (w4.alloc (Obj.cells #[Value.slice A_t2a n0a c_t2a, Value.slice A_t2b n0b c_t2b] 27)) := (Below.refl _ _).alloc (Nat.le_refl _) _
  have z_w5 := World.size_alloc w4 (Obj.cells #[Value.slice A_t2a n0a c_t2a, Value.slice A_t2b n0b c_t2b] 27)
  replace k_a0 := old_cell k_a0 (Obj.cells #[Value.slice A_t2a n0a c_t2a, Value.slice A_t2b n0b c_t2b] 27)
  replace k_a1 := old_cell k_a1 (Obj.cells #[Value.slice A_t2a n0a c_t2a, Value.slice A_t2b n0b c_t2b] 27)
  go_wp2_with fail
  generalize w4.alloc (Obj.cells #[Value.slice A_t2a n0a c_t2a, Value.slice A_t2b n0b c_t2b] 27) = w5 at *
  obtain ⟨k_t20, k_t21⟩ := k_t2
  have y_w5 : w4.heap.size < w5.heap.size := by omega
  clear z_w5
  replace o_t1a := o_t1a.belowW b_w5
  replace o_t1b := o_t1b.belowW b_w5
  replace o_t2a := o_t2a.belowW b_w5
  replace o_t2b := o_t2b.belowW b_w5
  replace hT := hT.trans (b_w5.mono hT.size)
  have s_w5 := b_w5.size
  clear b_w5
  go_wp2_with fail
  (with_reducible refine (implFormatMarket _ _ _ _ _ _ _ _ _ o_t2a.at_ sm0a HX0a.out o_t2b.at_ sm0b HX0b.out).mono ?_)
  rintro e w6 ⟨rfl, b_w6⟩
  replace o_t1a := o_t1a.belowW b_w6
  replace o_t1b := o_t1b.belowW b_w6
  replace o_t2a := o_t2a.belowW b_w6
  replace o_t2b := o_t2b.belowW b_w6
  replace k_a0 := cell_carry b_w6 k_a0
  replace k_a1 := cell_carry b_w6 k_a1
  replace k_t20 := cell_carry b_w6 k_t20
  replace k_t21 := cell_carry b_w6 k_t21
  replace hT := hT.trans (b_w6.mono hT.size)
  have s_w6 := b_w6.size
  clear b_w6
  go_wp2_with fail
  go_region_held3 (fun w' => w'.cell? ⟨w4.heap.size, 0, none⟩ = some (Value.slice A_t2a n0a c_t2a) ∧ w'.cell? ⟨w4.heap.size, 1, none⟩ = some (Value.slice A_t2b n0b c_t2b) ∧ w'.cell? ⟨w.heap.size, 0, none⟩ = some (Value.slice A0a n0a c0a) ∧ w'.cell? ⟨w.heap.size, 1, none⟩ = some (Value.slice A0b n0b c0b)) ((refine ⟨?_, ?_, ?_, ?_⟩ <;> (first | assumption | go_keep))) (first | (go_at_call 8; (with_reducible refine (toMarket_any _ _ _ _ _ _ _ _ _ (h0a.below hT.drew) sm0a HX0a.out (h0b.below hT.drew) sm0b HX0b.out).mono ?_); rintro e w7 ⟨A_t3a, c_t3a, A_t3b, c_t3b, ma_t3, rfl, o_t3a, o_t3b, p_t3a, p_t3b, b_t3⟩; replace b_t3 : Below w6.heap.size w6 w7 := ((Below.refl _ w6).drew).trans b_t3; replace o_t1a := o_t1a.belowW b_t3; replace o_t1b := o_t1b.belowW b_t3; replace o_t2a := o_t2a.belowW b_t3; replace o_t2b := o_t2b.belowW b_t3; replace k_a0 := cell_carry b_t3 k_a0; replace k_a1 := cell_carry b_t3 k_a1; replace k_t20 := cell_carry b_t3 k_t20; replace k_t21 := cell_carry b_t3 k_t21; replace hT := hT.trans (b_t3.mono hT.size); have s_w7 := b_t3.size; clear b_t3) | (go_at_call 10; (with_reducible refine (eqMarket_eq _ _ _ _ _ _ _ _ _ _ _ _ _ _ _ o_t2a.at_ o_t3a.at_ sm0a HX0a.out o_t2b.at_ o_t3b.at_ sm0b HX0b.out).mono ?_); rintro e w8 ⟨rfl, b_w8⟩; replace o_t1a := o_t1a.belowW b_w8; replace o_t1b := o_t1b.belowW b_w8; replace o_t2a := o_t2a.belowW b_w8; replace o_t2b := o_t2b.belowW b_w8; replace o_t3a := o_t3a.belowW b_w8; replace o_t3b := o_t3b.belowW b_w8; replace k_a0 := cell_carry b_w8 k_a0; replace k_a1 := cell_carry b_w8 k_a1; replace k_t20 := cell_carry b_w8 k_t20; replace k_t21 := cell_carry b_w8 k_t21; replace hT := hT.trans (b_w8.mono hT.size); have s_w8 := b_w8.size; clear b_w8))
  go_wp2_with fail
  go_ret
  exact ⟨rfl, hT⟩
end Go.Proofs.Ytnoanomihifobaa
namespace Go.Proofs.Ytnoanomihifobaa.fnExactFormatMarket
open Go.ChangeShapes Go.WideShapes Go.ChangeAt Go.RowKit
open Go.ChangeMaps (open_string shut_string)
set_option linter.unusedVariables false

set_option maxRecDepth 100000 in
theorem lifted (os : Os) (started : os.Started) (H : Type) (enc : TypeId × Value → H) :
    ReturnsInHanded {} Try.checked os 5 .any (Rows.fnExactFormatMarketSpec.pre6 enc Try.prog Try.f5 Rows.fnExactFormatMarketRow.domain false) (Rows.fnExactFormatMarketSpec.post enc Try.prog Try.f5 false true false false) := by
  refine returnsInHanded_of_change (C := Try.checked) own started (by kernel_rfl) Try.func5
    (ChangeSpec.witness6 (enc := enc) (C := Try.checked) false ⟨#[], #[.agg #[.slice none 0 0, .slice none 0 0]], []⟩ 8 (by kernel_rfl) (by kernel_rfl) (by kernel_rfl) (by kernel_rfl)) ?_
  intro W base args ds gs before hval0 hW hcnd _
  have hval : ∀ (j : Nat) t v, Try.f5.params[j]? = some t → args[j]? = some v → Value.okWide Try.prog W .any base t v := hval0
  have hW' := hW
  obtain ⟨p, q, hA0, hV, rfl, hfz, hnd⟩ := hW
  have hA : DataW.TrodAll enc Try.prog W 0 (fun _ => true) true Try.f5.params.toList args.toList ds p := hA0
  rw [Try.params5] at hA hval
  obtain ⟨v0, vs0, d0, ds0, p0, q0, hargs, rfl, rfl, h0, r0⟩ := trodAll_cons hA
  obtain ⟨rfl, rfl, rfl⟩ := trodAll_nil r0
  obtain rfl : args = #[v0] := by cases args; simp_all
  obtain ⟨rfl, rfl⟩ := trodVars_none hV
  have k0 := h0
  have lt0 : ∀ x ∈ p0, x.block < W.heap.size := by obtain ⟨m, hm⟩ := k0; exact DataW.trod_lt m _ _ _ hm
  obtain ⟨am0, nm0, cm0, zm0, aw0, nw0, cw0, zw0, rfl, hm0, fm0, lm0, mm0, hw0, fw0, lw0, mw0⟩ := market_open (hval 0 24 v0 rfl rfl) h0
  clear hA0 hval0
  refine (law_FnExactFormatMarket W am0 nm0 cm0 zm0 aw0 nw0 cw0 zw0 hm0 fm0 lm0 mm0 hw0 fw0 lw0 mw0).mono fun e W' ⟨he, bel⟩ => ?_
  subst he
  exact ⟨_, rfl, _, _, _, [], _, [], hW', trodAll_mk1 (shut_bool Try.underlying4 _), (trodAll_cons_mk (Below.trod laidOut (by kernel_rfl) (of_decide_eq_true (by kernel_rfl)) k0 bel lt0) trodAll_mk0), rfl, bel.frame _, fun h => by cases h⟩

theorem over : Rows.fnExactFormatMarketRow.holds Try.pinned (OpenSpec.ofChange Rows.fnExactFormatMarketSpec) :=
  OpenClaim.holds_of_wide 5 Try.f5 rfl rfl rfl rfl rfl rfl rfl ⟨rfl, rfl, rfl, rfl, rfl⟩ rfl rfl rfl rfl rfl (by kernel_rfl) Try.func5 (by kernel_rfl)
    (of_decide_eq_true (by kernel_rfl)) (by unfold Func.isWrapper; first | (rw [if_pos (by decide +kernel)]; kernel_rfl) | (rw [if_neg (by decide +kernel)]; exact ⟨rfl, rfl⟩))
    (fun os started H enc _ => lifted os started H enc)

theorem proved : Rows.FnExactFormatMarketSaid := over
end Go.Proofs.Ytnoanomihifobaa.fnExactFormatMarket
