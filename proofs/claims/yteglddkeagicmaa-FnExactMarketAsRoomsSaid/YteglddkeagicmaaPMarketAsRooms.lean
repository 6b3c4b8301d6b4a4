/- The exact law on MarketAsRooms: for every input the call returns true, and each argument reads as before. No condition. -/
import Derived.Test.YteglddkeagicmaaOpen
import Derived.Test.YteglddkeagicmaaAsRoomsS
import Derived.Test.YteglddkeagicmaaLawMarket
namespace Go.Proofs.Yteglddkeagicmaa
open Go.RowKit

set_option maxHeartbeats 1000000 in
theorem law_FnExactMarketAsRooms (w : World) (A0a : Option Addr) (n0a c0a : Nat) (z0a : List (List Int)) (A0b : Option Addr) (n0b c0b : Nat) (z0b : List (List Int)) (h0a : RowsAt w A0a n0a z0a) (f0a : ∀ xs ∈ z0a, xs.length ≤ 9223372036854775807 ∧ ∀ x ∈ xs, (Lit.int .i64 x).wf = true) (l0a : n0a ≤ c0a) (m0a : c0a ≤ maxLen) (h0b : RowsAt w A0b n0b z0b) (f0b : ∀ xs ∈ z0b, xs.length ≤ 9223372036854775807 ∧ ∀ x ∈ xs, (Lit.int .i64 x).wf = true) (l0b : n0b ≤ c0b) (m0b : c0b ≤ maxLen) :
    Calls Try.prog 11 #[.agg #[.slice A0a n0a c0a, .slice A0b n0b c0b]] w fun e w' => e = .returned (.bool true) ∧ Below w.heap.size w w' := by
  unfold maxLen at m0a
  have HF0a := Lib.hid f0a; clear f0a
  unfold maxLen at m0b
  have HF0b := Lib.hid f0b; clear f0b
  go_enter Try.func11, Try.ntmps11
  have hT : Below w.heap.size w (w.alloc (Obj.cells #[Value.slice A0a n0a c0a, Value.slice A0b n0b c0b] 40)) := (Below.refl _ _).alloc (Nat.le_refl _) _
  have hN := World.size_alloc w (Obj.cells #[Value.slice A0a n0a c0a, Value.slice A0b n0b c0b] 40)
  have k_a := new_pair w (Value.slice A0a n0a c0a) (Value.slice A0b n0b c0b) 40 rfl
  go_wp2_with fail
  generalize (w.alloc (Obj.cells #[Value.slice A0a n0a c0a, Value.slice A0b n0b c0b] 40)) = w0 at *
  obtain ⟨k_a0, k_a1⟩ := k_a
  have s_w0 : w.heap.size < w0.heap.size := by omega
  clear hN
  go_wp2_with fail
  (with_reducible refine (szMarket_any _ _ _ _ _ _ _ _ _ _ (h0a.below hT) (by omega) (fun xs hx => (HF0a.out xs hx).1) (h0b.below hT) (by omega) (fun xs hx => (HF0b.out xs hx).1) (by omega) (by omega)).mono ?_)
  rintro e w1 ⟨r0, rfl, hr0, hq0, b_w1⟩
  replace k_a0 := cell_carry b_w1 k_a0
  replace k_a1 := cell_carry b_w1 k_a1
  replace hT := hT.trans (b_w1.mono hT.size)
  have s_w1 := b_w1.size
  clear b_w1
  by_cases hneg0 : r0 < 0
  · go_wp2_with fail
    go_ret
    exact ⟨rfl, hT⟩
  have hnn0 : 0 ≤ r0 := by omega
  obtain ⟨hs0, sm0a, hx0a, sm0b, hx0b⟩ := hr0 hnn0
  have HX0a := Lib.hid hx0a; clear hx0a
  have HX0b := Lib.hid hx0b; clear hx0b
  clear hr0 hneg0
  go_wp2_with fail
  (with_reducible refine (toMarket_any _ _ _ _ _ _ _ _ _ (h0a.below hT) sm0a HX0a.out (h0b.below hT) sm0b HX0b.out).mono ?_)
  rintro e w2 ⟨A_t1a, c_t1a, A_t1b, c_t1b, ma_t1, rfl, o_t1a, o_t1b, p_t1a, p_t1b, b_t1⟩
  replace k_a0 := cell_carry b_t1 k_a0
  replace k_a1 := cell_carry b_t1 k_a1
  replace hT := hT.trans (b_t1.mono hT.size)
  have s_w2 := b_t1.size
  clear b_t1
  go_wp2_with fail
  (with_reducible refine (specMarketAsRooms _ _ _ _ _ _ _ _ _ o_t1a.at_ sm0a HX0a.out o_t1b.at_ sm0b HX0b.out).mono ?_)
  rintro e w3 ⟨A_w0, c_w0, rfl, o_w0, q_w0, r_w0, b_w3⟩
  replace o_t1a := o_t1a.belowW b_w3
  replace o_t1b := o_t1b.belowW b_w3
  replace k_a0 := cell_carry b_w3 k_a0
  replace k_a1 := cell_carry b_w3 k_a1
  replace hT := hT.trans (b_w3.mono hT.size)
  have s_w3 := b_w3.size
  clear b_w3
  have R_w0 := Lib.hid r_w0; clear r_w0
  go_wp2_with fail
  (with_reducible refine (toMarket_any _ _ _ _ _ _ _ _ _ (h0a.below hT) sm0a HX0a.out (h0b.below hT) sm0b HX0b.out).mono ?_)
  rintro e w4 ⟨A_t2a, c_t2a, A_t2b, c_t2b, ma_t2, rfl, o_t2a, o_t2b, p_t2a, p_t2b, b_t2⟩
  replace o_t1a := o_t1a.belowW b_t2
  replace o_t1b := o_t1b.belowW b_t2
  replace o_w0 := o_w0.belowW b_t2
  replace k_a0 := cell_carry b_t2 k_a0
  replace k_a1 := cell_carry b_t2 k_a1
  replace hT := hT.trans (b_t2.mono hT.size)
  have s_w4 := b_t2.size
  clear b_t2
  have k_t2 := new_pair w4 (Value.slice A_t2a n0a c_t2a) (Value.slice A_t2b n0b c_t2b) 44 rfl
  have b_w5 : Below w4.heap.size w4 (w4.alloc (Obj.cells #[Value.slice A_t2a n0a c_t2a, Value.slice A_t2b n0b c_t2b] 44)) := (Below.refl _ _).alloc (Nat.le_refl _) _
  have z_w5 := World.size_alloc w4 (Obj.cells #[Value.slice A_t2a n0a c_t2a, Value.slice A_t2b n0b c_t2b] 44)
  replace k_a0 := old_cell k_a0 (Obj.cells #[Value.slice A_t2a n0a c_t2a, Value.slice A_t2b n0b c_t2b] 44)
  replace k_a1 := old_cell k_a1 (Obj.cells #[Value.slice A_t2a n0a c_t2a, Value.slice A_t2b n0b c_t2b] 44)
  go_wp2_with fail
  generalize w4.alloc (Obj.cells #[Value.slice A_t2a n0a c_t2a, Value.slice A_t2b n0b c_t2b] 44) = w5 at *
  obtain ⟨k_t20, k_t21⟩ := k_t2
  have y_w5 : w4.heap.size < w5.heap.size := by omega
  clear z_w5
  replace o_t1a := o_t1a.belowW b_w5
  replace o_t1b := o_t1b.belowW b_w5
  replace o_w0 := o_w0.belowW b_w5
  replace o_t2a := o_t2a.belowW b_w5
  replace o_t2b := o_t2b.belowW b_w5
  replace hT := hT.trans (b_w5.mono hT.size)
  have s_w5 := b_w5.size
  clear b_w5
  go_wp2_with fail
  (with_reducible refine (implMarketAsRooms _ _ _ _ _ _ _ _ _ o_t2a.at_ sm0a HX0a.out o_t2b.at_ sm0b HX0b.out).mono ?_)
  rintro e w6 ⟨A_g0, c_g0, rfl, o_g0, q_g0, r_g0, b_w6⟩
  replace o_t1a := o_t1a.belowW b_w6
  replace o_t1b := o_t1b.belowW b_w6
  replace o_w0 := o_w0.belowW b_w6
  replace o_t2a := o_t2a.belowW b_w6
  replace o_t2b := o_t2b.belowW b_w6
  replace k_a0 := cell_carry b_w6 k_a0
  replace k_a1 := cell_carry b_w6 k_a1
  replace k_t20 := cell_carry b_w6 k_t20
  replace k_t21 := cell_carry b_w6 k_t21
  replace hT := hT.trans (b_w6.mono hT.size)
  have s_w6 := b_w6.size
  clear b_w6
  have R_g0 := Lib.hid r_g0; clear r_g0
  go_wp2_with fail
  (with_reducible refine (eqIntSS_eq _ _ _ _ _ _ _ _ o_g0.at_ o_w0.at_ q_g0 R_g0.out).mono ?_)
  rintro e w7 ⟨rfl, md, hd_w7⟩
  have b_w7 : Below w6.heap.size w6 w7 := below_of_drewN hd_w7
  clear hd_w7
  replace o_t1a := o_t1a.belowW b_w7
  replace o_t1b := o_t1b.belowW b_w7
  replace o_w0 := o_w0.belowW b_w7
  replace o_t2a := o_t2a.belowW b_w7
  replace o_t2b := o_t2b.belowW b_w7
  replace o_g0 := o_g0.belowW b_w7
  replace k_a0 := cell_carry b_w7 k_a0
  replace k_a1 := cell_carry b_w7 k_a1
  replace k_t20 := cell_carry b_w7 k_t20
  replace k_t21 := cell_carry b_w7 k_t21
  replace hT := hT.trans (b_w7.mono hT.size)
  have s_w7 := b_w7.size
  clear b_w7
  go_wp2_with fail
  go_region_held3 (fun w' => w'.cell? ⟨w4.heap.size, 0, none⟩ = some (Value.slice A_t2a n0a c_t2a) ∧ w'.cell? ⟨w4.heap.size, 1, none⟩ = some (Value.slice A_t2b n0b c_t2b) ∧ w'.cell? ⟨w.heap.size, 0, none⟩ = some (Value.slice A0a n0a c0a) ∧ w'.cell? ⟨w.heap.size, 1, none⟩ = some (Value.slice A0b n0b c0b)) ((refine ⟨?_, ?_, ?_, ?_⟩ <;> (first | assumption | go_keep))) (first | (go_at_call 39; (with_reducible refine (toMarket_any _ _ _ _ _ _ _ _ _ (h0a.below hT.drew) sm0a HX0a.out (h0b.below hT.drew) sm0b HX0b.out).mono ?_); rintro e w8 ⟨A_t3a, c_t3a, A_t3b, c_t3b, ma_t3, rfl, o_t3a, o_t3b, p_t3a, p_t3b, b_t3⟩; replace b_t3 : Below w7.heap.size w7 w8 := ((Below.refl _ w7).drew).trans b_t3; replace o_t1a := o_t1a.belowW b_t3; replace o_t1b := o_t1b.belowW b_t3; replace o_w0 := o_w0.belowW b_t3; replace o_t2a := o_t2a.belowW b_t3; replace o_t2b := o_t2b.belowW b_t3; replace o_g0 := o_g0.belowW b_t3; replace k_a0 := cell_carry b_t3 k_a0; replace k_a1 := cell_carry b_t3 k_a1; replace k_t20 := cell_carry b_t3 k_t20; replace k_t21 := cell_carry b_t3 k_t21; replace hT := hT.trans (b_t3.mono hT.size); have s_w8 := b_t3.size; clear b_t3) | (go_at_call 41; (with_reducible refine (eqMarket_eq _ _ _ _ _ _ _ _ _ _ _ _ _ _ _ o_t2a.at_ o_t3a.at_ sm0a HX0a.out o_t2b.at_ o_t3b.at_ sm0b HX0b.out).mono ?_); rintro e w9 ⟨rfl, b_w9⟩; replace o_t1a := o_t1a.belowW b_w9; replace o_t1b := o_t1b.belowW b_w9; replace o_w0 := o_w0.belowW b_w9; replace o_t2a := o_t2a.belowW b_w9; replace o_t2b := o_t2b.belowW b_w9; replace o_g0 := o_g0.belowW b_w9; replace o_t3a := o_t3a.belowW b_w9; replace o_t3b := o_t3b.belowW b_w9; replace k_a0 := cell_carry b_w9 k_a0; replace k_a1 := cell_carry b_w9 k_a1; replace k_t20 := cell_carry b_w9 k_t20; replace k_t21 := cell_carry b_w9 k_t21; replace hT := hT.trans (b_w9.mono hT.size); have s_w9 := b_w9.size; clear b_w9))
  go_wp2_with fail
  (with_reducible refine (markMarket_any _ _ _ _ _ _ _ _ _ _ _ _ _ _ o_t2a sm0a HX0a.out o_t2b sm0b HX0b.out (by omega) (by omega) (by omega) (by omega) (by omega) (by omega)).mono ?_)
  rintro e w10 ⟨rfl, mo_t2a, mo_t2b, ho_w10, ge_w10, le_w10⟩
  replace o_t1a := o_t1a.only ho_w10 (by omega)
  replace o_t1b := o_t1b.only ho_w10 (by omega)
  replace o_w0 := o_w0.only ho_w10 (by omega)
  replace o_g0 := o_g0.only ho_w10 (by omega)
  replace k_a0 := ho_w10.cell k_a0 (by (try simp) <;> (try omega))
  replace k_a1 := ho_w10.cell k_a1 (by (try simp) <;> (try omega))
  replace k_t20 := ho_w10.cell k_t20 (by (try simp) <;> (try omega))
  replace k_t21 := ho_w10.cell k_t21 (by (try simp) <;> (try omega))
  replace hT := hT.trans (ho_w10.toBelow (by omega) hT.size)
  have s_w10 := ho_w10.size
  clear ho_w10
  clear o_t2a
  clear o_t2b
  go_wp2_with fail
  (with_reducible refine (eqIntSS_eq _ _ _ _ _ _ _ _ o_g0.at_ o_w0.at_ q_g0 R_g0.out).mono ?_)
  rintro e w11 ⟨rfl, md, hd_w11⟩
  have b_w11 : Below w10.heap.size w10 w11 := below_of_drewN hd_w11
  clear hd_w11
  replace o_t1a := o_t1a.belowW b_w11
  replace o_t1b := o_t1b.belowW b_w11
  replace o_w0 := o_w0.belowW b_w11
  replace mo_t2a := mo_t2a.belowW b_w11
  replace mo_t2b := mo_t2b.belowW b_w11
  replace o_g0 := o_g0.belowW b_w11
  replace k_a0 := cell_carry b_w11 k_a0
  replace k_a1 := cell_carry b_w11 k_a1
  replace k_t20 := cell_carry b_w11 k_t20
  replace k_t21 := cell_carry b_w11 k_t21
  replace hT := hT.trans (b_w11.mono hT.size)
  have s_w11 := b_w11.size
  clear b_w11
  go_wp2_with fail
  (with_reducible refine (markIntSS_any _ _ _ _ _ _ _ _ o_g0 q_g0 R_g0.out (by omega) (by omega)).mono ?_)
  rintro e w12 ⟨rfl, mo_g0, ho_w12, ge_w12, le_w12⟩
  replace o_t1a := o_t1a.only ho_w12 (by omega)
  replace o_t1b := o_t1b.only ho_w12 (by omega)
  replace o_w0 := o_w0.only ho_w12 (by omega)
  replace mo_t2a := mo_t2a.only ho_w12 (by omega)
  replace mo_t2b := mo_t2b.only ho_w12 (by omega)
  replace k_a0 := ho_w12.cell k_a0 (by (try simp) <;> (try omega))
  replace k_a1 := ho_w12.cell k_a1 (by (try simp) <;> (try omega))
  replace k_t20 := ho_w12.cell k_t20 (by (try simp) <;> (try omega))
  replace k_t21 := ho_w12.cell k_t21 (by (try simp) <;> (try omega))
  replace hT := hT.trans (ho_w12.toBelow (by omega) hT.size)
  have s_w12 := ho_w12.size
  clear ho_w12
  clear o_g0
  go_wp2_with fail
  (with_reducible refine (heldIntSS_any _ _ _ _ _ _ mo_g0.at_ q_g0 R_g0.out (by omega) (by omega)).mono ?_)
  rintro e wh ⟨rfl, rfl⟩
  go_wp2_with fail
  (with_reducible refine (toMarket_any _ _ _ _ _ _ _ _ _ (h0a.below hT) sm0a HX0a.out (h0b.below hT) sm0b HX0b.out).mono ?_)
  rintro e w13 ⟨A_t4a, c_t4a, A_t4b, c_t4b, ma_t4, rfl, o_t4a, o_t4b, p_t4a, p_t4b, b_t4⟩
  replace o_t1a := o_t1a.belowW b_t4
  replace o_t1b := o_t1b.belowW b_t4
  replace o_w0 := o_w0.belowW b_t4
  replace mo_t2a := mo_t2a.belowW b_t4
  replace mo_t2b := mo_t2b.belowW b_t4
  replace mo_g0 := mo_g0.belowW b_t4
  replace k_a0 := cell_carry b_t4 k_a0
  replace k_a1 := cell_carry b_t4 k_a1
  replace k_t20 := cell_carry b_t4 k_t20
  replace k_t21 := cell_carry b_t4 k_t21
  replace hT := hT.trans (b_t4.mono hT.size)
  have s_w13 := b_t4.size
  clear b_t4
  go_wp2_with fail
  (with_reducible refine (implMarketAsRooms _ _ _ _ _ _ _ _ _ o_t4a.at_ sm0a HX0a.out o_t4b.at_ sm0b HX0b.out).mono ?_)
  rintro e w14 ⟨A_h0, c_h0, rfl, o_h0, q_h0, r_h0, b_w14⟩
  replace o_t1a := o_t1a.belowW b_w14
  replace o_t1b := o_t1b.belowW b_w14
  replace o_w0 := o_w0.belowW b_w14
  replace mo_t2a := mo_t2a.belowW b_w14
  replace mo_t2b := mo_t2b.belowW b_w14
  replace mo_g0 := mo_g0.belowW b_w14
  replace o_t4a := o_t4a.belowW b_w14
  replace o_t4b := o_t4b.belowW b_w14
  replace k_a0 := cell_carry b_w14 k_a0
  replace k_a1 := cell_carry b_w14 k_a1
  replace k_t20 := cell_carry b_w14 k_t20
  replace k_t21 := cell_carry b_w14 k_t21
  replace hT := hT.trans (b_w14.mono hT.size)
  have s_w14 := b_w14.size
  clear b_w14
  have R_h0 := Lib.hid r_h0; clear r_h0
  go_wp2_with fail
  (with_reducible refine (eqIntSS_eq _ _ _ _ _ _ _ _ o_h0.at_ o_w0.at_ q_h0 R_h0.out).mono ?_)
  rintro e w15 ⟨rfl, md, hd_w15⟩
  have b_w15 : Below w14.heap.size w14 w15 := below_of_drewN hd_w15
  clear hd_w15
  replace o_t1a := o_t1a.belowW b_w15
  replace o_t1b := o_t1b.belowW b_w15
  replace o_w0 := o_w0.belowW b_w15
  replace mo_t2a := mo_t2a.belowW b_w15
  replace mo_t2b := mo_t2b.belowW b_w15
  replace mo_g0 := mo_g0.belowW b_w15
  replace o_t4a := o_t4a.belowW b_w15
  replace o_t4b := o_t4b.belowW b_w15
  replace o_h0 := o_h0.belowW b_w15
  replace k_a0 := cell_carry b_w15 k_a0
  replace k_a1 := cell_carry b_w15 k_a1
  replace k_t20 := cell_carry b_w15 k_t20
  replace k_t21 := cell_carry b_w15 k_t21
  replace hT := hT.trans (b_w15.mono hT.size)
  have s_w15 := b_w15.size
  clear b_w15
  go_wp2_with fail
  (with_reducible refine (heldIntSS_any _ _ _ _ _ _ mo_g0.at_ q_g0 R_g0.out (by omega) (by omega)).mono ?_)
  rintro e wh ⟨rfl, rfl⟩
  go_wp2_with fail
  go_ret
  exact ⟨rfl, hT⟩
end Go.Proofs.Yteglddkeagicmaa
namespace Go.Proofs.Yteglddkeagicmaa.fnExactMarketAsRooms
open Go.ChangeShapes Go.WideShapes Go.ChangeAt Go.RowKit
open Go.ChangeMaps (open_string shut_string)
set_option linter.unusedVariables false

set_option maxRecDepth 100000 in
theorem lifted (os : Os) (started : os.Started) (H : Type) (enc : TypeId × Value → H) :
    ReturnsInHanded {} Try.checked os 11 .any (Rows.fnExactMarketAsRoomsSpec.pre6 enc Try.prog Try.f11 Rows.fnExactMarketAsRoomsRow.domain false) (Rows.fnExactMarketAsRoomsSpec.post enc Try.prog Try.f11 false true false false) := by
  refine returnsInHanded_of_change (C := Try.checked) own started (by kernel_rfl) Try.func11
    (ChangeSpec.witness6 (enc := enc) (C := Try.checked) false ⟨#[], #[.agg #[.slice none 0 0, .slice none 0 0]], []⟩ 8 (by kernel_rfl) (by kernel_rfl) (by kernel_rfl) (by kernel_rfl)) ?_
  intro W base args ds gs before hval0 hW hcnd _
  have hval : ∀ (j : Nat) t v, Try.f11.params[j]? = some t → args[j]? = some v → Value.okWide Try.prog W .any base t v := hval0
  have hW' := hW
  obtain ⟨p, q, hA0, hV, rfl, hfz, hnd⟩ := hW
  have hA : DataW.TrodAll enc Try.prog W 0 (fun _ => true) true Try.f11.params.toList args.toList ds p := hA0
  rw [Try.params11] at hA hval
  obtain ⟨v0, vs0, d0, ds0, p0, q0, hargs, rfl, rfl, h0, r0⟩ := trodAll_cons hA
  obtain ⟨rfl, rfl, rfl⟩ := trodAll_nil r0
  obtain rfl : args = #[v0] := by cases args; simp_all
  obtain ⟨rfl, rfl⟩ := trodVars_none hV
  have k0 := h0
  have lt0 : ∀ x ∈ p0, x.block < W.heap.size := by obtain ⟨m, hm⟩ := k0; exact DataW.trod_lt m _ _ _ hm
  obtain ⟨am0, nm0, cm0, zm0, aw0, nw0, cw0, zw0, rfl, hm0, fm0, lm0, mm0, hw0, fw0, lw0, mw0⟩ := market_open (hval 0 40 v0 rfl rfl) h0
  clear hA0 hval0
  refine (law_FnExactMarketAsRooms W am0 nm0 cm0 zm0 aw0 nw0 cw0 zw0 hm0 fm0 lm0 mm0 hw0 fw0 lw0 mw0).mono fun e W' ⟨he, bel⟩ => ?_
  subst he
  exact ⟨_, rfl, _, _, _, [], _, [], hW', trodAll_mk1 (shut_bool Try.underlying4 _), (trodAll_cons_mk (Below.trod laidOut (by kernel_rfl) (of_decide_eq_true (by kernel_rfl)) k0 bel lt0) trodAll_mk0), rfl, bel.frame _, fun h => by cases h⟩

theorem over : Rows.fnExactMarketAsRoomsRow.holds Try.pinned (OpenSpec.ofChange Rows.fnExactMarketAsRoomsSpec) :=
  OpenClaim.holds_of_wide 11 Try.f11 rfl rfl rfl rfl rfl rfl rfl ⟨rfl, rfl, rfl, rfl, rfl⟩ rfl rfl rfl rfl rfl (by kernel_rfl) Try.func11 (by kernel_rfl)
    (of_decide_eq_true (by kernel_rfl)) (by unfold Func.isWrapper; first | (rw [if_pos (by decide +kernel)]; kernel_rfl) | (rw [if_neg (by decide +kernel)]; exact ⟨rfl, rfl⟩))
    (fun os started H enc _ => lifted os started H enc)

theorem proved : Rows.FnExactMarketAsRoomsSaid := over
end Go.Proofs.Yteglddkeagicmaa.fnExactMarketAsRooms
